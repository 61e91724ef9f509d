/-
  shallotref04: left, Quarter, words.
  shallotref04: Quarter.
  shallotref01.Put with the least byte first, four bytes; what the twin's Block keeps.
  shallotref04: Block.
  shallotref04: Bytes; shallotref01: Xor of two.
-/
import Derived.Test.YtkibgdigcgakfabGreatChaP
import Derived.Test.YtkibgdigcgakfabGreatFMid
import Derived.Test.YtkibgdigcgakfabGreatCanP
namespace Go.Proofs.YtkibgdigcgakfabGreat
open Go.RowKit
open Go.BigFrame

theorem byteW (x : UInt8) : x.toUInt32.toNat = x.toNat := by simp
theorem shlW (x : UInt8) (n : Nat) (h : n ≤ 24) : (shl32 x.toUInt32 n).toNat = 2 ^ n * x.toNat := by
  have hx := x.toNat_lt
  show (x.toUInt32.toBitVec <<< n).toNat = _
  rw [BitVec.toNat_shiftLeft, Nat.shiftLeft_eq, Nat.mod_eq_of_lt]
  · rw [Nat.mul_comm]
    congr 1
  · have e : x.toUInt32.toBitVec.toNat = x.toNat := byteW x
    rw [e]
    have : 2 ^ n ≤ 2 ^ 24 := Nat.pow_le_pow_right (by omega) h
    calc x.toNat * 2 ^ n ≤ x.toNat * 2 ^ 24 := Nat.mul_le_mul_left _ this
      _ < 2 ^ 32 := by omega
theorem orW (a b : Nat) (i : Nat) (h : b < 2 ^ i) : b ||| 2 ^ i * a = b + 2 ^ i * a := by
  rw [Nat.or_comm, ← Nat.two_pow_add_eq_or_of_lt h, Nat.add_comm]
theorem leW_nat (bs : List UInt8) (k : Nat) (h : 4 * k + 4 ≤ bs.length) : (leW bs k).toNat = quad bs k 4 := by
  rw [quad_succ bs k 3 (by omega), quad_succ bs k 2 (by omega), quad_succ bs k 1 (by omega), quad_succ bs k 0 (by omega), show quad bs k 0 = 0 from by rw [quad]; rfl]
  unfold leW byteAt
  rw [Nat.add_zero]
  generalize bs.getD (4 * k) 0 = x0
  generalize bs.getD (4 * k + 1) 0 = x1
  generalize bs.getD (4 * k + 2) 0 = x2
  generalize bs.getD (4 * k + 3) 0 = x3
  have b0 := x0.toNat_lt
  have b1 := x1.toNat_lt
  have b2 := x2.toNat_lt
  have b3 := x3.toNat_lt
  rw [UInt32.toNat_or, UInt32.toNat_or, UInt32.toNat_or, byteW, shlW _ _ (by omega), shlW _ _ (by omega), shlW _ _ (by omega), orW _ _ 8 (by omega), orW _ _ 16 (by omega), orW _ _ 24 (by omega)]
  omega
theorem leW_n32 (bs : List UInt8) (k : Nat) (h : 4 * k + 4 ≤ bs.length) : n32 (quad bs k 4) = W32 (leW bs k) := by
  rw [← leW_nat bs k h, n32]
  congr 1
  simp
theorem infoW : (Tryz.prog.info? 76).map (fun i => (i.zero, i.size, i.bytes)) = some (some (.int .u32 0), 1, 4) := by kernel_rfl
/-- The words of a list of bytes. -/
def wordsL (bs : List UInt8) (k : Nat) : List UInt32 := (List.range k).map (leW bs)
theorem wordsL_length (bs : List UInt8) (k : Nat) : (wordsL bs k).length = k := by simp [wordsL]
end Go.Proofs.YtkibgdigcgakfabGreat
namespace Go.Proofs.YtkibgdigcgakfabGreat
open Go.RowKit
open Go.BigFrame

/-- Behind k half rounds. -/
def qSt (v : UInt32 × UInt32 × UInt32 × UInt32) : Nat → UInt32 × UInt32 × UInt32 × UInt32
  | 0 => v
  | 1 => halfE v 16
  | 2 => halfO (halfE v 16) 12
  | 3 => halfE (halfO (halfE v 16) 12) 8
  | _ => halfO (halfE (halfO (halfE v 16) 12) 8) 7
def qL (v : UInt32 × UInt32 × UInt32 × UInt32) : List UInt32 := [v.1, v.2.1, v.2.2.1, v.2.2.2]
end Go.Proofs.YtkibgdigcgakfabGreat
namespace Go.Proofs.YtkibgdigcgakfabGreat
open Go.RowKit
open Go.BigFrame

def putA (n : UInt64) (k : Nat) : List UInt8 := (List.range k).map (fun j => (divk n j % 256).toUInt8) ++ List.replicate (4 - k) 0
theorem putA_length (n : UInt64) (k : Nat) (h : k ≤ 4) : (putA n k).length = 4 := by simp [putA]; omega
theorem putA_step (n : UInt64) (k : Nat) (hk : k < 4) : (putA n k).set k (divk n k % 256).toUInt8 = putA n (k + 1) := by
  have := fill_step (0 : UInt8) [] (fun j => (divk n j % 256).toUInt8) k 4 hk
  simpa [putA] using this
theorem divk_nat (n : UInt64) : ∀ k, (divk n k).toNat = n.toNat / 256 ^ k
  | 0 => by simp [divk]
  | k + 1 => by
    have h : divk n (k + 1) = divk n k / 256 := rfl
    rw [h, UInt64.toNat_div, divk_nat n k, Nat.div_div_eq_div_mul, Nat.pow_succ]
    rfl
theorem putA_le4 (x : UInt32) : putA x.toUInt64 4 = le4 x := by
  have hx := x.toNat_lt
  have key : ∀ j, j < 4 → (divk x.toUInt64 j % 256).toUInt8 = (shr32 x (8 * j)).toUInt8 := by
    intro j hj
    apply UInt8.toNat_inj.1
    have e : (shr32 x (8 * j)).toNat = x.toNat / 2 ^ (8 * j) := by
      show (x.toBitVec >>> (8 * j)).toNat = _
      rw [BitVec.toNat_ushiftRight, Nat.shiftRight_eq_div_pow]
      rfl
    rw [UInt64.toNat_toUInt8, UInt32.toNat_toUInt8, UInt64.toNat_mod, divk_nat, e, UInt32.toNat_toUInt64, Nat.pow_mul]
    exact Nat.mod_mod_of_dvd _ (by decide)
  have k0 := key 0 (by omega)
  have k1 := key 1 (by omega)
  have k2 := key 2 (by omega)
  have k3 := key 3 (by omega)
  have e0 : shr32 x (8 * 0) = x := by
    apply UInt32.toBitVec_inj.1
    show x.toBitVec >>> 0 = x.toBitVec
    simp
  rw [e0] at k0
  show [(divk x.toUInt64 0 % 256).toUInt8, (divk x.toUInt64 1 % 256).toUInt8, (divk x.toUInt64 2 % 256).toUInt8, (divk x.toUInt64 3 % 256).toUInt8] ++ [] = _
  rw [k0, k1, k2, k3]
  rfl
theorem divk_4 (x : UInt32) : divk x.toUInt64 4 = 0 := by
  apply UInt64.toNat_inj.1
  have := x.toNat_lt
  rw [divk_nat, UInt32.toNat_toUInt64]
  exact Nat.div_eq_of_lt (by omega)
end Go.Proofs.YtkibgdigcgakfabGreat
namespace Go.Proofs.YtkibgdigcgakfabGreat
open Go.RowKit
open Go.BigFrame

def chaK : List UInt8 := [101, 120, 112, 97, 110, 100, 32, 51, 50, 45, 98, 121, 116, 101, 32, 107]
theorem chaK_words : wordsL chaK 4 = chaC := by decide +kernel
/-- The places of a round. -/
def plc (r j : Nat) : Nat := ([0, 4, 8, 12, 1, 5, 9, 13, 2, 6, 10, 14, 3, 7, 11, 15, 0, 5, 10, 15, 1, 6, 11, 12, 2, 7, 8, 13, 3, 4, 9, 14] : List Nat).getD (r * 4 + j) 0
def plcV : List Value := ([0, 4, 8, 12, 1, 5, 9, 13, 2, 6, 10, 14, 3, 7, 11, 15, 0, 5, 10, 15, 1, 6, 11, 12, 2, 7, 8, 13, 3, 4, 9, 14] : List Nat).map fun (n : Nat) => .int .i64 (n : Int)
theorem plcV_get (r j : Nat) (h : r < 8) (hj : j < 4) : plcV[r * 4 + j]? = some (.int .i64 (plc r j : Int)) := by
  have : r * 4 + j < 32 := by omega
  rw [plcV, List.getElem?_map, plc, List.getD_eq_getElem?_getD, List.getElem?_eq_getElem (by simpa using this)]
  rfl
theorem plc_lt (r j : Nat) (h : r < 8) (hj : j < 4) : plc r j < 16 := by
  have : ∀ r : Fin 8, ∀ j : Fin 4, plc r.val j.val < 16 := by decide
  exact this ⟨r, h⟩ ⟨j, hj⟩
/-- Behind k quarters. -/
def stR (s : List UInt32) : Nat → List UInt32
  | 0 => s
  | k + 1 => roundL (stR s k) (plc (k % 8) 0) (plc (k % 8) 1) (plc (k % 8) 2) (plc (k % 8) 3)
theorem stR_length (s : List UInt32) : ∀ k, (stR s k).length = s.length
  | 0 => rfl
  | k + 1 => by rw [stR, roundL_length, stR_length s k]
theorem stR_dbl (s : List UInt32) (k : Nat) : stR s (8 * (k + 1)) = dbl (stR s (8 * k)) := by
  rw [show 8 * (k + 1) = 8 * k + 7 + 1 by omega, stR, stR, stR, stR, stR, stR, stR, stR]
  rw [show (8 * k + 7) % 8 = 7 by omega, show (8 * k + 6) % 8 = 6 by omega, show (8 * k + 5) % 8 = 5 by omega, show (8 * k + 4) % 8 = 4 by omega, show (8 * k + 3) % 8 = 3 by omega, show (8 * k + 2) % 8 = 2 by omega, show (8 * k + 1) % 8 = 1 by omega, show (8 * k) % 8 = 0 by omega]
  rfl
theorem stR_all (s : List UInt32) : ∀ k, stR s (8 * k) = dblN s k
  | 0 => rfl
  | k + 1 => by rw [stR_dbl, stR_all s k]; rfl
theorem initL_words (key nonce : List UInt8) (ctr : UInt32) : initL key nonce ctr = wordsL chaK 4 ++ wordsL key 8 ++ [ctr] ++ wordsL nonce 3 := by rw [chaK_words]; rfl
theorem chaB_stR (key nonce : List UInt8) (ctr : UInt32) : chaB key nonce ctr = chaOut (stR (initL key nonce ctr) 80) (initL key nonce ctr) 16 := by rw [show 80 = 8 * 10 from rfl, stR_all, chaB]
theorem plcV_length : plcV.length = 32 := rfl
theorem plcV_one : ∀ u ∈ plcV, u.oneCell' = true := by
  intro u hu
  obtain ⟨n, _, rfl⟩ := List.mem_map.1 hu
  rfl
theorem chaK_length : chaK.length = 16 := rfl
/-- The first j of four words written. -/
def st4 (T : List UInt32) (p0 p1 p2 p3 : Nat) (q : UInt32 × UInt32 × UInt32 × UInt32) : Nat → List UInt32
  | 0 => T
  | 1 => T.set p0 q.1
  | 2 => (T.set p0 q.1).set p1 q.2.1
  | 3 => ((T.set p0 q.1).set p1 q.2.1).set p2 q.2.2.1
  | _ => putQ T p0 p1 p2 p3 q
theorem st4_length (T : List UInt32) (p0 p1 p2 p3 : Nat) (q : UInt32 × UInt32 × UInt32 × UInt32) (j : Nat) : (st4 T p0 p1 p2 p3 q j).length = T.length := by
  match j with
  | 0 => rfl
  | 1 => simp [st4]
  | 2 => simp [st4]
  | 3 => simp [st4]
  | j + 4 => simp [st4, putQ]
end Go.Proofs.YtkibgdigcgakfabGreat
namespace Go.Proofs.YtkibgdigcgakfabGreat
open Go.RowKit
open Go.BigFrame

/-- Place by place. -/
def xorB (xs ys : List UInt8) : List UInt8 := List.zipWith (· ^^^ ·) xs ys
theorem xorB_length {xs ys : List UInt8} (h : xs.length = ys.length) : (xorB xs ys).length = ys.length := by simp [xorB, h]
/-- Behind k rounds. -/
def xorAt (xs ys : List UInt8) (k : Nat) : List UInt8 := (xorB xs ys).take k ++ xs.drop k
theorem xorAt_length {xs ys : List UInt8} (h : xs.length = ys.length) (k : Nat) (hk : k ≤ xs.length) : (xorAt xs ys k).length = xs.length := by
  have := xorB_length h
  simp [xorAt]
  omega
theorem xorAt_none (xs ys : List UInt8) : xorAt xs ys 0 = xs := by simp [xorAt]
theorem xorAt_all {xs ys : List UInt8} (h : xs.length = ys.length) : xorAt xs ys xs.length = xorB xs ys := by
  have := xorB_length h
  rw [xorAt, List.drop_length, List.append_nil, List.take_of_length_le (by omega)]
theorem xorAt_get {xs ys : List UInt8} (h : xs.length = ys.length) {k : Nat} (hk : k < xs.length) : (xorAt xs ys k)[k]? = some (xs.getD k 0) := by
  have := xorB_length h
  rw [xorAt, List.getElem?_append_right (by simp; omega), List.length_take, this, Nat.min_eq_left (by omega), Nat.sub_self, List.getElem?_drop, Nat.add_zero, List.getElem?_eq_getElem hk, List.getD_eq_getElem?_getD, List.getElem?_eq_getElem hk]
  rfl
theorem xorAt_step {xs ys : List UInt8} (h : xs.length = ys.length) {k : Nat} (hk : k < xs.length) : (xorAt xs ys k).set k (xs.getD k 0 ^^^ ys.getD k 0) = xorAt xs ys (k + 1) := by
  have hl := xorB_length h
  have hg : (xorB xs ys)[k]? = some (xs.getD k 0 ^^^ ys.getD k 0) := by
    rw [xorB, List.getElem?_zipWith, List.getD_eq_getElem?_getD, List.getD_eq_getElem?_getD, List.getElem?_eq_getElem hk, List.getElem?_eq_getElem (show k < ys.length by omega)]
    rfl
  have hkx : k < (xorB xs ys).length := by omega
  rw [xorAt, xorAt, List.set_append_right _ _ (by simp; omega), List.length_take, hl, Nat.min_eq_left (by omega), Nat.sub_self, List.drop_eq_getElem_cons hk, List.set_cons_zero, List.take_succ_eq_append_getElem hkx, List.append_assoc]
  have : (xorB xs ys)[k] = xs.getD k 0 ^^^ ys.getD k 0 := by
    have := List.getElem?_eq_getElem hkx
    rw [hg] at this
    exact (Option.some.inj this).symm
  rw [this]
  rfl
theorem xorB_twice {xs ys : List UInt8} (h : xs.length = ys.length) : xorB (xorB xs ys) ys = xs := by
  apply List.ext_getElem?
  intro j
  rw [xorB, xorB, List.getElem?_zipWith, List.getElem?_zipWith]
  by_cases hj : j < xs.length
  · rw [List.getElem?_eq_getElem hj, List.getElem?_eq_getElem (show j < ys.length by omega)]
    simp [UInt8.xor_assoc]
  · rw [List.getElem?_eq_none (show xs.length ≤ j by omega), List.getElem?_eq_none (show ys.length ≤ j by omega)]
end Go.Proofs.YtkibgdigcgakfabGreat
