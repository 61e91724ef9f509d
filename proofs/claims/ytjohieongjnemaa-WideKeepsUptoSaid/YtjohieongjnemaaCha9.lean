/-
  shallotref04: Bytes; shallotref01: Xor of two.
-/
import Derived.Test.YtjohieongjnemaaCha8
namespace Go.Proofs.Ytjohieongjnemaa
open Go.RowKit
open Go.BigFrame

set_option maxRecDepth 100000 in
set_option maxHeartbeats 4000000 in
theorem bytesR_any (A : Option Addr) (c n : Nat) (key : List UInt8) (w : World) (hk : RdB w A 32 key) (hn : n ≤ 65536) :
    Calls Try.prog 52 #[.slice A 32 c, .int .i64 0, .int .i64 n] w fun e w' => ∃ A' c', e = .returned (.slice A' n c') ∧ OwnB w' w.heap.size A' n c' (chaS key n) ∧ Later w w' := by
  have hB := hid (fun B d ctr (w' : World) (hl : Later w w') hn => blockR_any A B c d key (List.replicate 12 0) ctr w' (hk.later hl) hn)
  have hs1 := hid (chaF_succ key)
  have hl1 := hid (chaF_length key)
  have hS := hid (chaS_take key n)
  have h0 := hid (show chaF key 0 = [] from rfl)
  have hSl := chaS_length key n
  go_enter Try.func52, Try.ntmps52
  go_wp2_with fail
  go_loopw [7, 8] (fun v i wr => ∃ (k : Nat) (A' : Option Addr) (c' : Nat), k ≤ 1025 ∧ i = .int .i64 k ∧ v = .slice A' (64 * k) c' ∧ 64 * k < n + 64 ∧ OwnB wr w.heap.size A' (64 * k) c' (chaF key k) ∧ Later w wr) (fun v _ _ => n - lenOf v)
  case atStart => exact ⟨0, none, 0, by omega, rfl, rfl, by omega, by rw [h0.out]; exact own_nil _ _ _, Later.refl w⟩
  case round =>
    obtain ⟨k, A6, c6, hk6, rfl, rfl, hmk, hown, L⟩ := hrel
    by_cases hlt : 64 * k < n
    · have hcmp : 64 * (k : Int) < (n : Int) := by omega
      have hcv := convert_quo k
      have hb := hid (hs1.out k)
      generalize chaF key k = Fk at *
      go_wp2_with (first
        | (refine wpList_make_n rfl _ _ _ rfl 5 _ 1 Try.underlying22 info8 rfl _ _ _ _ 12 rfl rfl rfl rfl (by omega) (by omega) ?_; intro w1 hb1 hl1')
        | fail)
      have hno : RdB w1 (some ⟨wr.heap.size, 0, none⟩) 12 (List.replicate 12 0) := hb1.rd rfl
      (refine (hB.out _ _ (UInt32.ofNat k) _ (L.trans hl1') hno).mono ?_); rintro e w4 ⟨A9, c9, rfl, hown9, j9⟩
      have hrd9 := hown9.rd
      generalize chaB key (List.replicate 12 0) (UInt32.ofNat k) = Bk at *
      go_wp2_with (first
        | (refine wpList_append_rd rfl _ _ _ rfl 5 _ 1 Try.underlying22 info8 rfl w _ (64 * k) _ (hown.later (hl1'.trans j9)) ((L.trans hl1').trans j9) A9 64 c9 _ hrd9 (w8_one _) rfl rfl (by omega) (by omega) ?_; intro A7 c7 w7 hown7 hl7 hg7 _)
        | fail)
      have hown8 : OwnB w7 w.heap.size A7 (64 * k + 64) c7 (Fk ++ Bk) := own_glue hown7
      rw [← hb.out] at hown8
      go_roundw
      case rel => exact ⟨k + 1, A7, c7, by omega, by go_num, rfl, by omega, hown8, hl7⟩
      case measure => simp only [lenOf]; omega
    · have hcmp : ¬ 64 * (k : Int) < (n : Int) := by omega
      have hE := hid (hS.out k (by omega))
      have hcut : ∀ W, (Instr.sliceAt 22 (.slice A6 (64 * k) c6) (some (.int .i64 0)) (some (.int .i64 (n : Int))) none).run Try.prog W = .ok (.slice A6 n c6) W := fun W => by
        have hcap := hown.cap
        have h := cut8 A6 (64 * k) c6 .i64 .i64 0 n (by omega) (by omega) W
        simpa [cutA_zero] using h
      have hrd := hown.rd.take (m := n) (by omega)
      rw [← hE.out] at hrd
      go_wp2_with fail
      (refine (copy_any A6 n c6 _ _ hrd (by omega)).mono ?_); rintro e w8 ⟨A8, c8, rfl, hown8, j8⟩
      go_wp2_with fail
      go_ret
      exact ⟨_, _, rfl, hown8.mono L.size, L.trans j8⟩
/-- Place by place. -/
def xorB (xs ys : List UInt8) : List UInt8 := List.zipWith (· ^^^ ·) xs ys
theorem xorB_length {xs ys : List UInt8} (h : xs.length = ys.length) : (xorB xs ys).length = ys.length := by simp [xorB, h]
/-- Behind k rounds. -/
def xorAt (xs ys : List UInt8) (k : Nat) : List UInt8 := (xorB xs ys).take k ++ xs.drop k
theorem xorAt_length {xs ys : List UInt8} (h : xs.length = ys.length) (k : Nat) (hk : k ≤ xs.length) : (xorAt xs ys k).length = xs.length := by
  have := xorB_length h
  simp [xorAt]
  omega
theorem xorAt_none (xs ys : List UInt8) : xorAt xs ys 0 = xs := by simp [xorAt]
theorem xorAt_all {xs ys : List UInt8} (h : xs.length = ys.length) : xorAt xs ys xs.length = xorB xs ys := by
  have := xorB_length h
  rw [xorAt, List.drop_length, List.append_nil, List.take_of_length_le (by omega)]
theorem xorAt_get {xs ys : List UInt8} (h : xs.length = ys.length) {k : Nat} (hk : k < xs.length) : (xorAt xs ys k)[k]? = some (xs.getD k 0) := by
  have := xorB_length h
  rw [xorAt, List.getElem?_append_right (by simp; omega), List.length_take, this, Nat.min_eq_left (by omega), Nat.sub_self, List.getElem?_drop, Nat.add_zero, List.getElem?_eq_getElem hk, List.getD_eq_getElem?_getD, List.getElem?_eq_getElem hk]
  rfl
theorem xorAt_step {xs ys : List UInt8} (h : xs.length = ys.length) {k : Nat} (hk : k < xs.length) : (xorAt xs ys k).set k (xs.getD k 0 ^^^ ys.getD k 0) = xorAt xs ys (k + 1) := by
  have hl := xorB_length h
  have hg : (xorB xs ys)[k]? = some (xs.getD k 0 ^^^ ys.getD k 0) := by
    rw [xorB, List.getElem?_zipWith, List.getD_eq_getElem?_getD, List.getD_eq_getElem?_getD, List.getElem?_eq_getElem hk, List.getElem?_eq_getElem (show k < ys.length by omega)]
    rfl
  have hkx : k < (xorB xs ys).length := by omega
  rw [xorAt, xorAt, List.set_append_right _ _ (by simp; omega), List.length_take, hl, Nat.min_eq_left (by omega), Nat.sub_self, List.drop_eq_getElem_cons hk, List.set_cons_zero, List.take_succ_eq_append_getElem hkx, List.append_assoc]
  have : (xorB xs ys)[k] = xs.getD k 0 ^^^ ys.getD k 0 := by
    have := List.getElem?_eq_getElem hkx
    rw [hg] at this
    exact (Option.some.inj this).symm
  rw [this]
  rfl
theorem xorB_twice {xs ys : List UInt8} (h : xs.length = ys.length) : xorB (xorB xs ys) ys = xs := by
  apply List.ext_getElem?
  intro j
  rw [xorB, xorB, List.getElem?_zipWith, List.getElem?_zipWith]
  by_cases hj : j < xs.length
  · rw [List.getElem?_eq_getElem hj, List.getElem?_eq_getElem (show j < ys.length by omega)]
    simp [UInt8.xor_assoc]
  · rw [List.getElem?_eq_none (show xs.length ≤ j by omega), List.getElem?_eq_none (show ys.length ≤ j by omega)]
end Go.Proofs.Ytjohieongjnemaa
