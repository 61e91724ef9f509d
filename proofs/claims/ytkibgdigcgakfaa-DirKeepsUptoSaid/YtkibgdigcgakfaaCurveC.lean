/-
  shallotlaw06: CurveBits.
-/
import Derived.Test.YtkibgdigcgakfaaCurveAB
import Derived.Test.YtkibgdigcgakfaaBagMore
namespace Go.Proofs.Ytkibgdigcgakfaa
open Go.RowKit
open Go.BigFrame

theorem bits_f0 : ∀ (x : Fin 256) (s : Fin 8), (x.1 ^^^ s.1) &&& 248 = x.1 &&& 248 := by decide +kernel
theorem bits_f1 : ∀ (y : Fin 256) (s : Fin 4), ((y.1 ^^^ (64 * s.1)) &&& 127) ||| 64 = (y.1 &&& 127) ||| 64 := by decide +kernel
theorem bits_f2 : ∀ (z : Fin 256) (s : Fin 2), (z.1 ^^^ (128 * s.1)) % 128 = z.1 % 128 := by decide +kernel
theorem bits_t0 : ∀ t : Fin 256, t.1 &&& 7 < 8 := by decide +kernel
theorem bits_t1 : ∀ t : Fin 256, t.1 &&& 192 = 64 * (t.1 / 64) := by decide +kernel
theorem bits_k0 (x t : UInt8) : (x ^^^ (t &&& 7)) &&& 248 = x &&& 248 := by
  apply UInt8.toNat_inj.1
  have h1 := bits_t0 ⟨t.toNat, t.toNat_lt⟩
  have h2 := bits_f0 ⟨x.toNat, x.toNat_lt⟩ ⟨t.toNat &&& 7, h1⟩
  rw [UInt8.toNat_and, UInt8.toNat_xor, UInt8.toNat_and, UInt8.toNat_and]
  exact h2
theorem bits_k1 (y t : UInt8) : ((y ^^^ (t &&& 192)) &&& 127) ||| 64 = (y &&& 127) ||| 64 := by
  apply UInt8.toNat_inj.1
  have hl := t.toNat_lt
  have h1 := bits_t1 ⟨t.toNat, hl⟩
  have h2 := bits_f1 ⟨y.toNat, y.toNat_lt⟩ ⟨t.toNat / 64, by omega⟩
  simp only at h1 h2
  rw [← h1] at h2
  rw [UInt8.toNat_or, UInt8.toNat_and, UInt8.toNat_xor, UInt8.toNat_and, UInt8.toNat_or, UInt8.toNat_and]
  exact h2
theorem bits_u (z t : UInt8) : (z ^^^ shl8 t 7).toNat % 128 = z.toNat % 128 := by
  have hl := t.toNat_lt
  have e : (shl8 t 7).toNat = 128 * (t.toNat % 2) := by
    show (t.toBitVec <<< 7).toNat = _
    rw [BitVec.toNat_shiftLeft, Nat.shiftLeft_eq]
    show t.toNat * 128 % 256 = _
    omega
  have h2 := bits_f2 ⟨z.toNat, z.toNat_lt⟩ ⟨t.toNat % 2, by omega⟩
  simp only at h2
  rw [UInt8.toNat_xor, e]
  exact h2
/-- The scalar with its fixed bits turned. -/
def turnK (ks : List UInt8) (t : UInt8) : List UInt8 := (ks.set 0 (ks.getD 0 0 ^^^ (t &&& 7))).set 31 (ks.getD 31 0 ^^^ (t &&& 192))
def turnU (us : List UInt8) (t : UInt8) : List UInt8 := us.set 31 (us.getD 31 0 ^^^ shl8 t 7)
theorem turnK_clamp (ks : List UInt8) (t : UInt8) (h : ks.length = 32) : clampB (turnK ks t) = clampB ks := by
  have h1 : (turnK ks t).length = 32 := by simp [turnK, h]
  have h2 : (turnK ks t).getD 0 0 = ks.getD 0 0 ^^^ (t &&& 7) := by
    rw [turnK, List.getD_eq_getElem?_getD, List.getElem?_set_ne (by omega), List.getElem?_set_self (by omega)]
    rfl
  have h3 : (turnK ks t).getD 31 0 = ks.getD 31 0 ^^^ (t &&& 192) := by
    rw [turnK, List.getD_eq_getElem?_getD, List.getElem?_set_self (by simp; omega)]
    rfl
  rw [clampB, if_pos h1, clampB, if_pos h, h2, h3, bits_k0, bits_k1, turnK]
  generalize ks.getD 0 0 = x
  generalize ks.getD 31 0 = y
  apply List.ext_getElem?
  intro i
  simp only [List.getElem?_set, List.length_set, h]
  repeat' split
  all_goals first | rfl | omega
theorem turnU_read (us : List UInt8) (t : UInt8) (h : us.length = 32) : readN (turnU us t) = readN us := by
  have h1 : (turnU us t).length = 32 := by simp [turnU, h]
  rw [readN, if_pos h1, readN, if_pos h]
  have e1 := num_take (turnU us t) 31 (by omega)
  have e2 := num_take us 31 (by omega)
  rw [List.take_of_length_le (by omega)] at e1 e2
  have e3 : (turnU us t).take 31 = us.take 31 := by rw [turnU, List.take_set_of_le (by omega)]
  have e4 : (turnU us t).getD 31 0 = us.getD 31 0 ^^^ shl8 t 7 := by
    rw [turnU, List.getD_eq_getElem?_getD, List.getElem?_set_self (by omega)]
    rfl
  rw [e3, e4] at e1
  have e5 := bits_u (us.getD 31 0) t
  rw [e1, e2]
  have e6 : T255 = 256 ^ 31 * 128 := by decide
  rw [e6]
  congr 1
  generalize (us.getD 31 0 ^^^ shl8 t 7).toNat = a at *
  generalize (us.getD 31 0).toNat = b at *
  have hlt := num_lt (us.take 31)
  rw [List.length_take, Nat.min_eq_left (by omega)] at hlt
  generalize num (us.take 31) = X at *
  have m1 : ∀ y, (X + 256 ^ 31 * y) % (256 ^ 31 * 128) = X + 256 ^ 31 * (y % 128) := by
    intro y
    rw [Nat.mod_mul, Nat.add_mul_mod_self_left, Nat.mod_eq_of_lt hlt, Nat.add_mul_div_left _ _ (by decide), Nat.div_eq_of_lt hlt, Nat.zero_add]
  rw [m1, m1, e5]
theorem clamp_clamp (ks : List UInt8) (h : ks.length = 32) : clampB (clampB ks) = clampB ks := by
  have h1 := clampB_length ks
  have h2 : (clampB ks).getD 0 0 = ks.getD 0 0 &&& 248 := by
    rw [clampB, if_pos h, List.getD_eq_getElem?_getD, List.getElem?_set_ne (by omega), List.getElem?_set_self (by omega)]
    rfl
  have h3 : (clampB ks).getD 31 0 = (ks.getD 31 0 &&& 127) ||| 64 := by
    rw [clampB, if_pos h, List.getD_eq_getElem?_getD, List.getElem?_set_self (by simp; omega)]
    rfl
  have f0 : ∀ x : UInt8, x &&& 248 &&& 248 = x &&& 248 := by intro x; rw [UInt8.and_assoc]; rfl
  have f1 : ∀ y : UInt8, (((y &&& 127) ||| 64) &&& 127) ||| 64 = (y &&& 127) ||| 64 := by
    have : ∀ y : Fin 256, (((y.1 &&& 127) ||| 64) &&& 127) ||| 64 = (y.1 &&& 127) ||| 64 := by decide +kernel
    intro y
    apply UInt8.toNat_inj.1
    have := this ⟨y.toNat, y.toNat_lt⟩
    rw [UInt8.toNat_or, UInt8.toNat_and, UInt8.toNat_or, UInt8.toNat_and]
    exact this
  have e : clampB (clampB ks) = ((clampB ks).set 0 ((clampB ks).getD 0 0 &&& 248)).set 31 (((clampB ks).getD 31 0 &&& 127) ||| 64) := by rw [clampB, if_pos h1]
  rw [e, h2, h3, f0, f1, ← h2, ← h3]
  generalize clampB ks = K at *
  apply List.ext_getElem?
  intro i
  simp only [List.getElem?_set, List.length_set, h1]
  repeat' split
  all_goals first | rfl | omega | (subst_vars; rw [List.getD_eq_getElem?_getD, List.getElem?_eq_getElem (by omega)]; rfl)
theorem mult_turn (ks us : List UInt8) (t : UInt8) (h : ks.length = 32) (h' : us.length = 32) : multB (turnK ks t) (turnU us t) = multB ks us ∧ multE (turnK ks t) (turnU us t) = multE ks us := by
  have h1 : (turnK ks t).length = 32 := by simp [turnK, h]
  have h2 : (turnU us t).length = 32 := by simp [turnU, h']
  have e : multQ (turnK ks t) (turnU us t) = multQ ks us := by rw [multQ, multQ, turnK_clamp ks t h, turnU_read us t h']
  exact ⟨by unfold multB; rw [e]; simp only [h1, h2, h, h', and_self, if_true], by unfold multE; rw [e]; simp only [h1, h2, h, h', and_self, if_true]⟩
theorem mult_clamp (ks us : List UInt8) (h : ks.length = 32) (h' : us.length = 32) : multB (clampB ks) us = multB ks us ∧ multE (clampB ks) us = multE ks us := by
  have h1 := clampB_length ks
  have e : multQ (clampB ks) us = multQ ks us := by rw [multQ, multQ, clamp_clamp ks h]
  exact ⟨by unfold multB; rw [e]; simp only [h1, h, h', and_self, if_true], by unfold multE; rw [e]; simp only [h1, h, h', and_self, if_true]⟩
theorem bag_own {w wk v : World} {ls : List (Nat × TypeId × List Value)} {A : Option Addr} {n c : Nat} {bs : List UInt8} (h : Bag w wk ls) (j : Later wk v) (o : OwnB v wk.heap.size A n c bs) (hn : 0 < n) :
    ∃ g rest, A = some ⟨g, 0, none⟩ ∧ Bag w v ((g, 5, bs.map W8 ++ rest) :: ls) := by
  rcases own_blk o with ⟨_, h0⟩ | ⟨g, rest, hA, hg, hb, _⟩
  · omega
  · refine ⟨g, rest, hA, h.add j ?_ ?_ hb⟩
    · intro p hp e
      have := (h.blk p hp).lt
      omega
    · have := h.lat.size
      omega
theorem turnK_cells (ks : List UInt8) (t : UInt8) (r : List Value) (h : ks.length = 32) :
    ((ks.map W8 ++ r).set 0 (W8 (ks.getD 0 0 ^^^ (t &&& 7)))).set 31 (W8 (ks.getD 31 0 ^^^ (t &&& 192))) = (turnK ks t).map W8 ++ r := by
  rw [List.set_append_left _ _ (by rw [List.length_map]; omega), List.set_append_left _ _ (by rw [List.length_set, List.length_map]; omega), turnK, List.map_set, List.map_set]
theorem turnU_cells (us : List UInt8) (t : UInt8) (r : List Value) (h : us.length = 32) : (us.map W8 ++ r).set 31 (W8 (us.getD 31 0 ^^^ shl8 t 7)) = (turnU us t).map W8 ++ r := by
  rw [List.set_append_left _ _ (by rw [List.length_map]; omega), turnU, List.map_set]
theorem cell_app {bs : List UInt8} {r : List Value} {i : Nat} (h : i < bs.length) : (bs.map W8 ++ r)[i]? = some (W8 (bs.getD i 0)) := by
  rw [List.getElem?_append_left (by rw [List.length_map]; exact h), List.getElem?_map, List.getD_eq_getElem?_getD, List.getElem?_eq_getElem h]
  rfl
theorem wf_u8 {n : Int} (h : (Lit.int .u8 n).wf = true) : 0 ≤ n ∧ n < 256 := by
  have : 0 ≤ n ∧ n ≤ 255 := by simpa [Lit.wf, IntKind.min, IntKind.max, IntKind.signed, IntKind.bits] using h
  omega
end Go.Proofs.Ytkibgdigcgakfaa
