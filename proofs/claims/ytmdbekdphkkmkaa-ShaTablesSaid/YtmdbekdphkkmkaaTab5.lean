/-
  shallotref02: Root, out of what 'above' answers.
-/
import Derived.Test.YtmdbekdphkkmkaaTab4
namespace Go.Proofs.Ytmdbekdphkkmkaa
open Go.RowKit
open Go.BigFrame

set_option maxRecDepth 100000 in
theorem root_02 (hAb : ∀ (y : UInt64) (p k : Nat) (w : World), y.toNat < 2 ^ 37 → p < 312 → k ≤ 3 → Calls Try.prog 61 #[W64 y, .int .i64 p, .int .i64 k] w fun e w' => e = .returned (.bool (decide (p * 4294967296 ^ k < y.toNat ^ k))) ∧ Later w w')
    (p k : Nat) (hp : p < 312) (hk : k ≤ 3) (w : World) :
    Calls Try.prog 22 #[.int .i64 p, .int .i64 k] w fun e w' => e = .returned (W32 (UInt32.ofNat (rootN p k 37 0 % 4294967296))) ∧ Later w w' := by
  replace hAb := hid hAb
  go_enter Try.func22, Try.ntmps22
  go_wp2
  go_loopw [5, 6] (fun x b wr => ∃ (m : Nat) (v : UInt64), m ≤ 37 ∧ x = W64 v ∧ b = .int .i64 ((m : Int) - 1) ∧ v.toNat % 2 ^ m = 0 ∧ v.toNat < 2 ^ 37 ∧ rootN p k m v.toNat = rootN p k 37 0 ∧ Later w wr) (fun _ b _ => (intOf b + 1).toNat)
  case atStart => exact ⟨37, 0, by omega, rfl, rfl, rfl, by decide, rfl, Later.refl w⟩
  case round =>
    obtain ⟨m, v, hm, rfl, rfl, hv0, hv, hr, hl⟩ := hrel
    match m, hm, hv0, hr with
    | 0, hm, hv0, hr =>
      replace hr : v.toNat = rootN p k 37 0 := hr
      go_wp2
      go_ret
      refine ⟨?_, hl⟩
      rw [← hr]
      congr 2
    | m + 1, hm, hv0, hr =>
      replace hr := hid hr
      go_wp2_with fail
      have hP : 2 ^ m ≤ 2 ^ 36 := Nat.pow_le_pow_right (by decide) (by omega)
      obtain ⟨a, ha⟩ := Nat.dvd_of_mod_eq_zero hv0
      obtain ⟨b, hb⟩ := Nat.pow_dvd_pow 2 (show m + 1 ≤ 37 by omega)
      have hab : a < b := Nat.lt_of_mul_lt_mul_left (by rw [← ha, ← hb]; exact hv)
      have hle : v.toNat + 2 ^ (m + 1) ≤ 2 ^ 37 := by
        rw [ha, hb, ← Nat.mul_succ]
        exact Nat.mul_le_mul_left _ hab
      rw [Nat.pow_succ] at hle
      have hpos : 0 < 2 ^ m := Nat.pow_pos (by decide)
      have hy : (v + UInt64.ofInt (2 ^ m)).toNat = v.toNat + 2 ^ m := by
        rw [show ((2 : Int) ^ m) = ((2 ^ m : Nat) : Int) by simp, ofIntNat_w64, UInt64.toNat_add, UInt64.toNat_ofNat', Nat.mod_eq_of_lt (a := 2 ^ m) (by omega), Nat.mod_eq_of_lt (by omega)]
      have h0 : v.toNat % 2 ^ m = 0 := by
        rw [ha, Nat.pow_succ, Nat.mul_assoc, Nat.mul_mod_right]
      generalize v + UInt64.ofInt (2 ^ m) = y at *
      refine (hAb.out y p k _ (by rw [hy]; omega) hp hk).mono ?_
      rintro e w1 ⟨rfl, hl1⟩
      rw [hy]
      have hr' : rootN p k m (if p * 4294967296 ^ k < (v.toNat + 2 ^ m) ^ k then v.toNat else v.toNat + 2 ^ m) = rootN p k 37 0 := hr.out
      replace hr' := hid hr'
      by_cases hc : p * 4294967296 ^ k < (v.toNat + 2 ^ m) ^ k
      · rw [if_pos hc] at hr'
        rw [decide_eq_true hc]
        clear hc
        go_wp2_with fail
        exact ⟨⟨m, v, by omega, rfl, rfl, h0, hv, hr'.out, hl.trans hl1⟩, by simp [intOf]⟩
      · rw [if_neg hc] at hr'
        rw [decide_eq_false hc]
        clear hc
        go_wp2_with fail
        exact ⟨⟨m, y, by omega, rfl, rfl, by rw [hy, Nat.add_mod_right]; exact h0, by rw [hy]; omega, by rw [hy]; exact hr'.out, hl.trans hl1⟩, by simp [intOf]⟩
end Go.Proofs.Ytmdbekdphkkmkaa
