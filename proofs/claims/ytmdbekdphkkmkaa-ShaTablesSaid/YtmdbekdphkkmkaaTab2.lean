/-
  shallotref02: Prime.
-/
import Derived.Test.YtmdbekdphkkmkaaTab1
namespace Go.Proofs.Ytmdbekdphkkmkaa
open Go.RowKit
open Go.BigFrame

def clearB (p q : Nat) : Bool := (List.range q).all fun d => decide (d < 2) || p % d != 0
def prB (p : Nat) : Bool := clearB p p
def cntP : Nat → Nat
  | 0 => 0
  | p + 1 => cntP p + if prB p && decide (2 ≤ p) then 1 else 0
theorem cntP_end : cntP 312 = 64 := by decide +kernel
theorem clearB_succ (p q : Nat) (h : 2 ≤ q) : clearB p (q + 1) = (clearB p q && (p % q != 0)) := by
  rw [clearB, List.range_succ, List.all_append, ← clearB]
  simp [show ¬ q < 2 by omega]
def sqrtOk (p q : Nat) : Bool := !(decide (2 ≤ q) && decide (2 ≤ p) && (decide (q = 2) || decide ((q - 1) * (q - 1) ≤ p)) && decide (p < q * q)) || clearB p q == prB p
theorem sqrtAll : ((List.range 312).all fun p => (List.range 19).all fun q => sqrtOk p q) = true := by decide +kernel
theorem prB_sqrt (p : Nat) (hp : p < 312) (q : Nat) (hq : q < 19) (h1 : 2 ≤ q) (h2 : 2 ≤ p) (h3 : q = 2 ∨ (q - 1) * (q - 1) ≤ p) (h4 : p < q * q) : clearB p q = prB p := by
  have h := List.all_eq_true.1 (List.all_eq_true.1 sqrtAll p (List.mem_range.2 hp)) q (List.mem_range.2 hq)
  rw [sqrtOk] at h
  have h3' : (decide (q = 2) || decide ((q - 1) * (q - 1) ≤ p)) = true := by rw [Bool.or_eq_true, decide_eq_true_eq, decide_eq_true_eq]; exact h3
  rw [h3', decide_eq_true h1, decide_eq_true h2, decide_eq_true h4] at h
  exact eq_of_beq h
theorem cntP_2 : cntP 2 = 0 := by decide +kernel
set_option maxRecDepth 100000 in
theorem prime_02 (n : Nat) (hn : n < 64) (w : World) :
    Calls Try.prog 21 #[.int .i64 n] w fun e w' => ∃ p : Nat, e = .returned (.int .i64 p) ∧ 2 ≤ p ∧ p < 312 ∧ prB p = true ∧ cntP p = n ∧ Later w w' := by
  go_enter Try.func21, Try.ntmps21
  go_wp2
  go_loopw [0, 3] (fun m p wr => ∃ (j k : Nat), m = .int .i64 k ∧ p = .int .i64 j ∧ 2 ≤ j ∧ j ≤ 312 ∧ k + cntP j = n ∧ Later w wr) (fun _ p _ => 312 - (intOf p).toNat)
  case atStart => exact ⟨2, n, rfl, rfl, by omega, by omega, by rw [cntP_2]; rfl, Later.refl w⟩
  case round =>
    obtain ⟨j, k, rfl, rfl, h2, h312, hc, hl⟩ := hrel
    have hj : j < 312 := by
      rcases Nat.lt_or_ge j 312 with h | h
      · exact h
      · obtain rfl : j = 312 := by omega
        rw [cntP_end] at hc
        omega
    have hk : k < 64 := by omega
    have hcs := hid (show cntP (j + 1) = cntP j + if prB j && decide (2 ≤ j) then 1 else 0 from rfl)
    have hsq := hid (prB_sqrt j hj)
    replace hc := hid hc
    go_wp2
    go_loopw [4, 5] (fun f q wr' => ∃ (i : Nat), f = .bool (clearB j i) ∧ q = .int .i64 i ∧ 2 ≤ i ∧ i ≤ 18 ∧ (i = 2 ∨ (i - 1) * (i - 1) ≤ j) ∧ wr' = wr) (fun _ q _ => 18 - (intOf q).toNat)
    case atStart => exact ⟨2, by rw [show clearB j 2 = true by simp [clearB, List.range_succ]], rfl, by omega, by omega, .inl rfl, rfl⟩
    case round =>
      obtain ⟨i, rfl, rfl, hi2, hi18, hi, rfl⟩ := hrel
      have hcl := hid (clearB_succ j i hi2)
      by_cases ht : i * i ≤ j
      · have hi17 : i ≤ 17 := by
          rcases Nat.lt_or_ge i 18 with h | h
          · omega
          · have := Nat.mul_le_mul h h
            omega
        by_cases hd : j % i = 0
        · go_wp2
          refine ⟨⟨i + 1, ?_, by go_num, by omega, by omega, .inr ?_, trivial⟩, by simp [intOf]; omega⟩
          · rw [hcl.out, hd]
            simp
          · rw [Nat.add_sub_cancel]; exact ht
        · go_wp2
          refine ⟨⟨i + 1, ?_, by go_num, by omega, by omega, .inr ?_, trivial⟩, by simp [intOf]; omega⟩
          · rw [hcl.out]
            simp [hd]
          · rw [Nat.add_sub_cancel]; exact ht
      · have he := hsq.out i (by omega) hi2 h2 hi (by omega)
        rw [he]
        clear he hsq hcl
        have hlt : (j : Int) < (i : Int) * (i : Int) := by
          rw [← Int.natCast_mul]
          omega
        have hb : (i : Int) * (i : Int) ≤ 324 := by
          rw [← Int.natCast_mul]
          have := Nat.mul_le_mul hi18 hi18
          omega
        have hdec : decide ((i : Int) * (i : Int) ≤ (j : Int)) = false := decide_eq_false (by omega)
        have hnle : ¬ ((i : Int) * (i : Int) ≤ (j : Int)) := by omega
        by_cases hp : prB j = true
        · rw [hp] at hcs ⊢
          by_cases hk0 : k = 0
          · subst hk0
            go_wp2
            go_ret
            refine ⟨j, rfl, h2, hj, hp, ?_, hl⟩
            have := hc.out
            omega
          · go_wp2
            refine ⟨⟨j + 1, k - 1, by go_num, by go_num, by omega, by omega, ?_, hl⟩, by simp [intOf]; omega⟩
            have := hc.out
            have h := hcs.out
            simp [h2] at h
            omega
        · rw [Bool.not_eq_true] at hp
          rw [hp] at hcs ⊢
          go_wp2
          refine ⟨⟨j + 1, k, rfl, by go_num, by omega, by omega, ?_, hl⟩, by simp [intOf]; omega⟩
          have := hc.out
          have h := hcs.out
          simp at h
          omega
end Go.Proofs.Ytmdbekdphkkmkaa
