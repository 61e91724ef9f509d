/-
  dir: names in form.
-/
import Derived.Test.YtallecbmnpcepaaMem2
namespace Go.Proofs.Ytallecbmnpcepaa
open Go.RowKit
open Go.BigFrame

/-- A byte that a name may have at place 'k'. -/
def okAt (s : ByteArray) (k : Nat) : Bool :=
  if h : k < s.size then (decide (97 ≤ s[k].toNat) && decide (s[k].toNat ≤ 122)) || (decide (48 ≤ s[k].toNat) && decide (s[k].toNat ≤ 57) && decide (0 < k)) else true
/-- A name in form. -/
def okName (s : ByteArray) : Bool := decide (1 ≤ s.size) && decide (s.size ≤ 16) && (List.range s.size).all (okAt s)
theorem okAt_iff (s : ByteArray) (k : Nat) (h : k < s.size) : okAt s k = true ↔ (97 ≤ (s[k].toNat : Int) ∧ (s[k].toNat : Int) ≤ 122) ∨ (48 ≤ (s[k].toNat : Int) ∧ (s[k].toNat : Int) ≤ 57 ∧ 0 < k) := by
  rw [okAt, dif_pos h]
  simp only [Bool.or_eq_true, Bool.and_eq_true, decide_eq_true_eq]
  omega
theorem okName_iff (s : ByteArray) : okName s = true ↔ 1 ≤ s.size ∧ s.size ≤ 16 ∧ ∀ j, j < s.size → okAt s j = true := by
  rw [okName]
  simp only [Bool.and_eq_true, decide_eq_true_eq, List.all_eq_true, List.mem_range, and_assoc]
theorem okName_all {s : ByteArray} (h : ¬ (s.size < 1 ∨ 16 < s.size)) (hj : ∀ j, j < s.size → okAt s j = true) : okName s = true := (okName_iff s).2 ⟨by omega, by omega, hj⟩
theorem okName_len {s : ByteArray} (h : s.size < 1 ∨ 16 < s.size) : okName s = false := by
  rcases Bool.eq_false_or_eq_true (okName s) with e | e
  · have := (okName_iff s).1 e
    omega
  · exact e
theorem okName_bad {s : ByteArray} {k : Nat} (h : k < s.size) (hn : ¬ ((97 ≤ (s[k].toNat : Int) ∧ (s[k].toNat : Int) ≤ 122) ∨ (48 ≤ (s[k].toNat : Int) ∧ (s[k].toNat : Int) ≤ 57 ∧ 0 < k))) : okName s = false := by
  rcases Bool.eq_false_or_eq_true (okName s) with e | e
  · exact absurd ((okAt_iff s k h).1 (((okName_iff s).1 e).2.2 k h)) hn
  · exact e
theorem okAt_next {s : ByteArray} {k : Nat} (h : k < s.size) (hp : ∀ j, j < k → okAt s j = true) (hn : (97 ≤ (s[k].toNat : Int) ∧ (s[k].toNat : Int) ≤ 122) ∨ (48 ≤ (s[k].toNat : Int) ∧ (s[k].toNat : Int) ≤ 57 ∧ 0 < k)) : ∀ j, j < k + 1 → okAt s j = true := by
  intro j hj
  rcases Nat.lt_or_ge j k with h1 | h1
  · exact hp j h1
  · obtain rfl : j = k := by omega
    exact (okAt_iff s j h).2 hn
set_option maxRecDepth 100000 in
theorem wellFormed_any (s : ByteArray) (w : World) (hs : s.size ≤ 140737488355328) :
    Calls Try.prog 31 #[.string s] w fun e w' => e = .returned (.bool (okName s)) ∧ Later w w' := by
  go_enter Try.func31, Try.ntmps31
  by_cases hb : s.size < 1 ∨ 16 < s.size
  · have hbb : (decide ((s.size : Int) < 1) || decide (16 < (s.size : Int))) = true := by simp; omega
    rw [okName_len hb]
    go_wp2
    all_goals
      go_ret
      exact ⟨rfl, Later.refl w⟩
  · go_wp2
    go_loopw [3, 4, 5, 6] (fun i _ _ _ wr => ∃ k : Nat, i = .int .i64 k ∧ k ≤ s.size ∧ (∀ j, j < k → okAt s j = true) ∧ Later w wr) (fun i _ _ _ _ => s.size - (intOf i).toNat)
    case atStart => exact ⟨0, rfl, by omega, fun j hj => absurd hj (by omega), Later.refl w⟩
    case round =>
      obtain ⟨k, rfl, hk, hp, hl⟩ := hrel
      by_cases hlt : k < s.size
      · go_wp2
        all_goals
          try simp only [Bool.not_eq_true', Bool.not_eq_false', decide_eq_true_eq, decide_eq_false_iff_not] at *
          first
            | exact ⟨⟨k + 1, rfl, by omega, okAt_next hlt hp (by omega), hl⟩, by simp [intOf]; omega⟩
            | (go_ret; refine ⟨?_, hl⟩; rw [okName_bad hlt (by omega)]; rfl)
      · obtain rfl : k = s.size := by omega
        go_wp2
        go_ret
        refine ⟨?_, hl⟩
        rw [okName_all hb hp]
        rfl
set_option maxRecDepth 100000 in
theorem named_ref (s : ByteArray) (w : World) (hs : s.size ≤ 140737488355328) :
    Calls Try.prog 32 #[.string s] w fun e w' => e = .returned (.bool (okName s)) ∧ Later w w' := by
  go_enter Try.func32, Try.ntmps32
  by_cases hb : s.size < 1 ∨ 16 < s.size
  · have hbb : (decide ((s.size : Int) < 1) || decide (16 < (s.size : Int))) = true := by simp; omega
    rw [okName_len hb]
    go_wp2
    all_goals
      go_ret
      exact ⟨rfl, Later.refl w⟩
  · go_wp2
    go_loopw [3, 4, 5] (fun i _ _ wr => ∃ k : Nat, i = .int .i64 k ∧ k ≤ s.size ∧ (∀ j, j < k → okAt s j = true) ∧ Later w wr) (fun i _ _ _ => s.size - (intOf i).toNat)
    case atStart => exact ⟨0, rfl, by omega, fun j hj => absurd hj (by omega), Later.refl w⟩
    case round =>
      obtain ⟨k, rfl, hk, hp, hl⟩ := hrel
      by_cases hlt : k < s.size
      · rcases Nat.eq_zero_or_pos k with rfl | hk0
        · go_wp2
          all_goals
            try simp only [Bool.not_eq_true', Bool.not_eq_false', decide_eq_true_eq, decide_eq_false_iff_not] at *
            first
              | exact ⟨⟨0 + 1, rfl, by omega, okAt_next hlt hp (by omega), hl⟩, by simp [intOf]; omega⟩
              | (go_ret; refine ⟨?_, hl⟩; rw [okName_bad hlt (by omega)]; rfl)
        · have hkb : ((k : Int) == 0) = false := by simp; omega
          go_wp2
          all_goals
            try simp only [Bool.not_eq_true', Bool.not_eq_false', decide_eq_true_eq, decide_eq_false_iff_not, hkb] at *
            first
              | exact ⟨⟨k + 1, rfl, by omega, okAt_next hlt hp (by omega), hl⟩, by simp [intOf]; omega⟩
              | (go_ret; refine ⟨?_, hl⟩; rw [okName_bad hlt (by omega)]; rfl)
      · obtain rfl : k = s.size := by omega
        go_wp2
        go_ret
        refine ⟨?_, hl⟩
        rw [okName_all hb hp]
        rfl
end Go.Proofs.Ytallecbmnpcepaa
