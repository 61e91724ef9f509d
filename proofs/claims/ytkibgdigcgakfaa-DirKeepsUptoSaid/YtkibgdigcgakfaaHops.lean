/-
  Hops: plain.
-/
import Derived.Test.YtkibgdigcgakfaaDirX
namespace Go.Proofs.Ytkibgdigcgakfaa
open Go.RowKit

/-- A hop. -/
structure Hp where
  nod : Nod
  delay : Int
  flags : Int
def hp0 : Hp := ⟨nod0, 0, 0⟩
def HC (x : Hp) : List Value := NC x.nod ++ [.int .i64 x.delay, .int .i64 x.flags]
theorem HC_length (x : Hp) : (HC x).length = 68 := by rw [HC, List.length_append, NC_length]; rfl
theorem HC_one (x : Hp) : ∀ u ∈ HC x, u.oneCell' = true := by
  intro u hu
  rw [HC] at hu
  rcases List.mem_append.1 hu with h | h
  · exact NC_one _ u h
  · simp only [List.mem_cons, List.not_mem_nil, or_false] at h
    rcases h with rfl | rfl <;> rfl
abbrev RdH : World → Option Addr → Nat → List Hp → Prop := RdF HC 68 hp0
theorem HC_nod (x : Hp) {i : Nat} {v : Value} (h : (NC x.nod)[i]? = some v) : (HC x)[i]? = some v := by
  rw [HC, List.getElem?_append_left (List.getElem?_eq_some_iff.1 h).1]
  exact h
theorem HC_delay (x : Hp) : (HC x)[66]? = some (.int .i64 x.delay) := by
  rw [HC, List.getElem?_append_right (by rw [NC_length]; omega), NC_length]
  rfl
theorem HC_flags (x : Hp) : (HC x)[67]? = some (.int .i64 x.flags) := by
  rw [HC, List.getElem?_append_right (by rw [NC_length]; omega), NC_length]
  rfl
end Go.Proofs.Ytkibgdigcgakfaa
