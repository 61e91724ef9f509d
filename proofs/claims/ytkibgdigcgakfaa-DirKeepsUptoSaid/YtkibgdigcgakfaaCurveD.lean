/-
  curve.Chain.
-/
import Derived.Test.YtkibgdigcgakfaaCurveAB
namespace Go.Proofs.Ytkibgdigcgakfaa
open Go.RowKit
open Go.BigFrame

/-- One scalar behind the other. -/
def chainAt : List (List UInt8) → List UInt8 → List UInt8 × Nat
  | [], at_ => (at_, 0)
  | k :: ks, at_ => if multE k at_ = 0 then chainAt ks (multB k at_) else (List.replicate 32 0, multE k at_)
def chainR (us : List UInt8) (ps : List (List UInt8)) : List UInt8 × Nat :=
  if us.length = 32 ∧ ∀ p ∈ ps, p.length = 32 then chainAt ps (nb (readN us)) else (List.replicate 32 0, 2)
theorem chainAt_length : ∀ (ps : List (List UInt8)) (at_ : List UInt8), at_.length = 32 → (chainAt ps at_).1.length = 32
  | [], _, h => h
  | k :: ks, at_, _ => by
    unfold chainAt
    split
    · exact chainAt_length ks _ (multB_length _ _)
    · simp
theorem chainR_length (us : List UInt8) (ps : List (List UInt8)) : (chainR us ps).1.length = 32 := by
  unfold chainR
  split
  · exact chainAt_length _ _ (nb_length _)
  · simp
theorem readN_P (us : List UInt8) : readN us < P25 := by
  unfold readN
  split
  · exact Nat.mod_lt _ P25_pos
  · exact P25_pos
theorem drop_getD (ps : List (List UInt8)) (k : Nat) (h : k < ps.length) : ps.drop k = ps.getD k [] :: ps.drop (k + 1) := by
  rw [List.drop_eq_getElem_cons h, List.getD_eq_getElem?_getD, List.getElem?_eq_getElem h]
  rfl
theorem all_getD (ps : List (List UInt8)) (h : ∀ j, j < ps.length → (ps.getD j []).length = 32) : ∀ p ∈ ps, p.length = 32 := by
  intro p hp
  obtain ⟨j, hj, e⟩ := List.getElem_of_mem hp
  have := h j hj
  rw [List.getD_eq_getElem?_getD, List.getElem?_eq_getElem hj] at this
  rw [← e]
  exact this
theorem chainR_bad (us : List UInt8) (ps : List (List UInt8)) (k : Nat) (h : k < ps.length) (hk : (ps.getD k []).length ≠ 32) : chainR us ps = (List.replicate 32 0, 2) := by
  rw [chainR, if_neg]
  rintro ⟨_, ha⟩
  apply hk
  rw [List.getD_eq_getElem?_getD, List.getElem?_eq_getElem h]
  exact ha _ (List.getElem_mem h)
end Go.Proofs.Ytkibgdigcgakfaa
