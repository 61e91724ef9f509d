/-
  Arguments that came in: elements by their limbs.
-/
import Derived.Test.YtkibgdigcgakfaaOpen4
import Derived.Test.YtkibgdigcgakfaaFLaws
namespace Go.Proofs.Ytkibgdigcgakfaa
open Go.ChangeShapes Go.WideShapes Go.ChangeAt Go.RowKit
theorem four_E (xs : List UInt64) (h : xs.length = 4) : ∃ n, n < T256 ∧ xs.map W64 = EL n := by
  have hlt : ∀ x ∈ xs.map UInt64.toNat, x < B64 := by
    intro x hx
    obtain ⟨y, _, rfl⟩ := List.mem_map.1 hx
    exact y.toNat_lt
  have e := dig_val (B := B64) (xs.map UInt64.toNat) hlt
  have hv := val_lt (xs.map UInt64.toNat) hlt
  rw [List.length_map, h] at e hv
  refine ⟨val B64 (xs.map UInt64.toNat), by rw [← T256_eq]; exact hv, ?_⟩
  rw [EL, e, List.map_map]
  apply List.map_congr_left
  intro x _
  exact w64_n x
section
variable {H : Type} {enc : TypeId × Value → H} {w : World} {base b0 : Nat} {sp : Nat → Bool} {held : Bool} {r : Reach}
set_option maxRecDepth 100000 in
theorem open_four {v : Value} {d : DataW H} {ps : List MemPlace} (ht : Try.prog.underlying 24 = some (.array 4 22)) (hval : Value.okWide Try.prog w r b0 24 v) (h : DataW.Trod enc Try.prog w base sp held 24 v d ps) :
    ∃ n : Nat, v = E n ∧ n < T256 := by
  obtain ⟨xs, rfl, hl⟩ := open_arr64 ht Try.underlying22 (by kernel_rfl) (by kernel_rfl) hval h
  obtain ⟨n, hn, he⟩ := four_E xs hl
  exact ⟨n, by rw [he], hn⟩
end
end Go.Proofs.Ytkibgdigcgakfaa
