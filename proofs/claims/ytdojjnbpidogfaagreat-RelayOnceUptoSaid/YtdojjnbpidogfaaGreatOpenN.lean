/-
  Arguments that came in: a node.
-/
import Derived.Test.YtdojjnbpidogfaaGreatOpen9
namespace Go.Proofs.YtdojjnbpidogfaaGreat
open Go.ChangeShapes Go.WideShapes Go.ChangeAt Go.RowKit
open _root_.Go.Proofs.YtdojjnbpidogfaaGreat.Rows (uptoBulk uptoBulkAll uptoSmall)
section
variable {H : Type} {enc : TypeId × Value → H} {w : World} {base b0 : Nat} {sp : Nat → Bool} {held : Bool} {r : Reach}
set_option maxRecDepth 100000 in
theorem open_nod {v : Value} {d : DataW H} {pl : List MemPlace} (hval : Value.okWide Tryz.prog w r b0 71 v) (h : DataW.Trod enc Tryz.prog w base sp held 71 v d pl) : ∃ y : Nod, v = .agg (NC y).toArray ∧ y.nm.size ≤ uptoBulk d := by
  simp only [Value.okWide, Tryz.underlying71] at hval
  obtain ⟨cs, rfl, h2, _⟩ := hval
  obtain ⟨fuel, hf⟩ := h
  obtain ⟨y, hy, hs⟩ := trod_nod hf
  have hy' : cs.toList = NC y := hy
  exact ⟨y, by rw [← hy'], hs⟩
end
end Go.Proofs.YtdojjnbpidogfaaGreat

