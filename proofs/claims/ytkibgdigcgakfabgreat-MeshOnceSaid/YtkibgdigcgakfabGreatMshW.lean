/-
  shallotref11.Whole.
-/
import Derived.Test.YtkibgdigcgakfabGreatMshR
import Derived.Test.YtkibgdigcgakfabGreatMacP
namespace Go.Proofs.YtkibgdigcgakfabGreat
open Go.RowKit
open Go.BigFrame

def PvOk (w : World) (x : Pv) : Prop := x.vn ≤ x.vc ∧ RdB w x.va x.vn x.p.da
theorem PvOk.later {w w' : World} {x : Pv} (h : PvOk w x) (hl : Later w w') : PvOk w' x := ⟨h.1, h.2.later hl⟩
end Go.Proofs.YtkibgdigcgakfabGreat
