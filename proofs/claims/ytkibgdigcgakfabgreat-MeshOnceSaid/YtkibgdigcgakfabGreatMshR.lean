/-
  shallotref11.Take.
-/
import Derived.Test.YtkibgdigcgakfabGreatFrmA
import Derived.Test.YtkibgdigcgakfabGreatMshP
import Derived.Test.YtkibgdigcgakfabGreatBldC
namespace Go.Proofs.YtkibgdigcgakfabGreat
open Go.RowKit
open Go.BigFrame

/-- A part in memory; va, vn, vc: its data. -/
structure Pv where
  p : Prt
  va : Option Addr
  vn : Nat
  vc : Nat
def PvC (x : Pv) : List Value := PaC x.p (.slice x.va x.vn x.vc)
def pvz : Pv := ⟨prt0, none, 0, 0⟩
theorem PvC_length (x : Pv) : (PvC x).length = 5 := rfl
theorem PvC_one (x : Pv) : ∀ u ∈ PvC x, u.oneCell' = true := PaC_one _ rfl
end Go.Proofs.YtkibgdigcgakfabGreat
