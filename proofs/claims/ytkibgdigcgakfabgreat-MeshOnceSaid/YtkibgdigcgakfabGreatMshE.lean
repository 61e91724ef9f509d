/-
  shallotlaw17.same: letters that are alike.
-/
import Derived.Test.YtkibgdigcgakfabGreatMshS
namespace Go.Proofs.YtkibgdigcgakfabGreat
open Go.RowKit
open Go.BigFrame

/-- Letters in a row. -/
def LtRow (w : World) (A : Option Addr) (n : Nat) (ys : List Ltv) : Prop := RdF LtC 4 lv0 w A n ys ∧ ∀ y ∈ ys, RdB w y.va y.vn y.lt.tx ∧ y.vn ≤ 140737488355328
end Go.Proofs.YtkibgdigcgakfabGreat
