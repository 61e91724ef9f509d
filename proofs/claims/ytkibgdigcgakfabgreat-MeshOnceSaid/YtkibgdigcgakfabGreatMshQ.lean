/-
  shallotref17.Letters.
-/
import Derived.Test.YtkibgdigcgakfabGreatMshW
import Derived.Test.YtkibgdigcgakfabGreatMshS
namespace Go.Proofs.YtkibgdigcgakfabGreat
open Go.RowKit
open Go.BigFrame

theorem quiet_buildM {P : Program} {C : World → Prop} {a : Act} {o : Oper} {K : Act → Prop} (t : TypeId) (parts : Array (Nat × Operand)) (ho : o.op = .build t parts) (vs : List Value) (hb : P.built t (parts.map fun (i, x) => (i, a.eval x)).toList = some vs.toArray)
    (h : K (a.put o.dst (.agg vs.toArray))) : o.quiet P a C K :=
  ⟨.agg vs.toArray, fun w hw => by
    unfold Oper.quietAt execOp
    simp only [ho, Sem.run_bind, run_build w t _ _ hb, Result.andThen_ok]
    exact ⟨rfl, rfl⟩, h⟩
end Go.Proofs.YtkibgdigcgakfabGreat
