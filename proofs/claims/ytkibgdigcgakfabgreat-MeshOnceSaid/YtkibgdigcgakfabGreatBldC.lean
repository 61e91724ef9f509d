/-
  A slice of one element of several cells.
-/
import Derived.Test.YtkibgdigcgakfabGreatRowP
namespace Go.Proofs.YtkibgdigcgakfabGreat
open Go.RowKit

section
variable {P : Program} {ops : Array Oper} {rest : List Oper} {o : Oper} {a : Act} {w : World} {Q : Exit → Act → World → Prop}
/-- '[]T{x}', x of several cells. -/
theorem build_oneC (hw : Region.wanted o (yielded ops a.tmps) = true) (t : TypeId) (x : Operand) (ho : o.op = .buildSlice t 1 #[(0, x)]) (e : TypeId) (sz : Nat) (z : Value) (vs : List Value) (ht : P.underlying t = some (.slice e)) (hz : (P.info? e).map (fun i => (i.zero, i.size)) = some (some z, sz)) (hs0 : 0 < sz) (hsm : sz ≤ 65536)
    (hbl : vs.length = sz) (hx : a.eval x = .agg vs.toArray)
    (h : wpList P ops Q rest (a.put o.dst (.slice (some ⟨w.heap.size, 0, none⟩) 1 1)) (w.alloc (.cells vs.toArray e))) : wpList P ops Q (o :: rest) a w :=
  BigFrame.wpList_want hw fun K hK => by
    have hr := run_buildK (v := .agg vs.toArray) ht hz hs0 hsm rfl hbl w
    unfold Oper.wp
    simp only [execOp, ho, List.map_toArray, List.map_cons, List.map_nil, hx, Sem.run_bind, hr, Result.andThen_ok, Sem.run_pure]
    exact hK _ _ h
end
end Go.Proofs.YtkibgdigcgakfabGreat
