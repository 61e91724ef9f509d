/-
  Structs: built of several parts, compared part by part.
-/
import Derived.Test.YtallecbmnpcepaaBuilt
import Derived.Test.YtallecbmnpcepaaMem2
namespace Go.Proofs.Ytallecbmnpcepaa
open Go.RowKit

theorem built_struct {P : Program} {t : TypeId} {zs : List Value} {fs : Array Field} {pl : List (Nat × Nat)} (hu : P.underlying t = some (.struct fs)) (hz : (P.info? t).bind (·.zero) = some (.agg zs.toArray))
    (hp : (fs.toList.mapM fun f => (P.info? f.type).map fun i => (f.offset, i.size)) = some pl) (parts : List (Nat × Value)) : P.built t parts = Instr.fill (pl.toArray[·]?) zs.toArray parts := by
  cases hq : P.info? t with
  | none => simp [hq] at hz
  | some it =>
    have hz' : it.zero = some (.agg zs.toArray) := by simpa [hq] using hz
    have hc2 : (Value.agg zs.toArray).cells = zs.toArray := rfl
    unfold Program.built
    rw [hq, hu]
    simp only [hz', hp, hc2]
theorem fill_cons {place : Nat → Option (Nat × Nat)} {i off : Nat} {cells vs : List Value} {v : Value} {rest : List (Nat × Value)} (hv : v.cells = vs.toArray) (hpi : place i = some (off, vs.length)) (hfit : off + vs.length ≤ cells.length) :
    Instr.fill place cells.toArray ((i, v) :: rest) = Instr.fill place (spliced cells off vs).toArray rest := by
  simp only [Instr.fill, hpi, hv, List.size_toArray]
  rw [if_neg (by simp; omega), fold_cells _ _ _ hfit]
theorem fill_nil {place : Nat → Option (Nat × Nat)} {cells : Array Value} : Instr.fill place cells [] = some cells := rfl

section
variable {P : Program} {ops : Array Oper} {rest : List Oper} {o : Oper} {a : Act} {w : World} {Q : Exit → Act → World → Prop}
/-- A value of several cells is loaded, under a guard too. -/
theorem wpList_load_at (hw : Region.wanted o (yielded ops a.tmps) = true) (ty : TypeId) (x : Operand) (ho : o.op = .load ty x) (g off : Nat) (vs : List Value) (hc : ∀ j v, vs[j]? = some v → w.cell? ⟨g, off + j, none⟩ = some v)
    (hx : a.eval x = .pointer (some ⟨g, off, none⟩)) (d : TypeDesc) (hu : P.underlying ty = some d) (hd : aggDesc d = true) (hi : (P.info? ty).map (·.size) = some vs.length)
    (h : wpList P ops Q rest (a.put o.dst (.agg vs.toArray)) w) : wpList P ops Q (o :: rest) a w := by
  refine BigFrame.wpList_want hw fun K hK => ?_
  unfold Oper.wp
  simp only [execOp, ho, hx, Instr.loadAt, Instr.sureAddr, Sem.run_bind, Sem.run_pure, Result.andThen_ok, run_loadVar_agg w g off ty vs d hc hu hd hi]
  exact hK _ _ h
/-- Built, under a guard too. -/
theorem wpList_build_w (hw : Region.wanted o (yielded ops a.tmps) = true) (t : TypeId) (parts : Array (Nat × Operand)) (ho : o.op = .build t parts) (vs : List Value) (hb : P.built t (parts.map fun (i, x) => (i, a.eval x)).toList = some vs.toArray)
    (h : wpList P ops Q rest (a.put o.dst (.agg vs.toArray)) w) : wpList P ops Q (o :: rest) a w :=
  BigFrame.wpList_want hw fun K hK => wp_build t parts ho (by rw [hb]; rfl) (by rw [hb]; exact hK _ _ h)
end
theorem size32c : (Try.prog.info? 43).map (·.size) = some 32 := by kernel_rfl
theorem run_part_agg {P : Program} {t : TypeId} {n k : Nat} {d : TypeDesc} (hu : P.underlying t = some d) (hd : aggDesc d = true) (hs : (P.info? t).map (·.size) = some n) (zs r : List Value) (hz : (zs.drop k).take n = r) (w : World) :
    (part t zs.toArray k).run P w = .ok (.agg r.toArray) w := by
  have hs : (sizeOf t).run P w = .ok n w := by
    cases hq : P.info? t with
    | none => simp [hq] at hs
    | some inf =>
      have hsz : inf.size = n := by simpa [hq] using hs
      simp [sizeOf, typeInfo, hq, hsz]
  have ha : (isAgg t).run P w = .ok true w := by
    unfold isAgg
    simp only [Sem.run_bind, run_underlying hu]
    cases d <;> simp_all [aggDesc]
  unfold part
  simp only [Sem.run_bind, ha, Result.andThen_ok, if_true, hs, Sem.run_pure]
  rw [← hz]
  simp
/-- Structs of parts of 32 bytes each: compared part by part. -/
theorem run_eqP_cons {P : Program} {d n k : Nat} {t e : TypeId} {f : Field} {fs : List Field} (hf : f.type = t) (hu : P.underlying t = some (.array n e)) (hs : (P.info? t).map (·.size) = some n) (hs1 : (P.info? e).map (·.size) = some 1) (he : P.underlying e = some (.int .u8))
    (hn : f.name ≠ "_") {xs ys : List Value} {p q : List UInt8} (ho : f.offset = k) (hp : (xs.drop k).take n = p.map W8) (hq : (ys.drop k).take n = q.map W8) (hpl : p.length = n) (hql : q.length = n) (w : World) :
    (Op.eqFields (d + 2) xs.toArray ys.toArray (f :: fs)).run P w = if p == q then (Op.eqFields (d + 2) xs.toArray ys.toArray fs).run P w else .ok false w := by
  rw [Op.eqFields, if_pos hn]
  simp only [Sem.run_bind, hf, ho, run_part_agg hu rfl hs xs _ hp, run_part_agg hu rfl hs ys _ hq, Result.andThen_ok]
  rw [run_equalIn_arr w 0 W8 d t e n hu hs1 he rfl (heq_w8 _ _ he) p q hpl hql]
  simp only [Result.andThen_ok]
  cases p == q <;> simp
theorem run_eq32_cons {d : Nat} {f : Field} {fs : List Field} (hf : f.type = 43) (hn : f.name ≠ "_") {xs ys : List Value} {p q : List UInt8} {k : Nat} (ho : f.offset = k) (hp : (xs.drop k).take 32 = p.map W8) (hq : (ys.drop k).take 32 = q.map W8) (hpl : p.length = 32) (hql : q.length = 32) (w : World) :
    (Op.eqFields (d + 2) xs.toArray ys.toArray (f :: fs)).run Try.prog w = if p == q then (Op.eqFields (d + 2) xs.toArray ys.toArray fs).run Try.prog w else .ok false w :=
  run_eqP_cons hf Try.underlying43 size32c size8 Try.underlying5 hn ho hp hq hpl hql w
theorem run_eql_s {P : Program} {t : TypeId} {fs : Array Field} (hu : P.underlying t = some (.struct fs)) (hp : P.stoodInHeld t = false) (xs ys : Array Value) (w : World) :
    (binOp .eql t (.agg xs) (.agg ys)).run P w = ((Op.eqFields 9999 xs ys fs.toList).run P w).andThen fun b w' => .ok (.bool b) w' := by
  have e : P.fieldsOf t = fs := by unfold Program.fieldsOf; rw [hu]
  rw [run_eql_struct, run_equalIn_struct w 9999 t xs ys (by rw [e]; exact hu) hp, e]
theorem run_neq_s {P : Program} {t : TypeId} {fs : Array Field} (hu : P.underlying t = some (.struct fs)) (hp : P.stoodInHeld t = false) (xs ys : Array Value) (w : World) :
    (binOp .neq t (.agg xs) (.agg ys)).run P w = ((Op.eqFields 9999 xs ys fs.toList).run P w).andThen fun b w' => .ok (.bool (!b)) w' := by
  have e : P.fieldsOf t = fs := by unfold Program.fieldsOf; rw [hu]
  rw [run_neq_struct, run_equalIn_struct w 9999 t xs ys (by rw [e]; exact hu) hp, e]
theorem run_eq32_nil {d : Nat} {xs ys : Array Value} (w : World) : (Op.eqFields d xs ys []).run Try.prog w = .ok true w := by
  rw [Op.eqFields]
  simp
end Go.Proofs.Ytallecbmnpcepaa
