/-
  The law DirFinds: its walk.
-/
import Derived.Test.YtkibgdigcgakfaaDirX
namespace Go.Proofs.Ytkibgdigcgakfaa
open Go.RowKit
open Go.BigFrame

theorem run_eqIn_s {P : Program} {t : TypeId} {fs : Array Field} (hu : P.underlying t = some (.struct fs)) (hp : P.stoodInHeld t = false) (d : Nat) (xs ys : Array Value) (w : World) : (Op.equalIn (d + 1) t (.agg xs) (.agg ys)).run P w = (Op.eqFields d xs ys fs.toList).run P w := by
  have e : P.fieldsOf t = fs := by unfold Program.fieldsOf; rw [hu]
  rw [run_equalIn_struct w d t xs ys (by rw [e]; exact hu) hp, e]
set_option maxRecDepth 100000 in
theorem run_eqF_nodD (d : Nat) (x y : Nod) (w : World) {fs : Array Field} (hu : Try.prog.underlying 50 = some (.struct fs)) : (Op.eqFields (d + 2) (NC x).toArray (NC y).toArray fs.toList).run Try.prog w = .ok (eqNod x y) w := by
  rw [Try.underlying50] at hu
  cases hu
  rw [run_eqS_cons (d := d + 1) (k := 0) rfl Try.underlying9 (by decide) rfl rfl rfl, run_eq64_cons (d := d + 1) (k := 1) rfl Try.underlying22 (by decide) rfl rfl rfl,
    run_eq32_cons (d := d) (k := 2) rfl (by decide) rfl (NC_priv32 x) (NC_priv32 y) x.priv.2 y.priv.2, run_eq32_cons (d := d) (k := 34) rfl (by decide) rfl (NC_pub32 x) (NC_pub32 y) x.pub.2 y.pub.2, run_eq32_nil]
  rw [eqNod]
  cases x.nm.toList == y.nm.toList <;> cases x.id == y.id <;> cases x.priv.val == y.priv.val <;> cases x.pub.val == y.pub.val <;> rfl
theorem NC_whole (x : Nod) : ((NC x).drop 0).take 66 = NC x := by rw [List.drop_zero, List.take_of_length_le (by rw [NC_length]; omega)]
set_option maxRecDepth 100000 in
theorem run_eqF_dnode (x y : Nod) (w : World) {fs : Array Field} (hu : Try.prog.underlying 52 = some (.struct fs)) : (Op.eqFields 9999 (NC x).toArray (NC y).toArray fs.toList).run Try.prog w = .ok (eqNod x y) w := by
  rw [Try.underlying52] at hu
  cases hu
  rw [Op.eqFields, if_pos (by decide)]
  simp only [Sem.run_bind, run_part_agg Try.underlying50 rfl size66 (NC x) _ (NC_whole x), run_part_agg Try.underlying50 rfl size66 (NC y) _ (NC_whole y), Result.andThen_ok]
  rw [run_eqIn_s Try.underlying50 (by kernel_rfl) 9998, run_eqF_nodD 9996 x y w Try.underlying50]
  cases eqNod x y <;> simp [Op.eqFields]
theorem eqg_dnode : Try.prog.eqGuardType Try.prog.depth 52 = false := by kernel_rfl
@[go_sem high] theorem eqGuard_dnode (op : BinOp) (x y : Operand) (xs ys : Array Value) (w : World) : (eqGuard op 52 x y (.agg xs) (.agg ys)).run Try.prog w = .ok () w := run_eqGuard_agg w op _ x y xs ys eqg_dnode
set_option maxRecDepth 100000 in
@[go_sem high] theorem run_eql_dnode (x y : Nod) (w : World) : (binOp .eql 52 (.agg (NC x).toArray) (.agg (NC y).toArray)).run Try.prog w = .ok (.bool (eqNod x y)) w := by
  rw [run_eql_s Try.underlying52 (by kernel_rfl), run_eqF_dnode x y w Try.underlying52]
  rfl
end Go.Proofs.Ytkibgdigcgakfaa
