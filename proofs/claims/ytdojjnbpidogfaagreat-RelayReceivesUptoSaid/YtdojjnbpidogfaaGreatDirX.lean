/-
  dir: names in form.
  Nodes in memory: a name, a number, two keys.
  dir: keys in new memory, directories of one's own.
  dir: do the keys of a directory fit.
  dir: nodes that are made.
  dir.Make.
  dir: nodes are built and compared.
  shallotlaw09: awake; the law DirChecks.
  shallotref09: Same, Make.
  dir: nodes are found.
-/
import Derived.Test.YtdojjnbpidogfaaGreatMemP
import Derived.Test.YtdojjnbpidogfaaGreatRowP
import Derived.Test.YtdojjnbpidogfaaGreatHelp
import Derived.Test.YtdojjnbpidogfaaGreatFLaws
import Derived.Test.YtdojjnbpidogfaaGreatStrP
import Derived.Test.YtdojjnbpidogfaaGreatCurveD
import Derived.Test.YtdojjnbpidogfaaGreatBagMore
import Derived.Test.YtdojjnbpidogfaaGreatMacP
namespace Go.Proofs.YtdojjnbpidogfaaGreat
open Go.RowKit
open Go.BigFrame

end Go.Proofs.YtdojjnbpidogfaaGreat
namespace Go.Proofs.YtdojjnbpidogfaaGreat
open Go.RowKit
open Go.BigFrame

/-- A node. -/
structure Nod where
  nm : ByteArray
  id : UInt64
  priv : Y32
  pub : Y32
def zero32 : Y32 := ⟨List.replicate 32 0, by simp⟩
def nod0 : Nod := ⟨.empty, 0, zero32, zero32⟩
/-- A node's cells. -/
def NC (x : Nod) : List Value := .string x.nm :: W64 x.id :: (x.priv.val.map W8 ++ x.pub.val.map W8)
theorem NC_length (x : Nod) : (NC x).length = 66 := by simp [NC, x.priv.2, x.pub.2]
theorem below_succ {p : Nat → Prop} {k : Nat} (h : ∀ j, j < k → p j) (hk : p k) : ∀ j, j < k + 1 → p j := by
  intro j hj
  rcases Nat.lt_or_ge j k with h1 | h1
  · exact h j h1
  · obtain rfl : j = k := by omega
    exact hk
end Go.Proofs.YtdojjnbpidogfaaGreat
namespace Go.Proofs.YtdojjnbpidogfaaGreat
open Go.RowKit
open Go.BigFrame

end Go.Proofs.YtdojjnbpidogfaaGreat
namespace Go.Proofs.YtdojjnbpidogfaaGreat
open Go.RowKit
open Go.BigFrame

section
variable {ops : Array Oper} {rest : List Oper} {o : Oper} {a : Act} {w : World} {Q : Exit → Act → World → Prop}
end
end Go.Proofs.YtdojjnbpidogfaaGreat
namespace Go.Proofs.YtdojjnbpidogfaaGreat
open Go.RowKit
open Go.BigFrame

/-! ### Cells of a node that are turned -/
theorem NC_nm (x : Nod) (s : ByteArray) : NC { x with nm := s } = spliced (NC x) 0 [.string s] := by simp [NC, spliced]
theorem NC_id (x : Nod) (i : UInt64) : NC { x with id := i } = spliced (NC x) 1 [W64 i] := by simp [NC, spliced]
/-! ### Lists by place -/
/-! ### The nodes -/
end Go.Proofs.YtdojjnbpidogfaaGreat
namespace Go.Proofs.YtdojjnbpidogfaaGreat
open Go.RowKit
open Go.BigFrame

end Go.Proofs.YtdojjnbpidogfaaGreat
namespace Go.Proofs.YtdojjnbpidogfaaGreat
open Go.RowKit
open Go.BigFrame

theorem run_part_one {P : Program} {t : TypeId} {d : TypeDesc} {k : Nat} {v : Value} (hu : P.underlying t = some d) (hd : aggDesc d = false) {zs : List Value} (hz : zs[k]? = some v) (w : World) : (part t zs.toArray k).run P w = .ok v w := by
  have ha : (isAgg t).run P w = .ok false w := by
    unfold isAgg
    simp only [Sem.run_bind, run_underlying hu]
    cases d <;> simp_all [aggDesc]
  unfold part
  simp [Sem.run_bind, ha, Result.andThen_ok, hz]
theorem run_eqS_cons {P : Program} {d k : Nat} {t : TypeId} {f : Field} {fs : List Field} (hf : f.type = t) (hu : P.underlying t = some .string) (hn : f.name ≠ "_") {xs ys : List Value} {p q : ByteArray} (ho : f.offset = k) (hp : xs[k]? = some (.string p)) (hq : ys[k]? = some (.string q)) (w : World) :
    (Op.eqFields (d + 1) xs.toArray ys.toArray (f :: fs)).run P w = if p.toList == q.toList then (Op.eqFields (d + 1) xs.toArray ys.toArray fs).run P w else .ok false w := by
  rw [Op.eqFields, if_pos hn]
  simp only [Sem.run_bind, hf, ho, run_part_one hu rfl hp, run_part_one hu rfl hq, Result.andThen_ok, run_equalIn_string w d t p q hu]
  cases p.toList == q.toList <;> simp
theorem run_eq64_cons {P : Program} {d k : Nat} {t : TypeId} {f : Field} {fs : List Field} (hf : f.type = t) (hu : P.underlying t = some (.int .u64)) (hn : f.name ≠ "_") {xs ys : List Value} {p q : UInt64} (ho : f.offset = k) (hp : xs[k]? = some (W64 p)) (hq : ys[k]? = some (W64 q)) (w : World) :
    (Op.eqFields (d + 1) xs.toArray ys.toArray (f :: fs)).run P w = if p == q then (Op.eqFields (d + 1) xs.toArray ys.toArray fs).run P w else .ok false w := by
  rw [Op.eqFields, if_pos hn]
  simp only [Sem.run_bind, hf, ho, run_part_one hu rfl hp, run_part_one hu rfl hq, Result.andThen_ok, heq_w64 t _ hu d p q w]
  cases p == q <;> simp
/-- Are two nodes the same. -/
def eqNod (x y : Nod) : Bool := x.nm.toList == y.nm.toList && (x.id == y.id && (x.priv.val == y.priv.val && x.pub.val == y.pub.val))
@[go_sem] theorem eqNod_self (x : Nod) : eqNod x x = true := by simp [eqNod]
theorem NC_priv32 (x : Nod) : ((NC x).drop 2).take 32 = x.priv.val.map W8 := by
  have h1 : (x.priv.val.map W8).length = 32 := by rw [List.length_map, x.priv.2]
  rw [NC, List.drop_succ_cons, List.drop_succ_cons, List.drop_zero, List.take_left' h1]
theorem NC_pub32 (x : Nod) : ((NC x).drop 34).take 32 = x.pub.val.map W8 := by
  have h1 : (x.priv.val.map W8).length = 32 := by rw [List.length_map, x.priv.2]
  rw [NC, show (34 : Nat) = 32 + 1 + 1 from rfl, List.drop_succ_cons, List.drop_succ_cons, List.drop_left' h1, List.take_of_length_le (by rw [List.length_map, x.pub.2]; omega)]
set_option maxRecDepth 100000 in
theorem run_eqF_nod (x y : Nod) (w : World) {fs : Array Field} (hu : Tryz.prog.underlying 71 = some (.struct fs)) : (Op.eqFields 9999 (NC x).toArray (NC y).toArray fs.toList).run Tryz.prog w = .ok (eqNod x y) w := by
  rw [Tryz.underlying71] at hu
  cases hu
  rw [run_eqS_cons (d := 9998) (k := 0) rfl Tryz.underlying9 (by decide) rfl rfl rfl, run_eq64_cons (d := 9998) (k := 1) rfl Tryz.underlying25 (by decide) rfl rfl rfl,
    run_eq32_cons (d := 9997) (k := 2) rfl (by decide) rfl (NC_priv32 x) (NC_priv32 y) x.priv.2 y.priv.2, run_eq32_cons (d := 9997) (k := 34) rfl (by decide) rfl (NC_pub32 x) (NC_pub32 y) x.pub.2 y.pub.2, run_eq32_nil]
  rw [eqNod]
  cases x.nm.toList == y.nm.toList <;> cases x.id == y.id <;> cases x.priv.val == y.priv.val <;> cases x.pub.val == y.pub.val <;> rfl
theorem eqg_nod : Tryz.prog.eqGuardType Tryz.prog.depth 71 = false := by kernel_rfl
@[go_sem high] theorem eqGuard_nod (op : BinOp) (x y : Operand) (xs ys : Array Value) (w : World) : (eqGuard op 71 x y (.agg xs) (.agg ys)).run Tryz.prog w = .ok () w := run_eqGuard_agg w op _ x y xs ys eqg_nod
set_option maxRecDepth 100000 in
@[go_sem high] theorem run_eql_nod (x y : Nod) (w : World) : (binOp .eql 71 (.agg (NC x).toArray) (.agg (NC y).toArray)).run Tryz.prog w = .ok (.bool (eqNod x y)) w := by
  rw [run_eql_s Tryz.underlying71 (by kernel_rfl), run_eqF_nod x y w Tryz.underlying71]
  rfl
set_option maxRecDepth 100000 in
@[go_sem high] theorem run_neq_nod (x y : Nod) (w : World) : (binOp .neq 71 (.agg (NC x).toArray) (.agg (NC y).toArray)).run Tryz.prog w = .ok (.bool (!eqNod x y)) w := by
  rw [run_neq_s Tryz.underlying71 (by kernel_rfl), run_eqF_nod x y w Tryz.underlying71]
  rfl
section
variable {P : Program} {ops : Array Oper} {rest : List Oper} {o : Oper} {a : Act} {w : World} {Q : Exit → Act → World → Prop}
end
theorem zeroN : (Tryz.prog.info? 71).bind (·.zero) = some (.agg (NC nod0).toArray) := by kernel_rfl
theorem built_nod2 (s : ByteArray) (i : UInt64) : Tryz.prog.built 71 [(0, .string s), (1, W64 i)] = some (NC ⟨s, i, zero32, zero32⟩).toArray := by
  rw [built_struct (pl := [(0, 1), (1, 1), (2, 32), (34, 32)]) Tryz.underlying71 zeroN (by kernel_rfl), fill_cons (vs := [.string s]) (off := 0) rfl rfl (by rw [NC_length]; simp), ← NC_nm, fill_cons (vs := [W64 i]) (off := 1) rfl rfl (by rw [NC_length]; simp), fill_nil, ← NC_id]
  rfl
end Go.Proofs.YtdojjnbpidogfaaGreat
namespace Go.Proofs.YtdojjnbpidogfaaGreat
open Go.RowKit
open Go.BigFrame

end Go.Proofs.YtdojjnbpidogfaaGreat
namespace Go.Proofs.YtdojjnbpidogfaaGreat
open Go.RowKit
open Go.BigFrame

/-! ### Rows with room behind -/
section
variable {ops : Array Oper} {rest : List Oper} {o : Oper} {a : Act} {w : World} {Q : Exit → Act → World → Prop}
end
end Go.Proofs.YtdojjnbpidogfaaGreat
namespace Go.Proofs.YtdojjnbpidogfaaGreat
open Go.RowKit
open Go.BigFrame

theorem zeroD : (Tryz.prog.info? 76).bind (·.zero) = some (.agg (NC nod0).toArray) := by kernel_rfl
theorem size66d : (Tryz.prog.info? 76).map (·.size) = some 66 := by kernel_rfl
theorem spliced_NC (l : List Value) (x : Nod) (h : l.length = 66) : spliced l 0 (NC x) = NC x := spliced_all _ _ (by rw [NC_length, h])
theorem built_dnode (x : Nod) : Tryz.prog.built 76 [(0, .agg (NC x).toArray)] = some (NC x).toArray := by
  rw [built_struct (pl := [(0, 66)]) Tryz.underlying76 zeroD (by kernel_rfl), fill_cons (vs := NC x) (off := 0) rfl (by rw [NC_length]; rfl) (by rw [NC_length, NC_length]; omega), fill_nil, spliced_NC _ _ (NC_length _)]
section
variable {ops : Array Oper} {rest : List Oper} {o : Oper} {a : Act} {w : World} {Q : Exit → Act → World → Prop}
theorem load_dnode (hgd : Region.wanted o (yielded ops a.tmps) = true) (x : Operand) (ho : o.op = .load 76 x) {g off : Nat} {y : Nod} (hc : ∀ i v, (NC y)[i]? = some v → w.cell? ⟨g, off + i, none⟩ = some v) (hx : a.eval x = .pointer (some ⟨g, off, none⟩))
    (h : wpList Tryz.prog ops Q rest (a.put o.dst (.agg (NC y).toArray)) w) : wpList Tryz.prog ops Q (o :: rest) a w :=
  wpList_load_at hgd _ x ho g off _ hc hx _ Tryz.underlying76 rfl (by rw [NC_length]; exact size66d) h
end
theorem blk_cells {w : World} {g : Nat} {t : TypeId} {y : Nod} (h : Blk w g t (NC y)) : ∀ i v, (NC y)[i]? = some v → w.cell? ⟨g, 0 + i, none⟩ = some v := fun i v hv => by
  rw [Nat.zero_add]
  exact h.cellD i hv
end Go.Proofs.YtdojjnbpidogfaaGreat

