/-
  A struct that is built with one part of several cells.
  Structs: built of several parts, compared part by part.
  Structs and arrays that are nothing but bytes: parts loaded, stored, sliced.
-/
import Derived.Test.YtkibgdigcgakfabGreatMem
import Derived.Laws.Tables
import Derived.Test.YtkibgdigcgakfabGreatMemP
namespace Go.Proofs.YtkibgdigcgakfabGreat
open Go.RowKit

theorem foldl_splice : ∀ (vs : List Value) (k off : Nat) (cells : List Value), off + vs.length ≤ cells.length →
    (vs.zipIdx k).foldl (fun (cs : Array Value) (x : Value × Nat) => cs.setIfInBounds (off - k + x.2) x.1) cells.toArray = (spliced cells off vs).toArray ∨ off < k
  | [], k, off, cells, _ => .inl (by simp [spliced])
  | v :: vs, k, off, cells, h => by
    rcases Nat.lt_or_ge off k with hk | hk
    · exact .inr hk
    left
    simp only [List.length_cons] at h
    have ih := foldl_splice vs (k + 1) (off + 1) (cells.set off v) (by simp; omega)
    rcases ih with ih | ih
    · rw [List.zipIdx_cons, List.foldl_cons, show off - k + k = off by omega]
      simp only [List.setIfInBounds_toArray]
      rw [show off + 1 - (k + 1) = off - k by omega] at ih
      rw [ih]
      congr 1
      rw [spliced, spliced, List.take_succ_eq_append_getElem (by simp; omega), List.drop_set_of_lt (by omega)]
      simp only [List.take_set_of_le (Nat.le_refl off), List.getElem_set_self, List.append_assoc, List.cons_append, List.nil_append, List.length_cons, show off + 1 + vs.length = off + (vs.length + 1) by omega]
    · omega
theorem fold_cells (vs cells : List Value) (off : Nat) (h : off + vs.length ≤ cells.length) :
    vs.toArray.zipIdx.foldl (fun (cs : Array Value) (x : Value × Nat) => cs.setIfInBounds (off + x.2) x.1) cells.toArray = (spliced cells off vs).toArray := by
  rcases foldl_splice vs 0 off cells h with h | h
  · rw [← Array.foldl_toList, Array.toList_zipIdx]
    simpa using h
  · omega
theorem built_one {P : Program} {t : TypeId} {i off : Nat} {zs vs : List Value} {fs : Array Field} {pl : List (Nat × Nat)} (hu : P.underlying t = some (.struct fs)) (hz : (P.info? t).bind (·.zero) = some (.agg zs.toArray))
    (hp : (fs.toList.mapM fun f => (P.info? f.type).map fun i => (f.offset, i.size)) = some pl) (hpi : pl[i]? = some (off, vs.length)) (hfit : off + vs.length ≤ zs.length) : P.built t [(i, .agg vs.toArray)] = some (spliced zs off vs).toArray := by
  cases hq : P.info? t with
  | none => simp [hq] at hz
  | some it =>
    have hz' : it.zero = some (.agg zs.toArray) := by simpa [hq] using hz
    have hc : (Value.agg vs.toArray).cells = vs.toArray := rfl
    have hc2 : (Value.agg zs.toArray).cells = zs.toArray := rfl
    unfold Program.built
    rw [hq, hu]
    simp only [hz', hp, Instr.fill, List.getElem?_toArray, hpi, hc, hc2, List.size_toArray]
    rw [if_neg (by simp; omega), fold_cells _ _ _ hfit]
end Go.Proofs.YtkibgdigcgakfabGreat
namespace Go.Proofs.YtkibgdigcgakfabGreat
open Go.RowKit

theorem built_struct {P : Program} {t : TypeId} {zs : List Value} {fs : Array Field} {pl : List (Nat × Nat)} (hu : P.underlying t = some (.struct fs)) (hz : (P.info? t).bind (·.zero) = some (.agg zs.toArray))
    (hp : (fs.toList.mapM fun f => (P.info? f.type).map fun i => (f.offset, i.size)) = some pl) (parts : List (Nat × Value)) : P.built t parts = Instr.fill (pl.toArray[·]?) zs.toArray parts := by
  cases hq : P.info? t with
  | none => simp [hq] at hz
  | some it =>
    have hz' : it.zero = some (.agg zs.toArray) := by simpa [hq] using hz
    have hc2 : (Value.agg zs.toArray).cells = zs.toArray := rfl
    unfold Program.built
    rw [hq, hu]
    simp only [hz', hp, hc2]
theorem fill_cons {place : Nat → Option (Nat × Nat)} {i off : Nat} {cells vs : List Value} {v : Value} {rest : List (Nat × Value)} (hv : v.cells = vs.toArray) (hpi : place i = some (off, vs.length)) (hfit : off + vs.length ≤ cells.length) :
    Instr.fill place cells.toArray ((i, v) :: rest) = Instr.fill place (spliced cells off vs).toArray rest := by
  simp only [Instr.fill, hpi, hv, List.size_toArray]
  rw [if_neg (by simp; omega), fold_cells _ _ _ hfit]
theorem fill_nil {place : Nat → Option (Nat × Nat)} {cells : Array Value} : Instr.fill place cells [] = some cells := rfl

section
variable {P : Program} {ops : Array Oper} {rest : List Oper} {o : Oper} {a : Act} {w : World} {Q : Exit → Act → World → Prop}
/-- A value of several cells is loaded, under a guard too. -/
theorem wpList_load_at (hw : Region.wanted o (yielded ops a.tmps) = true) (ty : TypeId) (x : Operand) (ho : o.op = .load ty x) (g off : Nat) (vs : List Value) (hc : ∀ j v, vs[j]? = some v → w.cell? ⟨g, off + j, none⟩ = some v)
    (hx : a.eval x = .pointer (some ⟨g, off, none⟩)) (d : TypeDesc) (hu : P.underlying ty = some d) (hd : aggDesc d = true) (hi : (P.info? ty).map (·.size) = some vs.length)
    (h : wpList P ops Q rest (a.put o.dst (.agg vs.toArray)) w) : wpList P ops Q (o :: rest) a w := by
  refine BigFrame.wpList_want hw fun K hK => ?_
  unfold Oper.wp
  simp only [execOp, ho, hx, Instr.loadAt, Instr.sureAddr, Sem.run_bind, Sem.run_pure, Result.andThen_ok, run_loadVar_agg w g off ty vs d hc hu hd hi]
  exact hK _ _ h
/-- Built, under a guard too. -/
theorem wpList_build_w (hw : Region.wanted o (yielded ops a.tmps) = true) (t : TypeId) (parts : Array (Nat × Operand)) (ho : o.op = .build t parts) (vs : List Value) (hb : P.built t (parts.map fun (i, x) => (i, a.eval x)).toList = some vs.toArray)
    (h : wpList P ops Q rest (a.put o.dst (.agg vs.toArray)) w) : wpList P ops Q (o :: rest) a w :=
  BigFrame.wpList_want hw fun K hK => wp_build t parts ho (by rw [hb]; rfl) (by rw [hb]; exact hK _ _ h)
end
theorem size32c : (Tryz.prog.info? 91).map (·.size) = some 32 := by kernel_rfl
theorem run_part_agg {P : Program} {t : TypeId} {n k : Nat} {d : TypeDesc} (hu : P.underlying t = some d) (hd : aggDesc d = true) (hs : (P.info? t).map (·.size) = some n) (zs r : List Value) (hz : (zs.drop k).take n = r) (w : World) :
    (part t zs.toArray k).run P w = .ok (.agg r.toArray) w := by
  have hs : (sizeOf t).run P w = .ok n w := by
    cases hq : P.info? t with
    | none => simp [hq] at hs
    | some inf =>
      have hsz : inf.size = n := by simpa [hq] using hs
      simp [sizeOf, typeInfo, hq, hsz]
  have ha : (isAgg t).run P w = .ok true w := by
    unfold isAgg
    simp only [Sem.run_bind, run_underlying hu]
    cases d <;> simp_all [aggDesc]
  unfold part
  simp only [Sem.run_bind, ha, Result.andThen_ok, if_true, hs, Sem.run_pure]
  rw [← hz]
  simp
/-- Structs of parts of 32 bytes each: compared part by part. -/
theorem run_eqP_cons {P : Program} {d n k : Nat} {t e : TypeId} {f : Field} {fs : List Field} (hf : f.type = t) (hu : P.underlying t = some (.array n e)) (hs : (P.info? t).map (·.size) = some n) (hs1 : (P.info? e).map (·.size) = some 1) (he : P.underlying e = some (.int .u8))
    (hn : f.name ≠ "_") {xs ys : List Value} {p q : List UInt8} (ho : f.offset = k) (hp : (xs.drop k).take n = p.map W8) (hq : (ys.drop k).take n = q.map W8) (hpl : p.length = n) (hql : q.length = n) (w : World) :
    (Op.eqFields (d + 2) xs.toArray ys.toArray (f :: fs)).run P w = if p == q then (Op.eqFields (d + 2) xs.toArray ys.toArray fs).run P w else .ok false w := by
  rw [Op.eqFields, if_pos hn]
  simp only [Sem.run_bind, hf, ho, run_part_agg hu rfl hs xs _ hp, run_part_agg hu rfl hs ys _ hq, Result.andThen_ok]
  rw [run_equalIn_arr w 0 W8 d t e n hu hs1 he rfl (heq_w8 _ _ he) p q hpl hql]
  simp only [Result.andThen_ok]
  cases p == q <;> simp
theorem run_eq32_cons {d : Nat} {f : Field} {fs : List Field} (hf : f.type = 91) (hn : f.name ≠ "_") {xs ys : List Value} {p q : List UInt8} {k : Nat} (ho : f.offset = k) (hp : (xs.drop k).take 32 = p.map W8) (hq : (ys.drop k).take 32 = q.map W8) (hpl : p.length = 32) (hql : q.length = 32) (w : World) :
    (Op.eqFields (d + 2) xs.toArray ys.toArray (f :: fs)).run Tryz.prog w = if p == q then (Op.eqFields (d + 2) xs.toArray ys.toArray fs).run Tryz.prog w else .ok false w :=
  run_eqP_cons hf Tryz.underlying91 size32c size8 Tryz.underlying5 hn ho hp hq hpl hql w
theorem run_eql_s {P : Program} {t : TypeId} {fs : Array Field} (hu : P.underlying t = some (.struct fs)) (hp : P.stoodInHeld t = false) (xs ys : Array Value) (w : World) :
    (binOp .eql t (.agg xs) (.agg ys)).run P w = ((Op.eqFields 9999 xs ys fs.toList).run P w).andThen fun b w' => .ok (.bool b) w' := by
  have e : P.fieldsOf t = fs := by unfold Program.fieldsOf; rw [hu]
  rw [run_eql_struct, run_equalIn_struct w 9999 t xs ys (by rw [e]; exact hu) hp, e]
theorem run_neq_s {P : Program} {t : TypeId} {fs : Array Field} (hu : P.underlying t = some (.struct fs)) (hp : P.stoodInHeld t = false) (xs ys : Array Value) (w : World) :
    (binOp .neq t (.agg xs) (.agg ys)).run P w = ((Op.eqFields 9999 xs ys fs.toList).run P w).andThen fun b w' => .ok (.bool (!b)) w' := by
  have e : P.fieldsOf t = fs := by unfold Program.fieldsOf; rw [hu]
  rw [run_neq_struct, run_equalIn_struct w 9999 t xs ys (by rw [e]; exact hu) hp, e]
theorem run_eq32_nil {d : Nat} {xs ys : Array Value} (w : World) : (Op.eqFields d xs ys []).run Tryz.prog w = .ok true w := by
  rw [Op.eqFields]
  simp
end Go.Proofs.YtkibgdigcgakfabGreat
namespace Go.Proofs.YtkibgdigcgakfabGreat
open Go.RowKit

theorem Blk.cast {w : World} {g : Nat} {t : TypeId} {l l' : List Value} (h : Blk w g t l) (e : l = l') : Blk w g t l' := e ▸ h
/-- n bytes from off on. -/
def subB (bs : List UInt8) (off n : Nat) : List UInt8 := (bs.drop off).take n
/-- vs written at off. -/
def putB (bs : List UInt8) (off : Nat) (vs : List UInt8) : List UInt8 := bs.take off ++ vs ++ bs.drop (off + vs.length)
theorem subB_length {bs : List UInt8} {off n : Nat} (h : off + n ≤ bs.length) : (subB bs off n).length = n := by
  rw [subB, List.length_take, List.length_drop]
  omega
theorem putB_length {bs vs : List UInt8} {off : Nat} (h : off + vs.length ≤ bs.length) : (putB bs off vs).length = bs.length := by
  rw [putB, List.length_append, List.length_append, List.length_take, List.length_drop]
  omega
theorem putB_map (bs vs : List UInt8) (off : Nat) : spliced (bs.map W8) off (vs.map W8) = (putB bs off vs).map W8 := by
  rw [spliced, putB, List.length_map, List.map_append, List.map_append, List.map_take, List.map_drop]
theorem subB_here (p q r : List UInt8) (off n : Nat) (hp : p.length = off) (hq : q.length = n) : subB (p ++ (q ++ r)) off n = q := by
  rw [subB, List.drop_left' hp, List.take_left' hq]
theorem subB_first (q r : List UInt8) (n : Nat) (hq : q.length = n) : subB (q ++ r) 0 n = q := subB_here [] q r 0 n rfl hq
theorem subB_last (p q : List UInt8) (off n : Nat) (hp : p.length = off) (hq : q.length = n) : subB (p ++ q) off n = q := by
  have := subB_here p q [] off n hp hq
  rwa [List.append_nil] at this
theorem subB_get {bs : List UInt8} {off n j : Nat} {v : UInt8} (h : (subB bs off n)[j]? = some v) : bs[off + j]? = some v := by
  rw [subB, List.getElem?_take] at h
  split at h
  · rwa [List.getElem?_drop] at h
  · cases h
theorem putB_here (p q r v : List UInt8) (off : Nat) (hp : p.length = off) (hq : q.length = v.length) : putB (p ++ (q ++ r)) off v = p ++ (v ++ r) := by
  rw [putB, List.take_left' hp, ← List.drop_drop, List.drop_left' hp, List.drop_left' hq, List.append_assoc]
theorem putB_first (q r v : List UInt8) (hq : q.length = v.length) : putB (q ++ r) 0 v = v ++ r := putB_here [] q r v 0 rfl hq
theorem putB_last (p q v : List UInt8) (off : Nat) (hp : p.length = off) (hq : q.length = v.length) : putB (p ++ q) off v = p ++ v := by
  have := putB_here p q [] v off hp hq
  rwa [List.append_nil, List.append_nil] at this
theorem putB_all (bs vs : List UInt8) (h : vs.length = bs.length) : putB bs 0 vs = vs := by
  rw [putB, List.take_zero, List.nil_append, Nat.zero_add, List.drop_of_length_le (by omega), List.append_nil]
theorem cells_sub {w : World} {g : Nat} {t : TypeId} {bs r : List UInt8} {off n : Nat} (hb : Blk w g t (bs.map W8)) (hr : subB bs off n = r) : ∀ j v, (r.map W8)[j]? = some v → w.cell? ⟨g, off + j, none⟩ = some v := by
  intro j v hv
  rw [List.getElem?_map, Option.map_eq_some_iff] at hv
  obtain ⟨x, hx, rfl⟩ := hv
  rw [← hr] at hx
  exact hb.cellD _ (by rw [List.getElem?_map, subB_get hx]; rfl)
/-- Bytes of such a block read as a slice. -/
theorem rdB_sub {w : World} {g : Nat} {t : TypeId} {bs r : List UInt8} {off n : Nat} (hb : Blk w g t (bs.map W8)) (hr : subB bs off n = r) (hn : r.length = n) : RdB w (some ⟨g, off, none⟩) n r :=
  ⟨by rw [List.length_map, hn], fun _ => ⟨g, off, rfl, hb.lt, fun j u hu => cells_sub hb hr j u hu⟩⟩
section
variable {P : Program} {ops : Array Oper} {rest : List Oper} {o : Oper} {a : Act} {w : World} {Q : Exit → Act → World → Prop}
theorem load_Y (off n : Nat) (hw : Region.wanted o (yielded ops a.tmps) = true) {ty : TypeId} (x : Operand) (ho : o.op = .load ty x) {g : Nat} {t : TypeId} {bs r : List UInt8} (hb : Blk w g t (bs.map W8)) (hx : a.eval x = .pointer (some ⟨g, off, none⟩)) {d : TypeDesc} (hu : P.underlying ty = some d) (hd : aggDesc d = true)
    (hi : (P.info? ty).map (·.size) = some n) (hr : subB bs off n = r) (hn : r.length = n) (h : wpList P ops Q rest (a.put o.dst (.agg (r.map W8).toArray)) w) : wpList P ops Q (o :: rest) a w :=
  wpList_load_at hw ty x ho g off (r.map W8) (cells_sub hb hr) hx d hu hd (by rw [List.length_map, hn]; exact hi) h
theorem quiet_Y (off n : Nat) {K : Act → Prop} {ty : TypeId} (x : Operand) (ho : o.op = .load ty x) {w0 : World} {g : Nat} {t : TypeId} {bs r : List UInt8} (hb : Blk w0 g t (bs.map W8)) (hx : a.eval x = .pointer (some ⟨g, off, none⟩)) {d : TypeDesc} (hu : P.underlying ty = some d) (hd : aggDesc d = true)
    (hi : (P.info? ty).map (·.size) = some n) (hr : subB bs off n = r) (hn : r.length = n) (h : K (a.put o.dst (.agg (r.map W8).toArray))) : o.quiet P a (fun w' => ∃ x, w' = grow w0 x) K :=
  quiet_load_agg ty x ho g off (r.map W8) (fun w' hw j v hv => by obtain ⟨y, rfl⟩ := hw; exact cells_sub (hb.later ⟨y, rfl⟩) hr j v hv) hx d hu hd (by rw [List.length_map, hn]; exact hi) h
theorem store_Y (off n : Nat) (hgd : o.guard = none) (hd : o.dst = none) {ty : TypeId} (x y : Operand) (ho : o.op = .store ty x y) {g : Nat} {t : TypeId} {bs vs : List UInt8} (hg : Blk w g t (bs.map W8)) (hx : a.eval x = .pointer (some ⟨g, off, none⟩)) (hy : a.eval y = .agg (vs.map W8).toArray)
    (hi : (P.info? ty).map (·.size) = some n) (hn : vs.length = n) (hfit : off + n ≤ bs.length) (h : ∀ w', Blk w' g t ((putB bs off vs).map W8) → Only g w w' → wpList P ops Q rest a w') : wpList P ops Q (o :: rest) a w :=
  wpList_store_agg hgd hd ty x y ho g off t _ (vs.map W8) hg hx hy (by rw [List.length_map, hn]; exact hi) (by rw [List.length_map, List.length_map]; omega) (w8_one _) (fun w' hb => h w' (by rwa [putB_map] at hb))
/-- A whole value over whatever stood there. -/
theorem store_Z (n : Nat) (hgd : o.guard = none) (hd : o.dst = none) {ty : TypeId} (x y : Operand) (ho : o.op = .store ty x y) {g : Nat} {t : TypeId} {l : List Value} {vs : List UInt8} (hg : Blk w g t l) (hx : a.eval x = .pointer (some ⟨g, 0, none⟩)) (hy : a.eval y = .agg (vs.map W8).toArray)
    (hi : (P.info? ty).map (·.size) = some n) (hn : vs.length = n) (hl : l.length = n) (h : ∀ w', Blk w' g t (vs.map W8) → Only g w w' → wpList P ops Q rest a w') : wpList P ops Q (o :: rest) a w :=
  wpList_store_agg hgd hd ty x y ho g 0 t l (vs.map W8) hg hx hy (by rw [List.length_map, hn]; exact hi) (by rw [List.length_map]; omega) (w8_one _) (fun w' hb => h w' (by rwa [spliced_all _ _ (by rw [List.length_map]; omega)] at hb))
/-- copy(x.F[:], s) into such a block. -/
theorem copy_Y (off m : Nat) (hgd : o.guard = none) (dd s : Operand) (dT sT : TypeId) (ho : o.op = .call { callee := .builtin .copy, args := #[dd, s], argTypes := #[dT, sT] }) (elem : TypeId) (hu : P.underlying dT = some (.slice elem)) (hsz : (P.info? elem).map (·.size) = some 1)
    {g c : Nat} {t : TypeId} {bs : List UInt8} (hg : Blk w g t (bs.map W8)) {A : Option Addr} {c2 : Nat} {vs : List UInt8} (hr : RdB w A m vs) (hd : a.eval dd = .slice (some ⟨g, off, none⟩) m c) (hs : a.eval s = .slice A m c2) (hfit : off + m ≤ bs.length)
    (h : ∀ w', Blk w' g t ((putB bs off vs).map W8) → Only g w w' → wpList P ops Q rest (a.put o.dst (.int .i64 ((m : Nat) : Int))) w') : wpList P ops Q (o :: rest) a w :=
  wpList_copy_rd hgd dd s dT sT ho elem hu hsz g off m c t _ hg A m c2 (vs.map W8) hr (w8_one _) hd hs (by rw [List.length_map]; exact hfit) (fun w' hb ho => by
    rw [List.take_of_length_le (by rw [List.length_map, hr.len]; exact Nat.le_refl _), putB_map] at hb
    rw [Nat.min_self]
    exact h w' hb ho)
end
/-- A struct of bytes is built: each part in its place. -/
def putAll (bs : List UInt8) : List (Nat × List UInt8) → List UInt8
  | [] => bs
  | (off, vs) :: r => putAll (putB bs off vs) r
theorem fill_bytes (place : Nat → Option (Nat × Nat)) : ∀ (parts : List (Nat × Nat × List UInt8)) (bs : List UInt8), (∀ p ∈ parts, place p.1 = some (p.2.1, p.2.2.length) ∧ p.2.1 + p.2.2.length ≤ bs.length) →
    Instr.fill place (bs.map W8).toArray (parts.map fun p => (p.1, .agg (p.2.2.map W8).toArray)) = some ((putAll bs (parts.map fun p => (p.2.1, p.2.2))).map W8).toArray
  | [], bs, _ => rfl
  | (i, off, vs) :: r, bs, h => by
    have h0 := h (i, off, vs) (by simp)
    rw [List.map_cons, fill_cons (vs := vs.map W8) (off := off) rfl (by rw [List.length_map]; exact h0.1) (by rw [List.length_map, List.length_map]; exact h0.2), putB_map, fill_bytes place r (putB bs off vs) fun p hp => ?_]
    · rfl
    · have := h p (by simp [hp])
      rw [putB_length h0.2]
      exact this
theorem built_bytes {P : Program} {t : TypeId} {n : Nat} {fs : Array Field} {pl : List (Nat × Nat)} (hu : P.underlying t = some (.struct fs)) (hz : (P.info? t).bind (·.zero) = some (.agg (List.replicate n (W8 0)).toArray))
    (hp : (fs.toList.mapM fun f => (P.info? f.type).map fun i => (f.offset, i.size)) = some pl) (parts : List (Nat × Nat × List UInt8)) (hpl : ∀ p ∈ parts, pl.toArray[p.1]? = some (p.2.1, p.2.2.length) ∧ p.2.1 + p.2.2.length ≤ n) :
    P.built t (parts.map fun p => (p.1, .agg (p.2.2.map W8).toArray)) = some ((putAll (List.replicate n 0) (parts.map fun p => (p.2.1, p.2.2))).map W8).toArray := by
  rw [built_struct hu hz hp, show List.replicate n (W8 0) = (List.replicate n (0 : UInt8)).map W8 by rw [List.map_replicate], fill_bytes _ parts _ (fun p hp => by rw [List.length_replicate]; exact hpl p hp)]
end Go.Proofs.YtkibgdigcgakfabGreat
