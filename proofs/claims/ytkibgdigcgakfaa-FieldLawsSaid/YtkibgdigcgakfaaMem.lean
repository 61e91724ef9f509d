/-
  Memory: what a slice reads as; blocks that are known whole; later worlds.
-/
import Derived.Test.YtkibgdigcgakfaaBase
import Derived.Laws.CopyOwn
namespace Go.Proofs.Ytkibgdigcgakfaa
open Go.RowKit

/-- The slice value '.slice A n _' reads as these cells (one cell an element). -/
def Rd (w : World) (A : Option Addr) (n : Nat) (vs : List Value) : Prop :=
  vs.length = n ∧ (0 < n → ∃ b o, A = some ⟨b, o, none⟩ ∧ b < w.heap.size ∧ ∀ j u, vs[j]? = some u → w.cell? ⟨b, o + j, none⟩ = some u)
theorem Rd.later {w w' : World} {A : Option Addr} {n : Nat} {vs : List Value} (h : Rd w A n vs) (hl : Later w w') : Rd w' A n vs := by
  refine ⟨h.1, fun hn => ?_⟩
  obtain ⟨b, o, hA, hb, hc⟩ := h.2 hn
  have hB := hl.below
  exact ⟨b, o, hA, Nat.lt_of_lt_of_le hb hB.size, fun j u hu => (hB.cell (p := ⟨b, o + j, none⟩) hb).trans (hc j u hu)⟩
theorem Rd.grow {w : World} {A : Option Addr} {n : Nat} {vs : List Value} (h : Rd w A n vs) (x : More) : Rd (grow w x) A n vs := h.later ⟨x, rfl⟩
theorem Rd.at_ {w : World} {A : Option Addr} {n : Nat} {vs : List Value} (h : Rd w A n vs) (hn : 0 < n) :
    ∃ b o, A = some ⟨b, o, none⟩ ∧ b < w.heap.size ∧ ∀ j (hj : j < n), w.cell? ⟨b, o + j, none⟩ = some (vs[j]'(by rw [h.1]; exact hj)) := by
  obtain ⟨b, o, hA, hb, hc⟩ := h.2 hn
  exact ⟨b, o, hA, hb, fun j hj => hc j _ (List.getElem?_eq_getElem _)⟩
/-- A slice of bytes. -/
def RdB (w : World) (A : Option Addr) (n : Nat) (bs : List UInt8) : Prop := Rd w A n (bs.map W8)
theorem RdB.later {w w' : World} {A : Option Addr} {n : Nat} {bs : List UInt8} (h : RdB w A n bs) (hl : Later w w') : RdB w' A n bs := Rd.later h hl
theorem RdB.len {w : World} {A : Option Addr} {n : Nat} {bs : List UInt8} (h : RdB w A n bs) : bs.length = n := by simpa using h.1
theorem RdB.at_ {w : World} {A : Option Addr} {n : Nat} {bs : List UInt8} (h : RdB w A n bs) (hn : 0 < n) :
    ∃ b o, A = some ⟨b, o, none⟩ ∧ b < w.heap.size ∧ ∀ j, j < n → w.cell? ⟨b, o + j, none⟩ = some (W8 (bs.getD j 0)) := by
  obtain ⟨b, o, hA, hb, hc⟩ := h.2 hn
  refine ⟨b, o, hA, hb, fun j hj => hc j _ ?_⟩
  have hl := h.len
  rw [List.getElem?_map, List.getElem?_eq_getElem (by omega)]
  simp [show j < bs.length by omega]

/-- Block g is just these cells, none of them frozen. -/
def Blk (w : World) (g : Nat) (t : TypeId) (l : List Value) : Prop := w.heap[g]? = some (.cells l.toArray t (0, 0))
section
variable {w w' : World} {g : Nat} {t : TypeId} {l : List Value}
theorem Blk.lt (h : Blk w g t l) : g < w.heap.size := by
  rcases Nat.lt_or_ge g w.heap.size with hlt | hge
  · exact hlt
  · unfold Blk at h
    rw [Array.getElem?_eq_none hge] at h
    cases h
theorem Blk.cell (h : Blk w g t l) (i : Nat) : w.cell? ⟨g, i, none⟩ = l[i]? := by
  rw [cell_of_row w g i l.toArray t (0, 0) h]
  simp
theorem Blk.cellD (h : Blk w g t l) (i : Nat) {u : Value} (hi : l[i]? = some u) : w.cell? ⟨g, i, none⟩ = some u := (h.cell i).trans hi
theorem Blk.frozen (h : Blk w g t l) (i : Nat) : w.frozen? ⟨g, i, none⟩ = false := by
  unfold Blk at h
  simp [World.frozen?, h]
theorem Blk.later (h : Blk w g t l) (hl : Later w w') : Blk w' g t l := (hl.below.block g h.lt).trans h
theorem Blk.set_ (h : Blk w g t l) (i : Nat) (u : Value) : Blk (w.setCell ⟨g, i, none⟩ u) g t (l.set i u) := by
  unfold Blk at h ⊢
  simp [World.setCell, Array.getElem?_modify, h]
theorem Blk.far (h : Blk w g t l) {p : Addr} (hp : g ≠ p.block) (u : Value) : Blk (w.setCell p u) g t l := (Below.heap_setCell w p u g hp).trans h
theorem Blk.new (w : World) (t : TypeId) (l : List Value) : Blk (w.alloc (.cells l.toArray t)) w.heap.size t l := heap_alloc_new w _
theorem Blk.new' {n : Nat} (w : World) (t : TypeId) (l : List Value) (h : w.heap.size = n) : Blk (w.alloc (.cells l.toArray t)) n t l := h ▸ Blk.new w t l
theorem Blk.drew (h : Blk w g t l) : Blk w.drew g t l := h
theorem Blk.ne_type {g' : Nat} {t' : TypeId} {l' : List Value} (h : Blk w g t l) (h' : Blk w g' t' l') (hne : t ≠ t') : g ≠ g' := by
  rintro rfl
  unfold Blk at h h'
  rw [h] at h'
  injection h' with h'
  injection h' with _ ht
  exact hne ht
end
theorem later_alloc (w : World) (o : Obj) : Later w (w.alloc o) := .of_below ((Below.refl _ _).alloc (Nat.le_refl _) o)
theorem later_drew (w : World) : Later w w.drew := .of_below (Below.refl _ _).drew
theorem Later.size {w w' : World} (h : Later w w') : w.heap.size ≤ w'.heap.size := h.below.size
/-- A store into a block that was not there at the beginning. -/
theorem Later.setCell {w w' : World} (h : Later w w') {p : Addr} (hp : w.heap.size ≤ p.block) (u : Value) : Later w (w'.setCell p u) := .of_below (h.below.setCell hp u)
theorem Later.alloc {w w' : World} (h : Later w w') (o : Obj) : Later w (w'.alloc o) := h.trans (later_alloc w' o)
theorem Later.grow {w w' : World} (h : Later w w') (x : More) : Later w (grow w' x) := h.trans ⟨x, rfl⟩
@[go_sem] theorem grow_drew (w : World) (x : More) : (grow w x).drew = grow w ⟨x.blocks, x.drawn + 1⟩ := rfl
theorem Later.drewN {a b : World} (h : Later a b) (n : Nat) : Later a (b.drewN n) := h.trans (.of_below ⟨rfl, rfl, rfl, Nat.le_refl _, fun _ _ => rfl⟩)

/-- Only block g has turned, and what is new. -/
abbrev Only (g : Nat) (w w' : World) : Prop := w.grownBy w' (some g)
theorem Blk.only {w w' : World} {g : Nat} {t : TypeId} {l : List Value} {k : Nat} (h : Blk w g t l) (ho : Only k w w') (hne : g ≠ k) : Blk w' g t l :=
  (ho.block g h.lt (fun e => hne (by injection e))).trans h
theorem Later.only {w0 w w' : World} {k : Nat} (h : Later w0 w) (ho : Only k w w') (hk : w0.heap.size ≤ k) : Later w0 w' :=
  .of_below (h.below.grown ho h.size (fun _ e => by injection e with e; omega))
theorem Rd.only {w w' : World} {A : Option Addr} {n : Nat} {vs : List Value} {k : Nat} (h : Rd w A n vs) (ho : Only k w w') (hne : ∀ b o, A = some ⟨b, o, none⟩ → b ≠ k) : Rd w' A n vs := by
  refine ⟨h.1, fun hn => ?_⟩
  obtain ⟨b, o, hA, hb, hc⟩ := h.2 hn
  exact ⟨b, o, hA, Nat.lt_of_lt_of_le hb ho.size, fun j u hu => (World.cell?_of_block (a := ⟨b, o + j, none⟩) (ho.block b hb (fun e => hne b o hA (by injection e)))).trans (hc j u hu)⟩
theorem only_setCell (w : World) (g i : Nat) (u : Value) : Only g w (w.setCell ⟨g, i, none⟩ u) :=
  ⟨rfl, rfl, rfl, by simp [World.setCell], fun k _ hne => Below.heap_setCell w ⟨g, i, none⟩ u k (fun e => hne (by rw [e]))⟩
theorem only_setRow (w : World) (g : Nat) (cs : Array Value) : Only g w (w.setRow g cs) :=
  ⟨rfl, rfl, rfl, by simp [World.setRow], fun k _ hne => setRow_other w g k cs (fun e => hne (by rw [e]))⟩
theorem Only.trans {g : Nat} {a b c : World} (h : Only g a b) (k : Only g b c) : Only g a c :=
  ⟨k.os.trans h.os, k.tape.trans h.tape, k.output.trans h.output, Nat.le_trans h.size k.size, fun i hi hn => (k.block i (Nat.lt_of_lt_of_le hi h.size) hn).trans (h.block i hi hn)⟩
theorem Only.later {g : Nat} {a b c : World} (h : Only g a b) (k : Later b c) : Only g a c :=
  ⟨k.below.os.trans h.os, k.below.tape.trans h.tape, k.below.output.trans h.output, Nat.le_trans h.size k.size, fun i hi hn => (k.below.block i (Nat.lt_of_lt_of_le hi h.size)).trans (h.block i hi hn)⟩
theorem Later.thenOnly {g : Nat} {a b c : World} (h : Later a b) (k : Only g b c) : Only g a c :=
  ⟨k.os.trans h.below.os, k.tape.trans h.below.tape, k.output.trans h.below.output, Nat.le_trans h.size k.size, fun i hi hn => (k.block i (Nat.lt_of_lt_of_le hi h.size) hn).trans (h.below.block i hi)⟩
theorem Later.onlyAny {a b : World} (h : Later a b) (g : Nat) : Only g a b := ⟨h.below.os, h.below.tape, h.below.output, h.size, fun i hi _ => h.below.block i hi⟩
/-- The writes were to a block that was not there yet. -/
theorem Only.laterOf {g : Nat} {a b : World} (h : Only g a b) (hg : a.heap.size ≤ g) : Later a b := (Later.refl a).only h hg

/-- 'vs' in the place of what lay from 'o' on. -/
def spliced (l : List Value) (o : Nat) (vs : List Value) : List Value := l.take o ++ vs ++ l.drop (o + vs.length)
theorem spliced_length (l : List Value) (o : Nat) (vs : List Value) (h : o + vs.length ≤ l.length) : (spliced l o vs).length = l.length := by
  simp [spliced]
  omega
theorem spliced_all (l vs : List Value) (h : vs.length = l.length) : spliced l 0 vs = vs := by
  simp [spliced, h]

section
variable {P : Program} {ops : Array Oper} {rest : List Oper} {o : Oper} {a : Act} {w : World} {Q : Exit → Act → World → Prop}
def aggDesc : TypeDesc → Bool
  | .struct _ | .array _ _ => true
  | _ => false
theorem add_at (g o j : Nat) : (⟨g, o, none⟩ : Addr).add j = ⟨g, o + j, none⟩ := by
  unfold Addr.add
  split
  · simp_all
  · rfl
/-- A whole value of several cells (an array, a struct) is loaded. -/
theorem run_loadVar_agg (w : World) (g off : Nat) (ty : TypeId) (vs : List Value) (d : TypeDesc) (hc : ∀ j v, vs[j]? = some v → w.cell? ⟨g, off + j, none⟩ = some v)
    (hu : P.underlying ty = some d) (hd : aggDesc d = true) (hi : (P.info? ty).map (·.size) = some vs.length) : (loadVar ty ⟨g, off, none⟩).run P w = .ok (.agg vs.toArray) w := by
  have hl : (loadCells ⟨g, off, none⟩ vs.length).run P w = .ok vs.toArray w :=
    run_loadCells_list (P := P) w ⟨g, off, none⟩ vs (fun j v hv => by rw [add_at]; exact hc j v hv)
  cases hq : P.info? ty with
  | none => simp [hq] at hi
  | some i =>
    have hs : i.size = vs.length := by simpa [hq] using hi
    have hagg : (isAgg ty).run P w = .ok true w := by
      unfold isAgg
      rw [Sem.run_bind, run_underlying hu w]
      cases d <;> first | (simp; done) | (cases hd)
    simp [loadVar, Sem.run_bind, hagg, sizeOf, typeInfo, hq, hs, hl]
theorem wpList_load_agg (hgd : o.guard = none) (ty : TypeId) (x : Operand) (ho : o.op = .load ty x) (g off : Nat) (vs : List Value) (hc : ∀ j v, vs[j]? = some v → w.cell? ⟨g, off + j, none⟩ = some v)
    (hx : a.eval x = .pointer (some ⟨g, off, none⟩)) (d : TypeDesc) (hu : P.underlying ty = some d) (hd : aggDesc d = true) (hi : (P.info? ty).map (·.size) = some vs.length)
    (h : wpList P ops Q rest (a.put o.dst (.agg vs.toArray)) w) : wpList P ops Q (o :: rest) a w :=
  wpList_plain hgd fun K hK => by
    unfold Oper.wp execOp
    simp only [ho, hx, Instr.loadAt, Instr.sureAddr, Sem.run_bind, Sem.run_pure, Result.andThen_ok, run_loadVar_agg w g off ty vs d hc hu hd hi]
    exact hK _ _ h
/-- An array or a struct is built of parts that are all written out. -/
theorem wpList_build_is (hgd : o.guard = none) (t : TypeId) (parts : Array (Nat × Operand)) (ho : o.op = .build t parts) (vs : List Value) (hb : P.built t (parts.map fun (i, x) => (i, a.eval x)).toList = some vs.toArray)
    (h : wpList P ops Q rest (a.put o.dst (.agg vs.toArray)) w) : wpList P ops Q (o :: rest) a w :=
  wpList_plain hgd fun K hK => wp_build t parts ho (by rw [hb]; rfl) (by rw [hb]; exact hK _ _ h)
/-- A value of one cell is stored. -/
theorem wpList_store_one (hgd : o.guard = none) (hd : o.dst = none) (ty : TypeId) (x y : Operand) (ho : o.op = .store ty x y) (ad : Addr) (hx : a.eval x = .pointer (some ad)) (h1 : (a.eval y).oneCell' = true)
    (hi : (P.info? ty).map (·.size) = some 1) (hc : (w.cell? ad).isSome = true) (hf : w.frozen? ad = false) (h : ∀ v, a.eval y = v → wpList P ops Q rest a (w.setCell ad v)) : wpList P ops Q (o :: rest) a w :=
  wpList_plain hgd fun K hK => by
    have hput : a.put o.dst undef = a := by rw [hd]; rfl
    obtain ⟨u, hc⟩ := Option.isSome_iff_exists.1 hc
    generalize hy : a.eval y = v at h1
    have h := h v hy
    rw [← hput] at h
    cases hq : P.info? ty with
    | none => simp [hq] at hi
    | some i =>
      have hs : i.size = 1 := by simpa [hq] using hi
      have hcs : v.cells = #[v] := by cases v <;> first | rfl | (cases h1)
      have hst : (storeVar ty ad v).run P w = .ok () (w.setCell ad v) := by
        have hs1 : (store ad v).run P w = .ok () (w.setCell ad v) := by
          rw [run_store P w ad v _ h1]
          simp [hc, hf]
        have ha : ad.add 0 = ad := by simp [Addr.add]
        simp [storeVar, sizeOf, typeInfo, hq, hcs, hs, storeCells, ha, hs1]
      unfold Oper.wp execOp
      simp only [ho, hx, hy, Instr.storeAt, Instr.sureAddr, Sem.run_bind, Sem.run_pure, Result.andThen_ok, hst]
      exact hK _ _ h
/-- A value of one cell is stored into a block that is known whole. -/
theorem wpList_store_in (hgd : o.guard = none) (hd : o.dst = none) (ty : TypeId) (x y : Operand) (ho : o.op = .store ty x y) (g i : Nat) (t : TypeId) (l : List Value) (hg : Blk w g t l) (hx : a.eval x = .pointer (some ⟨g, i, none⟩)) (hlt : i < l.length)
    (h1 : (a.eval y).oneCell' = true) (hi : (P.info? ty).map (·.size) = some 1) (h : ∀ v w', a.eval y = v → Blk w' g t (l.set i v) → Only g w w' → wpList P ops Q rest a w') : wpList P ops Q (o :: rest) a w :=
  wpList_store_one hgd hd ty x y ho ⟨g, i, none⟩ hx h1 hi (by rw [hg.cell, List.getElem?_eq_getElem hlt]; rfl) (hg.frozen i) fun v hv => h v _ hv (hg.set_ i v) (only_setCell w g i v)
/-- A whole value of several cells is stored into a block. -/
theorem wpList_store_agg (hgd : o.guard = none) (hd : o.dst = none) (ty : TypeId) (x y : Operand) (ho : o.op = .store ty x y) (g off : Nat) (t : TypeId) (l vs : List Value) (hg : Blk w g t l)
    (hx : a.eval x = .pointer (some ⟨g, off, none⟩)) (hy : a.eval y = .agg vs.toArray) (hi : (P.info? ty).map (·.size) = some vs.length) (hfit : off + vs.length ≤ l.length) (h1 : ∀ v ∈ vs, v.oneCell' = true)
    (h : ∀ w', Blk w' g t (spliced l off vs) → Only g w w' → wpList P ops Q rest a w') : wpList P ops Q (o :: rest) a w :=
  wpList_plain hgd fun K hK => by
    have hput : a.put o.dst undef = a := by rw [hd]; rfl
    rw [← hput] at h
    have hr := run_storeCells_at (P := P) g off t vs 0 l.toArray w hg (by simpa using hfit) h1
    cases hq : P.info? ty with
    | none => simp [hq] at hi
    | some i =>
      have hs : i.size = vs.length := by simpa [hq] using hi
      have hst : (storeVar ty ⟨g, off, none⟩ (.agg vs.toArray)).run P w = .ok () (w.setRow g (spliced l off vs).toArray) := by
        have e : (storeVar ty ⟨g, off, none⟩ (.agg vs.toArray)).run P w = (storeCells ⟨g, off, none⟩ vs 0).run P w := by
          simp [storeVar, sizeOf, typeInfo, hq, Value.cells, hs]
        rw [e, hr]
        simp [spliced]
      unfold Oper.wp execOp
      simp only [ho, hx, hy, Instr.storeAt, Instr.sureAddr, Sem.run_bind, Sem.run_pure, Result.andThen_ok, hst]
      exact hK _ _ (h _ (setRow_heap w g l.toArray _ t _ hg) (only_setRow w g _))
end
/-- A part of an array that is no memory. -/
theorem run_index_one {P : Program} {t e : TypeId} {N : Nat} (ht : P.underlying t = some (.array N e)) (hs : (P.info? e).map (·.size) = some 1) {d : TypeDesc} (he : P.underlying e = some d) (hd : aggDesc d = false) (l : List Value) (k : IntKind) (i : Nat) (v : Value)
    (hN : i < N) (hv : l[i]? = some v) (w : World) : (Instr.index t (.agg l.toArray) (.int k (i : Int))).run P w = .ok v w := by
  have hagg : (isAgg e).run P w = .ok false w := by
    unfold isAgg
    rw [Sem.run_bind, run_underlying he w]
    cases d <;> first | (simp; done) | (cases hd)
  cases hq : P.info? e with
  | none => simp [hq] at hs
  | some inf =>
    have hsz : inf.size = 1 := by simpa [hq] using hs
    have hlt : (i : Int) < N := by omega
    simp [Instr.index, run_underlying ht, asIntOf, sizeOf, typeInfo, hq, hsz, part, Sem.run_bind, hagg, hv]
    intro hc
    omega
theorem w8_one (l : List UInt8) : ∀ v ∈ l.map W8, v.oneCell' = true := by
  intro v hv
  obtain ⟨x, _, rfl⟩ := List.mem_map.1 hv
  rfl
theorem w32_one (l : List UInt32) : ∀ v ∈ l.map W32, v.oneCell' = true := by
  intro v hv
  obtain ⟨x, _, rfl⟩ := List.mem_map.1 hv
  rfl
theorem w64_one (l : List UInt64) : ∀ v ∈ l.map W64, v.oneCell' = true := by
  intro v hv
  obtain ⟨x, _, rfl⟩ := List.mem_map.1 hv
  rfl
/-- A result that lies in a block. -/
theorem results_blk {P : Program} {fn : Func} {p : Tmp} {ty : TypeId} (h : fn.results = #[.cell p ty]) (tmps : Array Value) (w : World) (g : Nat) (t : TypeId) (l : List Value) (d : TypeDesc)
    (hg : Blk w g t l) (hp : tmps.getD p undef = .pointer (some ⟨g, 0, none⟩)) (hu : P.underlying ty = some d) (hd : aggDesc d = true) (hi : (P.info? ty).map (·.size) = some l.length) :
    (results fn tmps).run P w = .ok (.agg l.toArray) w :=
  results_cell_row h tmps w g t l.toArray (0, 0) d hp hg hu (by cases d <;> first | rfl | cases hd) (by simpa using hi)
theorem results_blk_tmp {P : Program} {fn : Func} {p u : Tmp} {ty : TypeId} (h : fn.results = #[.cell p ty, .tmp u]) (tmps : Array Value) (w : World) (g : Nat) (t : TypeId) (l : List Value) (d : TypeDesc)
    (hg : Blk w g t l) (hp : tmps.getD p undef = .pointer (some ⟨g, 0, none⟩)) (hu : P.underlying ty = some d) (hd : aggDesc d = true) (hi : (P.info? ty).map (·.size) = some l.length) :
    (results fn tmps).run P w = .ok (.tuple #[.agg l.toArray, tmps.getD u undef]) w := by
  rw [results_cell_tmp h, hp]
  have := run_loadVar_agg (P := P) w g 0 ty l d (fun j v hv => by rw [Nat.zero_add]; exact hg.cellD j hv) hu hd hi
  simp [asAddr, this]

/-! ### Rows of the call's own -/
theorem own_rd {w : World} {base : Nat} {e : TypeId} {A : Option Addr} {n c : Nat} {vs : List Value} (h : w.ownsRow base e 1 (.slice A n c) n vs) : Rd w A n vs := by
  refine ⟨by simpa using h.1, fun hn => ?_⟩
  rcases h.2 with ⟨_, h0⟩ | ⟨g, cap, cur, hv, hb, hh, hnc, hm, hs, ht⟩
  · omega
  · simp only [Value.slice.injEq, true_and] at hv
    obtain ⟨rfl, rfl⟩ := hv
    refine ⟨g, 0, rfl, Blk.lt (l := cur.toList) (t := e) (by unfold Blk; simpa using hh), fun j u hu => ?_⟩
    rw [Nat.zero_add, cell_of_row w g j cur e (0, 0) hh]
    rw [← ht, List.getElem?_take] at hu
    split at hu
    · simpa using hu
    · cases hu
theorem own_grown {w w' : World} {base : Nat} {e : TypeId} {v : Value} {n : Nat} {vs : List Value} {row : Option Nat} (h : w.ownsRow base e 1 v n vs) (hg : w.grownBy w' row) (hne : ∀ k, row = some k → k < base ∨ w.heap.size ≤ k) : w'.ownsRow base e 1 v n vs := by
  refine h.kept hg ?_
  cases hb : v.ownBlock with
  | none => exact .inl rfl
  | some b =>
    obtain ⟨h1, h2⟩ := h.lt b hb
    refine .inr fun e => ?_
    rcases hne b e.symm with h3 | h3 <;> omega
theorem own_later {w w' : World} {base : Nat} {e : TypeId} {v : Value} {n : Nat} {vs : List Value} (h : w.ownsRow base e 1 v n vs) (hl : Later w w') : w'.ownsRow base e 1 v n vs :=
  h.kept (row := none) ⟨hl.below.os, hl.below.tape, hl.below.output, hl.size, fun k hk _ => hl.below.block k hk⟩ (by cases v.ownBlock <;> simp)
theorem own_mono {w : World} {base base' : Nat} {e : TypeId} {v : Value} {n : Nat} {vs : List Value} (h : w.ownsRow base e 1 v n vs) (hb : base' ≤ base) : w.ownsRow base' e 1 v n vs := by
  refine ⟨h.1, h.2.imp id ?_⟩
  rintro ⟨g, cap, cur, h1, h2, h3⟩
  exact ⟨g, cap, cur, h1, Nat.le_trans hb h2, h3⟩
theorem own_nil (w : World) (base : Nat) (e : TypeId) : w.ownsRow base e 1 (.slice none 0 0) 0 [] := World.ownsRow_nil w base e 1
theorem own_new (w : World) (e : TypeId) (l : List Value) (hm : l.length ≤ 140737488355328) : (w.alloc (.cells l.toArray e)).ownsRow w.heap.size e 1 (.slice (some ⟨w.heap.size, 0, none⟩) l.length l.length) l.length l := by
  have := World.ownsRow_lit (e := e) (size := 1) w l.toArray l.length (Nat.le_refl _) (by unfold maxLen; omega) (by simp)
  simpa using this
theorem own_of_blk {w : World} {base g : Nat} {e : TypeId} {l : List Value} (h : Blk w g e l) (hb : base ≤ g) (hm : l.length ≤ 140737488355328) : w.ownsRow base e 1 (.slice (some ⟨g, 0, none⟩) l.length l.length) l.length l :=
  ⟨by simp, .inr ⟨g, l.length, l.toArray, rfl, hb, h, Nat.le_refl _, by unfold maxLen; omega, by simp, by simp⟩⟩
theorem Later.grownBy {w0 w w' : World} {row : Option Nat} (h : Later w0 w) (hg : w.grownBy w' row) (hr : ∀ k, row = some k → w0.heap.size ≤ k) : Later w0 w' := .of_below (h.below.grown hg h.size hr)
theorem own_shape {w : World} {base : Nat} {e : TypeId} {v : Value} {n : Nat} {vs : List Value} (h : w.ownsRow base e 1 v n vs) : ∃ A c, v = .slice A n c := by
  rcases h.2 with ⟨rfl, rfl⟩ | ⟨g, cap, cur, rfl, _⟩ <;> exact ⟨_, _, rfl⟩

section
variable {P : Program} {ops : Array Oper} {rest : List Oper} {o : Oper} {a : Act} {w : World} {Q : Exit → Act → World → Prop}
/-- 'append(s, x...)': s a row of the call's own, x whatever reads as a list. -/
theorem wpList_append_rd (hgd : o.guard = none) (s x : Operand) (t : TypeId) (ho : o.op = .call { callee := .builtin .append, args := #[s, x], argTypes := #[t, t] })
    (e : TypeId) (z : Value) (bytes : Nat) (ht : P.underlying t = some (.slice e)) (hinfo : (P.info? e).map (fun i => (i.zero, i.size, i.bytes)) = some (some z, 1, bytes)) (hzs : z.cells.size = 1)
    (w0 : World) (v : Value) (n : Nat) (vs : List Value) (hown : w.ownsRow w0.heap.size e 1 v n vs) (hl : Later w0 w)
    (A : Option Addr) (m c : Nat) (news : List Value) (hr : Rd w A m news) (h1 : ∀ u ∈ news, u.oneCell' = true) (hs : a.eval s = v) (hx : a.eval x = .slice A m c) (hsz : (n + m) * bytes ≤ 140737488355328) (hby : 0 < bytes)
    (h : ∀ A' c' w', w'.ownsRow w0.heap.size e 1 (.slice A' (n + m) c') (n + m) (vs ++ news) → Later w0 w' → w.grownBy w' v.ownBlock → (A' = none → n + m = 0) → wpList P ops Q rest (a.put o.dst (.slice A' (n + m) c')) w') :
    wpList P ops Q (o :: rest) a w := by
  obtain ⟨i, hi, hz, hsize, hbytes⟩ := info_parts hinfo
  have hnm : n + m ≤ 140737488355328 := Nat.le_trans (Nat.le_mul_of_pos_right _ hby) hsz
  have hmax : n + m ≤ maxLen := by unfold maxLen; omega
  have hfin : ∀ v' w', (Builtin.append_ #[t, t] o.type #[v, .slice A m c]).run P w = .ok v' w' → w'.ownsRow w0.heap.size e 1 v' (n + m) (vs ++ news) → w.grownBy w' v.ownBlock → wpList P ops Q (o :: rest) a w := by
    intro v' w' hrun hown' hg
    refine wpList_plain hgd fun K hK => ?_
    unfold Oper.wp execOp
    simp only [ho, resolve, invoke, builtin, Sem.run_bind, Sem.run_pure, Result.andThen_ok, List.map_toArray, List.map_cons, List.map_nil, hs, hx, hrun]
    have hlat : Later w0 w' := hl.grownBy hg (fun k hk => (hown.lt k hk).1)
    obtain ⟨A', c', rfl⟩ := own_shape hown'
    refine hK _ _ (h A' c' w' hown' hlat hg fun hA => ?_)
    subst hA
    rcases hown'.2 with ⟨_, h0⟩ | ⟨g, cap, cur, hv, _⟩
    · exact h0
    · cases hv
  cases A with
  | some ad =>
    have hcells : ∀ j u, news[j]? = some u → w.cell? (ad.add j) = some u := by
      intro j u hu
      have hj : j < news.length := (List.getElem?_eq_some_iff.1 hu).1
      obtain ⟨b, off, hA, _, hc⟩ := hr.2 (by have := hr.1; omega)
      obtain rfl : ad = ⟨b, off, none⟩ := by simpa using hA
      rw [add_at]
      exact hc j u hu
    obtain ⟨v', w', hrun, h2, h3, _⟩ := run_append_own (P := P) w w0.heap.size t o.type e i z 1 bytes ht hi hz hsize hbytes hzs (by omega) v n vs hown ad m c news (by simpa using hr.1) hcells h1 hmax hsz hl.size
    exact hfin v' w' hrun h2 h3
  | none =>
    have hm : m = 0 := by
      rcases Nat.eq_zero_or_pos m with h0 | h0
      · exact h0
      · obtain ⟨b, off, hA, _⟩ := hr.2 h0
        cases hA
    subst hm
    have hn : news = [] := List.eq_nil_of_length_eq_zero hr.1
    subst hn
    have hrun : (Builtin.append_ #[t, t] o.type #[v, .slice none 0 c]).run P w = .ok v w := by
      rcases hown.2 with ⟨rfl, rfl⟩ | ⟨g, cap, cur, rfl, _, _, hnc, _⟩
      · simp [Builtin.append_, run_underlying ht, sizeOf, typeInfo, hi, Builtin.lenOf, Builtin.firstCells]
      · simp [Builtin.append_, run_underlying ht, sizeOf, typeInfo, hi, Builtin.lenOf, Builtin.firstCells, hnc, storeCells]
    exact hfin v w hrun (by simpa using hown) (World.grownBy.refl w _)
/-- 'make([]T, n)'. -/
theorem wpList_make_n (hgd : o.guard = none) (l c : Operand) (t : TypeId) (ho : o.op = Op.makeSlice t l c) (e : TypeId) (z : Value) (bytes : Nat) (ht : P.underlying t = some (.slice e))
    (hinfo : (P.info? e).map (fun i => (i.zero, i.size, i.bytes)) = some (some z, 1, bytes)) (hz1 : z.cells = #[z]) (kl kc : IntKind) (L C : Int) (n : Nat) (hl : a.eval l = .int kl L) (hc : a.eval c = .int kc C) (hL : L = (n : Int)) (hC : C = (n : Int))
    (hby : 0 < bytes) (hsz : n * bytes ≤ 140737488355328) (h : ∀ w', Blk w' w.heap.size e (List.replicate n z) → Later w w' → wpList P ops Q rest (a.put o.dst (.slice (some ⟨w.heap.size, 0, none⟩) n n)) w') :
    wpList P ops Q (o :: rest) a w := by
  obtain ⟨i, hi, hz, hsize, hbytes⟩ := info_parts hinfo
  have hn : n ≤ 140737488355328 := Nat.le_trans (Nat.le_mul_of_pos_right _ hby) hsz
  refine wpList_plain hgd fun K hK => ?_
  have hb : ((i.bytes : Int) * (n : Int)) ≤ 281474976710656 := by
    rw [hbytes, ← Int.natCast_mul, Nat.mul_comm]
    omega
  have hr := run_make (P := P) w t e i z ht hi hz kl kc n n (by omega) (Int.le_refl _) hb (by omega)
  simp only [Int.toNat_natCast, hsize, Nat.mul_one, hz1] at hr
  subst hL
  subst hC
  unfold Oper.wp
  simp only [execOp, ho, hl, hc, Sem.run_bind, hr, Result.andThen_ok, Sem.run_pure]
  refine hK _ _ (h _ ?_ (later_alloc _ _))
  have hm : madeCells #[z] n = (List.replicate n z).toArray := by
    apply Array.toList_inj.1
    rw [toList_madeCells_one]
  show Blk (w.alloc (.cells (madeCells #[z] n) e)) _ _ _
  rw [hm]
  exact Blk.new w e _
end

/-! ### Cuts of slices, copies -/
/-- The address behind a cut at k. -/
def cutA (A : Option Addr) (k c : Nat) : Option Addr := if c = k then A else A.map (·.add k)
theorem Rd.cut {w : World} {A : Option Addr} {n : Nat} {vs : List Value} (h : Rd w A n vs) {k c : Nat} (hk : k ≤ n) (hc : n ≤ c) : Rd w (cutA A k c) (n - k) (vs.drop k) := by
  refine ⟨by rw [List.length_drop, h.1], fun hn => ?_⟩
  obtain ⟨b, o, rfl, hb, hcell⟩ := h.2 (by omega)
  have hck : ¬ c = k := by omega
  refine ⟨b, o + k, by simp [cutA, hck, add_at], hb, fun j u hu => ?_⟩
  have := hcell (k + j) u (by rw [← hu, List.getElem?_drop])
  rwa [← Nat.add_assoc] at this
theorem Rd.take {w : World} {A : Option Addr} {n : Nat} {vs : List Value} (h : Rd w A n vs) {m : Nat} (hm : m ≤ n) : Rd w A m (vs.take m) := by
  refine ⟨by rw [List.length_take, h.1]; omega, fun hp => ?_⟩
  obtain ⟨b, o, hA, hb, hcell⟩ := h.2 (by omega)
  refine ⟨b, o, hA, hb, fun j u hu => hcell j u ?_⟩
  rw [List.getElem?_take] at hu
  split at hu
  · exact hu
  · cases hu
theorem RdB.cut {w : World} {A : Option Addr} {n : Nat} {bs : List UInt8} (h : RdB w A n bs) {k c : Nat} (hk : k ≤ n) (hc : n ≤ c) : RdB w (cutA A k c) (n - k) (bs.drop k) := by
  have := Rd.cut h hk hc
  rwa [← List.map_drop] at this
theorem RdB.take {w : World} {A : Option Addr} {n : Nat} {bs : List UInt8} (h : RdB w A n bs) {m : Nat} (hm : m ≤ n) : RdB w A m (bs.take m) := by
  have := Rd.take h hm
  rwa [← List.map_take] at this
/-- It does not lead into block g. -/
def Off (A : Option Addr) (g : Nat) : Prop := ∀ ad, A = some ad → ad.block ≠ g
theorem block_add (a : Addr) (n : Nat) : (a.add n).block = a.block := by unfold Addr.add; split <;> rfl
theorem Off.cut {A : Option Addr} {g : Nat} (h : Off A g) (k c : Nat) : Off (cutA A k c) g := by
  intro ad hd
  unfold cutA at hd
  split at hd
  · exact h ad hd
  · cases A with
    | none => cases hd
    | some a =>
      simp only [Option.map_some, Option.some.injEq] at hd
      rw [← hd, block_add]
      exact h a rfl
theorem Rd.onlyOff {w w' : World} {A : Option Addr} {n : Nat} {vs : List Value} {g : Nat} (h : Rd w A n vs) (ho : Only g w w') (hA : Off A g) : Rd w' A n vs := h.only ho fun b o e => hA ⟨b, o, none⟩ e
theorem off_none (g : Nat) : Off none g := fun _ h => by cases h
theorem off_lt {b o g : Nat} (h : b < g) : Off (some ⟨b, o, none⟩) g := fun ad e => by cases e; exact Nat.ne_of_lt h
theorem Rd.off {w : World} {A : Option Addr} {n : Nat} {vs : List Value} (h : Rd w A n vs) (hn : 0 < n) {g : Nat} (hg : w.heap.size ≤ g) : Off A g := by
  obtain ⟨b, o, rfl, hb, _⟩ := h.2 hn
  exact off_lt (by omega)
theorem off_own {w : World} {base : Nat} {e : TypeId} {A : Option Addr} {n c : Nat} {vs : List Value} (h : w.ownsRow base e 1 (.slice A n c) n vs) {g : Nat} (hg : g < base) : Off A g := by
  intro ad hd
  subst hd
  have := (h.lt ad.block rfl).1
  omega

theorem run_slice_cut {P : Program} {t e : TypeId} (ht : P.underlying t = some (.slice e)) (hs : (P.info? e).map (·.size) = some 1) (A : Option Addr) (n c : Nat) (kl kh : IntKind) (l h : Int) (h0 : 0 ≤ l) (h1 : l ≤ h) (h2 : h ≤ c) (W : World) :
    (Instr.sliceAt t (.slice A n c) (some (.int kl l)) (some (.int kh h)) none).run P W = .ok (.slice (cutA A l.toNat c) (h.toNat - l.toNat) (c - l.toNat)) W := by
  have he : P.elem t = e := by unfold Program.elem; rw [ht]
  have ht' : P.underlying t = some (.slice (P.elem t)) := by rw [he]; exact ht
  rw [run_sliceAt_slice _ _ _ _ _ _ ht', run_slice_lh _ _ _ _ _ ht' kl kh l h h0 h1 h2, he]
  cases hq : P.info? e with
  | none => simp [hq] at hs
  | some i =>
    have hsz : i.size = 1 := by simpa [hq] using hs
    simp [sizeOf, typeInfo, hq, hsz, sliced, cutA]
theorem run_slice_from {P : Program} {t e : TypeId} (ht : P.underlying t = some (.slice e)) (hs : (P.info? e).map (·.size) = some 1) (A : Option Addr) (n c : Nat) (kl : IntKind) (l : Int) (h0 : 0 ≤ l) (h1 : l ≤ n) (W : World) :
    (Instr.sliceAt t (.slice A n c) (some (.int kl l)) none none).run P W = .ok (.slice (cutA A l.toNat c) (n - l.toNat) (c - l.toNat)) W := by
  have he : P.elem t = e := by unfold Program.elem; rw [ht]
  have ht' : P.underlying t = some (.slice (P.elem t)) := by rw [he]; exact ht
  rw [run_sliceAt_slice _ _ _ _ _ _ ht', run_slice_l (ht := ht') (h0 := h0) (h1 := h1), he]
  cases hq : P.info? e with
  | none => simp [hq] at hs
  | some i =>
    have hsz : i.size = 1 := by simpa [hq] using hs
    simp [sizeOf, typeInfo, hq, hsz, sliced, cutA]
theorem cutA_zero (A : Option Addr) (c : Nat) : cutA A 0 c = A := by
  unfold cutA
  split
  · rfl
  · cases A with
    | none => rfl
    | some a => simp [Addr.add]
theorem run_slice_to {P : Program} {t e : TypeId} (ht : P.underlying t = some (.slice e)) (hs : (P.info? e).map (·.size) = some 1) (A : Option Addr) (n c : Nat) (kh : IntKind) (h : Int) (h0 : 0 ≤ h) (h2 : h ≤ c) (W : World) :
    (Instr.sliceAt t (.slice A n c) none (some (.int kh h)) none).run P W = .ok (.slice A h.toNat c) W := by
  have he : P.elem t = e := by unfold Program.elem; rw [ht]
  have ht' : P.underlying t = some (.slice (P.elem t)) := by rw [he]; exact ht
  rw [run_sliceAt_slice _ _ _ _ _ _ ht', run_slice_h (ht := ht') (h0 := h0) (h2 := h2), he]
  cases hq : P.info? e with
  | none => simp [hq] at hs
  | some i =>
    have hsz : i.size = 1 := by simpa [hq] using hs
    have := cutA_zero A c
    unfold cutA at this
    simp [sizeOf, typeInfo, hq, hsz, sliced]
    simpa using this

theorem run_nat_cut {P : Program} {t e : TypeId} (ht : P.underlying t = some (.slice e)) (hs : (P.info? e).map (·.size) = some 1) (A : Option Addr) (n c : Nat) (kl kh : IntKind) (l h : Nat) (h1 : l ≤ h) (h2 : h ≤ c) (W : World) :
    (Instr.sliceAt t (.slice A n c) (some (.int kl (l : Int))) (some (.int kh (h : Int))) none).run P W = .ok (.slice (cutA A l c) (h - l) (c - l)) W := by
  simpa using run_slice_cut ht hs A n c kl kh l h (by omega) (by omega) (by omega) W
theorem run_nat_from {P : Program} {t e : TypeId} (ht : P.underlying t = some (.slice e)) (hs : (P.info? e).map (·.size) = some 1) (A : Option Addr) (n c : Nat) (kl : IntKind) (l : Nat) (h1 : l ≤ n) (W : World) :
    (Instr.sliceAt t (.slice A n c) (some (.int kl (l : Int))) none none).run P W = .ok (.slice (cutA A l c) (n - l) (c - l)) W := by
  simpa using run_slice_from ht hs A n c kl l (by omega) (by omega) W
theorem run_nat_to {P : Program} {t e : TypeId} (ht : P.underlying t = some (.slice e)) (hs : (P.info? e).map (·.size) = some 1) (A : Option Addr) (n c : Nat) (kh : IntKind) (h : Nat) (h2 : h ≤ c) (W : World) :
    (Instr.sliceAt t (.slice A n c) none (some (.int kh (h : Int))) none).run P W = .ok (.slice A h c) W := by
  simpa using run_slice_to ht hs A n c kh h (by omega) (by omega) W
/-! Slices of arrays that lie in a block. -/
theorem run_arr_from {P : Program} {t e : TypeId} {N : Nat} (ht : P.underlying t = some (.array N e)) (hs : (P.info? e).map (·.size) = some 1) (b o : Nat) (kl : IntKind) (l : Nat) (h1 : l < N) (W : World) :
    (Instr.sliceAt t (.pointer (some ⟨b, o, none⟩)) (some (.int kl (l : Int))) none none).run P W = .ok (.slice (some ⟨b, o + l, none⟩) (N - l) (N - l)) W := by
  have he : P.elem t = e := by unfold Program.elem; rw [ht]
  have hn : P.arrayLen t = N := by unfold Program.arrayLen; rw [ht]
  have ht' : P.underlying t = some (.array (P.arrayLen t) (P.elem t)) := by rw [he, hn]; exact ht
  rw [run_sliceAt_array_l (ht := ht') (h0 := by omega) (h1 := by rw [hn]; omega), he, hn]
  cases hq : P.info? e with
  | none => simp [hq] at hs
  | some i =>
    have hsz : i.size = 1 := by simpa [hq] using hs
    simp [sizeOf, typeInfo, hq, hsz, slicedAt, show ¬ N = l by omega, add_at]
theorem run_arr_all {P : Program} {t e : TypeId} {N : Nat} (ht : P.underlying t = some (.array N e)) (hs : (P.info? e).map (·.size) = some 1) (b o : Nat) (W : World) :
    (Instr.sliceAt t (.pointer (some ⟨b, o, none⟩)) none none none).run P W = .ok (.slice (some ⟨b, o, none⟩) N N) W := by
  have he : P.elem t = e := by unfold Program.elem; rw [ht]
  have hn : P.arrayLen t = N := by unfold Program.arrayLen; rw [ht]
  have ht' : P.underlying t = some (.array (P.arrayLen t) (P.elem t)) := by rw [he, hn]; exact ht
  rw [run_sliceAt_array_all (ht := ht'), he, hn]
  cases hq : P.info? e with
  | none => simp [hq] at hs
  | some i =>
    have hsz : i.size = 1 := by simpa [hq] using hs
    simp [sizeOf, typeInfo, hq, hsz, slicedAt, add_at]

section
variable {P : Program} {ops : Array Oper} {rest : List Oper} {o : Oper} {a : Act} {w : World} {Q : Exit → Act → World → Prop}
/-- 'copy(d, s)': d leads into a block that is known whole, s whatever reads as a list. -/
theorem wpList_copy_rd (hgd : o.guard = none) (d s : Operand) (dT sT : TypeId) (ho : o.op = .call { callee := .builtin .copy, args := #[d, s], argTypes := #[dT, sT] }) (elem : TypeId) (hu : P.underlying dT = some (.slice elem)) (hsz : (P.info? elem).map (·.size) = some 1)
    (g off dLen dCap : Nat) (t : TypeId) (l : List Value) (hg : Blk w g t l) (A : Option Addr) (m c : Nat) (vs : List Value) (hr : Rd w A m vs) (h1 : ∀ v ∈ vs, v.oneCell' = true)
    (hd : a.eval d = .slice (some ⟨g, off, none⟩) dLen dCap) (hs : a.eval s = .slice A m c) (hfit : off + dLen ≤ l.length)
    (h : ∀ w', Blk w' g t (spliced l off (vs.take dLen)) → Only g w w' → wpList P ops Q rest (a.put o.dst (.int .i64 ((min m dLen : Nat) : Int))) w') : wpList P ops Q (o :: rest) a w := by
  have hlen := hr.1
  have hmin : (vs.take dLen).length = Nat.min m dLen := by rw [List.length_take, hlen, Nat.min_comm]
  by_cases h0 : Nat.min m dLen = 0
  · refine wpList_copy_nothing hgd d s dT sT ho elem hu hsz _ A dLen dCap m c hd hs h0 ?_
    have hnil : vs.take dLen = [] := List.eq_nil_of_length_eq_zero (by rw [hmin, h0])
    have := h w (by rw [hnil]; simpa [spliced] using hg) (World.grownBy.refl w _)
    have e0 : min m dLen = 0 := h0
    rwa [e0] at this
  · have hpos : 0 < m := by
      rcases Nat.eq_zero_or_pos m with e | e
      · subst e; exact absurd (Nat.zero_min dLen) h0
      · exact e
    obtain ⟨b, off2, rfl, hb, hc⟩ := hr.2 hpos
    refine wpList_copy_own hgd d s dT sT ho elem hu hsz g off dLen dCap ⟨b, off2, none⟩ m c hd hs l.toArray t hg (vs.take dLen) hmin (fun j v hv => ?_) (by rw [hmin]; simp; have : Nat.min m dLen ≤ dLen := Nat.min_le_right m dLen; omega) (fun v hv => h1 v (List.mem_of_mem_take hv)) ?_
    · rw [add_at]
      rw [List.getElem?_take] at hv
      split at hv
      · exact hc j v hv
      · cases hv
    · rw [hmin]
      refine h _ ?_ (only_setRow w g _)
      have := setRow_heap w g l.toArray (l.toArray.toList.take off ++ (vs.take dLen ++ l.toArray.toList.drop (off + (Nat.min m dLen)))).toArray t _ hg
      unfold Blk spliced
      rw [hmin]
      simpa using this
end
end Go.Proofs.Ytkibgdigcgakfaa
