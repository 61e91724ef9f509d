/-
  Memory: what a slice reads as; blocks that are known whole; later worlds.
-/
import Derived.Test.YtmdbekdphkkmkaaBase
namespace Go.Proofs.Ytmdbekdphkkmkaa
open Go.RowKit

/-- The slice value '.slice A n _' reads as these cells (one cell an element). -/
def Rd (w : World) (A : Option Addr) (n : Nat) (vs : List Value) : Prop :=
  vs.length = n ∧ (0 < n → ∃ b o, A = some ⟨b, o, none⟩ ∧ b < w.heap.size ∧ ∀ j u, vs[j]? = some u → w.cell? ⟨b, o + j, none⟩ = some u)
theorem Rd.later {w w' : World} {A : Option Addr} {n : Nat} {vs : List Value} (h : Rd w A n vs) (hl : Later w w') : Rd w' A n vs := by
  refine ⟨h.1, fun hn => ?_⟩
  obtain ⟨b, o, hA, hb, hc⟩ := h.2 hn
  have hB := hl.below
  exact ⟨b, o, hA, Nat.lt_of_lt_of_le hb hB.size, fun j u hu => (hB.cell (p := ⟨b, o + j, none⟩) hb).trans (hc j u hu)⟩
theorem Rd.grow {w : World} {A : Option Addr} {n : Nat} {vs : List Value} (h : Rd w A n vs) (x : More) : Rd (grow w x) A n vs := h.later ⟨x, rfl⟩
theorem Rd.at_ {w : World} {A : Option Addr} {n : Nat} {vs : List Value} (h : Rd w A n vs) (hn : 0 < n) :
    ∃ b o, A = some ⟨b, o, none⟩ ∧ b < w.heap.size ∧ ∀ j (hj : j < n), w.cell? ⟨b, o + j, none⟩ = some (vs[j]'(by rw [h.1]; exact hj)) := by
  obtain ⟨b, o, hA, hb, hc⟩ := h.2 hn
  exact ⟨b, o, hA, hb, fun j hj => hc j _ (List.getElem?_eq_getElem _)⟩
/-- A slice of bytes. -/
def RdB (w : World) (A : Option Addr) (n : Nat) (bs : List UInt8) : Prop := Rd w A n (bs.map W8)
theorem RdB.later {w w' : World} {A : Option Addr} {n : Nat} {bs : List UInt8} (h : RdB w A n bs) (hl : Later w w') : RdB w' A n bs := Rd.later h hl
theorem RdB.len {w : World} {A : Option Addr} {n : Nat} {bs : List UInt8} (h : RdB w A n bs) : bs.length = n := by simpa using h.1
theorem RdB.at_ {w : World} {A : Option Addr} {n : Nat} {bs : List UInt8} (h : RdB w A n bs) (hn : 0 < n) :
    ∃ b o, A = some ⟨b, o, none⟩ ∧ b < w.heap.size ∧ ∀ j, j < n → w.cell? ⟨b, o + j, none⟩ = some (W8 (bs.getD j 0)) := by
  obtain ⟨b, o, hA, hb, hc⟩ := h.2 hn
  refine ⟨b, o, hA, hb, fun j hj => hc j _ ?_⟩
  have hl := h.len
  rw [List.getElem?_map, List.getElem?_eq_getElem (by omega)]
  simp [show j < bs.length by omega]

/-- Block g is just these cells, none of them frozen. -/
def Blk (w : World) (g : Nat) (t : TypeId) (l : List Value) : Prop := w.heap[g]? = some (.cells l.toArray t (0, 0))
section
variable {w w' : World} {g : Nat} {t : TypeId} {l : List Value}
theorem Blk.lt (h : Blk w g t l) : g < w.heap.size := by
  rcases Nat.lt_or_ge g w.heap.size with hlt | hge
  · exact hlt
  · unfold Blk at h
    rw [Array.getElem?_eq_none hge] at h
    cases h
theorem Blk.cell (h : Blk w g t l) (i : Nat) : w.cell? ⟨g, i, none⟩ = l[i]? := by
  rw [cell_of_row w g i l.toArray t (0, 0) h]
  simp
theorem Blk.cellD (h : Blk w g t l) (i : Nat) {u : Value} (hi : l[i]? = some u) : w.cell? ⟨g, i, none⟩ = some u := (h.cell i).trans hi
theorem Blk.frozen (h : Blk w g t l) (i : Nat) : w.frozen? ⟨g, i, none⟩ = false := by
  unfold Blk at h
  simp [World.frozen?, h]
theorem Blk.later (h : Blk w g t l) (hl : Later w w') : Blk w' g t l := (hl.below.block g h.lt).trans h
theorem Blk.set_ (h : Blk w g t l) (i : Nat) (u : Value) : Blk (w.setCell ⟨g, i, none⟩ u) g t (l.set i u) := by
  unfold Blk at h ⊢
  simp [World.setCell, Array.getElem?_modify, h]
theorem Blk.far (h : Blk w g t l) {p : Addr} (hp : g ≠ p.block) (u : Value) : Blk (w.setCell p u) g t l := (Below.heap_setCell w p u g hp).trans h
theorem Blk.new (w : World) (t : TypeId) (l : List Value) : Blk (w.alloc (.cells l.toArray t)) w.heap.size t l := heap_alloc_new w _
theorem Blk.new' {n : Nat} (w : World) (t : TypeId) (l : List Value) (h : w.heap.size = n) : Blk (w.alloc (.cells l.toArray t)) n t l := h ▸ Blk.new w t l
theorem Blk.drew (h : Blk w g t l) : Blk w.drew g t l := h
theorem Blk.ne_type {g' : Nat} {t' : TypeId} {l' : List Value} (h : Blk w g t l) (h' : Blk w g' t' l') (hne : t ≠ t') : g ≠ g' := by
  rintro rfl
  unfold Blk at h h'
  rw [h] at h'
  injection h' with h'
  injection h' with _ ht
  exact hne ht
end
theorem later_alloc (w : World) (o : Obj) : Later w (w.alloc o) := .of_below ((Below.refl _ _).alloc (Nat.le_refl _) o)
theorem later_drew (w : World) : Later w w.drew := .of_below (Below.refl _ _).drew
theorem Later.size {w w' : World} (h : Later w w') : w.heap.size ≤ w'.heap.size := h.below.size
/-- A store into a block that was not there at the beginning. -/
theorem Later.setCell {w w' : World} (h : Later w w') {p : Addr} (hp : w.heap.size ≤ p.block) (u : Value) : Later w (w'.setCell p u) := .of_below (h.below.setCell hp u)
theorem Later.alloc {w w' : World} (h : Later w w') (o : Obj) : Later w (w'.alloc o) := h.trans (later_alloc w' o)
theorem Later.grow {w w' : World} (h : Later w w') (x : More) : Later w (grow w' x) := h.trans ⟨x, rfl⟩
@[go_sem] theorem grow_drew (w : World) (x : More) : (grow w x).drew = grow w ⟨x.blocks, x.drawn + 1⟩ := rfl
theorem Later.drewN {a b : World} (h : Later a b) (n : Nat) : Later a (b.drewN n) := h.trans (.of_below ⟨rfl, rfl, rfl, Nat.le_refl _, fun _ _ => rfl⟩)

/-- Only block g has turned, and what is new. -/
abbrev Only (g : Nat) (w w' : World) : Prop := w.grownBy w' (some g)
theorem Blk.only {w w' : World} {g : Nat} {t : TypeId} {l : List Value} {k : Nat} (h : Blk w g t l) (ho : Only k w w') (hne : g ≠ k) : Blk w' g t l :=
  (ho.block g h.lt (fun e => hne (by injection e))).trans h
theorem Later.only {w0 w w' : World} {k : Nat} (h : Later w0 w) (ho : Only k w w') (hk : w0.heap.size ≤ k) : Later w0 w' :=
  .of_below (h.below.grown ho h.size (fun _ e => by injection e with e; omega))
theorem Rd.only {w w' : World} {A : Option Addr} {n : Nat} {vs : List Value} {k : Nat} (h : Rd w A n vs) (ho : Only k w w') (hne : ∀ b o, A = some ⟨b, o, none⟩ → b ≠ k) : Rd w' A n vs := by
  refine ⟨h.1, fun hn => ?_⟩
  obtain ⟨b, o, hA, hb, hc⟩ := h.2 hn
  exact ⟨b, o, hA, Nat.lt_of_lt_of_le hb ho.size, fun j u hu => (World.cell?_of_block (a := ⟨b, o + j, none⟩) (ho.block b hb (fun e => hne b o hA (by injection e)))).trans (hc j u hu)⟩
theorem only_setCell (w : World) (g i : Nat) (u : Value) : Only g w (w.setCell ⟨g, i, none⟩ u) :=
  ⟨rfl, rfl, rfl, by simp [World.setCell], fun k _ hne => Below.heap_setCell w ⟨g, i, none⟩ u k (fun e => hne (by rw [e]))⟩
theorem only_setRow (w : World) (g : Nat) (cs : Array Value) : Only g w (w.setRow g cs) :=
  ⟨rfl, rfl, rfl, by simp [World.setRow], fun k _ hne => setRow_other w g k cs (fun e => hne (by rw [e]))⟩
theorem Only.trans {g : Nat} {a b c : World} (h : Only g a b) (k : Only g b c) : Only g a c :=
  ⟨k.os.trans h.os, k.tape.trans h.tape, k.output.trans h.output, Nat.le_trans h.size k.size, fun i hi hn => (k.block i (Nat.lt_of_lt_of_le hi h.size) hn).trans (h.block i hi hn)⟩
theorem Only.later {g : Nat} {a b c : World} (h : Only g a b) (k : Later b c) : Only g a c :=
  ⟨k.below.os.trans h.os, k.below.tape.trans h.tape, k.below.output.trans h.output, Nat.le_trans h.size k.size, fun i hi hn => (k.below.block i (Nat.lt_of_lt_of_le hi h.size)).trans (h.block i hi hn)⟩
theorem Later.thenOnly {g : Nat} {a b c : World} (h : Later a b) (k : Only g b c) : Only g a c :=
  ⟨k.os.trans h.below.os, k.tape.trans h.below.tape, k.output.trans h.below.output, Nat.le_trans h.size k.size, fun i hi hn => (k.block i (Nat.lt_of_lt_of_le hi h.size) hn).trans (h.below.block i hi)⟩
theorem Later.onlyAny {a b : World} (h : Later a b) (g : Nat) : Only g a b := ⟨h.below.os, h.below.tape, h.below.output, h.size, fun i hi _ => h.below.block i hi⟩
/-- The writes were to a block that was not there yet. -/
theorem Only.laterOf {g : Nat} {a b : World} (h : Only g a b) (hg : a.heap.size ≤ g) : Later a b := (Later.refl a).only h hg

/-- 'vs' in the place of what lay from 'o' on. -/
def spliced (l : List Value) (o : Nat) (vs : List Value) : List Value := l.take o ++ vs ++ l.drop (o + vs.length)
theorem spliced_length (l : List Value) (o : Nat) (vs : List Value) (h : o + vs.length ≤ l.length) : (spliced l o vs).length = l.length := by
  simp [spliced]
  omega
theorem spliced_all (l vs : List Value) (h : vs.length = l.length) : spliced l 0 vs = vs := by
  simp [spliced, h]

section
variable {P : Program} {ops : Array Oper} {rest : List Oper} {o : Oper} {a : Act} {w : World} {Q : Exit → Act → World → Prop}
def aggDesc : TypeDesc → Bool
  | .struct _ | .array _ _ => true
  | _ => false
theorem add_at (g o j : Nat) : (⟨g, o, none⟩ : Addr).add j = ⟨g, o + j, none⟩ := by
  unfold Addr.add
  split
  · simp_all
  · rfl
/-- A whole value of several cells (an array, a struct) is loaded. -/
theorem run_loadVar_agg (w : World) (g off : Nat) (ty : TypeId) (vs : List Value) (d : TypeDesc) (hc : ∀ j v, vs[j]? = some v → w.cell? ⟨g, off + j, none⟩ = some v)
    (hu : P.underlying ty = some d) (hd : aggDesc d = true) (hi : (P.info? ty).map (·.size) = some vs.length) : (loadVar ty ⟨g, off, none⟩).run P w = .ok (.agg vs.toArray) w := by
  have hl : (loadCells ⟨g, off, none⟩ vs.length).run P w = .ok vs.toArray w :=
    run_loadCells_list (P := P) w ⟨g, off, none⟩ vs (fun j v hv => by rw [add_at]; exact hc j v hv)
  cases hq : P.info? ty with
  | none => simp [hq] at hi
  | some i =>
    have hs : i.size = vs.length := by simpa [hq] using hi
    have hagg : (isAgg ty).run P w = .ok true w := by
      unfold isAgg
      rw [Sem.run_bind, run_underlying hu w]
      cases d <;> first | (simp; done) | (cases hd)
    simp [loadVar, Sem.run_bind, hagg, sizeOf, typeInfo, hq, hs, hl]
theorem wpList_load_agg (hgd : o.guard = none) (ty : TypeId) (x : Operand) (ho : o.op = .load ty x) (g off : Nat) (vs : List Value) (hc : ∀ j v, vs[j]? = some v → w.cell? ⟨g, off + j, none⟩ = some v)
    (hx : a.eval x = .pointer (some ⟨g, off, none⟩)) (d : TypeDesc) (hu : P.underlying ty = some d) (hd : aggDesc d = true) (hi : (P.info? ty).map (·.size) = some vs.length)
    (h : wpList P ops Q rest (a.put o.dst (.agg vs.toArray)) w) : wpList P ops Q (o :: rest) a w :=
  wpList_plain hgd fun K hK => by
    unfold Oper.wp execOp
    simp only [ho, hx, Instr.loadAt, Instr.sureAddr, Sem.run_bind, Sem.run_pure, Result.andThen_ok, run_loadVar_agg w g off ty vs d hc hu hd hi]
    exact hK _ _ h
/-- An array or a struct is built of parts that are all written out. -/
theorem wpList_build_is (hgd : o.guard = none) (t : TypeId) (parts : Array (Nat × Operand)) (ho : o.op = .build t parts) (vs : List Value) (hb : P.built t (parts.map fun (i, x) => (i, a.eval x)).toList = some vs.toArray)
    (h : wpList P ops Q rest (a.put o.dst (.agg vs.toArray)) w) : wpList P ops Q (o :: rest) a w :=
  wpList_plain hgd fun K hK => wp_build t parts ho (by rw [hb]; rfl) (by rw [hb]; exact hK _ _ h)
/-- A value of one cell is stored. -/
theorem wpList_store_one (hgd : o.guard = none) (hd : o.dst = none) (ty : TypeId) (x y : Operand) (ho : o.op = .store ty x y) (ad : Addr) (hx : a.eval x = .pointer (some ad)) (h1 : (a.eval y).oneCell' = true)
    (hi : (P.info? ty).map (·.size) = some 1) (hc : (w.cell? ad).isSome = true) (hf : w.frozen? ad = false) (h : ∀ v, a.eval y = v → wpList P ops Q rest a (w.setCell ad v)) : wpList P ops Q (o :: rest) a w :=
  wpList_plain hgd fun K hK => by
    have hput : a.put o.dst undef = a := by rw [hd]; rfl
    obtain ⟨u, hc⟩ := Option.isSome_iff_exists.1 hc
    generalize hy : a.eval y = v at h1
    have h := h v hy
    rw [← hput] at h
    cases hq : P.info? ty with
    | none => simp [hq] at hi
    | some i =>
      have hs : i.size = 1 := by simpa [hq] using hi
      have hcs : v.cells = #[v] := by cases v <;> first | rfl | (cases h1)
      have hst : (storeVar ty ad v).run P w = .ok () (w.setCell ad v) := by
        have hs1 : (store ad v).run P w = .ok () (w.setCell ad v) := by
          rw [run_store P w ad v _ h1]
          simp [hc, hf]
        have ha : ad.add 0 = ad := by simp [Addr.add]
        simp [storeVar, sizeOf, typeInfo, hq, hcs, hs, storeCells, ha, hs1]
      unfold Oper.wp execOp
      simp only [ho, hx, hy, Instr.storeAt, Instr.sureAddr, Sem.run_bind, Sem.run_pure, Result.andThen_ok, hst]
      exact hK _ _ h
/-- A whole value of several cells is stored into a block. -/
theorem wpList_store_agg (hgd : o.guard = none) (hd : o.dst = none) (ty : TypeId) (x y : Operand) (ho : o.op = .store ty x y) (g off : Nat) (t : TypeId) (l vs : List Value) (hg : Blk w g t l)
    (hx : a.eval x = .pointer (some ⟨g, off, none⟩)) (hy : a.eval y = .agg vs.toArray) (hi : (P.info? ty).map (·.size) = some vs.length) (hfit : off + vs.length ≤ l.length) (h1 : ∀ v ∈ vs, v.oneCell' = true)
    (h : ∀ w', Blk w' g t (spliced l off vs) → Only g w w' → wpList P ops Q rest a w') : wpList P ops Q (o :: rest) a w :=
  wpList_plain hgd fun K hK => by
    have hput : a.put o.dst undef = a := by rw [hd]; rfl
    rw [← hput] at h
    have hr := run_storeCells_at (P := P) g off t vs 0 l.toArray w hg (by simpa using hfit) h1
    cases hq : P.info? ty with
    | none => simp [hq] at hi
    | some i =>
      have hs : i.size = vs.length := by simpa [hq] using hi
      have hst : (storeVar ty ⟨g, off, none⟩ (.agg vs.toArray)).run P w = .ok () (w.setRow g (spliced l off vs).toArray) := by
        have e : (storeVar ty ⟨g, off, none⟩ (.agg vs.toArray)).run P w = (storeCells ⟨g, off, none⟩ vs 0).run P w := by
          simp [storeVar, sizeOf, typeInfo, hq, Value.cells, hs]
        rw [e, hr]
        simp [spliced]
      unfold Oper.wp execOp
      simp only [ho, hx, hy, Instr.storeAt, Instr.sureAddr, Sem.run_bind, Sem.run_pure, Result.andThen_ok, hst]
      exact hK _ _ (h _ (setRow_heap w g l.toArray _ t _ hg) (only_setRow w g _))
end
theorem w8_one (l : List UInt8) : ∀ v ∈ l.map W8, v.oneCell' = true := by
  intro v hv
  obtain ⟨x, _, rfl⟩ := List.mem_map.1 hv
  rfl
theorem w32_one (l : List UInt32) : ∀ v ∈ l.map W32, v.oneCell' = true := by
  intro v hv
  obtain ⟨x, _, rfl⟩ := List.mem_map.1 hv
  rfl
theorem w64_one (l : List UInt64) : ∀ v ∈ l.map W64, v.oneCell' = true := by
  intro v hv
  obtain ⟨x, _, rfl⟩ := List.mem_map.1 hv
  rfl
/-- A result that lies in a block. -/
theorem results_blk {P : Program} {fn : Func} {p : Tmp} {ty : TypeId} (h : fn.results = #[.cell p ty]) (tmps : Array Value) (w : World) (g : Nat) (t : TypeId) (l : List Value) (d : TypeDesc)
    (hg : Blk w g t l) (hp : tmps.getD p undef = .pointer (some ⟨g, 0, none⟩)) (hu : P.underlying ty = some d) (hd : aggDesc d = true) (hi : (P.info? ty).map (·.size) = some l.length) :
    (results fn tmps).run P w = .ok (.agg l.toArray) w :=
  results_cell_row h tmps w g t l.toArray (0, 0) d hp hg hu (by cases d <;> first | rfl | cases hd) (by simpa using hi)
theorem results_blk_tmp {P : Program} {fn : Func} {p u : Tmp} {ty : TypeId} (h : fn.results = #[.cell p ty, .tmp u]) (tmps : Array Value) (w : World) (g : Nat) (t : TypeId) (l : List Value) (d : TypeDesc)
    (hg : Blk w g t l) (hp : tmps.getD p undef = .pointer (some ⟨g, 0, none⟩)) (hu : P.underlying ty = some d) (hd : aggDesc d = true) (hi : (P.info? ty).map (·.size) = some l.length) :
    (results fn tmps).run P w = .ok (.tuple #[.agg l.toArray, tmps.getD u undef]) w := by
  rw [results_cell_tmp h, hp]
  have := run_loadVar_agg (P := P) w g 0 ty l d (fun j v hv => by rw [Nat.zero_add]; exact hg.cellD j hv) hu hd hi
  simp [asAddr, this]

/-! ### Rows of the call's own -/
theorem own_rd {w : World} {base : Nat} {e : TypeId} {A : Option Addr} {n c : Nat} {vs : List Value} (h : w.ownsRow base e 1 (.slice A n c) n vs) : Rd w A n vs := by
  refine ⟨by simpa using h.1, fun hn => ?_⟩
  rcases h.2 with ⟨_, h0⟩ | ⟨g, cap, cur, hv, hb, hh, hnc, hm, hs, ht⟩
  · omega
  · simp only [Value.slice.injEq, true_and] at hv
    obtain ⟨rfl, rfl⟩ := hv
    refine ⟨g, 0, rfl, Blk.lt (l := cur.toList) (t := e) (by unfold Blk; simpa using hh), fun j u hu => ?_⟩
    rw [Nat.zero_add, cell_of_row w g j cur e (0, 0) hh]
    rw [← ht, List.getElem?_take] at hu
    split at hu
    · simpa using hu
    · cases hu
theorem own_grown {w w' : World} {base : Nat} {e : TypeId} {v : Value} {n : Nat} {vs : List Value} {row : Option Nat} (h : w.ownsRow base e 1 v n vs) (hg : w.grownBy w' row) (hne : ∀ k, row = some k → k < base ∨ w.heap.size ≤ k) : w'.ownsRow base e 1 v n vs := by
  refine h.kept hg ?_
  cases hb : v.ownBlock with
  | none => exact .inl rfl
  | some b =>
    obtain ⟨h1, h2⟩ := h.lt b hb
    refine .inr fun e => ?_
    rcases hne b e.symm with h3 | h3 <;> omega
theorem own_later {w w' : World} {base : Nat} {e : TypeId} {v : Value} {n : Nat} {vs : List Value} (h : w.ownsRow base e 1 v n vs) (hl : Later w w') : w'.ownsRow base e 1 v n vs :=
  h.kept (row := none) ⟨hl.below.os, hl.below.tape, hl.below.output, hl.size, fun k hk _ => hl.below.block k hk⟩ (by cases v.ownBlock <;> simp)
theorem own_mono {w : World} {base base' : Nat} {e : TypeId} {v : Value} {n : Nat} {vs : List Value} (h : w.ownsRow base e 1 v n vs) (hb : base' ≤ base) : w.ownsRow base' e 1 v n vs := by
  refine ⟨h.1, h.2.imp id ?_⟩
  rintro ⟨g, cap, cur, h1, h2, h3⟩
  exact ⟨g, cap, cur, h1, Nat.le_trans hb h2, h3⟩
theorem own_nil (w : World) (base : Nat) (e : TypeId) : w.ownsRow base e 1 (.slice none 0 0) 0 [] := World.ownsRow_nil w base e 1
theorem own_new (w : World) (e : TypeId) (l : List Value) (hm : l.length ≤ 140737488355328) : (w.alloc (.cells l.toArray e)).ownsRow w.heap.size e 1 (.slice (some ⟨w.heap.size, 0, none⟩) l.length l.length) l.length l := by
  have := World.ownsRow_lit (e := e) (size := 1) w l.toArray l.length (Nat.le_refl _) (by unfold maxLen; omega) (by simp)
  simpa using this
theorem own_of_blk {w : World} {base g : Nat} {e : TypeId} {l : List Value} (h : Blk w g e l) (hb : base ≤ g) (hm : l.length ≤ 140737488355328) : w.ownsRow base e 1 (.slice (some ⟨g, 0, none⟩) l.length l.length) l.length l :=
  ⟨by simp, .inr ⟨g, l.length, l.toArray, rfl, hb, h, Nat.le_refl _, by unfold maxLen; omega, by simp, by simp⟩⟩
theorem Later.grownBy {w0 w w' : World} {row : Option Nat} (h : Later w0 w) (hg : w.grownBy w' row) (hr : ∀ k, row = some k → w0.heap.size ≤ k) : Later w0 w' := .of_below (h.below.grown hg h.size hr)
theorem own_shape {w : World} {base : Nat} {e : TypeId} {v : Value} {n : Nat} {vs : List Value} (h : w.ownsRow base e 1 v n vs) : ∃ A c, v = .slice A n c := by
  rcases h.2 with ⟨rfl, rfl⟩ | ⟨g, cap, cur, rfl, _⟩ <;> exact ⟨_, _, rfl⟩

section
variable {P : Program} {ops : Array Oper} {rest : List Oper} {o : Oper} {a : Act} {w : World} {Q : Exit → Act → World → Prop}
/-- 'append(s, x...)': s a row of the call's own, x whatever reads as a list. -/
theorem wpList_append_rd (hgd : o.guard = none) (s x : Operand) (t : TypeId) (ho : o.op = .call { callee := .builtin .append, args := #[s, x], argTypes := #[t, t] })
    (e : TypeId) (z : Value) (bytes : Nat) (ht : P.underlying t = some (.slice e)) (hinfo : (P.info? e).map (fun i => (i.zero, i.size, i.bytes)) = some (some z, 1, bytes)) (hzs : z.cells.size = 1)
    (w0 : World) (v : Value) (n : Nat) (vs : List Value) (hown : w.ownsRow w0.heap.size e 1 v n vs) (hl : Later w0 w)
    (A : Option Addr) (m c : Nat) (news : List Value) (hr : Rd w A m news) (h1 : ∀ u ∈ news, u.oneCell' = true) (hs : a.eval s = v) (hx : a.eval x = .slice A m c) (hsz : (n + m) * bytes ≤ 140737488355328) (hby : 0 < bytes)
    (h : ∀ A' c' w', w'.ownsRow w0.heap.size e 1 (.slice A' (n + m) c') (n + m) (vs ++ news) → Later w0 w' → w.grownBy w' v.ownBlock → (A' = none → n + m = 0) → wpList P ops Q rest (a.put o.dst (.slice A' (n + m) c')) w') :
    wpList P ops Q (o :: rest) a w := by
  obtain ⟨i, hi, hz, hsize, hbytes⟩ := info_parts hinfo
  have hnm : n + m ≤ 140737488355328 := Nat.le_trans (Nat.le_mul_of_pos_right _ hby) hsz
  have hmax : n + m ≤ maxLen := by unfold maxLen; omega
  have hfin : ∀ v' w', (Builtin.append_ #[t, t] o.type #[v, .slice A m c]).run P w = .ok v' w' → w'.ownsRow w0.heap.size e 1 v' (n + m) (vs ++ news) → w.grownBy w' v.ownBlock → wpList P ops Q (o :: rest) a w := by
    intro v' w' hrun hown' hg
    refine wpList_plain hgd fun K hK => ?_
    unfold Oper.wp execOp
    simp only [ho, resolve, invoke, builtin, Sem.run_bind, Sem.run_pure, Result.andThen_ok, List.map_toArray, List.map_cons, List.map_nil, hs, hx, hrun]
    have hlat : Later w0 w' := hl.grownBy hg (fun k hk => (hown.lt k hk).1)
    obtain ⟨A', c', rfl⟩ := own_shape hown'
    refine hK _ _ (h A' c' w' hown' hlat hg fun hA => ?_)
    subst hA
    rcases hown'.2 with ⟨_, h0⟩ | ⟨g, cap, cur, hv, _⟩
    · exact h0
    · cases hv
  cases A with
  | some ad =>
    have hcells : ∀ j u, news[j]? = some u → w.cell? (ad.add j) = some u := by
      intro j u hu
      have hj : j < news.length := (List.getElem?_eq_some_iff.1 hu).1
      obtain ⟨b, off, hA, _, hc⟩ := hr.2 (by have := hr.1; omega)
      obtain rfl : ad = ⟨b, off, none⟩ := by simpa using hA
      rw [add_at]
      exact hc j u hu
    obtain ⟨v', w', hrun, h2, h3, _⟩ := run_append_own (P := P) w w0.heap.size t o.type e i z 1 bytes ht hi hz hsize hbytes hzs (by omega) v n vs hown ad m c news (by simpa using hr.1) hcells h1 hmax hsz hl.size
    exact hfin v' w' hrun h2 h3
  | none =>
    have hm : m = 0 := by
      rcases Nat.eq_zero_or_pos m with h0 | h0
      · exact h0
      · obtain ⟨b, off, hA, _⟩ := hr.2 h0
        cases hA
    subst hm
    have hn : news = [] := List.eq_nil_of_length_eq_zero hr.1
    subst hn
    have hrun : (Builtin.append_ #[t, t] o.type #[v, .slice none 0 c]).run P w = .ok v w := by
      rcases hown.2 with ⟨rfl, rfl⟩ | ⟨g, cap, cur, rfl, _, _, hnc, _⟩
      · simp [Builtin.append_, run_underlying ht, sizeOf, typeInfo, hi, Builtin.lenOf, Builtin.firstCells]
      · simp [Builtin.append_, run_underlying ht, sizeOf, typeInfo, hi, Builtin.lenOf, Builtin.firstCells, hnc, storeCells]
    exact hfin v w hrun (by simpa using hown) (World.grownBy.refl w _)
/-- 'make([]T, n)'. -/
theorem wpList_make_n (hgd : o.guard = none) (l c : Operand) (t : TypeId) (ho : o.op = Op.makeSlice t l c) (e : TypeId) (z : Value) (bytes : Nat) (ht : P.underlying t = some (.slice e))
    (hinfo : (P.info? e).map (fun i => (i.zero, i.size, i.bytes)) = some (some z, 1, bytes)) (hz1 : z.cells = #[z]) (kl kc : IntKind) (L C : Int) (n : Nat) (hl : a.eval l = .int kl L) (hc : a.eval c = .int kc C) (hL : L = (n : Int)) (hC : C = (n : Int))
    (hby : 0 < bytes) (hsz : n * bytes ≤ 140737488355328) (h : ∀ w', Blk w' w.heap.size e (List.replicate n z) → Later w w' → wpList P ops Q rest (a.put o.dst (.slice (some ⟨w.heap.size, 0, none⟩) n n)) w') :
    wpList P ops Q (o :: rest) a w := by
  obtain ⟨i, hi, hz, hsize, hbytes⟩ := info_parts hinfo
  have hn : n ≤ 140737488355328 := Nat.le_trans (Nat.le_mul_of_pos_right _ hby) hsz
  refine wpList_plain hgd fun K hK => ?_
  have hb : ((i.bytes : Int) * (n : Int)) ≤ 281474976710656 := by
    rw [hbytes, ← Int.natCast_mul, Nat.mul_comm]
    omega
  have hr := run_make (P := P) w t e i z ht hi hz kl kc n n (by omega) (Int.le_refl _) hb (by omega)
  simp only [Int.toNat_natCast, hsize, Nat.mul_one, hz1] at hr
  subst hL
  subst hC
  unfold Oper.wp
  simp only [execOp, ho, hl, hc, Sem.run_bind, hr, Result.andThen_ok, Sem.run_pure]
  refine hK _ _ (h _ ?_ (later_alloc _ _))
  have hm : madeCells #[z] n = (List.replicate n z).toArray := by
    apply Array.toList_inj.1
    rw [toList_madeCells_one]
  show Blk (w.alloc (.cells (madeCells #[z] n) e)) _ _ _
  rw [hm]
  exact Blk.new w e _
end
end Go.Proofs.Ytmdbekdphkkmkaa
