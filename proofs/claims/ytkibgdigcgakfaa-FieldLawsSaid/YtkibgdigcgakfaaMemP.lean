/-
  More laws at operations: a quiet load of several cells; 'make' with room; rows of slices.
  Slices of slices of bytes that read as lists.
  shallotref01: Copies, Join.
-/
import Derived.Test.YtkibgdigcgakfaaLists
import Derived.Lib.SlBytesConst
namespace Go.Proofs.Ytkibgdigcgakfaa
open Go.RowKit
open Go.BigFrame

section
variable {P : Program} {ops : Array Oper} {C : World → Prop} {Q : Act → Prop} {a : Act} {o : Oper} {rest : List Oper}
theorem quiet_load_agg {K : Act → Prop} (ty : TypeId) (x : Operand) (ho : o.op = .load ty x) (g off : Nat) (vs : List Value) (hc : ∀ w, C w → ∀ j v, vs[j]? = some v → w.cell? ⟨g, off + j, none⟩ = some v)
    (hx : a.eval x = .pointer (some ⟨g, off, none⟩)) (d : TypeDesc) (hu : P.underlying ty = some d) (hd : aggDesc d = true) (hi : (P.info? ty).map (·.size) = some vs.length)
    (h : K (a.put o.dst (.agg vs.toArray))) : o.quiet P a C K :=
  ⟨.agg vs.toArray, fun w hw => by
    unfold Oper.quietAt execOp
    simp only [ho, hx, Instr.loadAt, Instr.sureAddr, Sem.run_bind, Sem.run_pure, Result.andThen_ok, run_loadVar_agg w g off ty vs d (hc w hw) hu hd hi]
    exact ⟨rfl, rfl⟩, h⟩
theorem wpQuiet_load_agg (hgd : o.guard = none) (ty : TypeId) (x : Operand) (ho : o.op = .load ty x) (g off : Nat) (vs : List Value) (hc : ∀ w, C w → ∀ j v, vs[j]? = some v → w.cell? ⟨g, off + j, none⟩ = some v)
    (hx : a.eval x = .pointer (some ⟨g, off, none⟩)) (d : TypeDesc) (hu : P.underlying ty = some d) (hd : aggDesc d = true) (hi : (P.info? ty).map (·.size) = some vs.length)
    (h : wpQuiet P ops C Q rest (a.put o.dst (.agg vs.toArray))) : wpQuiet P ops C Q (o :: rest) a :=
  wpQuiet_want (by simp [Region.wanted, hgd]) fun K hK => ⟨.agg vs.toArray, fun w hw => by
    unfold Oper.quietAt execOp
    simp only [ho, hx, Instr.loadAt, Instr.sureAddr, Sem.run_bind, Sem.run_pure, Result.andThen_ok, run_loadVar_agg w g off ty vs d (hc w hw) hu hd hi]
    exact ⟨rfl, rfl⟩, hK _ h⟩
end

section
variable {P : Program} {ops : Array Oper} {rest : List Oper} {o : Oper} {a : Act} {w : World} {Q : Exit → Act → World → Prop}
/-- 'make([]T, n, c)'. -/
theorem wpList_make_cap (hgd : o.guard = none) (l c : Operand) (t : TypeId) (ho : o.op = Op.makeSlice t l c) (e : TypeId) (z : Value) (bytes : Nat) (ht : P.underlying t = some (.slice e))
    (hinfo : (P.info? e).map (fun i => (i.zero, i.size, i.bytes)) = some (some z, 1, bytes)) (hz1 : z.cells = #[z]) (kl kc : IntKind) (L C : Int) (n m : Nat) (hl : a.eval l = .int kl L) (hc : a.eval c = .int kc C) (hL : L = (n : Int)) (hC : C = (m : Int))
    (hnm : n ≤ m) (hby : 0 < bytes) (hsz : m * bytes ≤ 140737488355328) (h : ∀ w', w'.ownsRow w.heap.size e 1 (.slice (some ⟨w.heap.size, 0, none⟩) n m) n (List.replicate n z) → Later w w' → wpList P ops Q rest (a.put o.dst (.slice (some ⟨w.heap.size, 0, none⟩) n m)) w') :
    wpList P ops Q (o :: rest) a w := by
  obtain ⟨i, hi, hz, hsize, hbytes⟩ := info_parts hinfo
  have hn : m ≤ 140737488355328 := Nat.le_trans (Nat.le_mul_of_pos_right _ hby) hsz
  refine wpList_plain hgd fun K hK => ?_
  have hb : ((i.bytes : Int) * (m : Int)) ≤ 281474976710656 := by
    rw [hbytes, ← Int.natCast_mul, Nat.mul_comm]
    omega
  have hr := run_make (P := P) w t e i z ht hi hz kl kc n m (by omega) (by omega) hb (by omega)
  simp only [Int.toNat_natCast, hsize, Nat.mul_one, hz1] at hr
  subst hL
  subst hC
  unfold Oper.wp
  simp only [execOp, ho, hl, hc, Sem.run_bind, hr, Result.andThen_ok, Sem.run_pure]
  refine hK _ _ (h _ ?_ (later_alloc _ _))
  have hm : madeCells #[z] m = (List.replicate m z).toArray := by
    apply Array.toList_inj.1
    rw [toList_madeCells_one]
  rw [hm]
  have := World.ownsRow_lit (e := e) (size := 1) w (List.replicate m z).toArray m (Nat.le_refl _) (by unfold maxLen; omega) (by simp)
  refine ⟨by simp, .inr ⟨w.heap.size, m, (List.replicate m z).toArray, rfl, Nat.le_refl _, Blk.new w e _, hnm, by unfold maxLen; omega, by simp, ?_⟩⟩
  simp [List.take_replicate, hnm]
end

@[go_sem high] theorem cut8_int (A : Option Addr) (n c : Nat) (kl kh : IntKind) (l h : Int) (h0 : 0 ≤ l) (h1 : l ≤ h) (h2 : h ≤ c) (W : World) :
    (Instr.sliceAt 31 (.slice A n c) (some (.int kl l)) (some (.int kh h)) none).run Try.prog W = .ok (.slice (cutA A l.toNat c) (h.toNat - l.toNat) (c - l.toNat)) W := run_slice_cut Try.underlying31 size8 A n c kl kh l h h0 h1 h2 W
theorem infoB : (Try.prog.info? 31).map (fun i => (i.zero, i.size, i.bytes)) = some (some (.slice none 0 0), 1, 24) := by kernel_rfl
theorem sizeB : (Try.prog.info? 31).map (·.size) = some 1 := by kernel_rfl
/-- Two rows of other types: the one grows, the other stays. -/
theorem own_other {w w' : World} {b1 b2 : Nat} {e1 e2 : TypeId} {v1 v2 : Value} {n1 n2 : Nat} {x1 x2 : List Value} (h1 : w.ownsRow b1 e1 1 v1 n1 x1) (h2 : w.ownsRow b2 e2 1 v2 n2 x2) (hne : e1 ≠ e2) (hg : w.grownBy w' v2.ownBlock) :
    w'.ownsRow b1 e1 1 v1 n1 x1 := by
  refine h1.kept hg ?_
  rcases h1.2 with ⟨rfl, _⟩ | ⟨g1, c1, cur1, rfl, _, hh1, _⟩
  · exact .inl rfl
  · right
    rcases h2.2 with ⟨rfl, _⟩ | ⟨g2, c2, cur2, rfl, _, hh2, _⟩
    · simp [Value.ownBlock]
    · intro hb
      simp only [Value.ownBlock, Option.some.injEq] at hb
      subst hb
      rw [hh1] at hh2
      injection hh2 with hh2
      injection hh2 with _ h
      exact hne h
/-- A slice of slices of the call's own, all in new memory. -/
def OwnParts (w : World) (base : Nat) (A : Option Addr) (n c : Nat) (ps : List (List UInt8)) : Prop :=
  ∃ vs : List Value, w.ownsRow base 31 1 (.slice A n c) n vs ∧ vs.length = ps.length ∧ ∀ (j : Nat) v p, vs[j]? = some v → ps[j]? = some p → ∃ A' n' c', v = .slice A' n' c' ∧ OwnB w base A' n' c' p
theorem OwnParts.later {w w' : World} {base : Nat} {A : Option Addr} {n c : Nat} {ps : List (List UInt8)} (h : OwnParts w base A n c ps) (hl : Later w w') : OwnParts w' base A n c ps := by
  obtain ⟨vs, h1, h2, h3⟩ := h
  exact ⟨vs, own_later h1 hl, h2, fun j v p hv hp => by obtain ⟨A', n', c', e1, e2⟩ := h3 j v p hv hp; exact ⟨A', n', c', e1, e2.later hl⟩⟩
theorem OwnParts.len {w : World} {base : Nat} {A : Option Addr} {n c : Nat} {ps : List (List UInt8)} (h : OwnParts w base A n c ps) : ps.length = n := by
  obtain ⟨vs, h1, h2, _⟩ := h
  rw [← h2]
  simpa using h1.1
/-! ### Equal arrays -/
theorem all_range_eq' {α : Type} [BEq α] [LawfulBEq α] (z : α) : ∀ (xs ys : List α), xs.length = ys.length → ((List.range xs.length).all fun i => xs.getD i z == ys.getD i z) = (xs == ys)
  | [], [], _ => rfl
  | x :: xs, y :: ys, h => by
    have ih := all_range_eq' z xs ys (by simpa using h)
    rw [List.length_cons, List.range_succ_eq_map, List.all_cons, List.all_map]
    simp only [List.getD_cons_zero, Function.comp_def, List.getD_cons_succ, ih]
    simp [List.cons_beq_cons]
  | [], _ :: _, h => by simp at h
  | _ :: _, [], h => by simp at h
section
variable {P : Program} (w : World)
theorem run_equalIn_arr {α : Type} [BEq α] [LawfulBEq α] (z : α) (f : α → Value) (d : Nat) (t e : TypeId) (n : Nat) (ht : P.underlying t = some (.array n e)) (hs : (P.info? e).map (·.size) = some 1) {d0 : TypeDesc} (he : P.underlying e = some d0) (hd : aggDesc d0 = false)
    (heq : ∀ d x y w, (Op.equalIn (d + 1) e (f x) (f y)).run P w = .ok (x == y) w) (xs ys : List α) (hx : xs.length = n) (hy : ys.length = n) :
    (Op.equalIn (d + 2) t (.agg (xs.map f).toArray) (.agg (ys.map f).toArray)).run P w = .ok (xs == ys) w := by
  have hsz : ∀ w, (sizeOf e).run P w = .ok 1 w := by
    intro w
    cases hq : P.info? e with
    | none => simp [hq] at hs
    | some inf =>
      have hsz : inf.size = 1 := by simpa [hq] using hs
      simp [sizeOf, typeInfo, hq, hsz]
  have hagg : ∀ w, (isAgg e).run P w = .ok false w := by
    intro w
    unfold isAgg
    rw [Sem.run_bind, run_underlying he w]
    cases d0 <;> first | (simp; done) | (cases hd)
  rw [← all_range_eq' z xs ys (hx.trans hy.symm), hx, List.range_eq_range', Op.equalIn]
  simp only [Sem.run_bind, run_underlying ht, Result.andThen_ok, hsz, Std.Legacy.Range.forIn_eq_forIn_range', Std.Legacy.Range.size, Nat.sub_zero, Nat.add_sub_cancel, Nat.div_one]
  have hl : ∀ i ∈ List.range' 0 n 1, i < n := fun i hi => by simpa using (List.mem_range'_1.1 hi).2
  generalize List.range' 0 n 1 = l at hl ⊢
  induction l with
  | nil => simp
  | cons i l ih =>
    have hi : i < n := hl i (by simp)
    have px : (part e (xs.map f).toArray (i * 1)).run P w = .ok (f (xs.getD i z)) w := by
      simp [part, Sem.run_bind, hagg, List.getD, List.getElem?_eq_getElem (show i < xs.length by omega)]
    have py : (part e (ys.map f).toArray (i * 1)).run P w = .ok (f (ys.getD i z)) w := by
      simp [part, Sem.run_bind, hagg, List.getD, List.getElem?_eq_getElem (show i < ys.length by omega)]
    have pe := heq d (xs.getD i z) (ys.getD i z) w
    simp only [List.forIn_cons, Sem.run_bind, px, py, pe, Result.andThen_ok, List.all_cons]
    cases hb : (xs.getD i z == ys.getD i z)
    · simp
    · simp only [Bool.not_true, Bool.false_eq_true, if_false, Sem.run_pure, Result.andThen_ok, Bool.true_and]
      exact ih fun j hj => hl j (by simp [hj])
theorem heq_w8 (e : TypeId) (k : IntKind) (he : P.underlying e = some (.int k)) (d : Nat) (x y : UInt8) (w : World) : (Op.equalIn (d + 1) e (W8 x) (W8 y)).run P w = .ok (x == y) w := by
  rw [W8, W8, run_equalIn_int w d e .u8 k _ _ he]
  congr 1
  rw [Bool.eq_iff_iff]
  simp [← UInt8.toNat_inj]
  omega
theorem heq_w32 (e : TypeId) (k : IntKind) (he : P.underlying e = some (.int k)) (d : Nat) (x y : UInt32) (w : World) : (Op.equalIn (d + 1) e (W32 x) (W32 y)).run P w = .ok (x == y) w := by
  rw [W32, W32, run_equalIn_int w d e .u32 k _ _ he]
  congr 1
  rw [Bool.eq_iff_iff]
  simp [← UInt32.toNat_inj]
  omega
theorem heq_w64 (e : TypeId) (k : IntKind) (he : P.underlying e = some (.int k)) (d : Nat) (x y : UInt64) (w : World) : (Op.equalIn (d + 1) e (W64 x) (W64 y)).run P w = .ok (x == y) w := by
  rw [W64, W64, run_equalIn_int w d e .u64 k _ _ he]
  congr 1
  rw [Bool.eq_iff_iff]
  simp [← UInt64.toNat_inj]
  omega
end
theorem eqg_32 : Try.prog.eqGuardType Try.prog.depth 48 = false := by kernel_rfl
theorem run_eql_b32 (xs ys : List UInt8) (hx : xs.length = 32) (hy : ys.length = 32) (w : World) : (binOp .eql 48 (.agg (xs.map W8).toArray) (.agg (ys.map W8).toArray)).run Try.prog w = .ok (.bool (xs == ys)) w := by
  rw [run_eql_struct, run_equalIn_arr w 0 W8 9998 48 5 32 Try.underlying48 size8 Try.underlying5 rfl (heq_w8 _ _ Try.underlying5) xs ys hx hy]
  rfl
theorem run_neq_b32 (xs ys : List UInt8) (hx : xs.length = 32) (hy : ys.length = 32) (w : World) : (binOp .neq 48 (.agg (xs.map W8).toArray) (.agg (ys.map W8).toArray)).run Try.prog w = .ok (.bool (xs != ys)) w := by
  rw [run_neq_struct, run_equalIn_arr w 0 W8 9998 48 5 32 Try.underlying48 size8 Try.underlying5 rfl (heq_w8 _ _ Try.underlying5) xs ys hx hy]
  rfl
@[go_sem high] theorem eqGuard_b32 (op : BinOp) (x y : Operand) (xs ys : Array Value) (w : World) : (eqGuard op 48 x y (.agg xs) (.agg ys)).run Try.prog w = .ok () w := run_eqGuard_agg w op _ x y xs ys eqg_32
attribute [go_sem high] run_eql_b32 run_neq_b32
section
variable {P : Program} {ops : Array Oper} {rest : List Oper} {o : Oper} {a : Act} {w : World} {Q : Exit → Act → World → Prop}
/-- '[]byte("..")' of a constant, behind the building of its row. -/
theorem wpList_convert_lit (hgd : o.guard = none) (t : TypeId) (x : Operand) (ho : o.op = .convert t t x) (e : TypeId) (ht : P.underlying t = some (.slice e)) (he : P.underlying e = some (.int .u8))
    (w0 : World) (C : List Value) (hw : w = w0.alloc (.cells C.toArray e)) (g n c : Nat) (hg : w0.heap.size = g) (hx : a.eval x = .slice (some ⟨g, 0, none⟩) n c)
    (h : ∀ w', Later w0 w' → Rd w' (some ⟨g, 0, none⟩) C.length C → g + 1 = w'.heap.size → wpList P ops Q rest (a.put o.dst (.slice (some ⟨g, 0, none⟩) n c)) w') : wpList P ops Q (o :: rest) a w :=
  wpList_plain hgd fun K hK => by
    subst hg
    subst hw
    have hr := Lib.run_convert_bytes_const (P := P) w0 t e C.toArray n c ht he
    unfold Oper.wp execOp
    simp only [ho, hx, Sem.run_bind, hr, Result.andThen_ok, Sem.run_pure]
    refine hK _ _ (h _ (later_alloc _ _) ⟨rfl, fun _ => ⟨_, _, rfl, by simp, fun j u hu => ?_⟩⟩ (by simp))
    rw [Nat.zero_add]
    unfold World.cell?
    have hb : (w0.alloc (.cells C.toArray e (C.toArray.size, C.toArray.size + 1))).heap[w0.heap.size]? = some (.cells C.toArray e (C.toArray.size, C.toArray.size + 1)) := by
      show (w0.heap.push _)[w0.heap.size]? = _
      simp
    rw [hb]
    simpa using hu
end
theorem rdb_none (w : World) : RdB w none 0 [] := ⟨rfl, fun h => absurd h (by omega)⟩
theorem slice_one (A : Option Addr) (n c : Nat) : (Value.slice A n c).oneCell' = true := rfl
end Go.Proofs.Ytkibgdigcgakfaa
namespace Go.Proofs.Ytkibgdigcgakfaa
open Go.RowKit

theorem own_cap {w : World} {base : Nat} {e : TypeId} {A : Option Addr} {n c : Nat} {vs : List Value} (h : w.ownsRow base e 1 (.slice A n c) n vs) : n ≤ c := by
  rcases h.2 with ⟨_, h0⟩ | ⟨g, cap, cur, hv, _, _, hnc, _⟩
  · omega
  · cases hv
    exact hnc
theorem OwnB.cap {w : World} {base : Nat} {A : Option Addr} {n c : Nat} {bs : List UInt8} (h : OwnB w base A n c bs) : n ≤ c := own_cap h
/-- It leads to no bad block (where it leads anywhere). -/
def Avoid (bad : Nat → Prop) (A : Option Addr) (n : Nat) : Prop := 0 < n → ∀ ad, A = some ad → ¬ bad ad.block
theorem Avoid.off {bad : Nat → Prop} {A : Option Addr} {n : Nat} (h : Avoid bad A n) {g : Nat} (hg : bad g) (hn : 0 < n) : Off A g := fun ad hd e => h hn ad hd (e ▸ hg)
/-- A slice that reads as bytes. -/
def Part (w : World) (bad : Nat → Prop) (v : Value) (p : List UInt8) : Prop := ∃ A n c, v = .slice A n c ∧ n ≤ c ∧ RdB w A n p ∧ Avoid bad A n
/-- A slice of such slices. -/
def Parts (w : World) (bad : Nat → Prop) (A : Option Addr) (n : Nat) (ps : List (List UInt8)) : Prop :=
  ∃ vs : List Value, Rd w A n vs ∧ Avoid bad A n ∧ vs.length = ps.length ∧ ∀ (j : Nat) v p, vs[j]? = some v → ps[j]? = some p → Part w bad v p
theorem Part.later {w w' : World} {bad : Nat → Prop} {v : Value} {p : List UInt8} (h : Part w bad v p) (hl : Later w w') : Part w' bad v p := by
  obtain ⟨A, n, c, h1, h2, h3, h4⟩ := h
  exact ⟨A, n, c, h1, h2, h3.later hl, h4⟩
theorem Rd.onlyAvoid {w w' : World} {A : Option Addr} {n : Nat} {vs : List Value} {g : Nat} {bad : Nat → Prop} (h : Rd w A n vs) (hv : Avoid bad A n) (ho : Only g w w') (hg : bad g) : Rd w' A n vs := by
  by_cases hn : 0 < n
  · exact h.onlyOff ho (hv.off hg hn)
  · exact ⟨h.1, fun h' => absurd h' hn⟩
theorem Part.only {w w' : World} {bad : Nat → Prop} {v : Value} {p : List UInt8} {g : Nat} (h : Part w bad v p) (ho : Only g w w') (hg : bad g) : Part w' bad v p := by
  obtain ⟨A, n, c, h1, h2, h3, h4⟩ := h
  exact ⟨A, n, c, h1, h2, Rd.onlyAvoid h3 h4 ho hg, h4⟩
theorem Parts.later {w w' : World} {bad : Nat → Prop} {A : Option Addr} {n : Nat} {ps : List (List UInt8)} (h : Parts w bad A n ps) (hl : Later w w') : Parts w' bad A n ps := by
  obtain ⟨vs, h1, h2, h3, h4⟩ := h
  exact ⟨vs, h1.later hl, h2, h3, fun j v p hv hp => (h4 j v p hv hp).later hl⟩
theorem Parts.only {w w' : World} {bad : Nat → Prop} {A : Option Addr} {n : Nat} {ps : List (List UInt8)} {g : Nat} (h : Parts w bad A n ps) (ho : Only g w w') (hg : bad g) : Parts w' bad A n ps := by
  obtain ⟨vs, h1, h2, h3, h4⟩ := h
  exact ⟨vs, h1.onlyAvoid h2 ho hg, h2, h3, fun j v p hv hp => (h4 j v p hv hp).only ho hg⟩
theorem Avoid.more {w : World} {bad bad' : Nat → Prop} {A : Option Addr} {n : Nat} {vs : List Value} (h : Avoid bad A n) (hr : Rd w A n vs) (hb : ∀ b, bad' b → bad b ∨ w.heap.size ≤ b) : Avoid bad' A n := by
  intro hn ad hd hbad
  rcases hb _ hbad with h1 | h1
  · exact h hn ad hd h1
  · obtain ⟨b, o, rfl, hlt, _⟩ := hr.2 hn
    cases hd
    exact absurd hlt (by simpa using h1)
theorem Parts.more {w : World} {bad bad' : Nat → Prop} {A : Option Addr} {n : Nat} {ps : List (List UInt8)} (h : Parts w bad A n ps) (hb : ∀ b, bad' b → bad b ∨ w.heap.size ≤ b) : Parts w bad' A n ps := by
  obtain ⟨vs, h1, h2, h3, h4⟩ := h
  refine ⟨vs, h1, h2.more h1 hb, h3, fun j v p hv hp => ?_⟩
  obtain ⟨A', n', c', e1, e2, e3, e4⟩ := h4 j v p hv hp
  exact ⟨A', n', c', e1, e2, e3, e4.more e3 hb⟩
theorem Parts.len {w : World} {bad : Nat → Prop} {A : Option Addr} {n : Nat} {ps : List (List UInt8)} (h : Parts w bad A n ps) : ps.length = n := by
  obtain ⟨vs, h1, _, h3, _⟩ := h
  rw [← h3, h1.1]
theorem flatten_take_succ (ps : List (List UInt8)) (k : Nat) (h : k < ps.length) : (ps.take (k + 1)).flatten = (ps.take k).flatten ++ ps[k] := by
  rw [List.take_succ_eq_append_getElem h, List.flatten_append]
  simp
theorem flatten_take_le (ps : List (List UInt8)) (k : Nat) : (ps.take k).flatten.length ≤ ps.flatten.length := by
  have : ps.flatten = (ps.take k).flatten ++ (ps.drop k).flatten := by rw [← List.flatten_append, List.take_append_drop]
  rw [this, List.length_append]
  omega
end Go.Proofs.Ytkibgdigcgakfaa
namespace Go.Proofs.Ytkibgdigcgakfaa
open Go.RowKit

theorem ne_types : (5 : TypeId) ≠ 31 := by decide
theorem OwnParts.snoc {w w' : World} {base : Nat} {A A' A1 : Option Addr} {n c c' n1 c1 : Nat} {ps : List (List UInt8)} {p : List UInt8} {us : List Value}
    (h1 : w.ownsRow base 31 1 (.slice A n c) n us) (h2 : us.length = ps.length)
    (h3 : ∀ (j : Nat) v p, us[j]? = some v → ps[j]? = some p → ∃ A' n' c', v = .slice A' n' c' ∧ OwnB w base A' n' c' p) (hp : OwnB w base A1 n1 c1 p) (hg : w.grownBy w' (Value.slice A n c).ownBlock)
    (hown : w'.ownsRow base 31 1 (.slice A' (n + 1) c') (n + 1) (us ++ [.slice A1 n1 c1])) : OwnParts w' base A' (n + 1) c' (ps ++ [p]) := by
  refine ⟨_, hown, by simp [h2], fun j v q hv hq => ?_⟩
  rcases Nat.lt_or_ge j us.length with hj | hj
  · rw [List.getElem?_append_left hj] at hv
    rw [List.getElem?_append_left (by omega)] at hq
    obtain ⟨B, m, d, e1, e2⟩ := h3 j v q hv hq
    exact ⟨B, m, d, e1, own_other e2 h1 ne_types hg⟩
  · rw [List.getElem?_append_right hj] at hv
    rw [List.getElem?_append_right (by omega)] at hq
    have hj0 : j - us.length = 0 := by
      have := (List.getElem?_eq_some_iff.1 hv).1
      simp at this
      omega
    rw [hj0] at hv
    rw [← h2, hj0] at hq
    simp only [List.getElem?_cons_zero, Option.some.injEq] at hv hq
    subst hv
    subst hq
    exact ⟨_, _, _, rfl, own_other hp h1 ne_types hg⟩
theorem Parts.at_ {w : World} {bad : Nat → Prop} {A : Option Addr} {n : Nat} {ps : List (List UInt8)} (h : Parts w bad A n ps) {k : Nat} (hk : k < n) :
    ∃ b o A' n' c', A = some ⟨b, o, none⟩ ∧ b < w.heap.size ∧ w.cell? ⟨b, o + k, none⟩ = some (.slice A' n' c') ∧ n' ≤ c' ∧ RdB w A' n' (ps.getD k []) ∧ Avoid bad A' n' := by
  have hl := h.len
  obtain ⟨vs, hr, _, hvl, hparts⟩ := h
  obtain ⟨b, o, rfl, hb, hc⟩ := hr.at_ (by omega)
  have hck := hc k hk
  obtain ⟨A', n', c', hv, h2, h3, h4⟩ := hparts k _ _ (List.getElem?_eq_getElem (by omega)) (List.getElem?_eq_getElem (by omega))
  rw [hv] at hck
  refine ⟨b, o, A', n', c', rfl, hb, hck, h2, ?_, h4⟩
  rw [List.getD_eq_getElem?_getD, List.getElem?_eq_getElem (by omega)]
  exact h3
theorem take_succ_getD (ps : List (List UInt8)) (k : Nat) (h : k < ps.length) : ps.take (k + 1) = ps.take k ++ [ps.getD k []] := by
  rw [List.take_succ_eq_append_getElem h, List.getD_eq_getElem?_getD, List.getElem?_eq_getElem h]
  rfl
theorem getD_mem' (ps : List (List UInt8)) (k : Nat) (h : k < ps.length) : ps.getD k [] ∈ ps := by
  rw [List.getD_eq_getElem?_getD, List.getElem?_eq_getElem h]
  exact List.getElem_mem h
/-- Slices that read as these lists, one by one. -/
def PartAll (w : World) (bad : Nat → Prop) : List Value → List (List UInt8) → Prop
  | [], [] => True
  | v :: vs, p :: ps => Part w bad v p ∧ PartAll w bad vs ps
  | _, _ => False
theorem PartAll.at_ {w : World} {bad : Nat → Prop} : ∀ {vs : List Value} {ps : List (List UInt8)}, PartAll w bad vs ps → vs.length = ps.length ∧ ∀ (j : Nat) v p, vs[j]? = some v → ps[j]? = some p → Part w bad v p
  | [], [], _ => ⟨rfl, fun j v p hv => by simp at hv⟩
  | v :: vs, p :: ps, h => by
    obtain ⟨h1, h2⟩ := h
    obtain ⟨h3, h4⟩ := PartAll.at_ h2
    refine ⟨by simp [h3], fun j u q hu hq => ?_⟩
    cases j with
    | zero =>
      simp only [List.getElem?_cons_zero, Option.some.injEq] at hu hq
      subst hu
      subst hq
      exact h1
    | succ j => exact h4 j u q (by simpa using hu) (by simpa using hq)
  | [], _ :: _, h => h.elim
  | _ :: _, [], h => h.elim
theorem avoid_false (A : Option Addr) (n : Nat) : Avoid (fun _ => False) A n := fun _ _ _ h => h
theorem parts_of {w : World} {A : Option Addr} {n : Nat} {vs : List Value} {ps : List (List UInt8)} (h : Rd w A n vs) (hp : PartAll w (fun _ => False) vs ps) : Parts w (fun _ => False) A n ps :=
  ⟨vs, h, avoid_false A n, hp.at_.1, hp.at_.2⟩
theorem part_of {w : World} {A : Option Addr} {n c : Nat} {p : List UInt8} (h : RdB w A n p) (hc : n ≤ c) : Part w (fun _ => False) (.slice A n c) p := ⟨A, n, c, rfl, hc, h, avoid_false A n⟩
theorem Blk.rd {w : World} {g : Nat} {t : TypeId} {l : List Value} {n : Nat} (h : Blk w g t l) (hn : l.length = n) : Rd w (some ⟨g, 0, none⟩) n l :=
  ⟨hn, fun _ => ⟨g, 0, rfl, h.lt, fun j u hu => by rw [Nat.zero_add]; exact h.cellD j hu⟩⟩
theorem OwnParts.parts {w : World} {base : Nat} {A : Option Addr} {n c : Nat} {ps : List (List UInt8)} (h : OwnParts w base A n c ps) : Parts w (fun _ => False) A n ps := by
  obtain ⟨vs, h1, h2, h3⟩ := h
  exact ⟨vs, own_rd h1, avoid_false A n, h2, fun j v p hv hp => by obtain ⟨A', n', c', e1, e2⟩ := h3 j v p hv hp; exact ⟨A', n', c', e1, e2.cap, e2.rd, avoid_false _ _⟩⟩
section
variable {P : Program} {ops : Array Oper} {rest : List Oper} {o : Oper} {a : Act} {w : World} {Q : Exit → Act → World → Prop}
theorem wpList_load_blk (hw : Region.wanted o (yielded ops a.tmps) = true) (ty : TypeId) (x : Operand) (ho : o.op = .load ty x) (g : Nat) (t : TypeId) (l : List Value) (hb : Blk w g t l) (hx : a.eval x = .pointer (some ⟨g, 0, none⟩)) (d : TypeDesc) (hu : P.underlying ty = some d) (hd : aggDesc d = true) (k : Nat) (hi : (P.info? ty).map (·.size) = some k) (hl : l.length = k)
    (h : wpList P ops Q rest (a.put o.dst (.agg l.toArray)) w) : wpList P ops Q (o :: rest) a w :=
  BigFrame.wpList_want hw fun K hK => by
    unfold Oper.wp
    simp only [execOp, ho, hx, Instr.loadAt, Instr.sureAddr, Sem.run_bind, Sem.run_pure, Result.andThen_ok, run_loadVar_agg w g 0 ty l d (fun j v hv => by rw [Nat.zero_add]; exact hb.cellD j hv) hu hd (by rw [hl]; exact hi)]
    exact hK _ _ h
theorem wpList_store_blk (hgd : o.guard = none) (hd : o.dst = none) (ty : TypeId) (x y : Operand) (ho : o.op = .store ty x y) (g : Nat) (t : TypeId) (l vs : List Value) (hg : Blk w g t l)
    (hx : a.eval x = .pointer (some ⟨g, 0, none⟩)) (hy : a.eval y = .agg vs.toArray) (k : Nat) (hi : (P.info? ty).map (·.size) = some k) (hvl : vs.length = k) (hl : l.length = k) (h1 : ∀ v ∈ vs, v.oneCell' = true)
    (h : ∀ w', Blk w' g t vs → Only g w w' → wpList P ops Q rest a w') : wpList P ops Q (o :: rest) a w :=
  wpList_store_agg hgd hd ty x y ho g 0 t l vs hg hx hy (by rw [hvl]; exact hi) (by omega) h1 fun w' hb ho => h w' (by rwa [spliced_all _ _ (by omega)] at hb) ho
end
theorem below_succ {p : Nat → Prop} {k : Nat} (h : ∀ j, j < k → p j) (hk : p k) : ∀ j, j < k + 1 → p j := by
  intro j hj
  rcases Nat.lt_or_ge j k with h1 | h1
  · exact h j h1
  · obtain rfl : j = k := by omega
    exact hk
end Go.Proofs.Ytkibgdigcgakfaa
