/-
  Rows whose elements have several cells: F x are the cells of x, sz of them each.
  Rows whose elements are bytes, sz of them each.
-/
import Derived.Test.YtkibgdigcgakfabGreatMemP
import Derived.Test.YtkibgdigcgakfabGreatStrP
import Derived.Test.YtkibgdigcgakfabGreatBag
namespace Go.Proofs.YtkibgdigcgakfabGreat
open Go.RowKit

section
variable {α : Type}
/-- The cells of all elements. -/
theorem flatF_length {F : α → List Value} {sz : Nat} (hF : ∀ x, (F x).length = sz) : ∀ xs : List α, (xs.flatMap F).length = xs.length * sz
  | [] => by simp
  | x :: xs => by rw [List.flatMap_cons, List.length_append, hF, flatF_length hF xs, List.length_cons, Nat.add_mul]; omega
theorem flatF_get {F : α → List Value} {sz : Nat} (hF : ∀ x, (F x).length = sz) (d : α) {i : Nat} {v : Value} : ∀ (xs : List α) (j : Nat), j < xs.length → (F (xs.getD j d))[i]? = some v → (xs.flatMap F)[j * sz + i]? = some v
  | [], j, hj, _ => by simp at hj
  | x :: xs, 0, _, hv => by
    have hv' : (F x)[i]? = some v := by simpa using hv
    have hi : i < (F x).length := (List.getElem?_eq_some_iff.1 hv').1
    rw [List.flatMap_cons, Nat.zero_mul, Nat.zero_add, List.getElem?_append_left hi]
    exact hv'
  | x :: xs, j + 1, hj, hv => by
    rw [List.flatMap_cons, List.getElem?_append_right (by rw [hF, Nat.add_mul]; omega), hF]
    have := flatF_get hF d (i := i) xs j (by simpa using hj) (by simpa using hv)
    rw [show (j + 1) * sz + i - sz = j * sz + i by rw [Nat.add_mul]; omega]
    exact this
theorem flatF_at {F : α → List Value} {sz : Nat} (hF : ∀ x, (F x).length = sz) (d : α) (h0 : 0 < sz) {q : Nat} {v : Value} {xs : List α} (h : (xs.flatMap F)[q]? = some v) : q / sz < xs.length ∧ (F (xs.getD (q / sz) d))[q % sz]? = some v := by
  have hq : q < xs.length * sz := by
    have := (List.getElem?_eq_some_iff.1 h).1
    rwa [flatF_length hF] at this
  have hj : q / sz < xs.length := (Nat.div_lt_iff_lt_mul h0).2 hq
  refine ⟨hj, ?_⟩
  have hr : q % sz < (F (xs.getD (q / sz) d)).length := by rw [hF]; exact Nat.mod_lt _ h0
  have e := flatF_get hF d xs (q / sz) hj (List.getElem?_eq_getElem hr)
  rw [show q / sz * sz + q % sz = q by rw [Nat.mul_comm]; exact Nat.div_add_mod q sz, h] at e
  rw [List.getElem?_eq_getElem hr, ← Option.some.inj e]
/-- Cells of one element are turned. -/
theorem flatF_set {F : α → List Value} {sz : Nat} (hF : ∀ x, (F x).length = sz) (d : α) {off : Nat} {vs : List Value} {y : α} : ∀ (xs : List α) (j : Nat), j < xs.length → off + vs.length ≤ sz → F y = spliced (F (xs.getD j d)) off vs → spliced (xs.flatMap F) (j * sz + off) vs = (xs.set j y).flatMap F
  | [], j, hj, _, _ => by simp at hj
  | x :: xs, 0, _, ho, hy => by
    have hx := hF x
    rw [List.set_cons_zero, List.flatMap_cons, List.flatMap_cons, hy, Nat.zero_mul, Nat.zero_add]
    simp only [spliced, List.getD_cons_zero]
    rw [List.take_append_of_le_length (by omega), List.drop_append_of_le_length (by omega)]
    simp only [List.append_assoc]
  | x :: xs, j + 1, hj, ho, hy => by
    have ih := flatF_set hF d (off := off) (vs := vs) (y := y) xs j (by simpa using hj) ho (by simpa using hy)
    rw [List.set_cons_succ, List.flatMap_cons, List.flatMap_cons, ← ih]
    have hx := hF x
    simp only [spliced]
    rw [List.take_append, List.drop_append, List.take_of_length_le (by rw [hx, Nat.add_mul]; omega), List.drop_eq_nil_of_le (by rw [hx, Nat.add_mul]; omega), hx, show (j + 1) * sz + off - sz = j * sz + off by rw [Nat.add_mul]; omega, show (j + 1) * sz + off + vs.length - sz = j * sz + off + vs.length by rw [Nat.add_mul]; omega]
    simp only [List.nil_append, List.append_assoc]
theorem spliced_one (l : List Value) (i : Nat) (v : Value) (h : i < l.length) : spliced l i [v] = l.set i v := by
  rw [spliced, List.set_eq_take_append_cons_drop, if_pos h]
  simp
/-- Such a row in memory. -/
def RdF (F : α → List Value) (sz : Nat) (d : α) (w : World) (A : Option Addr) (n : Nat) (xs : List α) : Prop :=
  xs.length = n ∧ (0 < n → ∃ b o, A = some ⟨b, o, none⟩ ∧ b < w.heap.size ∧ ∀ j i v, j < n → (F (xs.getD j d))[i]? = some v → w.cell? ⟨b, o + j * sz + i, none⟩ = some v)
variable {F : α → List Value} {sz : Nat} {d : α} {w w' : World} {A : Option Addr} {n : Nat} {xs : List α}
theorem RdF.later (h : RdF F sz d w A n xs) (hl : Later w w') : RdF F sz d w' A n xs := by
  refine ⟨h.1, fun hn => ?_⟩
  obtain ⟨b, o, hA, hb, hc⟩ := h.2 hn
  exact ⟨b, o, hA, Nat.lt_of_lt_of_le hb hl.size, fun j i v hj hv => (hl.below.cell (p := ⟨b, o + j * sz + i, none⟩) hb).trans (hc j i v hj hv)⟩
theorem rdF_none (w : World) : RdF F sz d w none 0 [] := ⟨rfl, fun h => absurd h (by omega)⟩
/-- An element's cells. -/
theorem RdF.at_ (h : RdF F sz d w A n xs) {k : Nat} (hk : k < n) :
    ∃ b o, A = some ⟨b, o, none⟩ ∧ b < w.heap.size ∧ ∀ i v, (F (xs.getD k d))[i]? = some v → w.cell? ⟨b, o + k * sz + i, none⟩ = some v := by
  obtain ⟨b, o, hA, hb, hc⟩ := h.2 (by omega)
  exact ⟨b, o, hA, hb, fun i v hv => hc k i v hk hv⟩
theorem RdF.cells (hF : ∀ x, (F x).length = sz) (h0 : 0 < sz) {ad : Addr} (h : RdF F sz d w (some ad) n xs) : ∀ q v, (xs.flatMap F)[q]? = some v → w.cell? (ad.add q) = some v := by
  intro q v hv
  obtain ⟨hj, hi⟩ := flatF_at hF d h0 hv
  rw [h.1] at hj
  obtain ⟨b, o, hA, _, hc⟩ := h.2 (Nat.lt_of_le_of_lt (Nat.zero_le _) hj)
  obtain rfl : ad = ⟨b, o, none⟩ := by simpa using hA
  rw [add_at]
  have := hc _ _ _ hj hi
  rwa [Nat.add_assoc, show q / sz * sz + q % sz = q by rw [Nat.mul_comm]; exact Nat.div_add_mod q sz] at this
theorem own_rdF (hF : ∀ x, (F x).length = sz) {base c : Nat} {e : TypeId} (h : w.ownsRow base e sz (.slice A n c) n (xs.flatMap F)) (hn : xs.length = n) : RdF F sz d w A n xs := by
  refine ⟨hn, fun h0 => ?_⟩
  rcases h.2 with ⟨_, hz⟩ | ⟨g, cap, cur, hvv, hb, hh, hnc, hm, hs, ht⟩
  · omega
  · cases hvv
    refine ⟨g, 0, rfl, (h.lt g rfl).2, fun j i v hj hv => ?_⟩
    have hg := h.cells (g := g) rfl (j * sz + i) v (flatF_get hF d xs j (by omega) hv)
    rw [add_at] at hg
    rw [Nat.zero_add] at hg ⊢
    exact hg
theorem blk_rdF (hF : ∀ x, (F x).length = sz) {g : Nat} {t : TypeId} (h : Blk w g t (xs.flatMap F)) (hn : xs.length = n) : RdF F sz d w (some ⟨g, 0, none⟩) n xs := by
  refine ⟨hn, fun _ => ⟨g, 0, rfl, h.lt, fun j i v hj hv => ?_⟩⟩
  rw [Nat.zero_add]
  exact h.cellD _ (flatF_get hF d xs j (by omega) hv)
theorem own_shapeF {base : Nat} {e : TypeId} {v : Value} {vs : List Value} (h : w.ownsRow base e sz v n vs) : ∃ A c, v = .slice A n c ∧ n ≤ c := by
  rcases h.2 with ⟨rfl, rfl⟩ | ⟨g, cap, cur, rfl, _, _, hnc, _⟩
  · exact ⟨none, 0, rfl, Nat.le_refl _⟩
  · exact ⟨_, _, rfl, hnc⟩
theorem own_laterF {base : Nat} {e : TypeId} {v : Value} {vs : List Value} (h : w.ownsRow base e sz v n vs) (hl : Later w w') : w'.ownsRow base e sz v n vs :=
  h.kept (row := none) ⟨hl.below.os, hl.below.tape, hl.below.output, hl.size, fun k hk _ => hl.below.block k hk⟩ (by cases v.ownBlock <;> simp)
theorem made_flat (hF : ∀ x, (F x).length = sz) (h0 : 0 < sz) (d : α) (n : Nat) : madeCells (F d).toArray (n * sz) = ((List.replicate n d).flatMap F).toArray := by
  have hl := flatF_length hF (List.replicate n d)
  rw [List.length_replicate] at hl
  apply Array.ext
  · simp [madeCells, hl]
  · intro i h1 h2
    have hi : i < n * sz := by simpa [madeCells] using h1
    have hj : i / sz < n := (Nat.div_lt_iff_lt_mul h0).2 hi
    have hr : i % sz < (F d).length := by rw [hF]; exact Nat.mod_lt _ h0
    have hg : (List.replicate n d).getD (i / sz) d = d := by rw [List.getD_eq_getElem?_getD, List.getElem?_replicate, if_pos hj]; rfl
    have e := flatF_get hF d (List.replicate n d) (i / sz) (by rw [List.length_replicate]; exact hj) (by rw [hg]; exact List.getElem?_eq_getElem hr)
    rw [show i / sz * sz + i % sz = i by rw [Nat.mul_comm]; exact Nat.div_add_mod i sz] at e
    have e2 := (List.getElem?_eq_some_iff.1 e).2
    simp only [madeCells, Array.getElem_map, Array.getElem_range, List.getElem_toArray, List.size_toArray, hF]
    rw [e2]
    rw [getElem!_pos _ _ (by rw [List.size_toArray]; exact hr)]
    rfl
end
section
variable {P : Program} {ops : Array Oper} {rest : List Oper} {o : Oper} {a : Act} {w : World} {Q : Exit → Act → World → Prop} {α : Type} {F : α → List Value} {sz : Nat} {d : α}
/-- 'append(s, xs...)' onto a row of one's own. -/
theorem wpList_append_f (hF : ∀ x, (F x).length = sz) (hF1 : ∀ x, ∀ u ∈ F x, u.oneCell' = true) (h0 : 0 < sz) (hgd : o.guard = none) (s x : Operand) (t : TypeId) (ho : o.op = .call { callee := .builtin .append, args := #[s, x], argTypes := #[t, t] })
    (e : TypeId) (z : Value) (bytes : Nat) (ht : P.underlying t = some (.slice e)) (hinfo : (P.info? e).map (fun i => (i.zero, i.size, i.bytes)) = some (some z, sz, bytes)) (hzs : z.cells.size = sz)
    (w0 : World) (v : Value) (n : Nat) (vs : List Value) (hown : w.ownsRow w0.heap.size e sz v n vs) (hl : Later w0 w)
    (A : Option Addr) (m c : Nat) (xs : List α) (hr : RdF F sz d w A m xs) (hs : a.eval s = v) (hx : a.eval x = .slice A m c) (hsz : (n + m) * bytes ≤ 140737488355328) (hby : 0 < bytes)
    (h : ∀ A' c' w', w'.ownsRow w0.heap.size e sz (.slice A' (n + m) c') (n + m) (vs ++ xs.flatMap F) → Later w0 w' → w.grownBy w' v.ownBlock → wpList P ops Q rest (a.put o.dst (.slice A' (n + m) c')) w') :
    wpList P ops Q (o :: rest) a w := by
  obtain ⟨i, hi, hz, hsize, hbytes⟩ := info_parts hinfo
  have hnm : n + m ≤ 140737488355328 := Nat.le_trans (Nat.le_mul_of_pos_right _ hby) hsz
  have hmax : n + m ≤ maxLen := by unfold maxLen; omega
  have hfin : ∀ v' w', (Builtin.append_ #[t, t] o.type #[v, .slice A m c]).run P w = .ok v' w' → w'.ownsRow w0.heap.size e sz v' (n + m) (vs ++ xs.flatMap F) → w.grownBy w' v.ownBlock → wpList P ops Q (o :: rest) a w := by
    intro v' w' hrun hown' hg
    refine wpList_plain hgd fun K hK => ?_
    unfold Oper.wp execOp
    simp only [ho, resolve, invoke, builtin, Sem.run_bind, Sem.run_pure, Result.andThen_ok, List.map_toArray, List.map_cons, List.map_nil, hs, hx, hrun]
    have hlat : Later w0 w' := hl.grownBy hg (fun k hk => (hown.lt k hk).1)
    obtain ⟨A', c', rfl, _⟩ := own_shapeF hown'
    exact hK _ _ (h A' c' w' hown' hlat hg)
  have hlen : (xs.flatMap F).length = m * sz := by rw [flatF_length hF, hr.1]
  cases A with
  | some ad =>
    have h1 : ∀ u ∈ xs.flatMap F, u.oneCell' = true := by
      intro u hu
      obtain ⟨x, _, hx⟩ := List.mem_flatMap.1 hu
      exact hF1 x u hx
    obtain ⟨v', w', hrun, h2, h3, _⟩ := run_append_own (P := P) w w0.heap.size t o.type e i z sz bytes ht hi hz hsize hbytes hzs h0 v n vs hown ad m c _ hlen (hr.cells hF h0) h1 hmax hsz hl.size
    exact hfin v' w' hrun h2 h3
  | none =>
    have hm : m = 0 := by
      rcases Nat.eq_zero_or_pos m with h0 | h0
      · exact h0
      · obtain ⟨b, off, hA, _⟩ := hr.2 h0
        cases hA
    subst hm
    have hn : xs = [] := List.eq_nil_of_length_eq_zero hr.1
    subst hn
    have hrun : (Builtin.append_ #[t, t] o.type #[v, .slice none 0 c]).run P w = .ok v w := by
      rcases hown.2 with ⟨rfl, rfl⟩ | ⟨g, cap, cur, rfl, _, _, hnc, _⟩
      · simp [Builtin.append_, run_underlying ht, sizeOf, typeInfo, hi, Builtin.lenOf, Builtin.firstCells]
      · simp [Builtin.append_, run_underlying ht, sizeOf, typeInfo, hi, Builtin.lenOf, Builtin.firstCells, hnc, storeCells]
    exact hfin v w hrun (by simpa using hown) (World.grownBy.refl w _)
/-- 'make([]T, n)'. -/
theorem wpList_make_f (hF : ∀ x, (F x).length = sz) (h0 : 0 < sz) (d : α) (hgd : o.guard = none) (l c : Operand) (t : TypeId) (ho : o.op = Op.makeSlice t l c) (e : TypeId) (bytes : Nat) (ht : P.underlying t = some (.slice e))
    (hinfo : (P.info? e).map (fun i => (i.zero, i.size, i.bytes)) = some (some (.agg (F d).toArray), sz, bytes)) (kl kc : IntKind) (L C : Int) (n : Nat) (hl : a.eval l = .int kl L) (hc : a.eval c = .int kc C) (hL : L = (n : Int)) (hC : C = (n : Int))
    (hby : 0 < bytes) (hsz : n * bytes ≤ 140737488355328) (h : ∀ w', Blk w' w.heap.size e ((List.replicate n d).flatMap F) → Later w w' → wpList P ops Q rest (a.put o.dst (.slice (some ⟨w.heap.size, 0, none⟩) n n)) w') :
    wpList P ops Q (o :: rest) a w := by
  obtain ⟨i, hi, hz, hsize, hbytes⟩ := info_parts hinfo
  have hn : n ≤ 140737488355328 := Nat.le_trans (Nat.le_mul_of_pos_right _ hby) hsz
  refine wpList_plain hgd fun K hK => ?_
  have hb : ((i.bytes : Int) * (n : Int)) ≤ 281474976710656 := by
    rw [hbytes, ← Int.natCast_mul, Nat.mul_comm]
    omega
  have hr := run_make (P := P) w t e i _ ht hi hz kl kc n n (by omega) (Int.le_refl _) hb (by omega)
  have hcells : (Value.agg (F d).toArray).cells = (F d).toArray := rfl
  simp only [Int.toNat_natCast, hsize, hcells, made_flat hF h0 d] at hr
  subst hL
  subst hC
  unfold Oper.wp
  simp only [execOp, ho, hl, hc, Sem.run_bind, hr, Result.andThen_ok, Sem.run_pure]
  exact hK _ _ (h _ (Blk.new w e _) (later_alloc _ _))
end
end Go.Proofs.YtkibgdigcgakfabGreat
namespace Go.Proofs.YtkibgdigcgakfabGreat
open Go.RowKit

section
variable {P : Program}
theorem run_buildK {t e : TypeId} {sz : Nat} {z v : Value} {vs : List Value} (ht : P.underlying t = some (.slice e)) (hz : (P.info? e).map (fun i => (i.zero, i.size)) = some (some z, sz)) (hs0 : 0 < sz) (hsm : sz ≤ 65536) (hv : v.cells = vs.toArray) (hvl : vs.length = sz) (w : World) :
    (Instr.buildSlice t 1 #[(0, v)]).run P w = .ok (.slice (some ⟨w.heap.size, 0, none⟩) 1 1) (w.alloc (.cells vs.toArray e)) := by
  cases hi : P.info? e with
  | none => simp [hi] at hz
  | some i =>
    simp only [hi, Option.map_some, Option.some.injEq, Prod.mk.injEq] at hz
    obtain ⟨h1, h2⟩ := hz
    have hso : (sizeOf e).run P w = .ok sz w := by simp [sizeOf, typeInfo, hi, h2]
    have hzv : (zeroValue e).run P w = .ok z w := by simp [zeroValue, typeInfo, hi, h1]
    have hl : ((Array.range (1 * sz)).map fun x => z.cells[x % z.cells.size]!) = ((Array.range (1 * sz)).map fun x => z.cells[x % z.cells.size]!).toList.toArray := rfl
    have hll : ((Array.range (1 * sz)).map fun x => z.cells[x % z.cells.size]!).toList.length = sz := by simp
    have hf : Instr.fill (fun i => some (i * sz, sz)) ((Array.range (1 * sz)).map fun x => z.cells[x % z.cells.size]!) [(0, v)] = some vs.toArray := by
      rw [hl]
      rw [fill_cons (vs := vs) (off := 0) hv (by rw [hvl, Nat.zero_mul]) (by rw [hll]; omega), fill_nil, spliced_all _ _ (by rw [hll, hvl])]
    unfold Instr.buildSlice
    simp only [Sem.run_bind, run_underlying ht, Result.andThen_ok, hso, Nat.one_mul]
    rw [if_neg (by omega), if_neg (by omega)]
    simp only [Nat.one_mul] at hf
    simp only [Sem.run_bind, hzv, Result.andThen_ok, Sem.run_pure, hf]
    simp [newRow]
end
section
variable {P : Program} {ops : Array Oper} {rest : List Oper} {o : Oper} {a : Act} {w : World} {Q : Exit → Act → World → Prop}
/-- '[]T{x}', T of several bytes. -/
theorem build_one (hw : Region.wanted o (yielded ops a.tmps) = true) (t : TypeId) (x : Operand) (ho : o.op = .buildSlice t 1 #[(0, x)]) (e : TypeId) (sz : Nat) (z : Value) (bs : List UInt8) (ht : P.underlying t = some (.slice e)) (hz : (P.info? e).map (fun i => (i.zero, i.size)) = some (some z, sz)) (hs0 : 0 < sz) (hsm : sz ≤ 65536)
    (hbl : bs.length = sz) (hx : a.eval x = .agg (bs.map W8).toArray)
    (h : wpList P ops Q rest (a.put o.dst (.slice (some ⟨w.heap.size, 0, none⟩) 1 1)) (w.alloc (.cells (bs.map W8).toArray e))) : wpList P ops Q (o :: rest) a w :=
  BigFrame.wpList_want hw fun K hK => by
    have hr := run_buildK (v := .agg (bs.map W8).toArray) ht hz hs0 hsm rfl (by rw [List.length_map, hbl]) w
    unfold Oper.wp
    simp only [execOp, ho, List.map_toArray, List.map_cons, List.map_nil, hx, Sem.run_bind, hr, Result.andThen_ok, Sem.run_pure]
    exact hK _ _ h
end
/-- Such a row in memory. -/
def RdK (sz : Nat) (w : World) (A : Option Addr) (n : Nat) (xs : List (List UInt8)) : Prop :=
  xs.length = n ∧ (0 < n → ∃ b o, A = some ⟨b, o, none⟩ ∧ b < w.heap.size ∧ ∀ j i v, j < n → ((xs.getD j []).map W8)[i]? = some v → w.cell? ⟨b, o + j * sz + i, none⟩ = some v)
theorem RdK.later {sz : Nat} {w w' : World} {A : Option Addr} {n : Nat} {xs : List (List UInt8)} (h : RdK sz w A n xs) (hl : Later w w') : RdK sz w' A n xs := by
  refine ⟨h.1, fun hn => ?_⟩
  obtain ⟨b, o, hA, hb, hc⟩ := h.2 hn
  exact ⟨b, o, hA, Nat.lt_of_lt_of_le hb hl.size, fun j i v hj hv => (hl.below.cell (p := ⟨b, o + j * sz + i, none⟩) hb).trans (hc j i v hj hv)⟩
theorem rdK_none (sz : Nat) (w : World) : RdK sz w none 0 [] := ⟨rfl, fun h => absurd h (by omega)⟩
theorem flatK_get {sz i : Nat} {v : UInt8} : ∀ (xs : List (List UInt8)) (j : Nat), (∀ x ∈ xs, x.length = sz) → j < xs.length → (xs.getD j [])[i]? = some v → xs.flatten[j * sz + i]? = some v
  | [], j, _, h, _ => by simp at h
  | x :: xs, j, hl, hj, hv => by
    have hx := hl x (by simp)
    cases j with
    | zero =>
      have hv' : x[i]? = some v := by simpa using hv
      have hi : i < x.length := (List.getElem?_eq_some_iff.1 hv').1
      rw [List.flatten_cons, Nat.zero_mul, Nat.zero_add, List.getElem?_append_left hi]
      exact hv'
    | succ j =>
      rw [List.flatten_cons, List.getElem?_append_right (by rw [hx, Nat.add_mul]; omega), hx]
      have := flatK_get (sz := sz) (i := i) xs j (fun y hy => hl y (by simp [hy])) (by simpa using hj) (by simpa using hv)
      rw [show (j + 1) * sz + i - sz = j * sz + i by rw [Nat.add_mul]; omega]
      exact this
theorem flatK_length {sz : Nat} : ∀ (xs : List (List UInt8)), (∀ x ∈ xs, x.length = sz) → xs.flatten.length = xs.length * sz
  | [], _ => by simp
  | x :: xs, hl => by rw [List.flatten_cons, List.length_append, hl x (by simp), flatK_length xs (fun y hy => hl y (by simp [hy])), List.length_cons, Nat.add_mul]; omega
theorem own_rdK {sz : Nat} {w : World} {base : Nat} {e : TypeId} {A : Option Addr} {n c : Nat} {xs : List (List UInt8)} (h : w.ownsRow base e sz (.slice A n c) n (xs.flatten.map W8)) (hn : xs.length = n) (hl : ∀ x ∈ xs, x.length = sz) : RdK sz w A n xs := by
  refine ⟨hn, fun h0 => ?_⟩
  rcases h.2 with ⟨_, hz⟩ | ⟨g, cap, cur, hvv, hb, hh, hnc, hm, hs, ht⟩
  · omega
  · cases hvv
    refine ⟨g, 0, rfl, (h.lt g rfl).2, fun j i v hj hv => ?_⟩
    rw [List.getElem?_map, Option.map_eq_some_iff] at hv
    obtain ⟨x, hx, rfl⟩ := hv
    have hg := h.cells (g := g) rfl (j * sz + i) (W8 x) (by rw [List.getElem?_map, flatK_get xs j hl (by omega) hx]; rfl)
    rw [add_at] at hg
    rw [Nat.zero_add] at hg ⊢
    exact hg
theorem blk_rdK {sz : Nat} {w : World} {g : Nat} {t : TypeId} {n : Nat} {xs : List (List UInt8)} (h : Blk w g t (xs.flatten.map W8)) (hn : xs.length = n) (hl : ∀ x ∈ xs, x.length = sz) : RdK sz w (some ⟨g, 0, none⟩) n xs := by
  refine ⟨hn, fun _ => ⟨g, 0, rfl, h.lt, fun j i v hj hv => ?_⟩⟩
  rw [List.getElem?_map, Option.map_eq_some_iff] at hv
  obtain ⟨x, hx, rfl⟩ := hv
  rw [Nat.zero_add]
  exact h.cellD _ (by rw [List.getElem?_map, flatK_get xs j hl (by omega) hx]; rfl)
/-- An element's cells. -/
theorem RdK.at_ {sz : Nat} {w : World} {A : Option Addr} {n : Nat} {xs : List (List UInt8)} (h : RdK sz w A n xs) {k : Nat} (hk : k < n) :
    ∃ b o, A = some ⟨b, o, none⟩ ∧ b < w.heap.size ∧ ∀ j v, ((xs.getD k []).map W8)[j]? = some v → w.cell? ⟨b, o + k * sz + j, none⟩ = some v := by
  obtain ⟨b, o, hA, hb, hc⟩ := h.2 (by omega)
  exact ⟨b, o, hA, hb, fun j v hv => hc k j v hk hv⟩
/-- A part of an element. -/
theorem RdK.sub {sz : Nat} {w : World} {A : Option Addr} {n : Nat} {xs : List (List UInt8)} (h : RdK sz w A n xs) {k : Nat} (hk : k < n) :
    ∃ b o, A = some ⟨b, o, none⟩ ∧ b < w.heap.size ∧ ∀ (w' : World), Later w w' → ∀ (off m : Nat) (r : List UInt8), subB (xs.getD k []) off m = r → ∀ j v, (r.map W8)[j]? = some v → w'.cell? ⟨b, o + k * sz + off + j, none⟩ = some v := by
  obtain ⟨b, o, hA, hb, hc⟩ := h.2 (by omega)
  refine ⟨b, o, hA, hb, fun w' hl off m r hr j v hv => ?_⟩
  rw [List.getElem?_map, Option.map_eq_some_iff] at hv
  obtain ⟨x, hx, rfl⟩ := hv
  rw [← hr] at hx
  refine (hl.below.cell (p := ⟨b, o + k * sz + off + j, none⟩) hb).trans ?_
  have := hc k (off + j) (W8 x) hk (by rw [List.getElem?_map, subB_get hx]; rfl)
  rwa [← Nat.add_assoc] at this
theorem own_shapeK {w : World} {base : Nat} {e : TypeId} {sz : Nat} {v : Value} {n : Nat} {vs : List Value} (h : w.ownsRow base e sz v n vs) : ∃ A c, v = .slice A n c ∧ n ≤ c := by
  rcases h.2 with ⟨rfl, rfl⟩ | ⟨g, cap, cur, rfl, _, _, hnc, _⟩
  · exact ⟨none, 0, rfl, Nat.le_refl _⟩
  · exact ⟨_, _, rfl, hnc⟩
theorem own_laterK {w w' : World} {base : Nat} {e : TypeId} {sz : Nat} {v : Value} {n : Nat} {vs : List Value} (h : w.ownsRow base e sz v n vs) (hl : Later w w') : w'.ownsRow base e sz v n vs :=
  h.kept (row := none) ⟨hl.below.os, hl.below.tape, hl.below.output, hl.size, fun k hk _ => hl.below.block k hk⟩ (by cases v.ownBlock <;> simp)
theorem own_capK {w : World} {base g : Nat} {e : TypeId} {sz N : Nat} {l : List Value} (h : Blk w g e l) (hb : base ≤ g) (hl : l.length = N * sz) (hm : N ≤ maxLen) : w.ownsRow base e sz (.slice (some ⟨g, 0, none⟩) 0 N) 0 [] :=
  ⟨by simp, .inr ⟨g, N, l.toArray, rfl, hb, h, Nat.zero_le _, hm, by simp [hl], by simp⟩⟩
/-- A block of another type stays when a row grows, and a row when such a block is written. -/
theorem blk_grownK {w w' : World} {base g sz : Nat} {e t : TypeId} {v : Value} {n : Nat} {vs l : List Value} (hb : Blk w g t l) (h : w.ownsRow base e sz v n vs) (hne : t ≠ e) (hg : w.grownBy w' v.ownBlock) : Blk w' g t l := by
  refine (hg.block g hb.lt ?_).trans hb
  rcases h.2 with ⟨rfl, _⟩ | ⟨g2, c2, cur2, rfl, _, hh2, _⟩
  · simp [Value.ownBlock]
  · intro he
    simp only [Value.ownBlock, Option.some.injEq] at he
    subst he
    exact hb.ne_type (l' := cur2.toList) (t' := e) hh2 hne rfl
theorem own_onlyK {w w' : World} {base k sz : Nat} {e t : TypeId} {v : Value} {n : Nat} {vs l : List Value} (h : w.ownsRow base e sz v n vs) (hb : Blk w k t l) (hne : t ≠ e) (ho : Only k w w') : w'.ownsRow base e sz v n vs := by
  refine h.kept ho ?_
  rcases h.2 with ⟨rfl, _⟩ | ⟨g2, c2, cur2, rfl, _, hh2, _⟩
  · exact .inl rfl
  · refine .inr fun he => ?_
    simp only [Value.ownBlock, Option.some.injEq] at he
    subst he
    exact hb.ne_type (l' := cur2.toList) (t' := e) hh2 hne rfl
/-- Two rows of other types: the one grows, the other stays. -/
theorem own_otherK {w w' : World} {b1 b2 s1 s2 : Nat} {e1 e2 : TypeId} {v1 v2 : Value} {n1 n2 : Nat} {x1 x2 : List Value} (h1 : w.ownsRow b1 e1 s1 v1 n1 x1) (h2 : w.ownsRow b2 e2 s2 v2 n2 x2) (hne : e1 ≠ e2) (hg : w.grownBy w' v2.ownBlock) :
    w'.ownsRow b1 e1 s1 v1 n1 x1 := by
  refine h1.kept hg ?_
  rcases h1.2 with ⟨rfl, _⟩ | ⟨g1, c1, cur1, rfl, _, hh1, _⟩
  · exact .inl rfl
  · right
    rcases h2.2 with ⟨rfl, _⟩ | ⟨g2, c2, cur2, rfl, _, hh2, _⟩
    · simp [Value.ownBlock]
    · intro hb
      simp only [Value.ownBlock, Option.some.injEq] at hb
      subst hb
      rw [hh1] at hh2
      injection hh2 with hh2
      injection hh2 with _ h
      exact hne h
/-- Blocks of one's own stay when a row of another type grows. -/
theorem Bag.grown {w wk v' : World} {ls : List (Nat × TypeId × List Value)} {base sz : Nat} {e : TypeId} {v : Value} {n : Nat} {vs : List Value} (h : Bag w wk ls) (hown : wk.ownsRow base e sz v n vs) (hne : ∀ p ∈ ls, p.2.1 ≠ e) (hb : w.heap.size ≤ base) (hg : wk.grownBy v' v.ownBlock) : Bag w v' ls :=
  ⟨h.lat.grownBy hg (fun k hk => Nat.le_trans hb (hown.lt k hk).1), fun p hp => blk_grownK (h.blk p hp) hown (hne p hp) hg, h.low, h.nd⟩
end Go.Proofs.YtkibgdigcgakfabGreat
