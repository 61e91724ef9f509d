/-
  curve's ladder: its block, exchange.
  curve's ladder: exchange.
  curve's ladder: step.
  curve.Clamp and its twin.
  A fraction's value; the ladder as numbers.
  The ladder as numbers; curve.Mult.
  curve.Mult.
-/
import Derived.Test.YtkibgdigcgakfaaFLaws
import Derived.BigRegion
import Derived.Test.YtkibgdigcgakfaaHelp
namespace Go.Proofs.Ytkibgdigcgakfaa
open Go.RowKit
open Go.BigFrame

def fadd (a b : Nat) : Nat := (a + b) % P25
def fsub (a b : Nat) : Nat := (a + (P25 - b % P25)) % P25
def fmul (a b : Nat) : Nat := a * b % P25
/-- The five elements of a ladder. -/
def L5 (a b c d e : Nat) : List Value := EL a ++ (EL b ++ (EL c ++ (EL d ++ EL e)))
theorem L5_length (a b c d e : Nat) : (L5 a b c d e).length = 20 := by simp [L5, EL_length]
theorem L5_0 (a b c d e j : Nat) (v : Value) (h : (EL a)[j]? = some v) : (L5 a b c d e)[0 + j]? = some v := by
  have hj : j < 4 := by have := (List.getElem?_eq_some_iff.1 h).1; rwa [EL_length] at this
  rw [Nat.zero_add, L5, List.getElem?_append_left (by rw [EL_length]; exact hj)]
  exact h
theorem L5_1 (a b c d e j : Nat) (v : Value) (h : (EL b)[j]? = some v) : (L5 a b c d e)[4 + j]? = some v := by
  have hj : j < 4 := by have := (List.getElem?_eq_some_iff.1 h).1; rwa [EL_length] at this
  rw [L5, List.getElem?_append_right (by rw [EL_length]; omega), EL_length, List.getElem?_append_left (by rw [EL_length]; omega), show 4 + j - 4 = j by omega]
  exact h
theorem L5_2 (a b c d e j : Nat) (v : Value) (h : (EL c)[j]? = some v) : (L5 a b c d e)[8 + j]? = some v := by
  have hj : j < 4 := by have := (List.getElem?_eq_some_iff.1 h).1; rwa [EL_length] at this
  rw [L5, List.getElem?_append_right (by rw [EL_length]; omega), EL_length, List.getElem?_append_right (by rw [EL_length]; omega), EL_length, List.getElem?_append_left (by rw [EL_length]; omega), show 8 + j - 4 - 4 = j by omega]
  exact h
theorem L5_3 (a b c d e j : Nat) (v : Value) (h : (EL d)[j]? = some v) : (L5 a b c d e)[12 + j]? = some v := by
  have hj : j < 4 := by have := (List.getElem?_eq_some_iff.1 h).1; rwa [EL_length] at this
  rw [L5, List.getElem?_append_right (by rw [EL_length]; omega), EL_length, List.getElem?_append_right (by rw [EL_length]; omega), EL_length, List.getElem?_append_right (by rw [EL_length]; omega), EL_length, List.getElem?_append_left (by rw [EL_length]; omega), show 12 + j - 4 - 4 - 4 = j by omega]
  exact h
theorem L5_4 (a b c d e j : Nat) (v : Value) (h : (EL e)[j]? = some v) : (L5 a b c d e)[16 + j]? = some v := by
  rw [L5, List.getElem?_append_right (by rw [EL_length]; omega), EL_length, List.getElem?_append_right (by rw [EL_length]; omega), EL_length, List.getElem?_append_right (by rw [EL_length]; omega), EL_length, List.getElem?_append_right (by rw [EL_length]; omega), EL_length, show 16 + j - 4 - 4 - 4 - 4 = j by omega]
  exact h
theorem L5_set1 (a b c d e n : Nat) : spliced (L5 a b c d e) 4 (EL n) = L5 a n c d e := by
  simp only [L5, EL_four, spliced]
  rfl
theorem L5_set2 (a b c d e n : Nat) : spliced (L5 a b c d e) 8 (EL n) = L5 a b n d e := by
  simp only [L5, EL_four, spliced]
  rfl
theorem L5_set3 (a b c d e n : Nat) : spliced (L5 a b c d e) 12 (EL n) = L5 a b c n e := by
  simp only [L5, EL_four, spliced]
  rfl
theorem L5_set4 (a b c d e n : Nat) : spliced (L5 a b c d e) 16 (EL n) = L5 a b c d n := by
  simp only [L5, EL_four, spliced]
  rfl
section
variable {ops : Array Oper} {rest : List Oper} {o : Oper} {a : Act} {w : World} {Q : Exit → Act → World → Prop}
theorem load_at (hw : Region.wanted o (yielded ops a.tmps) = true) (x : Operand) (ho : o.op = .load 26 x) {g off : Nat} {t : TypeId} {l : List Value} {n : Nat} (hb : Blk w g t l) (hl : ∀ j v, (EL n)[j]? = some v → l[off + j]? = some v) (hx : a.eval x = .pointer (some ⟨g, off, none⟩))
    (h : wpList Try.prog ops Q rest (a.put o.dst (E n)) w) : wpList Try.prog ops Q (o :: rest) a w :=
  wpList_want hw fun K hK => by
    unfold Oper.wp
    simp only [execOp, ho, hx, Instr.loadAt, Instr.sureAddr, Sem.run_bind, Sem.run_pure, Result.andThen_ok, run_loadVar_agg w g off 26 (EL n) _ (fun j v hv => hb.cellD _ (hl j v hv)) Try.underlying26 rfl (by rw [EL_length]; exact sizeE)]
    exact hK _ _ h
theorem store_at (hgd : o.guard = none) (hd : o.dst = none) (x y : Operand) (ho : o.op = .store 26 x y) {g off : Nat} {t : TypeId} {l : List Value} {n : Nat} (hg : Blk w g t l) (hx : a.eval x = .pointer (some ⟨g, off, none⟩)) (hy : a.eval y = E n) (hl : off + 4 ≤ l.length)
    (h : ∀ w', Blk w' g t (spliced l off (EL n)) → Only g w w' → wpList Try.prog ops Q rest a w') : wpList Try.prog ops Q (o :: rest) a w :=
  wpList_store_agg hgd hd _ x y ho g off t l _ hg hx hy (by rw [EL_length]; exact sizeE) (by rw [EL_length]; exact hl) (EL_one n) h
theorem quiet_at {K : Act → Prop} (x : Operand) (ho : o.op = .load 26 x) {w0 : World} {g off : Nat} {t : TypeId} {l : List Value} {n : Nat} (hb : Blk w0 g t l) (hl : ∀ j v, (EL n)[j]? = some v → l[off + j]? = some v) (hx : a.eval x = .pointer (some ⟨g, off, none⟩)) (h : K (a.put o.dst (E n))) :
    o.quiet Try.prog a (fun w' => ∃ x, w' = grow w0 x) K :=
  quiet_load_agg _ x ho g off (EL n) (fun w' hw j v hv => by obtain ⟨y, rfl⟩ := hw; exact (hb.later ⟨y, rfl⟩).cellD _ (hl j v hv)) hx _ Try.underlying26 rfl (by rw [EL_length]; exact sizeE) h
end
end Go.Proofs.Ytkibgdigcgakfaa
namespace Go.Proofs.Ytkibgdigcgakfaa
open Go.RowKit

set_option maxRecDepth 100000 in
set_option maxHeartbeats 8000000 in
theorem exchange_any (g : Nat) (t : TypeId) (x1 x2 z2 x3 z3 : Nat) (w : World) (hb : Blk w g t (L5 x1 x2 z2 x3 z3)) :
    Calls Try.prog 51 #[.pointer (some ⟨g, 0, none⟩)] w fun e w' => e = .returned (.tuple #[]) ∧ Blk w' g t (L5 x1 x3 z3 x2 z2) ∧ Only g w w' := by
  have e0 : L5 x1 x2 z2 x3 z3 = [n64 (lim x1 0), n64 (lim x1 1), n64 (lim x1 2), n64 (lim x1 3), n64 (lim x2 0), n64 (lim x2 1), n64 (lim x2 2), n64 (lim x2 3), n64 (lim z2 0), n64 (lim z2 1), n64 (lim z2 2), n64 (lim z2 3), n64 (lim x3 0), n64 (lim x3 1), n64 (lim x3 2), n64 (lim x3 3), n64 (lim z3 0), n64 (lim z3 1), n64 (lim z3 2), n64 (lim z3 3)] := by simp only [L5, EL_four]; rfl
  have hb' := hb
  rw [e0] at hb'
  have HB := hid hb'
  clear e0 hb
  have c4 := hb'.cellD 4 rfl; have c5 := hb'.cellD 5 rfl; have c6 := hb'.cellD 6 rfl; have c7 := hb'.cellD 7 rfl
  have c8 := hb'.cellD 8 rfl; have c9 := hb'.cellD 9 rfl; have c10 := hb'.cellD 10 rfl; have c11 := hb'.cellD 11 rfl
  have c12 := hb'.cellD 12 rfl; have c13 := hb'.cellD 13 rfl; have c14 := hb'.cellD 14 rfl; have c15 := hb'.cellD 15 rfl
  have c16 := hb'.cellD 16 rfl; have c17 := hb'.cellD 17 rfl; have c18 := hb'.cellD 18 rfl; have c19 := hb'.cellD 19 rfl
  have f4 := hb'.frozen 4; have f5 := hb'.frozen 5; have f6 := hb'.frozen 6; have f7 := hb'.frozen 7
  have f8 := hb'.frozen 8; have f9 := hb'.frozen 9; have f10 := hb'.frozen 10; have f11 := hb'.frozen 11
  have f12 := hb'.frozen 12; have f13 := hb'.frozen 13; have f14 := hb'.frozen 14; have f15 := hb'.frozen 15
  have f16 := hb'.frozen 16; have f17 := hb'.frozen 17; have f18 := hb'.frozen 18; have f19 := hb'.frozen 19
  clear hb'
  go_enter Try.func51, Try.ntmps51
  go_wp2_with fail
  go_region
  have hfin := ((((((((((((((((HB.out.set_ 4 (n64 (lim x3 0))).set_ 5 (n64 (lim x3 1))).set_ 6 (n64 (lim x3 2))).set_ 7 (n64 (lim x3 3))).set_ 8 (n64 (lim z3 0))).set_ 9 (n64 (lim z3 1))).set_ 10 (n64 (lim z3 2))).set_ 11 (n64 (lim z3 3))).set_ 12 (n64 (lim x2 0))).set_ 13 (n64 (lim x2 1))).set_ 14 (n64 (lim x2 2))).set_ 15 (n64 (lim x2 3))).set_ 16 (n64 (lim z2 0))).set_ 17 (n64 (lim z2 1))).set_ 18 (n64 (lim z2 2))).set_ 19 (n64 (lim z2 3))).drew
  have hon := Only.later (c := World.drew _) (((((((((((((((((World.grownBy.refl w _).trans (only_setCell _ g 4 (n64 (lim x3 0)))).trans (only_setCell _ g 5 (n64 (lim x3 1)))).trans (only_setCell _ g 6 (n64 (lim x3 2)))).trans (only_setCell _ g 7 (n64 (lim x3 3)))).trans (only_setCell _ g 8 (n64 (lim z3 0)))).trans (only_setCell _ g 9 (n64 (lim z3 1)))).trans (only_setCell _ g 10 (n64 (lim z3 2)))).trans (only_setCell _ g 11 (n64 (lim z3 3)))).trans (only_setCell _ g 12 (n64 (lim x2 0)))).trans (only_setCell _ g 13 (n64 (lim x2 1)))).trans (only_setCell _ g 14 (n64 (lim x2 2)))).trans (only_setCell _ g 15 (n64 (lim x2 3)))).trans (only_setCell _ g 16 (n64 (lim z2 0)))).trans (only_setCell _ g 17 (n64 (lim z2 1)))).trans (only_setCell _ g 18 (n64 (lim z2 2)))).trans (only_setCell _ g 19 (n64 (lim z2 3)))) (later_drew _)
  have e1 : L5 x1 x3 z3 x2 z2 = [n64 (lim x1 0), n64 (lim x1 1), n64 (lim x1 2), n64 (lim x1 3), n64 (lim x3 0), n64 (lim x3 1), n64 (lim x3 2), n64 (lim x3 3), n64 (lim z3 0), n64 (lim z3 1), n64 (lim z3 2), n64 (lim z3 3), n64 (lim x2 0), n64 (lim x2 1), n64 (lim x2 2), n64 (lim x2 3), n64 (lim z2 0), n64 (lim z2 1), n64 (lim z2 2), n64 (lim z2 3)] := by simp only [L5, EL_four]; rfl
  clear HB c4 c5 c6 c7 c8 c9 c10 c11 c12 c13 c14 c15 c16 c17 c18 c19 f4 f5 f6 f7 f8 f9 f10 f11 f12 f13 f14 f15 f16 f17 f18 f19
  refine bodyPost_end (results_none rfl _ _ _) rfl ⟨rfl, ?_, hon⟩
  rw [e1]
  exact hfin
end Go.Proofs.Ytkibgdigcgakfaa
namespace Go.Proofs.Ytkibgdigcgakfaa
open Go.RowKit
open Go.BigFrame

theorem Only.past {g j : Nat} {a b c : World} (h : Only g a b) (k : Only j b c) (hj : a.heap.size ≤ j) : Only g a c :=
  World.grownBy.andThen h k (fun i e => .inl (by injection e with e; omega))
theorem fadd_T (a b : Nat) : fadd a b < T256 := Nat.lt_trans (Nat.mod_lt _ P25_pos) (by decide)
theorem fsub_T (a b : Nat) : fsub a b < T256 := Nat.lt_trans (Nat.mod_lt _ P25_pos) (by decide)
theorem fmul_T (a b : Nat) : fmul a b < T256 := Nat.lt_trans (Nat.mod_lt _ P25_pos) (by decide)
theorem sum2 (x y : Nat) (hx : x < T256) (hy : y < T256) (w : World) (g : Nat) (hb : Blk w g 26 (EL x ++ EL y)) :
    Calls Try.prog 6 #[.slice (some ⟨g, 0, none⟩) 2 2] w fun e w' => e = .returned (E (fadd x y)) ∧ Later w w' := by
  have := sum_any (some ⟨g, 0, none⟩) 2 2 [x, y] w (rdE_new [x, y] 2 hb (by simp) rfl) (by intro z hz; simp at hz; rcases hz with rfl | rfl; exact hx; exact hy) (by omega)
  rwa [show [x, y].sum = x + y by simp] at this
theorem product2 (x y : Nat) (hx : x < T256) (hy : y < T256) (w : World) (g : Nat) (hb : Blk w g 26 (EL x ++ EL y)) :
    Calls Try.prog 7 #[.slice (some ⟨g, 0, none⟩) 2 2] w fun e w' => e = .returned (E (fmul x y)) ∧ Later w w' := by
  have := product_any (some ⟨g, 0, none⟩) 2 2 [x, y] w (rdE_new [x, y] 2 hb (by simp) rfl) (by intro z hz; simp at hz; rcases hz with rfl | rfl; exact hx; exact hy) (by omega) (by omega)
  rwa [show prodN [x, y] = x * y by simp [prodN]] at this
theorem square1 (x : Nat) (hx : x < T256) (w : World) :
    Calls Try.prog 10 #[E x] w fun e w' => e = .returned (E (fmul x x)) ∧ Later w w' := square_any x hx w
theorem sub2 (x y : Nat) (hx : x < T256) (hy : y < T256) (w : World) :
    Calls Try.prog 8 #[E x, E y] w fun e w' => e = .returned (E (fsub x y)) ∧ Later w w' := fsub_any x y hx hy w
section
variable {ops : Array Oper} {o : Oper} {a : Act}
theorem makes_row2 (hw : Region.wanted o (yielded ops a.tmps) = true) (x y : Operand) (ho : o.op = .buildSlice 64 2 #[(0, x), (1, y)]) (n m : Nat) (hx : a.eval x = E n) (hy : a.eval y = E m) :
    Makes Try.prog ops o (fun g => .slice (some ⟨g, 0, none⟩) 2 2) (.cells (EL n ++ EL m).toArray 26) a :=
  ⟨hw, fun w => by
    have hr := run_build2 n m w
    simp only [execOp, ho, List.map_toArray, List.map_cons, List.map_nil, hx, hy, Sem.run_bind, hr, Result.andThen_ok, Sem.run_pure]⟩
theorem makes_cell (hw : Region.wanted o (yielded ops a.tmps) = true) (ho : o.op = .alloc 26) :
    Makes Try.prog ops o (fun g => .pointer (some ⟨g, 0, none⟩)) (.cells (List.replicate 4 (.int .u64 0)).toArray 26) a :=
  ⟨hw, fun w => by
    unfold execOp
    rw [ho]
    simp [go_sem]⟩
end
/-- A block that is worked on, with elements of one's own that were made on the way. -/
structure St (w0 wk : World) (g : Nat) (t : TypeId) (l : List Value) (ls : List (Nat × Nat)) : Prop where
  only : Only g w0 wk
  blk : Blk wk g t l
  loc : ∀ p ∈ ls, Blk wk p.1 26 (EL p.2) ∧ w0.heap.size ≤ p.1
  gl : g < w0.heap.size
section
variable {w0 wk v : World} {g : Nat} {t : TypeId} {l : List Value} {ls : List (Nat × Nat)}
theorem St.nth (h : St w0 wk g t l ls) (i : Nat) {k n : Nat} (hi : ls[i]? = some (k, n)) : Blk wk k 26 (EL n) := (h.loc (k, n) (List.mem_of_getElem? hi)).1
theorem St.later (h : St w0 wk g t l ls) (k : Later wk v) : St w0 v g t l ls :=
  ⟨h.only.later k, h.blk.later k, fun p hp => ⟨(h.loc p hp).1.later k, (h.loc p hp).2⟩, h.gl⟩
theorem St.drew (h : St w0 wk g t l ls) : St w0 wk.drew g t l ls := h.later (later_drew _)
theorem St.write {l' : List Value} (h : St w0 wk g t l ls) (k : Only g wk v) (hb : Blk v g t l') : St w0 v g t l' ls :=
  ⟨h.only.trans k, hb, fun p hp => ⟨(h.loc p hp).1.only k (by have := (h.loc p hp).2; have := h.gl; omega), (h.loc p hp).2⟩, h.gl⟩
/-- A new element, stored. -/
theorem St.one {v1 : World} {k n : Nat} (h : St w0 wk g t l ls) (j : Later wk v) (hk : wk.heap.size ≤ k) (o : Only k v v1) (hb : Blk v1 k 26 (EL n)) : St w0 v1 g t l ((k, n) :: ls) := by
  have h1 := h.later j
  have hs := h.only.size
  refine ⟨h1.only.past o (by omega), h1.blk.only o (by have := h.blk.lt; omega), ?_, h.gl⟩
  intro p hp
  rcases List.mem_cons.1 hp with rfl | hp
  · exact ⟨hb, by show w0.heap.size ≤ k; omega⟩
  · exact ⟨(h1.loc p hp).1.only o (by have := (h.loc p hp).1.lt; omega), (h.loc p hp).2⟩
/-- Two new elements, stored. -/
theorem St.two {v1 v2 : World} {k1 k2 n1 n2 : Nat} (h : St w0 wk g t l ls) (j : Later wk v) (hk1 : wk.heap.size ≤ k1) (hk2 : wk.heap.size ≤ k2) (hne : k1 ≠ k2) (o1 : Only k1 v v1) (hb1 : Blk v1 k1 26 (EL n1)) (o2 : Only k2 v1 v2) (hb2 : Blk v2 k2 26 (EL n2)) : St w0 v2 g t l ((k1, n1) :: (k2, n2) :: ls) := by
  have h1 := h.later j
  have hs := h.only.size
  refine ⟨(h1.only.past o1 (by omega)).past o2 (by omega), (h1.blk.only o1 (by have := h.blk.lt; omega)).only o2 (by have := h.blk.lt; omega), ?_, h.gl⟩
  intro p hp
  rcases List.mem_cons.1 hp with rfl | hp
  · exact ⟨hb1.only o2 hne, by show w0.heap.size ≤ k1; omega⟩
  rcases List.mem_cons.1 hp with rfl | hp
  · exact ⟨hb2, by show w0.heap.size ≤ k2; omega⟩
  · exact ⟨((h1.loc p hp).1.only o1 (by have := (h.loc p hp).1.lt; omega)).only o2 (by have := (h.loc p hp).1.lt; omega), (h.loc p hp).2⟩
end
set_option maxRecDepth 100000 in
set_option maxHeartbeats 8000000 in
theorem ladder_step (g : Nat) (t : TypeId) (x1 x2 z2 x3 z3 : Nat) (k1 : x1 < T256) (k2 : x2 < T256) (k3 : z2 < T256) (k4 : x3 < T256) (k5 : z3 < T256) (w : World) (hb : Blk w g t (L5 x1 x2 z2 x3 z3)) :
    Calls Try.prog 52 #[.pointer (some ⟨g, 0, none⟩)] w fun e w' => e = .returned (.tuple #[]) ∧ Blk w' g t (L5 x1
      (fmul (fmul (fadd x2 z2) (fadd x2 z2)) (fmul (fsub x2 z2) (fsub x2 z2)))
      (fmul (fsub (fmul (fadd x2 z2) (fadd x2 z2)) (fmul (fsub x2 z2) (fsub x2 z2))) (fadd (fmul (fadd x2 z2) (fadd x2 z2)) (fmul 121665 (fsub (fmul (fadd x2 z2) (fadd x2 z2)) (fmul (fsub x2 z2) (fsub x2 z2))))))
      (fmul (fadd (fmul (fsub x3 z3) (fadd x2 z2)) (fmul (fadd x3 z3) (fsub x2 z2))) (fadd (fmul (fsub x3 z3) (fadd x2 z2)) (fmul (fadd x3 z3) (fsub x2 z2))))
      (fmul x1 (fmul (fsub (fmul (fsub x3 z3) (fadd x2 z2)) (fmul (fadd x3 z3) (fsub x2 z2))) (fsub (fmul (fsub x3 z3) (fadd x2 z2)) (fmul (fadd x3 z3) (fsub x2 z2)))))) ∧ Only g w w' := by
  have cA := hid (sum2 x2 z2 k2 k3)
  have cB := hid (sub2 x2 z2 k2 k3)
  have cC := hid (sum2 x3 z3 k4 k5)
  have cD := hid (sub2 x3 z3 k4 k5)
  have tA := fadd_T x2 z2
  have tB := fsub_T x2 z2
  have tC := fadd_T x3 z3
  have tD := fsub_T x3 z3
  generalize fadd x2 z2 = A at *
  generalize fsub x2 z2 = B at *
  generalize fadd x3 z3 = C at *
  generalize fsub x3 z3 = D at *
  have cAA := hid (square1 A tA)
  have cBB := hid (square1 B tB)
  have cDA := hid (product2 D A tD tA)
  have cCB := hid (product2 C B tC tB)
  have tAA := fmul_T A A
  have tBB := fmul_T B B
  have tDA := fmul_T D A
  have tCB := fmul_T C B
  generalize fmul A A = AA at *
  generalize fmul B B = BB at *
  generalize fmul D A = DA at *
  generalize fmul C B = CB at *
  have cF := hid (sub2 AA BB tAA tBB)
  have tF := fsub_T AA BB
  have cS := hid (sum2 DA CB tDA tCB)
  have tS := fadd_T DA CB
  have cG := hid (sub2 DA CB tDA tCB)
  have tG := fsub_T DA CB
  have cX2 := hid (product2 AA BB tAA tBB)
  generalize fsub AA BB = F at *
  generalize fadd DA CB = S at *
  generalize fsub DA CB = G at *
  generalize fmul AA BB = X2 at *
  have cSS := hid (square1 S tS)
  have cGG := hid (square1 G tG)
  have tGG := fmul_T G G
  have cM := hid (product2 121665 F (by decide) tF)
  have tM := fmul_T 121665 F
  generalize fmul S S = X3 at *
  generalize fmul G G = GG at *
  generalize fmul 121665 F = M at *
  have cZ3 := hid (product2 x1 GG k1 tGG)
  have cN := hid (sum2 AA M tAA tM)
  have tN := fadd_T AA M
  generalize fmul x1 GG = Z3 at *
  generalize fadd AA M = N at *
  have cZ2 := hid (product2 F N tF tN)
  generalize fmul F N = Z2 at *
  have cOf : Hid (∀ w, Calls Try.prog 13 #[.int .u64 121665] w fun e w' => e = .returned (E 121665) ∧ Later w w') := hid (of_any 121665 (by decide))
  clear tA tB tC tD tAA tBB tDA tCB tF tS tG tGG tM tN k1 k2 k3 k4 k5
  have S0 : St w w g t (L5 x1 x2 z2 x3 z3) [] := ⟨World.grownBy.refl w _, hb, by simp, hb.lt⟩
  go_enter Try.func52, Try.ntmps52
  go_wp2_with fail
  refine wp_region_makers [0, 1, 2, 3, 4, 5, 6, 7, 10, 11, 12, 13, 14, 15, 16, 17] [([], 2, 8), ([], 1, 9), ([], 1, 18), ([], 2, 19), ([], 2, 20)] [] [21, 22] [8, 19, 20] (fun i => if i = 8 then (fun g => .slice (some ⟨g, 0, none⟩) 2 2, .cells (EL x2 ++ EL z2).toArray 26) else (fun g => .pointer (some ⟨g, 0, none⟩), .cells (List.replicate 4 (Value.int .u64 0)).toArray 26)) (by as_aux_lemma => kernel_rfl) (by as_aux_lemma => kernel_rfl) (by intro _ _ d _ _ h; cases d <;> exact h) (by intro _ _ d _ _ h; cases d <;> exact h) ?_
  simp only [pick, List.getElem?_cons_succ, List.getElem?_cons_zero, Option.toList_some, List.cons_append, List.nil_append]
  repeat (first | go_big_quiet_skip | (go_big_quiet_want; (first | refine quiet_at _ rfl S0.drew.blk (fun j v hv => L5_1 _ _ _ _ _ j v hv) rfl ?_ | refine quiet_at _ rfl S0.drew.blk (fun j v hv => L5_2 _ _ _ _ _ j v hv) rfl ?_); simp only [Act.put, List.setIfInBounds_toArray, List.set_cons_succ, List.set_cons_zero]; go_big_quiet_on) | (go_big_quiet_step (fail)))
  refine wpQuiet_nil ?_
  refine ⟨?mk, ?_⟩
  case mk =>
    refine ⟨fun o ho => ?_, fun o ho => ?_, fun o ho => ?_, trivial⟩
    all_goals
      simp only [List.getElem?_cons_succ, List.getElem?_cons_zero, Option.some.injEq] at ho
      subst ho
    · exact makes_row2 rfl _ _ rfl x2 z2 rfl rfl
    · exact makes_cell rfl rfl
    · exact makes_cell rfl rfl
  simp only [wpPartsM, pick, List.getElem?_cons_succ, List.getElem?_cons_zero, Option.toList_some, List.cons_append, List.nil_append, reduceIte, Option.bind_some]
  refine wpQuiet_nil ?_
  intro aa gx j1 _ _ hx1
  have hx2 : Blk aa gx 26 (EL x2 ++ EL z2) := hx1
  refine wpQuiet_nil ?_
  intro ab j2
  go_wp2_with fail
  (with_reducible refine (cA.out _ gx (hx2.later j2)).mono ?_); rintro e ac ⟨rfl, j3⟩
  go_wp2_with fail
  try refine ⟨by first | assumption | exact later_drew _ | exact later_alloc _ _ | exact Later.refl _, ?_⟩
  try simp only [wpParts, pick, List.getElem?_cons_succ, List.getElem?_cons_zero, Option.toList_some, List.cons_append, List.nil_append]
  repeat (go_big_quiet_step (fail))
  refine wpQuiet_nil ?_
  intro ad j4
  go_wp2_with fail
  (with_reducible refine (cB.out _).mono ?_); rintro e ae ⟨rfl, j5⟩
  go_wp2_with fail
  try refine ⟨by first | assumption | exact later_drew _ | exact later_alloc _ _ | exact Later.refl _, ?_⟩
  try simp only [wpParts, pick, List.getElem?_cons_succ, List.getElem?_cons_zero, Option.toList_some, List.cons_append, List.nil_append]
  repeat (go_big_quiet_step (fail))
  refine wpQuiet_nil ?_
  have j0 := ((((later_drew _).trans j1).trans j2).trans j3).trans (j4.trans j5)
  clear j1 j2 j3 j4 j5 hx1 hx2
  intro a1 gA i1 hg1 _ hb1
  refine wpQuiet_nil ?_
  intro a2 gB i2 hg2 hn2 hb2
  refine wpQuiet_nil ?_
  intro a3 i3
  have hne : gA ≠ gB := fun e => hn2 (.inl e.symm)
  have hX : Blk a3 gA 26 (List.replicate 4 (Value.int .u64 0)) := Blk.later (show Blk a1 gA _ _ from hb1) (i2.trans i3)
  have hY : Blk a3 gB 26 (List.replicate 4 (Value.int .u64 0)) := Blk.later (show Blk a2 gB _ _ from hb2) i3
  have jj := j0.trans (i1.trans (i2.trans i3))
  clear hb1 hb2 i1 i2 i3 hn2
  simp only [Act.put, List.setIfInBounds_toArray, List.set_cons_succ, List.set_cons_zero]
  go_wp2_with (first
    | (refine store_E rfl rfl _ _ rfl hX rfl rfl rfl ?_; intro a4 hb3 ho3
       have hY3 := hY.only ho3 (fun e => hne e.symm))
    | (refine store_E rfl rfl _ _ rfl hY3 rfl rfl rfl ?_; intro a5 hb4 ho4
       have S1 := S0.two jj hg1 hg2 hne ho3 hb3 ho4 hb4)
    | fail)
  clear jj hX hY hY3 hg1 hg2 hne ho3 hb3 ho4 hb4 S0
  clear j0 cA cB
  go_wp2_with fail
  refine wp_region_makers [0, 1, 2, 3, 4, 5, 6, 7, 10, 11, 12, 13, 14, 15, 16, 17] [([], 2, 8), ([], 1, 9), ([], 1, 18), ([], 2, 19), ([], 2, 20)] [] [21, 22] [8, 19, 20] (fun i => if i = 8 then (fun g => .slice (some ⟨g, 0, none⟩) 2 2, .cells (EL x3 ++ EL z3).toArray 26) else (fun g => .pointer (some ⟨g, 0, none⟩), .cells (List.replicate 4 (Value.int .u64 0)).toArray 26)) (by as_aux_lemma => kernel_rfl) (by as_aux_lemma => kernel_rfl) (by intro _ _ d _ _ h; cases d <;> exact h) (by intro _ _ d _ _ h; cases d <;> exact h) ?_
  simp only [pick, List.getElem?_cons_succ, List.getElem?_cons_zero, Option.toList_some, List.cons_append, List.nil_append]
  repeat (first | go_big_quiet_skip | (go_big_quiet_want; (first | refine quiet_at _ rfl S1.drew.blk (fun j v hv => L5_3 _ _ _ _ _ j v hv) rfl ?_ | refine quiet_at _ rfl S1.drew.blk (fun j v hv => L5_4 _ _ _ _ _ j v hv) rfl ?_); simp only [Act.put, List.setIfInBounds_toArray, List.set_cons_succ, List.set_cons_zero]; go_big_quiet_on) | (go_big_quiet_step (fail)))
  refine wpQuiet_nil ?_
  refine ⟨?mk, ?_⟩
  case mk =>
    refine ⟨fun o ho => ?_, fun o ho => ?_, fun o ho => ?_, trivial⟩
    all_goals
      simp only [List.getElem?_cons_succ, List.getElem?_cons_zero, Option.some.injEq] at ho
      subst ho
    · exact makes_row2 rfl _ _ rfl x3 z3 rfl rfl
    · exact makes_cell rfl rfl
    · exact makes_cell rfl rfl
  simp only [wpPartsM, pick, List.getElem?_cons_succ, List.getElem?_cons_zero, Option.toList_some, List.cons_append, List.nil_append, reduceIte, Option.bind_some]
  refine wpQuiet_nil ?_
  intro ba gx j1 _ _ hx1
  have hx2 : Blk ba gx 26 (EL x3 ++ EL z3) := hx1
  refine wpQuiet_nil ?_
  intro bb j2
  go_wp2_with fail
  (with_reducible refine (cC.out _ gx (hx2.later j2)).mono ?_); rintro e bc ⟨rfl, j3⟩
  go_wp2_with fail
  try refine ⟨by first | assumption | exact later_drew _ | exact later_alloc _ _ | exact Later.refl _, ?_⟩
  try simp only [wpParts, pick, List.getElem?_cons_succ, List.getElem?_cons_zero, Option.toList_some, List.cons_append, List.nil_append]
  repeat (go_big_quiet_step (fail))
  refine wpQuiet_nil ?_
  intro bd j4
  go_wp2_with fail
  (with_reducible refine (cD.out _).mono ?_); rintro e be ⟨rfl, j5⟩
  go_wp2_with fail
  try refine ⟨by first | assumption | exact later_drew _ | exact later_alloc _ _ | exact Later.refl _, ?_⟩
  try simp only [wpParts, pick, List.getElem?_cons_succ, List.getElem?_cons_zero, Option.toList_some, List.cons_append, List.nil_append]
  repeat (go_big_quiet_step (fail))
  refine wpQuiet_nil ?_
  have j0 := ((((later_drew _).trans j1).trans j2).trans j3).trans (j4.trans j5)
  clear j1 j2 j3 j4 j5 hx1 hx2
  intro b1 gC i1 hg1 _ hb1
  refine wpQuiet_nil ?_
  intro b2 gD i2 hg2 hn2 hb2
  refine wpQuiet_nil ?_
  intro b3 i3
  have hne : gC ≠ gD := fun e => hn2 (.inl e.symm)
  have hX : Blk b3 gC 26 (List.replicate 4 (Value.int .u64 0)) := Blk.later (show Blk b1 gC _ _ from hb1) (i2.trans i3)
  have hY : Blk b3 gD 26 (List.replicate 4 (Value.int .u64 0)) := Blk.later (show Blk b2 gD _ _ from hb2) i3
  have jj := j0.trans (i1.trans (i2.trans i3))
  clear hb1 hb2 i1 i2 i3 hn2
  simp only [Act.put, List.setIfInBounds_toArray, List.set_cons_succ, List.set_cons_zero]
  go_wp2_with (first
    | (refine store_E rfl rfl _ _ rfl hX rfl rfl rfl ?_; intro b4 hb3 ho3
       have hY3 := hY.only ho3 (fun e => hne e.symm))
    | (refine store_E rfl rfl _ _ rfl hY3 rfl rfl rfl ?_; intro b5 hb4 ho4
       have S2 := S1.two jj hg1 hg2 hne ho3 hb3 ho4 hb4)
    | fail)
  clear jj hX hY hY3 hg1 hg2 hne ho3 hb3 ho4 hb4 S1
  clear j0 cC cD
  go_wp2_with fail
  refine wp_region_makers [0, 2] [([], 1, 1), ([], 1, 3), ([], 2, 4), ([], 2, 5)] [] [6, 7] [4, 5] (fun _ => (fun g => .pointer (some ⟨g, 0, none⟩), .cells (List.replicate 4 (Value.int .u64 0)).toArray 26)) (by as_aux_lemma => kernel_rfl) (by as_aux_lemma => kernel_rfl) (by intro _ _ d _ _ h; cases d <;> exact h) (by intro _ _ d _ _ h; cases d <;> exact h) ?_
  simp only [pick, List.getElem?_cons_succ, List.getElem?_cons_zero, Option.toList_some, List.cons_append, List.nil_append]
  repeat (first | go_big_quiet_skip | (go_big_quiet_want; (first | refine quiet_E _ rfl (S2.drew.nth 2 rfl) rfl ?_ | refine quiet_E _ rfl (S2.drew.nth 3 rfl) rfl ?_); simp only [Act.put, List.setIfInBounds_toArray, List.set_cons_succ, List.set_cons_zero]; go_big_quiet_on) | (go_big_quiet_step (fail)))
  refine wpQuiet_nil ?_
  refine ⟨?mk, ?_⟩
  case mk =>
    refine ⟨fun o ho => ?_, fun o ho => ?_, trivial⟩
    all_goals
      simp only [List.getElem?_cons_succ, List.getElem?_cons_zero, Option.some.injEq] at ho
      subst ho
      exact makes_cell rfl rfl
  simp only [wpPartsM, pick, List.getElem?_cons_succ, List.getElem?_cons_zero, Option.toList_some, List.cons_append, List.nil_append, Option.bind_some]
  refine wpQuiet_nil ?_
  intro ca j1
  go_wp2_with fail
  (with_reducible refine (cAA.out _).mono ?_); rintro e cb ⟨rfl, j2⟩
  go_wp2_with fail
  try refine ⟨by first | assumption | exact later_drew _ | exact later_alloc _ _ | exact Later.refl _, ?_⟩
  try simp only [wpParts, pick, List.getElem?_cons_succ, List.getElem?_cons_zero, Option.toList_some, List.cons_append, List.nil_append]
  repeat (go_big_quiet_step (fail))
  refine wpQuiet_nil ?_
  intro cc j3
  go_wp2_with fail
  (with_reducible refine (cBB.out _).mono ?_); rintro e cd ⟨rfl, j4⟩
  go_wp2_with fail
  try refine ⟨by first | assumption | exact later_drew _ | exact later_alloc _ _ | exact Later.refl _, ?_⟩
  try simp only [wpParts, pick, List.getElem?_cons_succ, List.getElem?_cons_zero, Option.toList_some, List.cons_append, List.nil_append]
  repeat (go_big_quiet_step (fail))
  refine wpQuiet_nil ?_
  have j0 := (((later_drew _).trans j1).trans j2).trans (j3.trans j4)
  clear j1 j2 j3 j4
  intro c1 gAA i1 hg1 _ hb1
  refine wpQuiet_nil ?_
  intro c2 gBB i2 hg2 hn2 hb2
  refine wpQuiet_nil ?_
  intro c3 i3
  have hne : gAA ≠ gBB := fun e => hn2 (.inl e.symm)
  have hX : Blk c3 gAA 26 (List.replicate 4 (Value.int .u64 0)) := Blk.later (show Blk c1 gAA _ _ from hb1) (i2.trans i3)
  have hY : Blk c3 gBB 26 (List.replicate 4 (Value.int .u64 0)) := Blk.later (show Blk c2 gBB _ _ from hb2) i3
  have jj := j0.trans (i1.trans (i2.trans i3))
  clear hb1 hb2 i1 i2 i3 hn2
  simp only [Act.put, List.setIfInBounds_toArray, List.set_cons_succ, List.set_cons_zero]
  go_wp2_with (first
    | (refine store_E rfl rfl _ _ rfl hX rfl rfl rfl ?_; intro c4 hb3 ho3
       have hY3 := hY.only ho3 (fun e => hne e.symm))
    | (refine store_E rfl rfl _ _ rfl hY3 rfl rfl rfl ?_; intro c5 hb4 ho4
       have S3 := S2.two jj hg1 hg2 hne ho3 hb3 ho4 hb4
       have q0 := S3.nth 0 rfl
       have q1 := S3.nth 1 rfl)
    | (refine load_E rfl _ rfl q0 rfl ?_)
    | (refine load_E rfl _ rfl q1 rfl ?_)
    | fail)
  clear jj hX hY hY3 hg1 hg2 hne ho3 hb3 ho4 hb4 S2
  clear j0 cAA cBB
  (with_reducible refine (cF.out _).mono ?_); rintro e d1 ⟨rfl, j1⟩
  go_wp2_with (first
    | (refine store_E rfl rfl _ _ rfl (Blk.new d1 _ (List.replicate 4 (.int .u64 0))) rfl rfl rfl ?_; intro d2 hb3 ho3)
    | fail)
  have S4 := S3.one (j1.trans (later_alloc d1 _)) j1.size ho3 hb3
  clear j1 hb3 ho3 S3 cF q0 q1
  generalize hgF : d1.heap.size = gF at *
  clear hgF
  refine wp_region_makers [0, 1, 4, 5] [([], 2, 2), ([], 1, 3), ([], 2, 6), ([], 1, 7), ([], 2, 8), ([], 2, 9)] [] [10, 11] [2, 6, 8, 9] (fun i => if i = 2 then (fun g => .slice (some ⟨g, 0, none⟩) 2 2, .cells (EL D ++ EL A).toArray 26) else if i = 6 then (fun g => .slice (some ⟨g, 0, none⟩) 2 2, .cells (EL C ++ EL B).toArray 26) else (fun g => .pointer (some ⟨g, 0, none⟩), .cells (List.replicate 4 (Value.int .u64 0)).toArray 26)) (by as_aux_lemma => kernel_rfl) (by as_aux_lemma => kernel_rfl) (by intro _ _ d _ _ h; cases d <;> exact h) (by intro _ _ d _ _ h; cases d <;> exact h) ?_
  simp only [pick, List.getElem?_cons_succ, List.getElem?_cons_zero, Option.toList_some, List.cons_append, List.nil_append]
  repeat (first | go_big_quiet_skip | (go_big_quiet_want; (first | refine quiet_E _ rfl (S4.drew.nth 3 rfl) rfl ?_ | refine quiet_E _ rfl (S4.drew.nth 4 rfl) rfl ?_ | refine quiet_E _ rfl (S4.drew.nth 5 rfl) rfl ?_ | refine quiet_E _ rfl (S4.drew.nth 6 rfl) rfl ?_); simp only [Act.put, List.setIfInBounds_toArray, List.set_cons_succ, List.set_cons_zero]; go_big_quiet_on) | (go_big_quiet_step (fail)))
  refine wpQuiet_nil ?_
  refine ⟨?mk, ?_⟩
  case mk =>
    refine ⟨fun o ho => ?_, fun o ho => ?_, fun o ho => ?_, fun o ho => ?_, trivial⟩
    all_goals
      simp only [List.getElem?_cons_succ, List.getElem?_cons_zero, Option.some.injEq] at ho
      subst ho
    · exact makes_row2 rfl _ _ rfl D A rfl rfl
    · exact makes_row2 rfl _ _ rfl C B rfl rfl
    · exact makes_cell rfl rfl
    · exact makes_cell rfl rfl
  simp only [wpPartsM, pick, List.getElem?_cons_succ, List.getElem?_cons_zero, Option.toList_some, List.cons_append, List.nil_append, reduceIte, Option.bind_some]
  refine wpQuiet_nil ?_
  intro e1 gx j1 _ _ hx1
  have hx2 : Blk e1 gx 26 (EL D ++ EL A) := hx1
  refine wpQuiet_nil ?_
  intro e2 j2
  go_wp2_with fail
  (with_reducible refine (cDA.out _ gx (hx2.later j2)).mono ?_); rintro e e3 ⟨rfl, j3⟩
  go_wp2_with fail
  try refine ⟨by first | assumption | exact later_drew _ | exact later_alloc _ _ | exact Later.refl _, ?_⟩
  try simp only [wpParts, pick, List.getElem?_cons_succ, List.getElem?_cons_zero, Option.toList_some, List.cons_append, List.nil_append]
  repeat (go_big_quiet_step (fail))
  refine wpQuiet_nil ?_
  intro e4 gy j4 _ _ hy1
  have hy2 : Blk e4 gy 26 (EL C ++ EL B) := hy1
  refine wpQuiet_nil ?_
  intro e5 j5
  go_wp2_with fail
  (with_reducible refine (cCB.out _ gy (hy2.later j5)).mono ?_); rintro e e6 ⟨rfl, j6⟩
  go_wp2_with fail
  try refine ⟨by first | assumption | exact later_drew _ | exact later_alloc _ _ | exact Later.refl _, ?_⟩
  try simp only [wpParts, pick, List.getElem?_cons_succ, List.getElem?_cons_zero, Option.toList_some, List.cons_append, List.nil_append]
  repeat (go_big_quiet_step (fail))
  refine wpQuiet_nil ?_
  have j0 := (((later_drew _).trans j1).trans (j2.trans j3)).trans ((j4.trans j5).trans j6)
  clear j1 j2 j3 j4 j5 j6 hx1 hx2 hy1 hy2
  intro f1 gDA i1 hg1 _ hb1
  refine wpQuiet_nil ?_
  intro f2 gCB i2 hg2 hn2 hb2
  refine wpQuiet_nil ?_
  intro f3 i3
  have hne : gDA ≠ gCB := fun e => hn2 (.inl e.symm)
  have hX : Blk f3 gDA 26 (List.replicate 4 (Value.int .u64 0)) := Blk.later (show Blk f1 gDA _ _ from hb1) (i2.trans i3)
  have hY : Blk f3 gCB 26 (List.replicate 4 (Value.int .u64 0)) := Blk.later (show Blk f2 gCB _ _ from hb2) i3
  have jj := j0.trans (i1.trans (i2.trans i3))
  clear hb1 hb2 i1 i2 i3 hn2
  simp only [Act.put, List.setIfInBounds_toArray, List.set_cons_succ, List.set_cons_zero]
  go_wp2_with (first
    | (refine store_E rfl rfl _ _ rfl hX rfl rfl rfl ?_; intro f4 hb3 ho3
       have hY3 := hY.only ho3 (fun e => hne e.symm))
    | (refine store_E rfl rfl _ _ rfl hY3 rfl rfl rfl ?_; intro f5 hb4 ho4
       have S5 := S4.two jj hg1 hg2 hne ho3 hb3 ho4 hb4
       have q0 := S5.nth 0 rfl
       have q1 := S5.nth 1 rfl)
    | (refine load_E rfl _ rfl q0 rfl ?_)
    | (refine load_E rfl _ rfl q1 rfl ?_)
    | (refine build_row2 rfl _ _ rfl DA CB rfl rfl ?_)
    | fail)
  clear jj hX hY hY3 hg1 hg2 hne ho3 hb3 ho4 hb4 S4
  clear j0 cDA cCB
  (with_reducible refine (cS.out _ _ (Blk.new f5 _ (EL DA ++ EL CB))).mono ?_); rintro e h1 ⟨rfl, j1⟩
  go_wp2_with fail
  (with_reducible refine (cSS.out _).mono ?_); rintro e h2 ⟨rfl, j2⟩
  replace S5 := (S5.later (later_alloc f5 _)).later (j1.trans j2)
  go_wp2_with (first
    | (refine store_at rfl rfl _ _ rfl S5.blk rfl rfl (by rw [L5_length]; omega) ?_; intro h3 hb3 ho3)
    | fail)
  rw [L5_set3] at hb3
  have S6 := S5.write ho3 hb3
  clear j1 j2 hb3 ho3 S5 cS cSS q0 q1
  go_wp2_with fail
  refine wp_region_parts [([0, 1, 2, 3, 4, 5, 6], 7), ([], 8), ([], 9), ([], 10)] [11, 12] [13] (by as_aux_lemma => kernel_rfl) (by as_aux_lemma => kernel_rfl) (by intro _ _ d _ _ h; cases d <;> exact h) ?_
  simp only [wpParts, pick, List.getElem?_cons_succ, List.getElem?_cons_zero, Option.toList_some, List.cons_append, List.nil_append]
  repeat (first | go_big_quiet_skip | (go_big_quiet_want; (first | refine quiet_E _ rfl (S6.drew.nth 0 rfl) rfl ?_ | refine quiet_E _ rfl (S6.drew.nth 1 rfl) rfl ?_ | refine quiet_at _ rfl S6.drew.blk (fun j v hv => L5_0 _ _ _ _ _ j v hv) rfl ?_); simp only [Act.put, List.setIfInBounds_toArray, List.set_cons_succ, List.set_cons_zero]; go_big_quiet_on) | (go_big_quiet_step (fail)))
  refine wpQuiet_nil ?_
  go_wp2_with fail
  (with_reducible refine (cG.out _).mono ?_); rintro e p1 ⟨rfl, j1⟩
  go_wp2_with fail
  try refine ⟨by first | assumption | exact later_drew _ | exact later_alloc _ _ | exact Later.refl _, ?_⟩
  try simp only [wpParts, pick, List.getElem?_cons_succ, List.getElem?_cons_zero, Option.toList_some, List.cons_append, List.nil_append]
  repeat (go_big_quiet_step (fail))
  refine wpQuiet_nil ?_
  go_wp2_with fail
  (with_reducible refine (cGG.out _).mono ?_); rintro e p2 ⟨rfl, j2⟩
  go_wp2_with fail
  try refine ⟨by first | assumption | exact later_drew _ | exact later_alloc _ _ | exact Later.refl _, ?_⟩
  try simp only [wpParts, pick, List.getElem?_cons_succ, List.getElem?_cons_zero, Option.toList_some, List.cons_append, List.nil_append]
  repeat (go_big_quiet_step (fail))
  refine wpQuiet_nil ?_
  go_wp2_with (first
    | (refine build_row2 rfl _ _ rfl x1 GG rfl rfl ?_)
    | fail)
  refine ⟨later_alloc _ _, ?_⟩
  simp only [Act.put, List.setIfInBounds_toArray, List.set_cons_succ, List.set_cons_zero]
  refine wpQuiet_nil ?_
  go_wp2_with fail
  (with_reducible refine (cZ3.out _ _ (Blk.new p2 _ (EL x1 ++ EL GG))).mono ?_); rintro e p3 ⟨rfl, j3⟩
  replace S6 := S6.later ((((later_drew _).trans j1).trans j2).trans ((later_alloc p2 _).trans j3))
  go_wp2_with fail
  try refine ⟨by first | assumption | exact later_drew _ | exact later_alloc _ _ | exact Later.refl _, ?_⟩
  try simp only [wpParts, pick, List.getElem?_cons_succ, List.getElem?_cons_zero, Option.toList_some, List.cons_append, List.nil_append]
  repeat (go_big_quiet_step (fail))
  refine wpQuiet_nil ?_
  go_wp2_with (first
    | (refine store_at rfl rfl _ _ rfl S6.blk rfl rfl (by rw [L5_length]; omega) ?_; intro p4 hb3 ho3
       rw [L5_set4] at hb3
       have S7 := S6.write ho3 hb3
       have q3 := S7.nth 3 rfl
       have q4 := S7.nth 4 rfl)
    | (refine load_E rfl _ rfl q3 rfl ?_)
    | (refine load_E rfl _ rfl q4 rfl ?_)
    | (refine build_row2 rfl _ _ rfl AA BB rfl rfl ?_)
    | fail)
  clear j1 j2 j3 hb3 ho3 S6 q3 q4 cG cGG cZ3
  (with_reducible refine (cX2.out _ _ (Blk.new p4 _ (EL AA ++ EL BB))).mono ?_); rintro e r1 ⟨rfl, j1⟩
  replace S7 := S7.later ((later_alloc p4 _).trans j1)
  go_wp2_with (first
    | (refine store_at rfl rfl _ _ rfl S7.blk rfl rfl (by rw [L5_length]; omega) ?_; intro r2 hb3 ho3
       rw [L5_set1] at hb3
       have S8 := S7.write ho3 hb3)
    | fail)
  clear j1 hb3 ho3 S7 cX2
  refine wp_region_parts [([0, 1, 2, 4], 3), ([], 5), ([], 6), ([], 7), ([], 8), ([], 9), ([], 10)] [11, 12] [13] (by as_aux_lemma => kernel_rfl) (by as_aux_lemma => kernel_rfl) (by intro _ _ d _ _ h; cases d <;> exact h) ?_
  simp only [wpParts, pick, List.getElem?_cons_succ, List.getElem?_cons_zero, Option.toList_some, List.cons_append, List.nil_append]
  repeat (first | go_big_quiet_skip | (go_big_quiet_want; (first | refine quiet_E _ rfl (S8.drew.nth 2 rfl) rfl ?_ | refine quiet_E _ rfl (S8.drew.nth 3 rfl) rfl ?_); simp only [Act.put, List.setIfInBounds_toArray, List.set_cons_succ, List.set_cons_zero]; go_big_quiet_on) | (go_big_quiet_step (fail)))
  refine wpQuiet_nil ?_
  go_wp2_with fail
  (with_reducible refine (cOf.out _).mono ?_); rintro e u1 ⟨rfl, j1⟩
  go_wp2_with fail
  try refine ⟨by first | assumption | exact later_drew _ | exact later_alloc _ _ | exact Later.refl _, ?_⟩
  try simp only [wpParts, pick, List.getElem?_cons_succ, List.getElem?_cons_zero, Option.toList_some, List.cons_append, List.nil_append]
  repeat (go_big_quiet_step (fail))
  refine wpQuiet_nil ?_
  go_wp2_with (first
    | (refine build_row2 rfl _ _ rfl 121665 F rfl rfl ?_)
    | fail)
  refine ⟨later_alloc _ _, ?_⟩
  simp only [Act.put, List.setIfInBounds_toArray, List.set_cons_succ, List.set_cons_zero]
  refine wpQuiet_nil ?_
  go_wp2_with fail
  (with_reducible refine (cM.out _ _ (Blk.new u1 _ (EL 121665 ++ EL F))).mono ?_); rintro e u2 ⟨rfl, j2⟩
  go_wp2_with fail
  try refine ⟨by first | assumption | exact later_drew _ | exact later_alloc _ _ | exact Later.refl _, ?_⟩
  try simp only [wpParts, pick, List.getElem?_cons_succ, List.getElem?_cons_zero, Option.toList_some, List.cons_append, List.nil_append]
  repeat (go_big_quiet_step (fail))
  refine wpQuiet_nil ?_
  go_wp2_with (first
    | (refine build_row2 rfl _ _ rfl AA M rfl rfl ?_)
    | fail)
  refine ⟨later_alloc _ _, ?_⟩
  simp only [Act.put, List.setIfInBounds_toArray, List.set_cons_succ, List.set_cons_zero]
  refine wpQuiet_nil ?_
  go_wp2_with fail
  (with_reducible refine (cN.out _ _ (Blk.new u2 _ (EL AA ++ EL M))).mono ?_); rintro e u3 ⟨rfl, j3⟩
  go_wp2_with fail
  try refine ⟨by first | assumption | exact later_drew _ | exact later_alloc _ _ | exact Later.refl _, ?_⟩
  try simp only [wpParts, pick, List.getElem?_cons_succ, List.getElem?_cons_zero, Option.toList_some, List.cons_append, List.nil_append]
  repeat (go_big_quiet_step (fail))
  refine wpQuiet_nil ?_
  go_wp2_with (first
    | (refine build_row2 rfl _ _ rfl F N rfl rfl ?_)
    | fail)
  refine ⟨later_alloc _ _, ?_⟩
  simp only [Act.put, List.setIfInBounds_toArray, List.set_cons_succ, List.set_cons_zero]
  refine wpQuiet_nil ?_
  go_wp2_with fail
  (with_reducible refine (cZ2.out _ _ (Blk.new u3 _ (EL F ++ EL N))).mono ?_); rintro e u4 ⟨rfl, j4⟩
  replace S8 := S8.later ((((later_drew _).trans j1).trans ((later_alloc u1 _).trans j2)).trans (((later_alloc u2 _).trans j3).trans ((later_alloc u3 _).trans j4)))
  go_wp2_with fail
  try refine ⟨by first | assumption | exact later_drew _ | exact later_alloc _ _ | exact Later.refl _, ?_⟩
  try simp only [wpParts, pick, List.getElem?_cons_succ, List.getElem?_cons_zero, Option.toList_some, List.cons_append, List.nil_append]
  repeat (go_big_quiet_step (fail))
  refine wpQuiet_nil ?_
  go_wp2_with (first
    | (refine store_at rfl rfl _ _ rfl S8.blk rfl rfl (by rw [L5_length]; omega) ?_; intro u5 hb3 ho3
       rw [L5_set2] at hb3
       have S9 := S8.write ho3 hb3)
    | fail)
  exact bodyPost_end (results_none rfl _ _ _) rfl ⟨rfl, S9.blk, S9.only⟩
end Go.Proofs.Ytkibgdigcgakfaa
namespace Go.Proofs.Ytkibgdigcgakfaa
open Go.RowKit
open Go.BigFrame

/-- A scalar with its fixed bits. -/
def clampB (bs : List UInt8) : List UInt8 := if bs.length = 32 then (bs.set 0 (bs.getD 0 0 &&& 248)).set 31 (((bs.getD 31 0) &&& 127) ||| 64) else List.replicate 32 0
theorem clampB_length (bs : List UInt8) : (clampB bs).length = 32 := by
  unfold clampB
  split
  · simp; assumption
  · simp
set_option maxRecDepth 100000 in
set_option maxHeartbeats 2000000 in
theorem clamp_any (A : Option Addr) (n c : Nat) (bs : List UInt8) (w : World) (hr : RdB w A n bs) (hn : n ≤ 140737488355328) :
    Calls Try.prog 49 #[.slice A n c] w fun e w' => e = .returned (.tuple #[.agg ((clampB bs).map W8).toArray, .int .i64 (readE bs : Nat)]) ∧ Later w w' := by
  have hbl := hr.len
  have hb0 := Blk.new w 48 (List.replicate 32 (Value.int .u8 0))
  by_cases h32 : n = 32
  · subst h32
    have hRN := hid (show (clampB bs) = (bs.set 0 (bs.getD 0 0 &&& 248)).set 31 (((bs.getD 31 0) &&& 127) ||| 64) by rw [clampB, if_pos hbl])
    have hRE := hid (show readE bs = 0 by rw [readE, if_pos hbl])
    have L0 : Later w ((w.alloc (.cells (List.replicate 32 (Value.int .u8 0)).toArray 48)).alloc (.cells (List.replicate 32 (Value.int .u8 0)).toArray 48)) := (later_alloc _ _).trans (later_alloc _ _)
    go_enter Try.func49, Try.ntmps49
    have hcl := clampB_length bs
    have hx0 : (bs.map W8)[0]? = some (W8 (bs.getD 0 0)) := by rw [List.getElem?_map, List.getD_eq_getElem?_getD, List.getElem?_eq_getElem (by omega)]; rfl
    have hy0 : (bs.map W8)[31]? = some (W8 (bs.getD 31 0)) := by rw [List.getElem?_map, List.getD_eq_getElem?_getD, List.getElem?_eq_getElem (by omega)]; rfl
    generalize bs.getD 0 0 = x at *
    generalize bs.getD 31 0 = y at *
    go_wp2_with (first
      | (refine wpList_copy_rd rfl _ _ _ _ rfl 5 Try.underlying31 size8 (w.heap.size + 1) 0 32 32 48 (List.replicate 32 (W8 0)) (Blk.new' _ _ _ (by simp)) A 32 c (bs.map W8) (RdB.later hr L0) (w8_one _) rfl rfl (by simp) ?_; intro w4 hb4 ho4
         rw [List.take_of_length_le (by simp; omega), spliced_all _ _ (by simp; omega)] at hb4
         have L4 := L0.only ho4 (by omega)
         have h04 := (hb0.later (later_alloc _ _)).only ho4 (by omega)
         have d0 := hb4.cellD 0 hx0
         clear ho4)
      | (refine wpList_store_in rfl rfl _ _ _ rfl _ _ _ _ hb4 rfl ?hl rfl (by kernel_rfl) ?_; (case hl => simp; omega); intro v w5 hv hb5 ho5; simp [go_sem] at hv; subst hv
         have L5 := L4.only ho5 (by omega)
         have h05 := h04.only ho5 (by omega)
         have d31 := hb5.cellD 31 (u := W8 y) (by rw [List.getElem?_set_ne (by omega)]; exact hy0)
         clear ho5 d0 hb4)
      | (refine wpList_store_in rfl rfl _ _ _ rfl _ _ _ _ hb5 rfl ?hl rfl (by kernel_rfl) ?_; (case hl => simp; omega); intro v w6 hv hb6 ho6; simp [go_sem] at hv; subst hv
         have L6 := L5.only ho6 (by omega)
         have h06 := h05.only ho6 (by omega)
         have d31' := hb6.cellD 31 (List.getElem?_set_self (by simp; omega))
         clear ho6 d31 hb5)
      | (refine wpList_store_in rfl rfl _ _ _ rfl _ _ _ _ hb6 rfl ?hl rfl (by kernel_rfl) ?_; (case hl => simp; omega); intro v w7 hv hb7 ho7; simp [go_sem] at hv; subst hv
         rw [List.set_set, ← List.map_set, ← List.map_set, ← hRN.out] at hb7
         have L7 := L6.only ho7 (by omega)
         have h07 := h06.only ho7 (by omega)
         clear ho7 d31' hb6)
      | (refine load_B rfl _ rfl hb7 hcl rfl ?_)
      | (refine store_B rfl rfl _ _ rfl h07 rfl rfl hcl rfl ?_; intro w8 hb8 ho8)
      | fail)
    exact bodyPost_ret (results_blk_tmp rfl _ _ _ _ _ _ hb8 rfl Try.underlying48 rfl (by rw [List.length_map, hcl]; exact size32b)) rfl ⟨by rw [hRE.out]; rfl, L7.only ho8 (by omega)⟩
  · have hne : ((n : Int) != 32) = true := by simp; omega
    have hRN := hid (show clampB bs = List.replicate 32 0 by rw [clampB, if_neg (by omega)])
    have hRE := hid (show readE bs = 2 by rw [readE, if_neg (by omega)])
    go_enter Try.func49, Try.ntmps49
    go_wp2_with (first
      | (refine wpList_build_is rfl 48 _ rfl (List.replicate 32 (W8 0)) ?hb ?_; (case hb => kernel_rfl))
      | (refine store_B (bs := List.replicate 32 0) rfl rfl _ _ rfl hb0 rfl (by kernel_rfl) rfl rfl ?_; intro w9 hb9 ho9)
      | fail)
    exact bodyPost_ret (results_blk_tmp rfl _ _ _ _ _ _ hb9 rfl Try.underlying48 rfl (by rw [List.length_map, List.length_replicate]; exact size32b)) rfl ⟨by rw [hRN.out, hRE.out]; rfl, (later_alloc _ _).only ho9 (by omega)⟩
theorem and_fact : ∀ x : Fin 256, x.1 &&& 248 = x.1 / 8 * 8 ∧ (x.1 &&& 127) ||| 64 = x.1 % 64 + 64 := by decide +kernel
theorem and_248 (x : UInt8) : x &&& 248 = x / 8 * 8 := by
  apply UInt8.toNat_inj.1
  have h := x.toNat_lt
  have := (and_fact ⟨x.toNat, h⟩).1
  rw [UInt8.toNat_and, UInt8.toNat_mul, UInt8.toNat_div]
  show x.toNat &&& 248 = x.toNat / 8 * 8 % 256
  simp only at this
  omega
theorem and_127 (x : UInt8) : (x &&& 127) ||| 64 = x % 64 + 64 := by
  apply UInt8.toNat_inj.1
  have h := x.toNat_lt
  have := (and_fact ⟨x.toNat, h⟩).2
  rw [UInt8.toNat_or, UInt8.toNat_and, UInt8.toNat_add, UInt8.toNat_mod]
  show (x.toNat &&& 127) ||| 64 = (x.toNat % 64 + 64) % 256
  simp only at this
  omega
end Go.Proofs.Ytkibgdigcgakfaa
namespace Go.Proofs.Ytkibgdigcgakfaa
open Go.RowKit
open Go.BigFrame

theorem L2_0 (a b j : Nat) (v : Value) (h : (EL a)[j]? = some v) : (EL a ++ EL b)[0 + j]? = some v := by
  have hj : j < 4 := by have := (List.getElem?_eq_some_iff.1 h).1; rwa [EL_length] at this
  rw [Nat.zero_add, List.getElem?_append_left (by rw [EL_length]; exact hj)]
  exact h
theorem L2_1 (a b j : Nat) (v : Value) (h : (EL b)[j]? = some v) : (EL a ++ EL b)[4 + j]? = some v := by
  rw [List.getElem?_append_right (by rw [EL_length]; omega), EL_length, show 4 + j - 4 = j by omega]
  exact h
set_option maxRecDepth 100000 in
set_option maxHeartbeats 2000000 in
theorem value_any (u v : Nat) (hu : u < T256) (hv : v < T256) (w : World) :
    Calls Try.prog 53 #[.agg (EL u ++ EL v).toArray] w fun e w' => e = .returned (E (fmul u (pinv v))) ∧ Later w w' := by
  have h1 : Blk ((w.alloc (.cells (EL u ++ EL v).toArray 104)).alloc (.cells (List.replicate 4 (.int .u64 0)).toArray 26)) w.heap.size 104 (EL u ++ EL v) := (Blk.new _ _ _).later (later_alloc _ _)
  have h2 : Blk ((w.alloc (.cells (EL u ++ EL v).toArray 104)).alloc (.cells (List.replicate 4 (.int .u64 0)).toArray 26)) (w.heap.size + 1) 26 (List.replicate 4 (.int .u64 0)) := Blk.new' _ _ _ (by simp)
  have L0 : Later w ((w.alloc (.cells (EL u ++ EL v).toArray 104)).alloc (.cells (List.replicate 4 (.int .u64 0)).toArray 26)) := (later_alloc _ _).trans (later_alloc _ _)
  have hI := hid (inv_any v hv)
  have hM : Hid (∀ w, Calls Try.prog 29 #[E u, E (pinv v)] w fun e w' => e = .returned (E (fmul u (pinv v))) ∧ Later w w') := hid (multiply_any u (pinv v) hu (pinv_T v))
  generalize fmul u (pinv v) = q at *
  generalize pinv v = i at *
  go_enter Try.func53, Try.ntmps53
  go_wp2_with fail
  refine wp_region_parts [([0, 1, 2, 3], 4)] [] [5, 6] (by as_aux_lemma => kernel_rfl) (by as_aux_lemma => kernel_rfl) (by intro _ _ d _ _ h; cases d <;> exact h) ?_
  simp only [wpParts, pick, List.getElem?_cons_succ, List.getElem?_cons_zero, Option.toList_some, List.cons_append, List.nil_append]
  repeat (first | go_big_quiet_skip | (go_big_quiet_want; (first | refine quiet_at _ rfl h1.drew (fun j v hv => L2_0 _ _ j v hv) rfl ?_ | refine quiet_at _ rfl h1.drew (fun j v hv => L2_1 _ _ j v hv) rfl ?_); simp only [Act.put, List.setIfInBounds_toArray, List.set_cons_succ, List.set_cons_zero]; go_big_quiet_on) | (go_big_quiet_step (fail)))
  refine wpQuiet_nil ?_
  go_wp2_with fail
  (with_reducible refine (hI.out _).mono ?_); rintro e w2 ⟨rfl, hl2⟩
  replace hl2 := (later_drew _).trans hl2
  go_wp2_with fail
  try refine ⟨by first | assumption | exact later_drew _ | exact later_alloc _ _ | exact Later.refl _, ?_⟩
  try simp only [wpParts, pick, List.getElem?_cons_succ, List.getElem?_cons_zero, Option.toList_some, List.cons_append, List.nil_append]
  repeat (go_big_quiet_step (fail))
  refine wpQuiet_nil ?_
  go_wp2_with fail
  (with_reducible refine (hM.out _).mono ?_); rintro e w3 ⟨rfl, hl3⟩
  replace hl3 := hl2.trans hl3
  go_wp2_with (first
    | (refine store_E rfl rfl _ _ rfl (h2.later hl3) rfl rfl rfl ?_; intro w9 hb9 ho9)
    | fail)
  exact bodyPost_ret (ret_E rfl hb9 rfl) rfl ⟨rfl, (L0.trans hl3).only ho9 (by omega)⟩
end Go.Proofs.Ytkibgdigcgakfaa
namespace Go.Proofs.Ytkibgdigcgakfaa
open Go.RowKit
open Go.BigFrame

structure Lad where
  x2 : Nat
  z2 : Nat
  x3 : Nat
  z3 : Nat
def LL (x1 : Nat) (s : Lad) : List Value := L5 x1 s.x2 s.z2 s.x3 s.z3
def Lad.Ok (s : Lad) : Prop := s.x2 < T256 ∧ s.z2 < T256 ∧ s.x3 < T256 ∧ s.z3 < T256
def Lad.swap (s : Lad) : Lad := ⟨s.x3, s.z3, s.x2, s.z2⟩
/-- One step of the ladder. -/
def Lad.step (x1 : Nat) (s : Lad) : Lad :=
  ⟨fmul (fmul (fadd s.x2 s.z2) (fadd s.x2 s.z2)) (fmul (fsub s.x2 s.z2) (fsub s.x2 s.z2)),
   fmul (fsub (fmul (fadd s.x2 s.z2) (fadd s.x2 s.z2)) (fmul (fsub s.x2 s.z2) (fsub s.x2 s.z2))) (fadd (fmul (fadd s.x2 s.z2) (fadd s.x2 s.z2)) (fmul 121665 (fsub (fmul (fadd s.x2 s.z2) (fadd s.x2 s.z2)) (fmul (fsub s.x2 s.z2) (fsub s.x2 s.z2))))),
   fmul (fadd (fmul (fsub s.x3 s.z3) (fadd s.x2 s.z2)) (fmul (fadd s.x3 s.z3) (fsub s.x2 s.z2))) (fadd (fmul (fsub s.x3 s.z3) (fadd s.x2 s.z2)) (fmul (fadd s.x3 s.z3) (fsub s.x2 s.z2))),
   fmul x1 (fmul (fsub (fmul (fsub s.x3 s.z3) (fadd s.x2 s.z2)) (fmul (fadd s.x3 s.z3) (fsub s.x2 s.z2))) (fsub (fmul (fsub s.x3 s.z3) (fadd s.x2 s.z2)) (fmul (fadd s.x3 s.z3) (fsub s.x2 s.z2))))⟩
theorem Lad.swap_ok {s : Lad} (h : s.Ok) : s.swap.Ok := ⟨h.2.2.1, h.2.2.2, h.1, h.2.1⟩
theorem Lad.step_ok (x1 : Nat) (s : Lad) : (s.step x1).Ok := ⟨fmul_T _ _, fmul_T _ _, fmul_T _ _, fmul_T _ _⟩
def Lad.round (x1 : Nat) (b : Bool) (s : Lad) : Lad := if b then (s.swap.step x1).swap else s.step x1
theorem Lad.round_ok (x1 : Nat) (b : Bool) (s : Lad) : (s.round x1 b).Ok := by
  unfold Lad.round
  split
  · exact Lad.swap_ok (Lad.step_ok _ _)
  · exact Lad.step_ok _ _
/-- A scalar's bit. -/
def kbit (K : List UInt8) (t : Nat) : Bool := decide ((K.getD (t / 8) 0).toNat / 2 ^ (t % 8) % 2 = 1)
/-- The ladder after so many bits. -/
def Lad.at (x1 : Nat) (K : List UInt8) : Nat → Lad
  | 0 => ⟨1, 0, x1, 1⟩
  | k + 1 => (Lad.at x1 K k).round x1 (kbit K (254 - k))
theorem Lad.at_ok (x1 : Nat) (K : List UInt8) (h : x1 < T256) : ∀ k, (Lad.at x1 K k).Ok
  | 0 => ⟨show (1 : Nat) < T256 by decide, show (0 : Nat) < T256 by decide, h, show (1 : Nat) < T256 by decide⟩
  | _ + 1 => Lad.round_ok _ _ _
/-- What a multiplication comes to. -/
def multQ (ks us : List UInt8) : Nat := fmul (Lad.at (readN us) (clampB ks) 255).x2 (pinv (Lad.at (readN us) (clampB ks) 255).z2)
def multE (ks us : List UInt8) : Nat := if ks.length = 32 ∧ us.length = 32 then (if multQ ks us = 0 then 5 else 0) else 2
def multB (ks us : List UInt8) : List UInt8 := if ks.length = 32 ∧ us.length = 32 then nb (multQ ks us) else List.replicate 32 0
theorem multB_length (ks us : List UInt8) : (multB ks us).length = 32 := by
  unfold multB
  split
  · exact nb_length _
  · simp
theorem exchange_L (g : Nat) (t : TypeId) (x1 : Nat) (s : Lad) (w : World) (hb : Blk w g t (LL x1 s)) :
    Calls Try.prog 51 #[.pointer (some ⟨g, 0, none⟩)] w fun e w' => e = .returned (.tuple #[]) ∧ Blk w' g t (LL x1 s.swap) ∧ Only g w w' :=
  exchange_any g t x1 s.x2 s.z2 s.x3 s.z3 w hb
theorem step_L (g : Nat) (t : TypeId) (x1 : Nat) (s : Lad) (h1 : x1 < T256) (hs : s.Ok) (w : World) (hb : Blk w g t (LL x1 s)) :
    Calls Try.prog 52 #[.pointer (some ⟨g, 0, none⟩)] w fun e w' => e = .returned (.tuple #[]) ∧ Blk w' g t (LL x1 (s.step x1)) ∧ Only g w w' :=
  ladder_step g t x1 s.x2 s.z2 s.x3 s.z3 h1 hs.1 hs.2.1 hs.2.2.1 hs.2.2.2 w hb
theorem quiet_build {P : Program} {C : World → Prop} {a : Act} {o : Oper} {K : Act → Prop} (t : TypeId) (parts : Array (Nat × Operand)) (ho : o.op = .build t parts) (vs : List Value) (hb : P.built t (parts.map fun (i, x) => (i, a.eval x)).toList = some vs.toArray)
    (h : K (a.put o.dst (.agg vs.toArray))) : o.quiet P a C K :=
  ⟨.agg vs.toArray, fun w hw => by
    unfold Oper.quietAt execOp
    simp only [ho, Sem.run_bind, run_build w t _ _ hb, Result.andThen_ok]
    exact ⟨rfl, rfl⟩, h⟩
theorem built_ladder_aux (a0 a1 a2 a3 b0 b1 b2 b3 c0 c1 c2 c3 d0 d1 d2 d3 : Value) :
    Program.built Try.prog 102 [(0, .agg #[a0, a1, a2, a3]), (1, .agg #[b0, b1, b2, b3]), (3, .agg #[c0, c1, c2, c3]), (4, .agg #[d0, d1, d2, d3])] = some #[a0, a1, a2, a3, b0, b1, b2, b3, .int .u64 0, .int .u64 0, .int .u64 0, .int .u64 0, c0, c1, c2, c3, d0, d1, d2, d3] := by kernel_rfl
theorem built_ladder (x1 : Nat) : Program.built Try.prog 102 [(0, E x1), (1, E 1), (3, E x1), (4, E 1)] = some (LL x1 ⟨1, 0, x1, 1⟩).toArray := by
  show _ = some (EL x1 ++ (EL 1 ++ (EL 0 ++ (EL x1 ++ EL 1)))).toArray
  rw [E, E, EL_four x1, EL_four 1, EL_four 0]
  exact built_ladder_aux ..
end Go.Proofs.Ytkibgdigcgakfaa
namespace Go.Proofs.Ytkibgdigcgakfaa
open Go.RowKit
open Go.BigFrame

theorem readN_T (us : List UInt8) : readN us < T256 := by
  unfold readN
  split
  · exact Nat.lt_trans (Nat.mod_lt _ P25_pos) (show P25 < T256 by decide)
  · exact show 0 < T256 by decide
theorem num_zeros : num (List.replicate 32 0) = 0 := by decide +kernel
theorem nb_zeros : nb 0 = List.replicate 32 0 := by decide +kernel
theorem nb_is_zero (q : Nat) (h : q < T256) : (nb q == List.replicate 32 0) = decide (q = 0) := by
  rw [Bool.eq_iff_iff, beq_iff_eq, decide_eq_true_eq]
  constructor
  · intro e
    rw [← num_nb q h, e, num_zeros]
  · rintro rfl
    exact nb_zeros
theorem built_ratio_aux (a0 a1 a2 a3 b0 b1 b2 b3 : Value) :
    Program.built Try.prog 104 [(0, .agg #[a0, a1, a2, a3]), (1, .agg #[b0, b1, b2, b3])] = some #[a0, a1, a2, a3, b0, b1, b2, b3] := by kernel_rfl
theorem built_ratio (a b : Nat) : Program.built Try.prog 104 [(0, E a), (1, E b)] = some (EL a ++ EL b).toArray := by
  rw [E, E, EL_four a, EL_four b]
  exact built_ratio_aux ..
theorem LL_length (x1 : Nat) (s : Lad) : (LL x1 s).length = 20 := L5_length ..
theorem LL_one (x1 : Nat) (s : Lad) : ∀ v ∈ LL x1 s, v.oneCell' = true := by
  intro v hv
  simp only [LL, L5, List.mem_append] at hv
  rcases hv with h | h | h | h | h <;> exact EL_one _ v h
set_option maxRecDepth 100000 in
set_option maxHeartbeats 4000000 in
theorem mult_any (A B : Option Addr) (n c m d : Nat) (ks us : List UInt8) (w : World) (hk : RdB w A n ks) (hu : RdB w B m us) (hn : n ≤ 140737488355328) (hm : m ≤ 140737488355328) :
    Calls Try.prog 44 #[.slice A n c, .slice B m d] w fun e w' => e = .returned (.tuple #[.agg ((multB ks us).map W8).toArray, .int .i64 (multE ks us : Nat)]) ∧ Later w w' := by
  have hkl := hk.len
  have hul := hu.len
  have hb0 := Blk.new w 48 (List.replicate 32 (Value.int .u8 0))
  have L0 := later_alloc w (.cells (List.replicate 32 (Value.int .u8 0)).toArray 48)
  have hcl := clampB_length ks
  have cK := hid (fun w h => clamp_any A n c ks w h hn)
  have cU := hid (fun w h => read_any B m d us w h hm)
  by_cases hn32 : n = 32
  · subst hn32
    have eK : readE ks = 0 := by rw [readE, if_pos (by omega)]
    rw [eK] at cK
    have hK := hid (show clampB ks = clampB ks from rfl)
    by_cases hm32 : m = 32
    · subst hm32
      have eU : readE us = 0 := by rw [readE, if_pos (by omega)]
      rw [eU] at cU
      have hx := readN_T us
      have hQ := hid (show multQ ks us = fmul (Lad.at (readN us) (clampB ks) 255).x2 (pinv (Lad.at (readN us) (clampB ks) 255).z2) from rfl)
      generalize clampB ks = K at *
      generalize readN us = x1 at *
      go_enter Try.func44, Try.ntmps44
      go_wp2_with fail
      generalize hW : w.alloc _ = w0
      replace L0 : Later w w0 := by rw [← hW]; exact later_alloc _ _
      replace hb0 : Blk w0 w.heap.size 48 (List.replicate 32 (Value.int .u8 0)) := by rw [← hW]; exact Blk.new w 48 (List.replicate 32 (Value.int .u8 0))
      have hs0 : w.heap.size < w0.heap.size := hb0.lt
      clear hW
      (with_reducible refine (cK.out _ (hk.later L0)).mono ?_); rintro e w1 ⟨rfl, hl1⟩
      replace hb0 := hb0.later hl1
      replace L0 := L0.trans hl1
      go_wp2_with (first
        | (refine store_B rfl rfl _ _ rfl (Blk.new w1 _ (List.replicate 32 (.int .u8 0))) rfl rfl hcl rfl ?_; intro w2 hb2 ho2)
        | fail)
      replace hb0 := (hb0.later (later_alloc w1 (.cells (List.replicate 32 (.int .u8 0)).toArray 48))).only ho2 (by have := hb0.lt; omega)
      replace L0 := (L0.trans (later_alloc w1 (.cells (List.replicate 32 (.int .u8 0)).toArray 48))).only ho2 (by have := L0.size; omega)
      have hg6 : w.heap.size ≠ w1.heap.size := by have := hl1.size; omega
      clear ho2 hl1
      (with_reducible refine (cU.out _ (hu.later L0)).mono ?_); rintro e w3 ⟨rfl, hl3⟩
      replace hb0 := hb0.later hl3
      replace hb2 := hb2.later hl3
      replace L0 := L0.trans hl3
      go_wp2_with (first
        | (refine store_E rfl rfl _ _ rfl (Blk.new w3 _ (List.replicate 4 (.int .u64 0))) rfl rfl rfl ?_; intro w4 hb4 ho4)
        | fail)
      replace hb0 := (hb0.later (later_alloc w3 (.cells (List.replicate 4 (.int .u64 0)).toArray 26))).only ho4 (by have := hb0.lt; omega)
      replace hb2 := (hb2.later (later_alloc w3 (.cells (List.replicate 4 (.int .u64 0)).toArray 26))).only ho4 (by have := hb2.lt; omega)
      replace L0 := (L0.trans (later_alloc w3 (.cells (List.replicate 4 (.int .u64 0)).toArray 26))).only ho4 (by have := L0.size; omega)
      clear ho4 hl3
      refine wp_region_makers [0, 2] [([], 1, 1), ([], 1, 3), ([4], 2, 5)] [] [6] [5] (fun _ => (fun g => .pointer (some ⟨g, 0, none⟩), .cells (List.replicate 20 (Value.int .u64 0)).toArray 102)) (by as_aux_lemma => kernel_rfl) (by as_aux_lemma => kernel_rfl) (by intro _ _ d _ _ h; cases d <;> exact h) (by intro _ _ d _ _ h; cases d <;> exact h) ?_
      simp only [pick, List.getElem?_cons_succ, List.getElem?_cons_zero, Option.toList_some, List.cons_append, List.nil_append]
      repeat (first | go_big_quiet_skip | (go_big_quiet_want; (refine quiet_E _ rfl hb4.drew rfl ?_); simp only [Act.put, List.setIfInBounds_toArray, List.set_cons_succ, List.set_cons_zero]; go_big_quiet_on) | (go_big_quiet_step (fail)))
      refine wpQuiet_nil ?_
      refine ⟨?mk, ?_⟩
      case mk =>
        refine ⟨fun o ho => ?_, trivial⟩
        simp only [List.getElem?_cons_succ, List.getElem?_cons_zero, Option.some.injEq] at ho
        subst ho
        refine ⟨rfl, fun W => ?_⟩
        unfold execOp
        simp [go_sem]
      simp only [wpPartsM, pick, List.getElem?_cons_succ, List.getElem?_cons_zero, Option.toList_some, List.cons_append, List.nil_append]
      refine wpQuiet_nil ?_
      intro v1 j1
      go_wp2_with fail
      (with_reducible refine (of_1 _).mono ?_); rintro e v2 ⟨rfl, j2⟩
      go_wp2_with fail
      try refine ⟨by first | assumption | exact later_drew _ | exact later_alloc _ _ | exact Later.refl _, ?_⟩
      try simp only [wpParts, pick, List.getElem?_cons_succ, List.getElem?_cons_zero, Option.toList_some, List.cons_append, List.nil_append]
      repeat (go_big_quiet_step (fail))
      refine wpQuiet_nil ?_
      intro v3 j3
      go_wp2_with fail
      (with_reducible refine (of_1 _).mono ?_); rintro e v4 ⟨rfl, j4⟩
      go_wp2_with fail
      try refine ⟨by first | assumption | exact later_drew _ | exact later_alloc _ _ | exact Later.refl _, ?_⟩
      try simp only [wpPartsM, pick, List.getElem?_cons_succ, List.getElem?_cons_zero, Option.toList_some, List.cons_append, List.nil_append]
      go_big_quiet_want
      refine quiet_build _ _ rfl (LL x1 ⟨1, 0, x1, 1⟩) (by simp only [List.map_toArray, List.map_cons, List.map_nil]; exact built_ladder x1) ?_
      simp only [Act.put, List.setIfInBounds_toArray, List.set_cons_succ, List.set_cons_zero]
      go_big_quiet_on
      refine wpQuiet_nil ?_
      intro v5 gl j5 hgl _ hb5
      simp only [Option.bind_some, Act.put, List.setIfInBounds_toArray, List.set_cons_succ, List.set_cons_zero]
      refine wpQuiet_nil ?_
      intro v6 j6
      replace hb5 : Blk v5 gl 102 (List.replicate 20 (Value.int .u64 0)) := hb5
      refine wpList_store_agg rfl rfl _ _ _ rfl gl 0 _ _ (LL x1 ⟨1, 0, x1, 1⟩) (hb5.later j6) rfl rfl (by rw [LL_length]; kernel_rfl) (by simp [LL_length]) (LL_one _ _) ?_
      intro v7 hb7 ho7
      rw [spliced_all _ _ (by simp [LL_length])] at hb7
      have j := (((((later_drew w4).trans j1).trans j2).trans j3).trans j4).trans (j5.trans j6)
      have hlt0 := hb0.lt
      have hlt2 := hb2.lt
      have hw := L0.size
      replace hb0 := (hb0.later j).only ho7 (by omega)
      replace hb2 := (hb2.later j).only ho7 (by omega)
      replace L0 := (L0.trans j).only ho7 (by omega)
      have hgl0 : w.heap.size ≠ gl := by omega
      have hgl2 : w1.heap.size ≠ gl := by omega
      have hgl3 : w.heap.size ≤ gl := by omega
      generalize w1.heap.size = g6 at *
      clear ho7 j j1 j2 j3 j4 j5 j6 hb5 hgl hb4 hlt0 hlt2 hw cK cU hs0
      go_wp2_with fail
      go_loopw [10] (fun i wr => ∃ k : Nat, k ≤ 255 ∧ i = .int .i64 (dn k) ∧ Blk wr w.heap.size 48 (List.replicate 32 (Value.int .u8 0)) ∧ Blk wr g6 48 (K.map W8) ∧ Blk wr gl 102 (LL x1 (Lad.at x1 K (255 - k))) ∧ Later w wr) (fun i _ => (intOf i + 1).toNat)
      case atStart => exact ⟨255, by omega, rfl, hb0, hb2, hb7, L0⟩
      case round =>
        clear hb0 hb2 hb7 L0
        obtain ⟨k, hk, rfl, hb0, hb2, hb7, L0⟩ := hrel
        cases k with
        | zero =>
          simp only [dn_zero]
          have hok := Lad.at_ok x1 K hx 255
          rw [show 255 - 0 = 255 from rfl] at hb7
          have hMB := hid (show multB ks us = nb (multQ ks us) by rw [multB, if_pos ⟨hkl, hul⟩])
          have hME := hid (show multE ks us = if multQ ks us = 0 then 5 else 0 by rw [multE, if_pos ⟨hkl, hul⟩])
          rw [hQ.out] at hMB hME
          generalize Lad.at x1 K 255 = S at *
          have hQP : fmul S.x2 (pinv S.z2) < P25 := Nat.mod_lt _ P25_pos
          have hv := hid (value_any S.x2 S.z2 hok.1 hok.2.1)
          generalize fmul S.x2 (pinv S.z2) = Q at *
          have hQT : Q < T256 := Nat.lt_trans hQP (by decide)
          obtain ⟨y, hy⟩ := sub32 (nb_length Q)
          obtain ⟨z, hz⟩ := sub32 (show (List.replicate 32 (0 : UInt8)).length = 32 by simp)
          have hBy : Hid (∀ w, Calls Try.prog 43 #[E Q] w fun e w' => e = .returned (.agg (y.val.map W8).toArray) ∧ Later w w') := hid (by
            intro w
            have := bytes_any Q hQT w
            rwa [Nat.mod_eq_of_lt hQP, BB, ← hy] at this)
          have hcmp : (y.val == z.val) = decide (Q = 0) := by rw [hy, hz]; exact nb_is_zero Q hQT
          have hyl := y.2
          have hzl := z.2
          rw [← hy] at hMB
          have hQ0 := hid (show Q = 0 → y.val = z.val by rintro rfl; rw [hy, hz]; exact nb_zeros)
          have hZ := hid hz
          clear hy hz hQ
          by_cases hq : Q = 0
          · have hd : (y.val == z.val) = true := by rw [hcmp, hq]; rfl
            have hyz := hid (hQ0.out hq)
            rw [hq] at hME
            clear hcmp hq hQ0
            go_wp2_with (first
              | (refine load_at rfl _ rfl hb7 (fun j v hv => L5_1 _ _ _ _ _ j v hv) rfl ?_)
              | (refine load_at rfl _ rfl hb7 (fun j v hv => L5_2 _ _ _ _ _ j v hv) rfl ?_)
              | (refine wpList_build_is rfl 104 _ rfl (EL S.x2 ++ EL S.z2) ?hb ?_; (case hb => simp only [List.map_toArray, List.map_cons, List.map_nil]; exact built_ratio S.x2 S.z2))
              | (go_at_call 53; (with_reducible refine (hv.out _).mono ?_); rintro e w5 ⟨rfl, hl5⟩)
              | (go_at_call 43; (with_reducible refine (hBy.out _).mono ?_); rintro e w6 ⟨rfl, hl6⟩)
              | (refine store_B rfl rfl _ _ rfl (Blk.new w6 _ (List.replicate 32 (.int .u8 0))) rfl rfl hyl rfl ?_; intro w7 hb8 ho8)
              | (refine load_B rfl _ rfl hb8 hyl rfl ?_)
              | (refine wpList_build_is rfl 48 _ rfl (z.val.map W8) ?hb ?_; (case hb => rw [hZ.out]; kernel_rfl))
              | (refine store_B rfl rfl _ _ rfl (((hb0.later (hl5.trans hl6)).later (later_alloc w6 (.cells (List.replicate 32 (.int .u8 0)).toArray 48))).only ho8 (by have := (hb0.later (hl5.trans hl6)).lt; omega)) rfl rfl hzl rfl ?_; intro w9 hb9 ho9)
              | fail)
            exact bodyPost_ret (results_blk_tmp rfl _ _ _ _ _ _ hb9 rfl Try.underlying48 rfl (by rw [List.length_map, hzl]; exact size32b)) rfl ⟨by rw [hMB.out, hME.out, hyz.out]; rfl, (((L0.trans (hl5.trans hl6)).alloc (.cells (List.replicate 32 (.int .u8 0)).toArray 48)).only ho8 (by have := (L0.trans (hl5.trans hl6)).size; omega)).only ho9 (by omega)⟩
          · have hd : (y.val == z.val) = false := by rw [hcmp]; simp [hq]
            rw [if_neg hq] at hME
            clear hcmp
            go_wp2_with (first
              | (refine load_at rfl _ rfl hb7 (fun j v hv => L5_1 _ _ _ _ _ j v hv) rfl ?_)
              | (refine load_at rfl _ rfl hb7 (fun j v hv => L5_2 _ _ _ _ _ j v hv) rfl ?_)
              | (refine wpList_build_is rfl 104 _ rfl (EL S.x2 ++ EL S.z2) ?hb ?_; (case hb => simp only [List.map_toArray, List.map_cons, List.map_nil]; exact built_ratio S.x2 S.z2))
              | (go_at_call 53; (with_reducible refine (hv.out _).mono ?_); rintro e w5 ⟨rfl, hl5⟩)
              | (go_at_call 43; (with_reducible refine (hBy.out _).mono ?_); rintro e w6 ⟨rfl, hl6⟩)
              | (refine store_B rfl rfl _ _ rfl (Blk.new w6 _ (List.replicate 32 (.int .u8 0))) rfl rfl hyl rfl ?_; intro w7 hb8 ho8)
              | (refine load_B rfl _ rfl hb8 hyl rfl ?_)
              | (refine wpList_build_is rfl 48 _ rfl (z.val.map W8) ?hb ?_; (case hb => rw [hZ.out]; kernel_rfl))
              | (refine store_B rfl rfl _ _ rfl (((hb0.later (hl5.trans hl6)).later (later_alloc w6 (.cells (List.replicate 32 (.int .u8 0)).toArray 48))).only ho8 (by have := (hb0.later (hl5.trans hl6)).lt; omega)) rfl rfl hyl rfl ?_; intro w9 hb9 ho9)
              | fail)
            exact bodyPost_ret (results_blk_tmp rfl _ _ _ _ _ _ hb9 rfl Try.underlying48 rfl (by rw [List.length_map, hyl]; exact size32b)) rfl ⟨by rw [hMB.out, hME.out]; rfl, (((L0.trans (hl5.trans hl6)).alloc (.cells (List.replicate 32 (.int .u8 0)).toArray 48)).only ho8 (by have := (L0.trans (hl5.trans hl6)).size; omega)).only ho9 (by omega)⟩
        | succ k =>
          have d0 := hb2.cellD (k / 8) (u := W8 (K.getD (k / 8) 0)) (by rw [List.getElem?_map, List.getD_eq_getElem?_getD, List.getElem?_eq_getElem (by omega)]; rfl)
          have hcnt : cnt (UInt64.ofInt ((k : Int) % 8)) = k % 8 := by
            rw [show ((k : Int) % 8) = ((k % 8 : Nat) : Int) by omega, ofIntNat_w64, cnt, tn64 (by unfold B64; omega)]
          have hbe := bit_eq (K.getD (k / 8) 0) (k % 8)
          have hst : Lad.at x1 K (255 - k) = (Lad.at x1 K (254 - k)).round x1 (kbit K k) := by
            rw [show 255 - k = (254 - k) + 1 by omega, Lad.at, show 254 - (254 - k) = k by omega]
          have hkb : kbit K k = (shr8 (K.getD (k / 8) 0) (k % 8) &&& 1 == 1) := by rw [hbe]; rfl
          generalize K.getD (k / 8) 0 = kb at *
          have hok := Lad.at_ok x1 K hx (254 - k)
          rw [show 255 - (k + 1) = 254 - k by omega] at hb7
          generalize Lad.at x1 K (254 - k) = S at *
          have HST := hid hst
          clear hst hbe
          simp only [dn_succ]
          cases hb : kbit K k with
          | false =>
            rw [hb] at hkb HST
            have hd := hkb.symm
            clear hkb
            go_wp2_with fail
            (with_reducible refine (step_L gl _ x1 S hx hok _ hb7).mono ?_); rintro e w5 ⟨rfl, hb8, ho8⟩
            go_wp2_with fail
            go_roundw
            case rel => exact ⟨k, by omega, by rw [dn_pred], hb0.only ho8 hgl0, hb2.only ho8 hgl2, by rw [HST.out]; exact hb8, L0.only ho8 hgl3⟩
            case measure => simp [intOf]
          | true =>
            rw [hb] at hkb HST
            have hd := hkb.symm
            clear hkb
            go_wp2_with fail
            (with_reducible refine (exchange_L gl _ x1 S _ hb7).mono ?_); rintro e w5 ⟨rfl, hb8, ho8⟩
            go_wp2_with fail
            (with_reducible refine (step_L gl _ x1 S.swap hx (Lad.swap_ok hok) _ hb8).mono ?_); rintro e w6 ⟨rfl, hb9, ho9⟩
            go_wp2_with fail
            (with_reducible refine (exchange_L gl _ x1 (S.swap.step x1) _ hb9).mono ?_); rintro e w7 ⟨rfl, hb10, ho10⟩
            go_wp2_with fail
            go_roundw
            case rel => exact ⟨k, by omega, by rw [dn_pred], ((hb0.only ho8 hgl0).only ho9 hgl0).only ho10 hgl0, ((hb2.only ho8 hgl2).only ho9 hgl2).only ho10 hgl2, by rw [HST.out]; exact hb10, ((L0.only ho8 hgl3).only ho9 hgl3).only ho10 hgl3⟩
            case measure => simp [intOf]
    · have eU : readE us = 2 := by rw [readE, if_neg (by omega)]
      rw [eU] at cU
      have hMB := hid (show multB ks us = List.replicate 32 0 by rw [multB, if_neg (by omega)])
      have hME := hid (show multE ks us = 2 by rw [multE, if_neg (by omega)])
      generalize clampB ks = K at *
      generalize readN us = x1 at *
      go_enter Try.func44, Try.ntmps44
      go_wp2_with fail
      generalize hW : w.alloc _ = w0
      replace L0 : Later w w0 := by rw [← hW]; exact later_alloc _ _
      replace hb0 : Blk w0 w.heap.size 48 (List.replicate 32 (Value.int .u8 0)) := by rw [← hW]; exact Blk.new w 48 (List.replicate 32 (Value.int .u8 0))
      clear hW
      (with_reducible refine (cK.out _ (hk.later L0)).mono ?_); rintro e w1 ⟨rfl, hl1⟩
      replace hb0 := hb0.later hl1
      replace L0 := L0.trans hl1
      go_wp2_with (first
        | (refine store_B rfl rfl _ _ rfl (Blk.new w1 _ (List.replicate 32 (.int .u8 0))) rfl rfl hcl rfl ?_; intro w2 hb2 ho2)
        | fail)
      replace hb0 := (hb0.later (later_alloc w1 (.cells (List.replicate 32 (.int .u8 0)).toArray 48))).only ho2 (by have := hb0.lt; omega)
      replace L0 := (L0.trans (later_alloc w1 (.cells (List.replicate 32 (.int .u8 0)).toArray 48))).only ho2 (by have := L0.size; omega)
      clear ho2 hl1
      (with_reducible refine (cU.out _ (hu.later L0)).mono ?_); rintro e w3 ⟨rfl, hl3⟩
      replace hb0 := hb0.later hl3
      replace L0 := L0.trans hl3
      go_wp2_with (first
        | (refine store_E rfl rfl _ _ rfl (Blk.new w3 _ (List.replicate 4 (.int .u64 0))) rfl rfl rfl ?_; intro w4 hb4 ho4
           have hb04 := (hb0.later (later_alloc w3 (.cells (List.replicate 4 (.int .u64 0)).toArray 26))).only ho4 (by have := hb0.lt; omega)
           have L04 := (L0.trans (later_alloc w3 (.cells (List.replicate 4 (.int .u64 0)).toArray 26))).only ho4 (by have := L0.size; omega))
        | (refine wpList_build_is rfl 48 _ rfl (List.replicate 32 (W8 0)) ?hb ?_; (case hb => kernel_rfl))
        | (refine store_B (bs := List.replicate 32 0) rfl rfl _ _ rfl hb04 rfl (by kernel_rfl) rfl rfl ?_; intro w9 hb9 ho9)
        | fail)
      exact bodyPost_ret (results_blk_tmp rfl _ _ _ _ _ _ hb9 rfl Try.underlying48 rfl (by rw [List.length_map, List.length_replicate]; exact size32b)) rfl ⟨by rw [hMB.out, hME.out]; rfl, L04.only ho9 (by omega)⟩
  · have eK : readE ks = 2 := by rw [readE, if_neg (by omega)]
    rw [eK] at cK
    have hMB := hid (show multB ks us = List.replicate 32 0 by rw [multB, if_neg (by omega)])
    have hME := hid (show multE ks us = 2 by rw [multE, if_neg (by omega)])
    generalize clampB ks = K at *
    go_enter Try.func44, Try.ntmps44
    go_wp2_with fail
    generalize hW : w.alloc _ = w0
    replace L0 : Later w w0 := by rw [← hW]; exact later_alloc _ _
    replace hb0 : Blk w0 w.heap.size 48 (List.replicate 32 (Value.int .u8 0)) := by rw [← hW]; exact Blk.new w 48 (List.replicate 32 (Value.int .u8 0))
    clear hW
    (with_reducible refine (cK.out _ (hk.later L0)).mono ?_); rintro e w1 ⟨rfl, hl1⟩
    replace hb0 := hb0.later hl1
    replace L0 := L0.trans hl1
    go_wp2_with (first
      | (refine store_B rfl rfl _ _ rfl (Blk.new w1 _ (List.replicate 32 (.int .u8 0))) rfl rfl hcl rfl ?_; intro w2 hb2 ho2
         have hb02 := (hb0.later (later_alloc w1 (.cells (List.replicate 32 (.int .u8 0)).toArray 48))).only ho2 (by have := hb0.lt; omega)
         have L02 := (L0.trans (later_alloc w1 (.cells (List.replicate 32 (.int .u8 0)).toArray 48))).only ho2 (by have := L0.size; omega))
      | (refine wpList_build_is rfl 48 _ rfl (List.replicate 32 (W8 0)) ?hb ?_; (case hb => kernel_rfl))
      | (refine store_B (bs := List.replicate 32 0) rfl rfl _ _ rfl hb02 rfl (by kernel_rfl) rfl rfl ?_; intro w9 hb9 ho9)
      | fail)
    exact bodyPost_ret (results_blk_tmp rfl _ _ _ _ _ _ hb9 rfl Try.underlying48 rfl (by rw [List.length_map, List.length_replicate]; exact size32b)) rfl ⟨by rw [hMB.out, hME.out]; rfl, L02.only ho9 (by omega)⟩
theorem multE_len {ks us : List UInt8} (h : multE ks us = 0) : ks.length = 32 ∧ us.length = 32 := by
  unfold multE at h
  split at h
  · assumption
  · cases h
end Go.Proofs.Ytkibgdigcgakfaa
