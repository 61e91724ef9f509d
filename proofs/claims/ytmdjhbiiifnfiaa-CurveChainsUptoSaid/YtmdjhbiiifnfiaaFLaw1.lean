/-
  shallotlaw05: is, awake.
-/
import Derived.Test.YtmdjhbiiifnfiaaNRef7
namespace Go.Proofs.Ytmdjhbiiifnfiaa
open Go.RowKit

theorem fermat (a : Nat) (h : a % P25 ≠ 0) : a ^ (P25 - 1) % P25 = 1 := by
  have := prm_p.2 a (by unfold P25 at h; exact h)
  unfold P25
  exact this
theorem mul_pinv (a : Nat) (h : a % P25 ≠ 0) : a * pinv a % P25 = 1 := by
  rw [pinv, Nat.mul_mod_mod, ← Nat.pow_succ', show (P25 - 2).succ = P25 - 1 by unfold P25; rfl]
  exact fermat a h
theorem pinv_lt (a : Nat) : pinv a < P25 := Nat.mod_lt _ P25_pos
theorem pinv_T (a : Nat) : pinv a < T256 := Nat.lt_trans (pinv_lt a) (by decide)
@[go_sem] theorem pinv_T' (a : Nat) : (pinv a < T256) = True := eq_true (pinv_T a)
@[go_sem] theorem one_T : (1 < T256) = True := eq_true (by decide)
@[go_sem] theorem zero_T : (0 < T256) = True := eq_true (by decide)
@[go_sem] theorem T37 : (37 < T256) = True := eq_true (by decide)
theorem size4 : (Try.prog.info? 24).map (·.size) = some 4 := by kernel_rfl
section
variable {ops : Array Oper} {rest : List Oper} {o : Oper} {a : Act} {w : World} {Q : Exit → Act → World → Prop}
theorem load_4 (hgd : Region.wanted o (yielded ops a.tmps) = true) (x : Operand) (ho : o.op = .load 24 x) {g : Nat} {t : TypeId} {n : Nat} (hb : Blk w g t (EL n)) (hx : a.eval x = .pointer (some ⟨g, 0, none⟩))
    (h : wpList Try.prog ops Q rest (a.put o.dst (E n)) w) : wpList Try.prog ops Q (o :: rest) a w :=
  wpList_load_blk hgd _ x ho g t _ hb hx _ Try.underlying24 rfl 4 size4 (EL_length n) h
theorem store_4 (hgd : o.guard = none) (hd : o.dst = none) (x y : Operand) (ho : o.op = .store 24 x y) {g : Nat} {t : TypeId} {l : List Value} {n : Nat} (hg : Blk w g t l) (hx : a.eval x = .pointer (some ⟨g, 0, none⟩)) (hy : a.eval y = E n) (hl : l.length = 4)
    (h : ∀ w', Blk w' g t (EL n) → Only g w w' → wpList Try.prog ops Q rest a w') : wpList Try.prog ops Q (o :: rest) a w :=
  wpList_store_blk hgd hd _ x y ho g t l _ hg hx hy 4 size4 (EL_length n) hl (EL_one n) h
theorem quiet_4 {K : Act → Prop} (x : Operand) (ho : o.op = .load 24 x) {w0 : World} {g : Nat} {t : TypeId} {n : Nat} (hb : Blk w0 g t (EL n)) (hx : a.eval x = .pointer (some ⟨g, 0, none⟩)) (h : K (a.put o.dst (E n))) :
    o.quiet Try.prog a (fun w' => ∃ x, w' = grow w0 x) K :=
  quiet_load_agg _ x ho g 0 (EL n) (fun w' hw j v hv => by obtain ⟨y, rfl⟩ := hw; rw [Nat.zero_add]; exact (hb.later ⟨y, rfl⟩).cellD j hv) hx _ Try.underlying24 rfl (by rw [EL_length]; exact size4) h
theorem load_B (hgd : Region.wanted o (yielded ops a.tmps) = true) (x : Operand) (ho : o.op = .load 42 x) {g : Nat} {t : TypeId} {bs : List UInt8} (hb : Blk w g t (bs.map W8)) (hl : bs.length = 32) (hx : a.eval x = .pointer (some ⟨g, 0, none⟩))
    (h : wpList Try.prog ops Q rest (a.put o.dst (.agg (bs.map W8).toArray)) w) : wpList Try.prog ops Q (o :: rest) a w :=
  wpList_load_blk hgd _ x ho g t _ hb hx _ Try.underlying42 rfl 32 size32b (by rw [List.length_map, hl]) h
theorem store_B (hgd : o.guard = none) (hd : o.dst = none) (x y : Operand) (ho : o.op = .store 42 x y) {g : Nat} {t : TypeId} {l : List Value} {bs : List UInt8} (hg : Blk w g t l) (hx : a.eval x = .pointer (some ⟨g, 0, none⟩)) (hy : a.eval y = .agg (bs.map W8).toArray) (hbl : bs.length = 32) (hl : l.length = 32)
    (h : ∀ w', Blk w' g t (bs.map W8) → Only g w w' → wpList Try.prog ops Q rest a w') : wpList Try.prog ops Q (o :: rest) a w :=
  wpList_store_blk hgd hd _ x y ho g t l _ hg hx hy 32 size32b (by rw [List.length_map, hbl]) hl (w8_one _) h
theorem quiet_B {K : Act → Prop} (x : Operand) (ho : o.op = .load 42 x) {w0 : World} {g : Nat} {t : TypeId} {bs : List UInt8} (hb : Blk w0 g t (bs.map W8)) (hl : bs.length = 32) (hx : a.eval x = .pointer (some ⟨g, 0, none⟩)) (h : K (a.put o.dst (.agg (bs.map W8).toArray))) :
    o.quiet Try.prog a (fun w' => ∃ x, w' = grow w0 x) K :=
  quiet_load_agg _ x ho g 0 (bs.map W8) (fun w' hw j v hv => by obtain ⟨y, rfl⟩ := hw; rw [Nat.zero_add]; exact (hb.later ⟨y, rfl⟩).cellD j hv) hx _ Try.underlying42 rfl (by rw [List.length_map, hl]; exact size32b) h
end
set_option maxHeartbeats 1000000 in
theorem lawIs_any (a n : Nat) (ha : a < T256) (hn : n < T256) (w : World) :
    Calls Try.prog 21 #[E a, NN n] w fun e w' => e = .returned (.bool (a == n)) ∧ Later w w' := by
  have h1 : Blk ((w.alloc (.cells (EL a).toArray 28)).alloc (.cells (NL n).toArray 35)) w.heap.size 28 (EL a) := (Blk.new _ _ _).later (later_alloc _ _)
  have h2 : Blk ((w.alloc (.cells (EL a).toArray 28)).alloc (.cells (NL n).toArray 35)) (w.heap.size + 1) 35 (NL n) := Blk.new' _ _ _ (by simp)
  have HX := hid (show ∀ v, v = (a == n) → v = (a == n) from fun _ h => h)
  go_enter Try.func21, Try.ntmps21
  go_wp2_with fail
  refine wp_region_parts [([0, 1], 2)] [3, 4] [] (by as_aux_lemma => kernel_rfl) (by as_aux_lemma => kernel_rfl) (by intro _ _ d _ _ h; cases d <;> exact h) ?_
  simp only [wpParts, pick, List.getElem?_cons_succ, List.getElem?_cons_zero, Option.toList_some, List.cons_append, List.nil_append]
  repeat (first | go_big_quiet_skip | (go_big_quiet_want; (first | refine quiet_E _ rfl h1.drew rfl ?_ | refine quiet_N _ rfl h2.drew rfl ?_); simp only [Act.put, List.setIfInBounds_toArray, List.set_cons_succ, List.set_cons_zero]; go_big_quiet_on) | (go_big_quiet_step (fail)))
  refine wpQuiet_nil ?_
  go_wp2_with fail
  (with_reducible refine (to_any n _).mono ?_); rintro e w2 ⟨rfl, hl2⟩
  go_wp2_with fail
  try refine ⟨by first | assumption | exact later_drew _ | exact later_alloc _ _ | exact Later.refl _, ?_⟩
  try simp only [wpParts, pick, List.getElem?_cons_succ, List.getElem?_cons_zero, Option.toList_some, List.cons_append, List.nil_append]
  repeat (go_big_quiet_step (fail))
  refine wpQuiet_nil ?_
  go_wp2
  go_ret
  exact ⟨rfl, (((later_alloc _ _).trans (later_alloc _ _)).drewN 1).trans hl2⟩
theorem build_want {P : Program} {ops : Array Oper} {rest : List Oper} {o : Oper} {a : Act} {w : World} {Q : Exit → Act → World → Prop} (hw : Region.wanted o (yielded ops a.tmps) = true) (t : TypeId) (parts : Array (Nat × Operand)) (ho : o.op = .build t parts) (vs : List Value) (hb : P.built t (parts.map fun (i, x) => (i, a.eval x)).toList = some vs.toArray)
    (h : wpList P ops Q rest (a.put o.dst (.agg vs.toArray)) w) : wpList P ops Q (o :: rest) a w :=
  BigFrame.wpList_want hw fun K hK => by
    exact wp_build t parts ho (by rw [hb]; rfl) (by rw [hb]; exact hK _ _ h)
theorem build_k (k : Nat) (hk : k < B64) {ops : Array Oper} {rest : List Oper} {o : Oper} {a : Act} {w : World} {Q : Exit → Act → World → Prop} (hw : Region.wanted o (yielded ops a.tmps) = true) (ho : o.op = .build 28 #[(0, .const (n64 k))])
    (h : wpList Try.prog ops Q rest (a.put o.dst (E k)) w) : wpList Try.prog ops Q (o :: rest) a w :=
  build_want hw 28 _ ho (EL k) (by rw [EL_small hk]; kernel_rfl) h
theorem EL_four (n : Nat) : EL n = [n64 (lim n 0), n64 (lim n 1), n64 (lim n 2), n64 (lim n 3)] := by
  apply List.ext_getElem (EL_length n)
  intro i hi1 hi2
  rw [EL_at]
  have : i = 0 ∨ i = 1 ∨ i = 2 ∨ i = 3 := by rw [EL_length] at hi1; omega
  rcases this with rfl | rfl | rfl | rfl <;> rfl
theorem run_build2_aux (a0 a1 a2 a3 b0 b1 b2 b3 : Value) (W : World) :
    (Instr.buildSlice 56 2 #[(0, .agg #[a0, a1, a2, a3]), (1, .agg #[b0, b1, b2, b3])]).run Try.prog W = .ok (.slice (some ⟨W.heap.size, 0, none⟩) 2 2) (W.alloc (.cells #[a0, a1, a2, a3, b0, b1, b2, b3] 28)) := by kernel_rfl
theorem run_build2 (a b : Nat) (W : World) :
    (Instr.buildSlice 56 2 #[(0, E a), (1, E b)]).run Try.prog W = .ok (.slice (some ⟨W.heap.size, 0, none⟩) 2 2) (W.alloc (.cells (EL a ++ EL b).toArray 28)) := by
  rw [E, E, EL_four a, EL_four b]
  exact run_build2_aux ..
theorem run_build1_aux (a0 a1 a2 a3 : Value) (W : World) :
    (Instr.buildSlice 56 1 #[(0, .agg #[a0, a1, a2, a3])]).run Try.prog W = .ok (.slice (some ⟨W.heap.size, 0, none⟩) 1 1) (W.alloc (.cells #[a0, a1, a2, a3] 28)) := by kernel_rfl
theorem run_build1 (a : Nat) (W : World) :
    (Instr.buildSlice 56 1 #[(0, E a)]).run Try.prog W = .ok (.slice (some ⟨W.heap.size, 0, none⟩) 1 1) (W.alloc (.cells (EL a).toArray 28)) := by
  rw [E, EL_four a]
  exact run_build1_aux ..
theorem run_build3_aux (a0 a1 a2 a3 b0 b1 b2 b3 c0 c1 c2 c3 : Value) (W : World) :
    (Instr.buildSlice 56 3 #[(0, .agg #[a0, a1, a2, a3]), (1, .agg #[b0, b1, b2, b3]), (2, .agg #[c0, c1, c2, c3])]).run Try.prog W = .ok (.slice (some ⟨W.heap.size, 0, none⟩) 3 3) (W.alloc (.cells #[a0, a1, a2, a3, b0, b1, b2, b3, c0, c1, c2, c3] 28)) := by kernel_rfl
theorem run_build3 (a b c : Nat) (W : World) :
    (Instr.buildSlice 56 3 #[(0, E a), (1, E b), (2, E c)]).run Try.prog W = .ok (.slice (some ⟨W.heap.size, 0, none⟩) 3 3) (W.alloc (.cells (EL a ++ (EL b ++ EL c)).toArray 28)) := by
  rw [E, E, E, EL_four a, EL_four b, EL_four c]
  exact run_build3_aux ..
section
variable {ops : Array Oper} {rest : List Oper} {o : Oper} {a : Act} {w : World} {Q : Exit → Act → World → Prop}
theorem build_row1 (hw : Region.wanted o (yielded ops a.tmps) = true) (x : Operand) (ho : o.op = .buildSlice 56 1 #[(0, x)]) (n : Nat) (hx : a.eval x = E n)
    (h : wpList Try.prog ops Q rest (a.put o.dst (.slice (some ⟨w.heap.size, 0, none⟩) 1 1)) (w.alloc (.cells (EL n).toArray 28))) : wpList Try.prog ops Q (o :: rest) a w :=
  BigFrame.wpList_want hw fun K hK => by
    have hr := run_build1 n w
    unfold Oper.wp
    simp only [execOp, ho, List.map_toArray, List.map_cons, List.map_nil, hx, Sem.run_bind, hr, Result.andThen_ok, Sem.run_pure]
    exact hK _ _ h
theorem build_row2 (hw : Region.wanted o (yielded ops a.tmps) = true) (x y : Operand) (ho : o.op = .buildSlice 56 2 #[(0, x), (1, y)]) (n m : Nat) (hx : a.eval x = E n) (hy : a.eval y = E m)
    (h : wpList Try.prog ops Q rest (a.put o.dst (.slice (some ⟨w.heap.size, 0, none⟩) 2 2)) (w.alloc (.cells (EL n ++ EL m).toArray 28))) : wpList Try.prog ops Q (o :: rest) a w :=
  BigFrame.wpList_want hw fun K hK => by
    have hr := run_build2 n m w
    unfold Oper.wp
    simp only [execOp, ho, List.map_toArray, List.map_cons, List.map_nil, hx, hy, Sem.run_bind, hr, Result.andThen_ok, Sem.run_pure]
    exact hK _ _ h
theorem build_row3 (hw : Region.wanted o (yielded ops a.tmps) = true) (x y z : Operand) (ho : o.op = .buildSlice 56 3 #[(0, x), (1, y), (2, z)]) (n m l : Nat) (hx : a.eval x = E n) (hy : a.eval y = E m) (hz : a.eval z = E l)
    (h : wpList Try.prog ops Q rest (a.put o.dst (.slice (some ⟨w.heap.size, 0, none⟩) 3 3)) (w.alloc (.cells (EL n ++ (EL m ++ EL l)).toArray 28))) : wpList Try.prog ops Q (o :: rest) a w :=
  BigFrame.wpList_want hw fun K hK => by
    have hr := run_build3 n m l w
    unfold Oper.wp
    simp only [execOp, ho, List.map_toArray, List.map_cons, List.map_nil, hx, hy, hz, Sem.run_bind, hr, Result.andThen_ok, Sem.run_pure]
    exact hK _ _ h
end
/-- A row that was just built. -/
theorem rdE_new {w : World} {g : Nat} {t : TypeId} {l : List Value} (ns : List Nat) (n : Nat) (hb : Blk w g t l) (hl : l = ns.flatMap EL) (hn : ns.length = n) : RdE w (some ⟨g, 0, none⟩) n ns := by
  refine ⟨hn, fun _ => ⟨g, 0, rfl, hb.lt, fun j i v hj hv => ?_⟩⟩
  refine hb.cellD _ ?_
  rw [hl]
  have key : ∀ (ns : List Nat) (j : Nat), j < ns.length → (EL (ns.getD j 0))[i]? = some v → (ns.flatMap EL)[0 + j * 4 + i]? = some v := by
    intro ns
    induction ns with
    | nil => intro j hj; simp at hj
    | cons x ns ih =>
      intro j hj hv
      cases j with
      | zero =>
        rw [List.flatMap_cons, List.getElem?_append_left]
        · simpa using hv
        · have : i < (EL x).length := by
            have := List.getElem?_eq_some_iff.1 hv
            exact this.1
          omega
      | succ j =>
        rw [List.flatMap_cons, List.getElem?_append_right (by rw [EL_length]; omega), EL_length]
        have := ih j (by simpa using hj) (by simpa using hv)
        rw [show 0 + (j + 1) * 4 + i - 4 = 0 + j * 4 + i by omega]
        exact this
  exact key ns j (by omega) hv
theorem of_2 (w : World) : Calls Try.prog 20 #[.int .u64 2] w fun e w' => e = .returned (E 2) ∧ Later w w' := of_any 2 (by decide) w
set_option maxRecDepth 100000 in
set_option maxHeartbeats 2000000 in
theorem awake05 (w : World) : Calls Try.prog 17 #[] w fun e w' => e = .returned (.bool true) ∧ Later w w' := by
  go_enter Try.func17, Try.ntmps17
  go_wp2_with (first
    | (refine wpList_build_is rfl 28 #[(0, .const (.int .u64 18446744073709551615)), (1, .const (.int .u64 18446744073709551615)), (2, .const (.int .u64 18446744073709551615)), (3, .const (.int .u64 18446744073709551615))] rfl (EL (T256 - 1)) ?hb ?_; (case hb => kernel_rfl))
    | (refine build_k 37 (by decide) rfl rfl ?_)
    | (refine build_k 1 (by decide) rfl rfl ?_)
    | (refine store_E (n := T256 - 1) rfl rfl _ _ rfl (Blk.new w _ (List.replicate 4 (.int .u64 0))) rfl rfl rfl ?_; intro w2 hb2 ho2)
    | (refine load_E rfl _ rfl hb2 rfl ?_)
    | (go_at_call 27; (with_reducible refine (norm_any (T256 - 1) (by decide) _).mono ?_); rintro e w3 ⟨rfl, hl3⟩; rw [show (T256 - 1) % P25 = 37 by decide])
    | (go_at_call 20; (with_reducible refine (of_2 w3).mono ?_); rintro e w4 ⟨rfl, hl4⟩)
    | (go_at_call 20; (with_reducible refine (of_2 w4).mono ?_); rintro e w5 ⟨rfl, hl5⟩)
    | (go_at_call 43; (with_reducible refine (inv_any 2 (by decide) w5).mono ?_); rintro e w6 ⟨rfl, hl6⟩)
    | (refine build_row2 rfl _ _ rfl 2 (pinv 2) rfl rfl ?_)
    | (go_at_call 25; (with_reducible refine (product_any (some ⟨w6.heap.size, 0, none⟩) 2 2 [2, pinv 2] _ (rdE_new [2, pinv 2] 2 (Blk.new _ _ _) (by simp) rfl) (by intro x hx; simp at hx; rcases hx with rfl | rfl; decide; exact pinv_T 2) (by omega) (by omega)).mono ?_); rintro e w7 ⟨rfl, hl7⟩; rw [show prodN [2, pinv 2] % P25 = 1 by rw [prodN, prodN, prodN, Nat.mul_one]; exact mul_pinv 2 (by decide)])
    | fail)
  go_ret
  exact ⟨rfl, (((((((later_alloc w (.cells (List.replicate 4 (Value.int .u64 0)).toArray 28)).only ho2 (by omega)).trans hl3).trans hl4).trans hl5).trans hl6).trans (later_alloc _ _)).trans hl7⟩
end Go.Proofs.Ytmdjhbiiifnfiaa
