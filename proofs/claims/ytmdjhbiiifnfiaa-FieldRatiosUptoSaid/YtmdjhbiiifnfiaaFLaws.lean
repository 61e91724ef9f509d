/-
  shallotlaw05: is, awake.
  shallotlaw05: FieldReads, FieldSubs.
  shallotlaw05: FieldSubs.
  shallotlaw05: FieldForms.
-/
import Derived.Test.YtmdjhbiiifnfiaaFMid
namespace Go.Proofs.Ytmdjhbiiifnfiaa
open Go.RowKit

theorem fermat (a : Nat) (h : a % P25 ≠ 0) : a ^ (P25 - 1) % P25 = 1 := by
  have := prm_p.2 a (by unfold P25 at h; exact h)
  unfold P25
  exact this
theorem mul_pinv (a : Nat) (h : a % P25 ≠ 0) : a * pinv a % P25 = 1 := by
  rw [pinv, Nat.mul_mod_mod, ← Nat.pow_succ', show (P25 - 2).succ = P25 - 1 by unfold P25; rfl]
  exact fermat a h
theorem pinv_lt (a : Nat) : pinv a < P25 := Nat.mod_lt _ P25_pos
theorem pinv_T (a : Nat) : pinv a < T256 := Nat.lt_trans (pinv_lt a) (by decide)
@[go_sem] theorem pinv_T' (a : Nat) : (pinv a < T256) = True := eq_true (pinv_T a)
@[go_sem] theorem one_T : (1 < T256) = True := eq_true (by decide)
@[go_sem] theorem zero_T : (0 < T256) = True := eq_true (by decide)
@[go_sem] theorem T37 : (37 < T256) = True := eq_true (by decide)
theorem size4 : (Try.prog.info? 24).map (·.size) = some 4 := by kernel_rfl
section
variable {ops : Array Oper} {rest : List Oper} {o : Oper} {a : Act} {w : World} {Q : Exit → Act → World → Prop}
theorem load_4 (hgd : Region.wanted o (yielded ops a.tmps) = true) (x : Operand) (ho : o.op = .load 24 x) {g : Nat} {t : TypeId} {n : Nat} (hb : Blk w g t (EL n)) (hx : a.eval x = .pointer (some ⟨g, 0, none⟩))
    (h : wpList Try.prog ops Q rest (a.put o.dst (E n)) w) : wpList Try.prog ops Q (o :: rest) a w :=
  wpList_load_blk hgd _ x ho g t _ hb hx _ Try.underlying24 rfl 4 size4 (EL_length n) h
theorem store_4 (hgd : o.guard = none) (hd : o.dst = none) (x y : Operand) (ho : o.op = .store 24 x y) {g : Nat} {t : TypeId} {l : List Value} {n : Nat} (hg : Blk w g t l) (hx : a.eval x = .pointer (some ⟨g, 0, none⟩)) (hy : a.eval y = E n) (hl : l.length = 4)
    (h : ∀ w', Blk w' g t (EL n) → Only g w w' → wpList Try.prog ops Q rest a w') : wpList Try.prog ops Q (o :: rest) a w :=
  wpList_store_blk hgd hd _ x y ho g t l _ hg hx hy 4 size4 (EL_length n) hl (EL_one n) h
theorem quiet_4 {K : Act → Prop} (x : Operand) (ho : o.op = .load 24 x) {w0 : World} {g : Nat} {t : TypeId} {n : Nat} (hb : Blk w0 g t (EL n)) (hx : a.eval x = .pointer (some ⟨g, 0, none⟩)) (h : K (a.put o.dst (E n))) :
    o.quiet Try.prog a (fun w' => ∃ x, w' = grow w0 x) K :=
  quiet_load_agg _ x ho g 0 (EL n) (fun w' hw j v hv => by obtain ⟨y, rfl⟩ := hw; rw [Nat.zero_add]; exact (hb.later ⟨y, rfl⟩).cellD j hv) hx _ Try.underlying24 rfl (by rw [EL_length]; exact size4) h
theorem load_B (hgd : Region.wanted o (yielded ops a.tmps) = true) (x : Operand) (ho : o.op = .load 42 x) {g : Nat} {t : TypeId} {bs : List UInt8} (hb : Blk w g t (bs.map W8)) (hl : bs.length = 32) (hx : a.eval x = .pointer (some ⟨g, 0, none⟩))
    (h : wpList Try.prog ops Q rest (a.put o.dst (.agg (bs.map W8).toArray)) w) : wpList Try.prog ops Q (o :: rest) a w :=
  wpList_load_blk hgd _ x ho g t _ hb hx _ Try.underlying42 rfl 32 size32b (by rw [List.length_map, hl]) h
theorem store_B (hgd : o.guard = none) (hd : o.dst = none) (x y : Operand) (ho : o.op = .store 42 x y) {g : Nat} {t : TypeId} {l : List Value} {bs : List UInt8} (hg : Blk w g t l) (hx : a.eval x = .pointer (some ⟨g, 0, none⟩)) (hy : a.eval y = .agg (bs.map W8).toArray) (hbl : bs.length = 32) (hl : l.length = 32)
    (h : ∀ w', Blk w' g t (bs.map W8) → Only g w w' → wpList Try.prog ops Q rest a w') : wpList Try.prog ops Q (o :: rest) a w :=
  wpList_store_blk hgd hd _ x y ho g t l _ hg hx hy 32 size32b (by rw [List.length_map, hbl]) hl (w8_one _) h
theorem quiet_B {K : Act → Prop} (x : Operand) (ho : o.op = .load 42 x) {w0 : World} {g : Nat} {t : TypeId} {bs : List UInt8} (hb : Blk w0 g t (bs.map W8)) (hl : bs.length = 32) (hx : a.eval x = .pointer (some ⟨g, 0, none⟩)) (h : K (a.put o.dst (.agg (bs.map W8).toArray))) :
    o.quiet Try.prog a (fun w' => ∃ x, w' = grow w0 x) K :=
  quiet_load_agg _ x ho g 0 (bs.map W8) (fun w' hw j v hv => by obtain ⟨y, rfl⟩ := hw; rw [Nat.zero_add]; exact (hb.later ⟨y, rfl⟩).cellD j hv) hx _ Try.underlying42 rfl (by rw [List.length_map, hl]; exact size32b) h
end
set_option maxHeartbeats 1000000 in
theorem lawIs_any (a n : Nat) (ha : a < T256) (hn : n < T256) (w : World) :
    Calls Try.prog 21 #[E a, NN n] w fun e w' => e = .returned (.bool (a == n)) ∧ Later w w' := by
  have h1 : Blk ((w.alloc (.cells (EL a).toArray 28)).alloc (.cells (NL n).toArray 35)) w.heap.size 28 (EL a) := (Blk.new _ _ _).later (later_alloc _ _)
  have h2 : Blk ((w.alloc (.cells (EL a).toArray 28)).alloc (.cells (NL n).toArray 35)) (w.heap.size + 1) 35 (NL n) := Blk.new' _ _ _ (by simp)
  have HX := hid (show ∀ v, v = (a == n) → v = (a == n) from fun _ h => h)
  go_enter Try.func21, Try.ntmps21
  go_wp2_with fail
  refine wp_region_parts [([0, 1], 2)] [3, 4] [] (by as_aux_lemma => kernel_rfl) (by as_aux_lemma => kernel_rfl) (by intro _ _ d _ _ h; cases d <;> exact h) ?_
  simp only [wpParts, pick, List.getElem?_cons_succ, List.getElem?_cons_zero, Option.toList_some, List.cons_append, List.nil_append]
  repeat (first | go_big_quiet_skip | (go_big_quiet_want; (first | refine quiet_E _ rfl h1.drew rfl ?_ | refine quiet_N _ rfl h2.drew rfl ?_); simp only [Act.put, List.setIfInBounds_toArray, List.set_cons_succ, List.set_cons_zero]; go_big_quiet_on) | (go_big_quiet_step (fail)))
  refine wpQuiet_nil ?_
  go_wp2_with fail
  (with_reducible refine (to_any n _).mono ?_); rintro e w2 ⟨rfl, hl2⟩
  go_wp2_with fail
  try refine ⟨by first | assumption | exact later_drew _ | exact later_alloc _ _ | exact Later.refl _, ?_⟩
  try simp only [wpParts, pick, List.getElem?_cons_succ, List.getElem?_cons_zero, Option.toList_some, List.cons_append, List.nil_append]
  repeat (go_big_quiet_step (fail))
  refine wpQuiet_nil ?_
  go_wp2
  go_ret
  exact ⟨rfl, (((later_alloc _ _).trans (later_alloc _ _)).drewN 1).trans hl2⟩
theorem build_want {P : Program} {ops : Array Oper} {rest : List Oper} {o : Oper} {a : Act} {w : World} {Q : Exit → Act → World → Prop} (hw : Region.wanted o (yielded ops a.tmps) = true) (t : TypeId) (parts : Array (Nat × Operand)) (ho : o.op = .build t parts) (vs : List Value) (hb : P.built t (parts.map fun (i, x) => (i, a.eval x)).toList = some vs.toArray)
    (h : wpList P ops Q rest (a.put o.dst (.agg vs.toArray)) w) : wpList P ops Q (o :: rest) a w :=
  BigFrame.wpList_want hw fun K hK => by
    exact wp_build t parts ho (by rw [hb]; rfl) (by rw [hb]; exact hK _ _ h)
theorem build_k (k : Nat) (hk : k < B64) {ops : Array Oper} {rest : List Oper} {o : Oper} {a : Act} {w : World} {Q : Exit → Act → World → Prop} (hw : Region.wanted o (yielded ops a.tmps) = true) (ho : o.op = .build 28 #[(0, .const (n64 k))])
    (h : wpList Try.prog ops Q rest (a.put o.dst (E k)) w) : wpList Try.prog ops Q (o :: rest) a w :=
  build_want hw 28 _ ho (EL k) (by rw [EL_small hk]; kernel_rfl) h
theorem EL_four (n : Nat) : EL n = [n64 (lim n 0), n64 (lim n 1), n64 (lim n 2), n64 (lim n 3)] := by
  apply List.ext_getElem (EL_length n)
  intro i hi1 hi2
  rw [EL_at]
  have : i = 0 ∨ i = 1 ∨ i = 2 ∨ i = 3 := by rw [EL_length] at hi1; omega
  rcases this with rfl | rfl | rfl | rfl <;> rfl
theorem run_build2_aux (a0 a1 a2 a3 b0 b1 b2 b3 : Value) (W : World) :
    (Instr.buildSlice 56 2 #[(0, .agg #[a0, a1, a2, a3]), (1, .agg #[b0, b1, b2, b3])]).run Try.prog W = .ok (.slice (some ⟨W.heap.size, 0, none⟩) 2 2) (W.alloc (.cells #[a0, a1, a2, a3, b0, b1, b2, b3] 28)) := by kernel_rfl
theorem run_build2 (a b : Nat) (W : World) :
    (Instr.buildSlice 56 2 #[(0, E a), (1, E b)]).run Try.prog W = .ok (.slice (some ⟨W.heap.size, 0, none⟩) 2 2) (W.alloc (.cells (EL a ++ EL b).toArray 28)) := by
  rw [E, E, EL_four a, EL_four b]
  exact run_build2_aux ..
theorem run_build1_aux (a0 a1 a2 a3 : Value) (W : World) :
    (Instr.buildSlice 56 1 #[(0, .agg #[a0, a1, a2, a3])]).run Try.prog W = .ok (.slice (some ⟨W.heap.size, 0, none⟩) 1 1) (W.alloc (.cells #[a0, a1, a2, a3] 28)) := by kernel_rfl
theorem run_build1 (a : Nat) (W : World) :
    (Instr.buildSlice 56 1 #[(0, E a)]).run Try.prog W = .ok (.slice (some ⟨W.heap.size, 0, none⟩) 1 1) (W.alloc (.cells (EL a).toArray 28)) := by
  rw [E, EL_four a]
  exact run_build1_aux ..
theorem run_build3_aux (a0 a1 a2 a3 b0 b1 b2 b3 c0 c1 c2 c3 : Value) (W : World) :
    (Instr.buildSlice 56 3 #[(0, .agg #[a0, a1, a2, a3]), (1, .agg #[b0, b1, b2, b3]), (2, .agg #[c0, c1, c2, c3])]).run Try.prog W = .ok (.slice (some ⟨W.heap.size, 0, none⟩) 3 3) (W.alloc (.cells #[a0, a1, a2, a3, b0, b1, b2, b3, c0, c1, c2, c3] 28)) := by kernel_rfl
theorem run_build3 (a b c : Nat) (W : World) :
    (Instr.buildSlice 56 3 #[(0, E a), (1, E b), (2, E c)]).run Try.prog W = .ok (.slice (some ⟨W.heap.size, 0, none⟩) 3 3) (W.alloc (.cells (EL a ++ (EL b ++ EL c)).toArray 28)) := by
  rw [E, E, E, EL_four a, EL_four b, EL_four c]
  exact run_build3_aux ..
section
variable {ops : Array Oper} {rest : List Oper} {o : Oper} {a : Act} {w : World} {Q : Exit → Act → World → Prop}
theorem build_row1 (hw : Region.wanted o (yielded ops a.tmps) = true) (x : Operand) (ho : o.op = .buildSlice 56 1 #[(0, x)]) (n : Nat) (hx : a.eval x = E n)
    (h : wpList Try.prog ops Q rest (a.put o.dst (.slice (some ⟨w.heap.size, 0, none⟩) 1 1)) (w.alloc (.cells (EL n).toArray 28))) : wpList Try.prog ops Q (o :: rest) a w :=
  BigFrame.wpList_want hw fun K hK => by
    have hr := run_build1 n w
    unfold Oper.wp
    simp only [execOp, ho, List.map_toArray, List.map_cons, List.map_nil, hx, Sem.run_bind, hr, Result.andThen_ok, Sem.run_pure]
    exact hK _ _ h
theorem build_row2 (hw : Region.wanted o (yielded ops a.tmps) = true) (x y : Operand) (ho : o.op = .buildSlice 56 2 #[(0, x), (1, y)]) (n m : Nat) (hx : a.eval x = E n) (hy : a.eval y = E m)
    (h : wpList Try.prog ops Q rest (a.put o.dst (.slice (some ⟨w.heap.size, 0, none⟩) 2 2)) (w.alloc (.cells (EL n ++ EL m).toArray 28))) : wpList Try.prog ops Q (o :: rest) a w :=
  BigFrame.wpList_want hw fun K hK => by
    have hr := run_build2 n m w
    unfold Oper.wp
    simp only [execOp, ho, List.map_toArray, List.map_cons, List.map_nil, hx, hy, Sem.run_bind, hr, Result.andThen_ok, Sem.run_pure]
    exact hK _ _ h
theorem build_row3 (hw : Region.wanted o (yielded ops a.tmps) = true) (x y z : Operand) (ho : o.op = .buildSlice 56 3 #[(0, x), (1, y), (2, z)]) (n m l : Nat) (hx : a.eval x = E n) (hy : a.eval y = E m) (hz : a.eval z = E l)
    (h : wpList Try.prog ops Q rest (a.put o.dst (.slice (some ⟨w.heap.size, 0, none⟩) 3 3)) (w.alloc (.cells (EL n ++ (EL m ++ EL l)).toArray 28))) : wpList Try.prog ops Q (o :: rest) a w :=
  BigFrame.wpList_want hw fun K hK => by
    have hr := run_build3 n m l w
    unfold Oper.wp
    simp only [execOp, ho, List.map_toArray, List.map_cons, List.map_nil, hx, hy, hz, Sem.run_bind, hr, Result.andThen_ok, Sem.run_pure]
    exact hK _ _ h
end
/-- A row that was just built. -/
theorem rdE_new {w : World} {g : Nat} {t : TypeId} {l : List Value} (ns : List Nat) (n : Nat) (hb : Blk w g t l) (hl : l = ns.flatMap EL) (hn : ns.length = n) : RdE w (some ⟨g, 0, none⟩) n ns := by
  refine ⟨hn, fun _ => ⟨g, 0, rfl, hb.lt, fun j i v hj hv => ?_⟩⟩
  refine hb.cellD _ ?_
  rw [hl]
  have key : ∀ (ns : List Nat) (j : Nat), j < ns.length → (EL (ns.getD j 0))[i]? = some v → (ns.flatMap EL)[0 + j * 4 + i]? = some v := by
    intro ns
    induction ns with
    | nil => intro j hj; simp at hj
    | cons x ns ih =>
      intro j hj hv
      cases j with
      | zero =>
        rw [List.flatMap_cons, List.getElem?_append_left]
        · simpa using hv
        · have : i < (EL x).length := by
            have := List.getElem?_eq_some_iff.1 hv
            exact this.1
          omega
      | succ j =>
        rw [List.flatMap_cons, List.getElem?_append_right (by rw [EL_length]; omega), EL_length]
        have := ih j (by simpa using hj) (by simpa using hv)
        rw [show 0 + (j + 1) * 4 + i - 4 = 0 + j * 4 + i by omega]
        exact this
  exact key ns j (by omega) hv
theorem of_2 (w : World) : Calls Try.prog 20 #[.int .u64 2] w fun e w' => e = .returned (E 2) ∧ Later w w' := of_any 2 (by decide) w
set_option maxRecDepth 100000 in
set_option maxHeartbeats 2000000 in
theorem awake05 (w : World) : Calls Try.prog 17 #[] w fun e w' => e = .returned (.bool true) ∧ Later w w' := by
  go_enter Try.func17, Try.ntmps17
  go_wp2_with (first
    | (refine wpList_build_is rfl 28 #[(0, .const (.int .u64 18446744073709551615)), (1, .const (.int .u64 18446744073709551615)), (2, .const (.int .u64 18446744073709551615)), (3, .const (.int .u64 18446744073709551615))] rfl (EL (T256 - 1)) ?hb ?_; (case hb => kernel_rfl))
    | (refine build_k 37 (by decide) rfl rfl ?_)
    | (refine build_k 1 (by decide) rfl rfl ?_)
    | (refine store_E (n := T256 - 1) rfl rfl _ _ rfl (Blk.new w _ (List.replicate 4 (.int .u64 0))) rfl rfl rfl ?_; intro w2 hb2 ho2)
    | (refine load_E rfl _ rfl hb2 rfl ?_)
    | (go_at_call 27; (with_reducible refine (norm_any (T256 - 1) (by decide) _).mono ?_); rintro e w3 ⟨rfl, hl3⟩; rw [show (T256 - 1) % P25 = 37 by decide])
    | (go_at_call 20; (with_reducible refine (of_2 w3).mono ?_); rintro e w4 ⟨rfl, hl4⟩)
    | (go_at_call 20; (with_reducible refine (of_2 w4).mono ?_); rintro e w5 ⟨rfl, hl5⟩)
    | (go_at_call 43; (with_reducible refine (inv_any 2 (by decide) w5).mono ?_); rintro e w6 ⟨rfl, hl6⟩)
    | (refine build_row2 rfl _ _ rfl 2 (pinv 2) rfl rfl ?_)
    | (go_at_call 25; (with_reducible refine (product_any (some ⟨w6.heap.size, 0, none⟩) 2 2 [2, pinv 2] _ (rdE_new [2, pinv 2] 2 (Blk.new _ _ _) (by simp) rfl) (by intro x hx; simp at hx; rcases hx with rfl | rfl; decide; exact pinv_T 2) (by omega) (by omega)).mono ?_); rintro e w7 ⟨rfl, hl7⟩; rw [show prodN [2, pinv 2] % P25 = 1 by rw [prodN, prodN, prodN, Nat.mul_one]; exact mul_pinv 2 (by decide)])
    | fail)
  go_ret
  exact ⟨rfl, (((((((later_alloc w (.cells (List.replicate 4 (Value.int .u64 0)).toArray 28)).only ho2 (by omega)).trans hl3).trans hl4).trans hl5).trans hl6).trans (later_alloc _ _)).trans hl7⟩
end Go.Proofs.Ytmdjhbiiifnfiaa
namespace Go.Proofs.Ytmdjhbiiifnfiaa
open Go.RowKit

theorem lawIs_eq (a : Nat) (ha : a < T256) (w : World) :
    Calls Try.prog 21 #[E a, NN a] w fun e w' => e = .returned (.bool true) ∧ Later w w' :=
  (lawIs_any a a ha ha w).mono fun e w' ⟨he, hl⟩ => ⟨by rw [he, beq_self_eq_true], hl⟩
theorem readN_lt (bs : List UInt8) : readN bs < P25 := by
  unfold readN
  split
  · exact Nat.mod_lt _ P25_pos
  · exact P25_pos
theorem readN_nb (x : Nat) (h : x < P25) : readN (nb x) = x := by
  have hT : x < T256 := Nat.lt_trans h (by decide)
  rw [readN, if_pos (nb_length x), num_nb x hT, Nat.mod_eq_of_lt (show x < T255 from Nat.lt_trans h (by decide)), Nat.mod_eq_of_lt h]
set_option maxRecDepth 100000 in
set_option maxHeartbeats 2000000 in
theorem fieldReads_walk (A : Option Addr) (n c : Nat) (bs : List UInt8) (w : World) (hr : RdB w A n bs) (hn : n ≤ 140737488355328) :
    Calls Try.prog 7 #[.slice A n c] w fun e w' => e = .returned (.bool true) ∧ Later w w' := by
  have hbl := hr.len
  have hlt := readN_lt bs
  have hltT : readN bs < T256 := Nat.lt_trans hlt (by decide)
  by_cases h32 : bs.length = 32
  · have hE : readE bs = 0 := by rw [readE, if_pos h32]
    have hRA := fun A n c w => read_any A n c bs w
    have hRR := fun A n c w => read_ref A n c bs w
    rw [hE] at hRA hRR
    have HRA := hid hRA
    have HRR := hid hRR
    have HNB := hid (readN_nb (readN bs) hlt)
    have HEB := hid (show readE (nb (readN bs)) = 0 by rw [readE, if_pos (nb_length _)])
    have HMM := hid (Nat.mod_eq_of_lt hlt)
    clear hRA hRR hE h32 hlt
    generalize readN bs = X at *
    go_enter Try.func7, Try.ntmps7
    go_wp2_with fail
    (with_reducible refine (awake05 _).mono ?_); rintro e w2 ⟨rfl, hl2⟩
    go_wp2_with fail
    (with_reducible refine (copy_any A n c bs _ (hr.later hl2) (by omega)).mono ?_); rintro e w3 ⟨A3, c3, rfl, hown3, hl3⟩
    go_wp2_with fail
    (with_reducible refine (HRA.out A3 n c3 w3 hown3.rd (by omega)).mono ?_); rintro e w4 ⟨rfl, hl4⟩
    go_wp2_with (first
      | (refine store_E rfl rfl _ _ rfl (Blk.new w4 _ (List.replicate 4 (.int .u64 0))) rfl rfl rfl ?_; intro w5 hb5 ho5
         have L5 : Later w w5 := (((hl2.trans hl3).trans hl4).alloc (.cells (List.replicate 4 (Value.int .u64 0)).toArray 28)).only ho5 (by have := ((hl2.trans hl3).trans hl4).size; omega)
         clear hl2 hl3 hl4 hown3 ho5)
      | fail)
    (with_reducible refine (HRR.out A n c w5 (hr.later L5) (by omega)).mono ?_); rintro e w6 ⟨rfl, hl6⟩
    go_wp2_with (first
      | (refine store_N rfl rfl _ _ rfl (Blk.new w6 _ (List.replicate 8 (.int .u32 0))) rfl rfl rfl ?_; intro w7 hb7 ho7
         have hx7 := ((hb5.later hl6).later (later_alloc _ (.cells (List.replicate 8 (Value.int .u32 0)).toArray 35))).only ho7 (Nat.ne_of_lt (hb5.later hl6).lt)
         have L7 : Later w w7 := ((L5.trans hl6).alloc (.cells (List.replicate 8 (Value.int .u32 0)).toArray 35)).only ho7 (by have := (L5.trans hl6).size; omega)
         clear hl6 ho7 L5)
      | (refine load_E rfl _ rfl hx7 rfl ?_)
      | (refine load_N rfl _ rfl hb7 rfl ?_)
      | fail)
    (with_reducible refine (lawIs_eq X hltT _).mono ?_); rintro e w8 ⟨rfl, hl8⟩
    have hx8 := hx7.later hl8
    have hy8 := hb7.later hl8
    have L8 := L7.trans hl8
    clear hx7 hb7 L7 hl8
    have hBy := hid (bytes_any X hltT)
    have hBr := hid (bytes_ref X hltT)
    rw [HMM.out] at hBy hBr
    go_wp2_with (first
      | (refine load_E rfl _ rfl hx8 rfl ?_)
      | fail)
    (with_reducible refine (hBy.out _).mono ?_); rintro e w9 ⟨rfl, hl9⟩
    go_wp2_with (first
      | (refine store_B rfl rfl _ _ rfl (Blk.new w9 _ (List.replicate 32 (.int .u8 0))) rfl rfl (nb_length _) rfl ?_; intro w10 hb10 ho10
         have hx10 := ((hx8.later hl9).later (later_alloc _ (.cells (List.replicate 32 (Value.int .u8 0)).toArray 42))).only ho10 (Nat.ne_of_lt (hx8.later hl9).lt)
         have hy10 := ((hy8.later hl9).later (later_alloc _ (.cells (List.replicate 32 (Value.int .u8 0)).toArray 42))).only ho10 (Nat.ne_of_lt (hy8.later hl9).lt)
         have L10 : Later w w10 := ((L8.trans hl9).alloc (.cells (List.replicate 32 (Value.int .u8 0)).toArray 42)).only ho10 (by have := (L8.trans hl9).size; omega)
         clear hl9 ho10 L8 hx8 hy8)
      | fail)
    have hRB := hid (read_any (some ⟨w9.heap.size, 0, none⟩) 32 32 (nb X) w10 (blk_rdB hb10 (nb_length X)) (by omega))
    rw [HNB.out, HEB.out] at hRB
    (with_reducible refine (hRB.out).mono ?_); rintro e w11 ⟨rfl, hl11⟩
    go_wp2_with (first
      | (refine store_E rfl rfl _ _ rfl (Blk.new w11 _ (List.replicate 4 (.int .u64 0))) rfl rfl rfl ?_; intro w12 hb12 ho12
         have hx12 := ((hx10.later hl11).later (later_alloc _ (.cells (List.replicate 4 (Value.int .u64 0)).toArray 28))).only ho12 (Nat.ne_of_lt (hx10.later hl11).lt)
         have hy12 := ((hy10.later hl11).later (later_alloc _ (.cells (List.replicate 4 (Value.int .u64 0)).toArray 28))).only ho12 (Nat.ne_of_lt (hy10.later hl11).lt)
         have hz12 := ((hb10.later hl11).later (later_alloc _ (.cells (List.replicate 4 (Value.int .u64 0)).toArray 28))).only ho12 (Nat.ne_of_lt (hb10.later hl11).lt)
         have L12 : Later w w12 := ((L10.trans hl11).alloc (.cells (List.replicate 4 (Value.int .u64 0)).toArray 28)).only ho12 (by have := (L10.trans hl11).size; omega)
         clear hl11 ho12 L10 hx10 hy10 hb10)
      | fail)
    refine wp_region_parts [([0, 1], 2)] [3, 4, 5, 6, 7, 8, 9, 10, 11, 12, 13] [] (by as_aux_lemma => kernel_rfl) (by as_aux_lemma => kernel_rfl) (by intro _ _ d _ _ h; cases d <;> exact h) ?_
    simp only [wpParts, pick, List.getElem?_cons_succ, List.getElem?_cons_zero, Option.toList_some, List.cons_append, List.nil_append]
    repeat (first | go_big_quiet_skip | (go_big_quiet_want; (first | refine quiet_B _ rfl hz12.drew (nb_length X) rfl ?_ | refine quiet_N _ rfl hy12.drew rfl ?_); simp only [Act.put, List.setIfInBounds_toArray, List.set_cons_succ, List.set_cons_zero]; go_big_quiet_on) | (go_big_quiet_step (fail)))
    refine wpQuiet_nil ?_
    go_wp2_with fail
    (with_reducible refine (hBr.out _).mono ?_); rintro e w13 ⟨rfl, hl13⟩
    have hx13 := (hx12.drew).later hl13
    have hb13 := (hb12.drew).later hl13
    go_wp2_with fail
    have hbb : ∀ W, (binOp .eql 42 (BB X) (BB X)).run Try.prog W = .ok (.bool true) W := fun W => by rw [run_eql_b32 _ _ (nb_length X) (nb_length X), beq_self_eq_true]
    try refine ⟨by first | assumption | exact later_drew _ | exact later_alloc _ _ | exact Later.refl _, ?_⟩
    try simp only [wpParts, pick, List.getElem?_cons_succ, List.getElem?_cons_zero, Option.toList_some, List.cons_append, List.nil_append]
    repeat (first | go_big_quiet_skip | (go_big_quiet_want; (first | refine quiet_E _ rfl hx13 rfl ?_ | refine quiet_E _ rfl hb13 rfl ?_); simp only [Act.put, List.setIfInBounds_toArray, List.set_cons_succ, List.set_cons_zero]; go_big_quiet_on) | (go_big_quiet_step (fail)))
    refine wpQuiet_nil ?_
    go_wp2
    go_ret
    exact ⟨rfl, ((L12.trans (later_drew _)).trans hl13)⟩
  · have hE : readE bs = 2 := by rw [readE, if_neg h32]
    have hX : readN bs = 0 := by rw [readN, if_neg h32]
    have hRA := fun A n c w => read_any A n c bs w
    have hRR := fun A n c w => read_ref A n c bs w
    rw [hE, hX] at hRA hRR
    have HRA := hid hRA
    have HRR := hid hRR
    clear hRA hRR hE h32 hX hlt hltT
    go_enter Try.func7, Try.ntmps7
    go_wp2_with fail
    (with_reducible refine (awake05 _).mono ?_); rintro e w2 ⟨rfl, hl2⟩
    go_wp2_with fail
    (with_reducible refine (copy_any A n c bs _ (hr.later hl2) (by omega)).mono ?_); rintro e w3 ⟨A3, c3, rfl, hown3, hl3⟩
    go_wp2_with fail
    (with_reducible refine (HRA.out A3 n c3 w3 hown3.rd (by omega)).mono ?_); rintro e w4 ⟨rfl, hl4⟩
    go_wp2_with (first
      | (refine store_E (n := 0) rfl rfl _ _ rfl (Blk.new w4 _ (List.replicate 4 (.int .u64 0))) rfl rfl rfl ?_; intro w5 hb5 ho5
         have L5 : Later w w5 := (((hl2.trans hl3).trans hl4).alloc (.cells (List.replicate 4 (Value.int .u64 0)).toArray 28)).only ho5 (by have := ((hl2.trans hl3).trans hl4).size; omega)
         clear hl2 hl3 hl4 hown3 ho5)
      | fail)
    (with_reducible refine (HRR.out A n c w5 (hr.later L5) (by omega)).mono ?_); rintro e w6 ⟨rfl, hl6⟩
    go_wp2_with (first
      | (refine store_N (n := 0) rfl rfl _ _ rfl (Blk.new w6 _ (List.replicate 8 (.int .u32 0))) rfl rfl rfl ?_; intro w7 hb7 ho7
         have hx7 := ((hb5.later hl6).later (later_alloc _ (.cells (List.replicate 8 (Value.int .u32 0)).toArray 35))).only ho7 (Nat.ne_of_lt (hb5.later hl6).lt)
         have L7 : Later w w7 := ((L5.trans hl6).alloc (.cells (List.replicate 8 (Value.int .u32 0)).toArray 35)).only ho7 (by have := (L5.trans hl6).size; omega)
         clear hl6 ho7 L5)
      | (refine load_E rfl _ rfl hx7 rfl ?_)
      | (refine load_N rfl _ rfl hb7 rfl ?_)
      | fail)
    (with_reducible refine (lawIs_eq 0 (by decide) _).mono ?_); rintro e w8 ⟨rfl, hl8⟩
    go_wp2
    go_ret
    exact ⟨rfl, L7.trans hl8⟩
end Go.Proofs.Ytmdjhbiiifnfiaa
namespace Go.Proofs.Ytmdjhbiiifnfiaa
open Go.RowKit

set_option maxRecDepth 100000 in
set_option maxHeartbeats 4000000 in
theorem fieldSubs_walk (a b : Nat) (ha : a < T256) (hb : b < T256) (w : World) :
    Calls Try.prog 8 #[E a, E b] w fun e w' => e = .returned (.bool true) ∧ Later w w' := by
  have h1 : Blk ((w.alloc (.cells (EL a).toArray 24)).alloc (.cells (EL b).toArray 24)) w.heap.size 24 (EL a) := (Blk.new _ _ _).later (later_alloc _ _)
  have h2 : Blk ((w.alloc (.cells (EL a).toArray 24)).alloc (.cells (EL b).toArray 24)) (w.heap.size + 1) 24 (EL b) := Blk.new' _ _ _ (by simp)
  have L0 : Later w ((w.alloc (.cells (EL a).toArray 24)).alloc (.cells (EL b).toArray 24)) := (later_alloc _ _).trans (later_alloc _ _)
  have hSub := hid (fsub_any a b ha hb)
  have hSub' := hid (sub_ref a b ha hb)
  have hSq := hid (square_any a ha)
  have hMul := hid (mul_ref a a ha ha)
  have hInv := hid (inv_any b hb)
  have hInv' := hid (inv_ref b hb)
  have hI1 := hid (lawIs_eq ((a + (P25 - b % P25)) % P25) (Nat.lt_trans (Nat.mod_lt _ P25_pos) (by decide)))
  have hI2 := hid (lawIs_eq (a * a % P25) (Nat.lt_trans (Nat.mod_lt _ P25_pos) (by decide)))
  have hI3 := hid (lawIs_eq (pinv b) (pinv_T b))
  generalize (a + (P25 - b % P25)) % P25 = s at *
  generalize a * a % P25 = q at *
  generalize pinv b = i at *
  go_enter Try.func8, Try.ntmps8
  go_wp2_with fail
  (with_reducible refine (awake05 _).mono ?_); rintro e w2 ⟨rfl, hl2⟩
  replace h1 := h1.later hl2
  replace h2 := h2.later hl2
  replace L0 := L0.trans hl2
  go_wp2_with fail
  refine wp_region_makers [0, 2] [([], 1, 1), ([], 1, 3), ([], 2, 4), ([], 2, 5)] [] [6, 7] [4, 5] (fun _ => (fun g => .pointer (some ⟨g, 0, none⟩), .cells (List.replicate 8 (Value.int .u32 0)).toArray 35)) (by as_aux_lemma => kernel_rfl) (by as_aux_lemma => kernel_rfl) (by intro _ _ d _ _ h; cases d <;> exact h) (by intro _ _ d _ _ h; cases d <;> exact h) ?_
  simp only [pick, List.getElem?_cons_succ, List.getElem?_cons_zero, Option.toList_some, List.cons_append, List.nil_append]
  repeat (first | go_big_quiet_skip | (go_big_quiet_want; (first | refine quiet_4 _ rfl h1.drew rfl ?_ | refine quiet_4 _ rfl h2.drew rfl ?_); simp only [Act.put, List.setIfInBounds_toArray, List.set_cons_succ, List.set_cons_zero]; go_big_quiet_on) | (go_big_quiet_step (fail)))
  refine wpQuiet_nil ?_
  refine ⟨?mk, ?_⟩
  case mk =>
    refine ⟨fun o ho => ?_, fun o ho => ?_, trivial⟩
    all_goals
      simp only [List.getElem?_cons_succ, List.getElem?_cons_zero, Option.some.injEq] at ho
      subst ho
      refine ⟨rfl, fun W => ?_⟩
      unfold execOp
      simp [go_sem]
  simp only [wpPartsM, pick, List.getElem?_cons_succ, List.getElem?_cons_zero, Option.toList_some, List.cons_append, List.nil_append]
  refine wpQuiet_nil ?_
  intro v1 j1
  go_wp2_with fail
  (with_reducible refine (from_any a _).mono ?_); rintro e v2 ⟨rfl, j2⟩
  go_wp2_with fail
  try refine ⟨by first | assumption | exact later_drew _ | exact later_alloc _ _ | exact Later.refl _, ?_⟩
  try simp only [wpParts, pick, List.getElem?_cons_succ, List.getElem?_cons_zero, Option.toList_some, List.cons_append, List.nil_append]
  repeat (go_big_quiet_step (fail))
  refine wpQuiet_nil ?_
  intro v3 j3
  go_wp2_with fail
  (with_reducible refine (from_any b _).mono ?_); rintro e v4 ⟨rfl, j4⟩
  go_wp2_with fail
  try refine ⟨by first | assumption | exact later_drew _ | exact later_alloc _ _ | exact Later.refl _, ?_⟩
  try simp only [wpParts, pick, List.getElem?_cons_succ, List.getElem?_cons_zero, Option.toList_some, List.cons_append, List.nil_append]
  repeat (go_big_quiet_step (fail))
  refine wpQuiet_nil ?_
  intro v5 g5 j5 hg5 _ hb5
  refine wpQuiet_nil ?_
  intro v6 g6 j6 hg6 hn6 hb6
  refine wpQuiet_nil ?_
  intro v7 j7
  have Lr := (((((later_drew _).trans j1).trans j2).trans j3).trans j4).trans ((j5.trans j6).trans j7)
  have hX : Blk v7 g5 35 (List.replicate 8 (Value.int .u32 0)) := Blk.later hb5 (j6.trans j7)
  have hY : Blk v7 g6 35 (List.replicate 8 (Value.int .u32 0)) := Blk.later hb6 j7
  have hne : g5 ≠ g6 := fun e => hn6 (.inl e.symm)
  have hs2 := h2.lt
  replace h1 := h1.later Lr
  replace h2 := h2.later Lr
  replace L0 := L0.trans Lr
  have hs0 := hl2.size
  clear j1 j2 j3 j4 j5 j6 j7 hb5 hb6 Lr hn6
  have hgg5 : w.heap.size + 1 < g5 := Nat.lt_of_lt_of_le hs2 hg5
  have hgg6 : w.heap.size + 1 < g6 := Nat.lt_of_lt_of_le hs2 hg6
  simp only [Option.bind_some, Act.put, List.setIfInBounds_toArray, List.set_cons_succ, List.set_cons_zero]
  go_wp2_with (first
    | (refine store_N rfl rfl _ _ rfl hX rfl rfl rfl ?_; intro w3 hb3 ho3
       have hY3 := hY.only ho3 (fun e => hne e.symm))
    | (refine store_N rfl rfl _ _ rfl hY3 rfl rfl rfl ?_; intro w4 hb4 ho4)
    | fail)
  have hx := hb3.only ho4 hne
  have hy := hb4
  replace h1 := (h1.only ho3 (by omega)).only ho4 (by omega)
  replace h2 := (h2.only ho3 (by omega)).only ho4 (by omega)
  replace L0 := (L0.only ho3 (by omega)).only ho4 (by omega)
  clear hb3 hb4 hX hY hY3 ho3 ho4 hg5 hg6 hs2 hs0 hl2
  replace h1 := h1.drew
  replace h2 := h2.drew
  replace hx := hx.drew
  replace hy := hy.drew
  replace L0 := L0.trans (later_drew _)
  refine wp_region_parts [([0, 1, 3, 4], 2), ([], 5), ([], 6), ([7, 8, 10, 11], 9), ([], 12), ([], 13), ([14, 15, 16, 18], 17), ([], 19), ([], 20)] [21, 22] [] (by as_aux_lemma => kernel_rfl) (by as_aux_lemma => kernel_rfl) (by intro _ _ d _ _ h; cases d <;> exact h) ?_
  simp only [wpParts, pick, List.getElem?_cons_succ, List.getElem?_cons_zero, Option.toList_some, List.cons_append, List.nil_append]
  repeat (first | go_big_quiet_skip | (go_big_quiet_want; (first | refine quiet_4 _ rfl h1 rfl ?_ | refine quiet_4 _ rfl h2 rfl ?_ | refine quiet_N _ rfl hx rfl ?_ | refine quiet_N _ rfl hy rfl ?_); simp only [Act.put, List.setIfInBounds_toArray, List.set_cons_succ, List.set_cons_zero]; go_big_quiet_on) | (go_big_quiet_step (fail)))
  refine wpQuiet_nil ?_
  go_wp2_with fail
  (with_reducible refine (hSub.out _).mono ?_); rintro e u0 ⟨rfl, k0⟩
  replace h1 := h1.later k0
  replace h2 := h2.later k0
  replace hx := hx.later k0
  replace hy := hy.later k0
  replace L0 := L0.trans k0
  go_wp2_with fail
  try refine ⟨by first | assumption | exact later_drew _ | exact later_alloc _ _ | exact Later.refl _, ?_⟩
  try simp only [wpParts, pick, List.getElem?_cons_succ, List.getElem?_cons_zero, Option.toList_some, List.cons_append, List.nil_append]
  repeat (first | go_big_quiet_skip | (go_big_quiet_want; (first | refine quiet_4 _ rfl h1 rfl ?_ | refine quiet_4 _ rfl h2 rfl ?_ | refine quiet_N _ rfl hx rfl ?_ | refine quiet_N _ rfl hy rfl ?_); simp only [Act.put, List.setIfInBounds_toArray, List.set_cons_succ, List.set_cons_zero]; go_big_quiet_on) | (go_big_quiet_step (fail)))
  refine wpQuiet_nil ?_
  clear k0
  go_wp2_with fail
  (with_reducible refine (hSub'.out _).mono ?_); rintro e u1 ⟨rfl, k1⟩
  replace h1 := h1.later k1
  replace h2 := h2.later k1
  replace hx := hx.later k1
  replace hy := hy.later k1
  replace L0 := L0.trans k1
  go_wp2_with fail
  try refine ⟨by first | assumption | exact later_drew _ | exact later_alloc _ _ | exact Later.refl _, ?_⟩
  try simp only [wpParts, pick, List.getElem?_cons_succ, List.getElem?_cons_zero, Option.toList_some, List.cons_append, List.nil_append]
  repeat (first | go_big_quiet_skip | (go_big_quiet_want; (first | refine quiet_4 _ rfl h1 rfl ?_ | refine quiet_4 _ rfl h2 rfl ?_ | refine quiet_N _ rfl hx rfl ?_ | refine quiet_N _ rfl hy rfl ?_); simp only [Act.put, List.setIfInBounds_toArray, List.set_cons_succ, List.set_cons_zero]; go_big_quiet_on) | (go_big_quiet_step (fail)))
  refine wpQuiet_nil ?_
  clear k1
  go_wp2_with fail
  (with_reducible refine (hI1.out _).mono ?_); rintro e u2 ⟨rfl, k2⟩
  replace h1 := h1.later k2
  replace h2 := h2.later k2
  replace hx := hx.later k2
  replace hy := hy.later k2
  replace L0 := L0.trans k2
  go_wp2_with fail
  try refine ⟨by first | assumption | exact later_drew _ | exact later_alloc _ _ | exact Later.refl _, ?_⟩
  try simp only [wpParts, pick, List.getElem?_cons_succ, List.getElem?_cons_zero, Option.toList_some, List.cons_append, List.nil_append]
  repeat (first | go_big_quiet_skip | (go_big_quiet_want; (first | refine quiet_4 _ rfl h1 rfl ?_ | refine quiet_4 _ rfl h2 rfl ?_ | refine quiet_N _ rfl hx rfl ?_ | refine quiet_N _ rfl hy rfl ?_); simp only [Act.put, List.setIfInBounds_toArray, List.set_cons_succ, List.set_cons_zero]; go_big_quiet_on) | (go_big_quiet_step (fail)))
  refine wpQuiet_nil ?_
  clear k2
  go_wp2_with fail
  (with_reducible refine (hSq.out _).mono ?_); rintro e u3 ⟨rfl, k3⟩
  replace h1 := h1.later k3
  replace h2 := h2.later k3
  replace hx := hx.later k3
  replace hy := hy.later k3
  replace L0 := L0.trans k3
  go_wp2_with fail
  try refine ⟨by first | assumption | exact later_drew _ | exact later_alloc _ _ | exact Later.refl _, ?_⟩
  try simp only [wpParts, pick, List.getElem?_cons_succ, List.getElem?_cons_zero, Option.toList_some, List.cons_append, List.nil_append]
  repeat (first | go_big_quiet_skip | (go_big_quiet_want; (first | refine quiet_4 _ rfl h1 rfl ?_ | refine quiet_4 _ rfl h2 rfl ?_ | refine quiet_N _ rfl hx rfl ?_ | refine quiet_N _ rfl hy rfl ?_); simp only [Act.put, List.setIfInBounds_toArray, List.set_cons_succ, List.set_cons_zero]; go_big_quiet_on) | (go_big_quiet_step (fail)))
  refine wpQuiet_nil ?_
  clear k3
  go_wp2_with fail
  (with_reducible refine (hMul.out _).mono ?_); rintro e u4 ⟨rfl, k4⟩
  replace h1 := h1.later k4
  replace h2 := h2.later k4
  replace hx := hx.later k4
  replace hy := hy.later k4
  replace L0 := L0.trans k4
  go_wp2_with fail
  try refine ⟨by first | assumption | exact later_drew _ | exact later_alloc _ _ | exact Later.refl _, ?_⟩
  try simp only [wpParts, pick, List.getElem?_cons_succ, List.getElem?_cons_zero, Option.toList_some, List.cons_append, List.nil_append]
  repeat (first | go_big_quiet_skip | (go_big_quiet_want; (first | refine quiet_4 _ rfl h1 rfl ?_ | refine quiet_4 _ rfl h2 rfl ?_ | refine quiet_N _ rfl hx rfl ?_ | refine quiet_N _ rfl hy rfl ?_); simp only [Act.put, List.setIfInBounds_toArray, List.set_cons_succ, List.set_cons_zero]; go_big_quiet_on) | (go_big_quiet_step (fail)))
  refine wpQuiet_nil ?_
  clear k4
  go_wp2_with fail
  (with_reducible refine (hI2.out _).mono ?_); rintro e u5 ⟨rfl, k5⟩
  replace h1 := h1.later k5
  replace h2 := h2.later k5
  replace hx := hx.later k5
  replace hy := hy.later k5
  replace L0 := L0.trans k5
  go_wp2_with fail
  try refine ⟨by first | assumption | exact later_drew _ | exact later_alloc _ _ | exact Later.refl _, ?_⟩
  try simp only [wpParts, pick, List.getElem?_cons_succ, List.getElem?_cons_zero, Option.toList_some, List.cons_append, List.nil_append]
  repeat (first | go_big_quiet_skip | (go_big_quiet_want; (first | refine quiet_4 _ rfl h1 rfl ?_ | refine quiet_4 _ rfl h2 rfl ?_ | refine quiet_N _ rfl hx rfl ?_ | refine quiet_N _ rfl hy rfl ?_); simp only [Act.put, List.setIfInBounds_toArray, List.set_cons_succ, List.set_cons_zero]; go_big_quiet_on) | (go_big_quiet_step (fail)))
  refine wpQuiet_nil ?_
  clear k5
  go_wp2_with fail
  (with_reducible refine (hInv.out _).mono ?_); rintro e u6 ⟨rfl, k6⟩
  replace h1 := h1.later k6
  replace h2 := h2.later k6
  replace hx := hx.later k6
  replace hy := hy.later k6
  replace L0 := L0.trans k6
  go_wp2_with fail
  try refine ⟨by first | assumption | exact later_drew _ | exact later_alloc _ _ | exact Later.refl _, ?_⟩
  try simp only [wpParts, pick, List.getElem?_cons_succ, List.getElem?_cons_zero, Option.toList_some, List.cons_append, List.nil_append]
  repeat (first | go_big_quiet_skip | (go_big_quiet_want; (first | refine quiet_4 _ rfl h1 rfl ?_ | refine quiet_4 _ rfl h2 rfl ?_ | refine quiet_N _ rfl hx rfl ?_ | refine quiet_N _ rfl hy rfl ?_); simp only [Act.put, List.setIfInBounds_toArray, List.set_cons_succ, List.set_cons_zero]; go_big_quiet_on) | (go_big_quiet_step (fail)))
  refine wpQuiet_nil ?_
  clear k6
  go_wp2_with fail
  (with_reducible refine (hInv'.out _).mono ?_); rintro e u7 ⟨rfl, k7⟩
  replace h1 := h1.later k7
  replace h2 := h2.later k7
  replace hx := hx.later k7
  replace hy := hy.later k7
  replace L0 := L0.trans k7
  go_wp2_with fail
  try refine ⟨by first | assumption | exact later_drew _ | exact later_alloc _ _ | exact Later.refl _, ?_⟩
  try simp only [wpParts, pick, List.getElem?_cons_succ, List.getElem?_cons_zero, Option.toList_some, List.cons_append, List.nil_append]
  repeat (first | go_big_quiet_skip | (go_big_quiet_want; (first | refine quiet_4 _ rfl h1 rfl ?_ | refine quiet_4 _ rfl h2 rfl ?_ | refine quiet_N _ rfl hx rfl ?_ | refine quiet_N _ rfl hy rfl ?_); simp only [Act.put, List.setIfInBounds_toArray, List.set_cons_succ, List.set_cons_zero]; go_big_quiet_on) | (go_big_quiet_step (fail)))
  refine wpQuiet_nil ?_
  clear k7
  go_wp2_with fail
  (with_reducible refine (hI3.out _).mono ?_); rintro e u8 ⟨rfl, k8⟩
  replace h1 := h1.later k8
  replace h2 := h2.later k8
  replace hx := hx.later k8
  replace hy := hy.later k8
  replace L0 := L0.trans k8
  go_wp2_with fail
  try refine ⟨by first | assumption | exact later_drew _ | exact later_alloc _ _ | exact Later.refl _, ?_⟩
  try simp only [wpParts, pick, List.getElem?_cons_succ, List.getElem?_cons_zero, Option.toList_some, List.cons_append, List.nil_append]
  repeat (first | go_big_quiet_skip | (go_big_quiet_want; (first | refine quiet_4 _ rfl h1 rfl ?_ | refine quiet_4 _ rfl h2 rfl ?_ | refine quiet_N _ rfl hx rfl ?_ | refine quiet_N _ rfl hy rfl ?_); simp only [Act.put, List.setIfInBounds_toArray, List.set_cons_succ, List.set_cons_zero]; go_big_quiet_on) | (go_big_quiet_step (fail)))
  refine wpQuiet_nil ?_
  clear k8
  go_wp2
  go_ret
  exact ⟨rfl, L0⟩
end Go.Proofs.Ytmdjhbiiifnfiaa
namespace Go.Proofs.Ytmdjhbiiifnfiaa
open Go.RowKit
open Go.BigFrame

def ofs32 (l : List Nat) : List UInt32 := l.map UInt32.ofNat
theorem NL_ofs (n : Nat) : NL n = (ofs32 (dig B32 8 n)).map W32 := by rw [NL, ofs32, List.map_map]; rfl
theorem ofs32_inj {l m : List Nat} (hl : ∀ x ∈ l, x < B32) (hm : ∀ x ∈ m, x < B32) (h : ofs32 l = ofs32 m) : l = m := by
  have e : ∀ l : List Nat, (∀ x ∈ l, x < B32) → (ofs32 l).map UInt32.toNat = l := by
    intro l hl
    rw [ofs32, List.map_map]
    conv => rhs; rw [← List.map_id l]
    apply List.map_congr_left
    intro x hx
    exact tn32 (hl x hx)
  rw [← e l hl, ← e m hm, h]
theorem ofs32_beq {x y : Nat} (hx : x < T256) (hy : y < T256) : (ofs32 (dig B32 8 x) == ofs32 (dig B32 8 y)) = (x == y) := by
  rw [Bool.eq_iff_iff, beq_iff_eq, beq_iff_eq]
  refine ⟨fun h => ?_, fun h => by rw [h]⟩
  have := ofs32_inj (dig_lt B32_pos 8 x) (dig_lt B32_pos 8 y) h
  exact dig_inj (k := 8) (B := B32) (by rw [B32_8]; exact hx) (by rw [B32_8]; exact hy) this
theorem size32 : (Try.prog.info? 33).map (·.size) = some 1 := by kernel_rfl
theorem eqg_N : Try.prog.eqGuardType Try.prog.depth 35 = false := by kernel_rfl
@[go_sem high] theorem eqGuard_N (op : BinOp) (x y : Operand) (xs ys : Array Value) (w : World) : (eqGuard op 35 x y (.agg xs) (.agg ys)).run Try.prog w = .ok () w := run_eqGuard_agg w op _ x y xs ys eqg_N
@[go_sem high] theorem run_eql_N (x y : Nat) (hx : x < T256) (hy : y < T256) (w : World) : (binOp .eql 35 (NN x) (NN y)).run Try.prog w = .ok (.bool (x == y)) w := by
  rw [run_eql_struct, NL_ofs, NL_ofs, run_equalIn_arr w 0 W32 9998 35 33 8 Try.underlying35 size32 Try.underlying33 rfl (heq_w32 _ _ Try.underlying33) _ _ (by rw [ofs32, List.length_map, dig_length]) (by rw [ofs32, List.length_map, dig_length]), ofs32_beq hx hy]
  rfl
@[go_sem] theorem rem_n32_2 (T : TypeId) (x : Nat) (hx : x < B32) : binOp .rem T (n32 x) (.int .u32 2) = pure (n32 (x % 2)) := by
  rw [n32, rem_w32i _ _ _ (by omega) (by omega) (by decide), n32_w]
  rw [UInt32.toNat_mod, tn32 hx]
  have : x % 2 < B32 := by unfold B32; omega
  rw [Nat.mod_eq_of_lt this]
  rfl
@[go_sem] theorem eql_n32i (T : TypeId) (x : Nat) (k : Int) (hx : x < B32) (h0 : 0 ≤ k) (h1 : k < 4294967296) : binOp .eql T (n32 x) (.int .u32 k) = pure (.bool (x == k.toNat)) := by
  rw [n32_lit k h0 h1, n32, n32, eql_w32]
  congr 2
  rw [Bool.eq_iff_iff]
  simp only [beq_iff_eq, ← UInt32.toNat_inj, tn32 hx]
  rw [tn32 (show k.toNat < B32 by unfold B32; omega)]
theorem quiet_build1 {C : World → Prop} {a : Act} {o : Oper} {K : Act → Prop} (n : Nat) (hn : n < B64) (x : Operand) (ho : o.op = .build 28 #[(0, x)]) (hx : a.eval x = n64 n) (h : K (a.put o.dst (E n))) : o.quiet Try.prog a C K :=
  ⟨E n, fun w hw => by
    have hb : Try.prog.built 28 (((#[(0, x)] : Array (Nat × Operand)).map fun (i, x) => (i, a.eval x)).toList) = some (EL n).toArray := by
      simp only [List.map_toArray, List.map_cons, List.map_nil, hx]
      rw [EL_small hn]
      kernel_rfl
    unfold Oper.quietAt execOp
    simp only [ho, Sem.run_bind, run_build w _ _ _ hb, Result.andThen_ok, Sem.run_pure]
    exact ⟨rfl, rfl⟩, h⟩
set_option maxRecDepth 100000 in
set_option maxHeartbeats 4000000 in
theorem fieldForms_walk (a b n : Nat) (ha : a < T256) (hb : b < T256) (hn : n < B64) (w : World) :
    Calls Try.prog 4 #[E a, E b, n64 n] w fun e w' => e = .returned (.bool true) ∧ Later w w' := by
  have h1 : Blk ((w.alloc (.cells (EL a).toArray 24)).alloc (.cells (EL b).toArray 24)) w.heap.size 24 (EL a) := (Blk.new _ _ _).later (later_alloc _ _)
  have h2 : Blk ((w.alloc (.cells (EL a).toArray 24)).alloc (.cells (EL b).toArray 24)) (w.heap.size + 1) 24 (EL b) := Blk.new' _ _ _ (by simp)
  have L0 : Later w ((w.alloc (.cells (EL a).toArray 24)).alloc (.cells (EL b).toArray 24)) := (later_alloc _ _).trans (later_alloc _ _)
  have haP : a % P25 < P25 := Nat.mod_lt _ P25_pos
  have hbP : b % P25 < P25 := Nat.mod_lt _ P25_pos
  have haT : a % P25 < T256 := Nat.lt_trans haP (by decide)
  have hbT : b % P25 < T256 := Nat.lt_trans hbP (by decide)
  have hnT : n < T256 := small_T256 hn
  have cNorm := hid (norm_any a ha)
  have cNa := hid (norm_ref a ha)
  have cNb := hid (norm_ref b hb)
  have cIs := hid (lawIs_eq (a % P25) haT)
  have cOf := hid (of_any n hn)
  have cBy := hid (bytes_any a ha)
  have cBr := hid (show ∀ w, Calls Try.prog 29 #[NN (a % P25)] w fun e w' => e = .returned (BB (a % P25)) ∧ Later w w' from fun w => by have := bytes_ref (a % P25) haT w; rwa [Nat.mod_mod] at this)
  have cFi := hid (is_any a b ha hb)
  have cOdd := hid (odd_any a ha)
  have hl0 : lem (a % P25) 0 % 2 = a % P25 % 2 := by unfold lem B32; omega
  have hbl := nb_length (a % P25)
  generalize a % P25 = x at *
  generalize b % P25 = y at *
  have hbb : ∀ W, (binOp .neq 42 (BB x) (BB x)).run Try.prog W = .ok (.bool false) W := fun W => by rw [run_neq_b32 _ _ hbl hbl]; simp
  have hee : ∀ W, (binOp .neq 28 (E n) (E n)).run Try.prog W = .ok (.bool false) W := fun W => by rw [run_neq_E _ _ hnT hnT]; simp
  have hee2 : ∀ W, (binOp .neq 28 (E n) (.agg #[n64 n, .int .u64 0, .int .u64 0, .int .u64 0])).run Try.prog W = .ok (.bool false) W := fun W => by
    have := hee W
    rwa [show E n = .agg #[n64 n, .int .u64 0, .int .u64 0, .int .u64 0] by rw [E, EL_small hn]] at this ⊢
  clear hee
  have HL0 := hid hl0
  clear hl0
  go_enter Try.func4, Try.ntmps4
  go_wp2_with fail
  (with_reducible refine (awake05 _).mono ?_); rintro e w2 ⟨rfl, hl2⟩
  replace h1 := h1.later hl2
  replace h2 := h2.later hl2
  replace L0 := L0.trans hl2
  go_wp2_with fail
  refine wp_region_makers [0, 3] [([], 1, 1), ([], 1, 2), ([], 1, 4), ([], 1, 5), ([], 2, 6), ([], 2, 7)] [] [8, 9] [6, 7] (fun _ => (fun g => .pointer (some ⟨g, 0, none⟩), .cells (List.replicate 8 (Value.int .u32 0)).toArray 35)) (by as_aux_lemma => kernel_rfl) (by as_aux_lemma => kernel_rfl) (by intro _ _ d _ _ h; cases d <;> exact h) (by intro _ _ d _ _ h; cases d <;> exact h) ?_
  simp only [pick, List.getElem?_cons_succ, List.getElem?_cons_zero, Option.toList_some, List.cons_append, List.nil_append]
  repeat (first | go_big_quiet_skip | (go_big_quiet_want; (first | refine quiet_4 _ rfl h1.drew rfl ?_ | refine quiet_4 _ rfl h2.drew rfl ?_); simp only [Act.put, List.setIfInBounds_toArray, List.set_cons_succ, List.set_cons_zero]; go_big_quiet_on) | (go_big_quiet_step (fail)))
  refine wpQuiet_nil ?_
  refine ⟨?mk, ?_⟩
  case mk =>
    refine ⟨fun o ho => ?_, fun o ho => ?_, trivial⟩
    all_goals
      simp only [List.getElem?_cons_succ, List.getElem?_cons_zero, Option.some.injEq] at ho
      subst ho
      refine ⟨rfl, fun W => ?_⟩
      unfold execOp
      simp [go_sem]
  simp only [wpPartsM, pick, List.getElem?_cons_succ, List.getElem?_cons_zero, Option.toList_some, List.cons_append, List.nil_append]
  refine wpQuiet_nil ?_
  intro v1 j1
  have Lr := (later_drew _).trans j1
  clear j1
  go_wp2_with fail
  (with_reducible refine (from_any a _).mono ?_); rintro e u ⟨rfl, j2⟩
  go_wp2_with fail
  try refine ⟨by first | assumption | exact later_drew _ | exact later_alloc _ _ | exact Later.refl _, ?_⟩
  try simp only [wpParts, pick, List.getElem?_cons_succ, List.getElem?_cons_zero, Option.toList_some, List.cons_append, List.nil_append]
  repeat (go_big_quiet_step (fail))
  refine wpQuiet_nil ?_
  intro v j3
  replace Lr := (Lr.trans j2).trans j3
  clear j2 j3
  go_wp2_with fail
  (with_reducible refine (cNa.out _).mono ?_); rintro e u ⟨rfl, j2⟩
  go_wp2_with fail
  try refine ⟨by first | assumption | exact later_drew _ | exact later_alloc _ _ | exact Later.refl _, ?_⟩
  try simp only [wpParts, pick, List.getElem?_cons_succ, List.getElem?_cons_zero, Option.toList_some, List.cons_append, List.nil_append]
  repeat (go_big_quiet_step (fail))
  refine wpQuiet_nil ?_
  intro v j3
  replace Lr := (Lr.trans j2).trans j3
  clear j2 j3
  go_wp2_with fail
  (with_reducible refine (from_any b _).mono ?_); rintro e u ⟨rfl, j2⟩
  go_wp2_with fail
  try refine ⟨by first | assumption | exact later_drew _ | exact later_alloc _ _ | exact Later.refl _, ?_⟩
  try simp only [wpParts, pick, List.getElem?_cons_succ, List.getElem?_cons_zero, Option.toList_some, List.cons_append, List.nil_append]
  repeat (go_big_quiet_step (fail))
  refine wpQuiet_nil ?_
  intro v j3
  replace Lr := (Lr.trans j2).trans j3
  clear j2 j3
  go_wp2_with fail
  (with_reducible refine (cNb.out _).mono ?_); rintro e u ⟨rfl, j2⟩
  go_wp2_with fail
  try refine ⟨by first | assumption | exact later_drew _ | exact later_alloc _ _ | exact Later.refl _, ?_⟩
  try simp only [wpParts, pick, List.getElem?_cons_succ, List.getElem?_cons_zero, Option.toList_some, List.cons_append, List.nil_append]
  repeat (go_big_quiet_step (fail))
  refine wpQuiet_nil ?_
  replace Lr := Lr.trans j2
  clear j2
  intro v5 g5 j5 hg5 _ hb5
  refine wpQuiet_nil ?_
  intro v6 g6 j6 hg6 hn6 hb6
  refine wpQuiet_nil ?_
  intro v7 j7
  replace Lr := Lr.trans ((j5.trans j6).trans j7)
  have hX : Blk v7 g5 35 (List.replicate 8 (Value.int .u32 0)) := Blk.later hb5 (j6.trans j7)
  have hY : Blk v7 g6 35 (List.replicate 8 (Value.int .u32 0)) := Blk.later hb6 j7
  have hne : g5 ≠ g6 := fun e => hn6 (.inl e.symm)
  have hs2 := h2.lt
  replace h1 := h1.later Lr
  replace h2 := h2.later Lr
  replace L0 := L0.trans Lr
  have hgg5 : w.heap.size + 1 < g5 := Nat.lt_of_lt_of_le hs2 hg5
  have hgg6 : w.heap.size + 1 < g6 := Nat.lt_of_lt_of_le hs2 hg6
  clear j5 j6 j7 hb5 hb6 Lr hn6 hg5 hg6 hs2 hl2
  simp only [Option.bind_some, Act.put, List.setIfInBounds_toArray, List.set_cons_succ, List.set_cons_zero]
  go_wp2_with (first
    | (refine store_N rfl rfl _ _ rfl hX rfl rfl rfl ?_; intro w3 hb3 ho3
       have hY3 := hY.only ho3 (fun e => hne e.symm))
    | (refine store_N rfl rfl _ _ rfl hY3 rfl rfl rfl ?_; intro w4 hb4 ho4)
    | fail)
  have hx := hb3.only ho4 hne
  have hy := hb4
  replace h1 := (h1.only ho3 (by omega)).only ho4 (by omega)
  replace h2 := (h2.only ho3 (by omega)).only ho4 (by omega)
  replace L0 := (L0.only ho3 (by omega)).only ho4 (by omega)
  clear hb3 hb4 hX hY hY3 ho3 ho4
  replace h1 := h1.drew
  replace h2 := h2.drew
  replace hx := hx.drew
  replace hy := hy.drew
  replace L0 := L0.trans (later_drew _)
  refine wp_region_parts [([0, 2], 1), ([], 3), ([4, 5, 6, 8, 9], 7), ([10, 11, 12, 13, 15], 14), ([], 16)] [17, 18] [] (by as_aux_lemma => kernel_rfl) (by as_aux_lemma => kernel_rfl) (by intro _ _ d _ _ h; cases d <;> exact h) ?_
  simp only [wpParts, pick, List.getElem?_cons_succ, List.getElem?_cons_zero, Option.toList_some, List.cons_append, List.nil_append]
  repeat (first | go_big_quiet_skip | (go_big_quiet_want; (first | refine quiet_4 _ rfl h1 rfl ?_ | refine quiet_4 _ rfl h2 rfl ?_ | refine quiet_N _ rfl hx rfl ?_ | refine quiet_N _ rfl hy rfl ?_ | refine quiet_build1 n hn _ rfl rfl ?_); simp only [Act.put, List.setIfInBounds_toArray, List.set_cons_succ, List.set_cons_zero]; go_big_quiet_on) | (go_big_quiet_step (fail)))
  refine wpQuiet_nil ?_
  go_wp2_with fail
  (with_reducible refine (cNorm.out _).mono ?_); rintro e u ⟨rfl, k0⟩
  replace h1 := h1.later k0
  replace h2 := h2.later k0
  replace hx := hx.later k0
  replace hy := hy.later k0
  replace L0 := L0.trans k0
  go_wp2_with fail
  try refine ⟨by first | assumption | exact later_drew _ | exact later_alloc _ _ | exact Later.refl _, ?_⟩
  try simp only [wpParts, pick, List.getElem?_cons_succ, List.getElem?_cons_zero, Option.toList_some, List.cons_append, List.nil_append]
  repeat (first | go_big_quiet_skip | (go_big_quiet_want; (first | refine quiet_4 _ rfl h1 rfl ?_ | refine quiet_4 _ rfl h2 rfl ?_ | refine quiet_N _ rfl hx rfl ?_ | refine quiet_N _ rfl hy rfl ?_ | refine quiet_build1 n hn _ rfl rfl ?_); simp only [Act.put, List.setIfInBounds_toArray, List.set_cons_succ, List.set_cons_zero]; go_big_quiet_on) | (go_big_quiet_step (fail)))
  refine wpQuiet_nil ?_
  clear k0
  go_wp2_with fail
  (with_reducible refine (cIs.out _).mono ?_); rintro e u ⟨rfl, k0⟩
  replace h1 := h1.later k0
  replace h2 := h2.later k0
  replace hx := hx.later k0
  replace hy := hy.later k0
  replace L0 := L0.trans k0
  go_wp2_with fail
  try refine ⟨by first | assumption | exact later_drew _ | exact later_alloc _ _ | exact Later.refl _, ?_⟩
  try simp only [wpParts, pick, List.getElem?_cons_succ, List.getElem?_cons_zero, Option.toList_some, List.cons_append, List.nil_append]
  repeat (first | go_big_quiet_skip | (go_big_quiet_want; (first | refine quiet_4 _ rfl h1 rfl ?_ | refine quiet_4 _ rfl h2 rfl ?_ | refine quiet_N _ rfl hx rfl ?_ | refine quiet_N _ rfl hy rfl ?_ | refine quiet_build1 n hn _ rfl rfl ?_); simp only [Act.put, List.setIfInBounds_toArray, List.set_cons_succ, List.set_cons_zero]; go_big_quiet_on) | (go_big_quiet_step (fail)))
  refine wpQuiet_nil ?_
  clear k0
  go_wp2_with fail
  (with_reducible refine (cOf.out _).mono ?_); rintro e u ⟨rfl, k0⟩
  replace h1 := h1.later k0
  replace h2 := h2.later k0
  replace hx := hx.later k0
  replace hy := hy.later k0
  replace L0 := L0.trans k0
  go_wp2_with fail
  try refine ⟨by first | assumption | exact later_drew _ | exact later_alloc _ _ | exact Later.refl _, ?_⟩
  try simp only [wpParts, pick, List.getElem?_cons_succ, List.getElem?_cons_zero, Option.toList_some, List.cons_append, List.nil_append]
  repeat (first | go_big_quiet_skip | (go_big_quiet_want; (first | refine quiet_4 _ rfl h1 rfl ?_ | refine quiet_4 _ rfl h2 rfl ?_ | refine quiet_N _ rfl hx rfl ?_ | refine quiet_N _ rfl hy rfl ?_ | refine quiet_build1 n hn _ rfl rfl ?_); simp only [Act.put, List.setIfInBounds_toArray, List.set_cons_succ, List.set_cons_zero]; go_big_quiet_on) | (go_big_quiet_step (fail)))
  refine wpQuiet_nil ?_
  clear k0
  go_wp2_with fail
  (with_reducible refine (cBy.out _).mono ?_); rintro e u ⟨rfl, k0⟩
  replace h1 := h1.later k0
  replace h2 := h2.later k0
  replace hx := hx.later k0
  replace hy := hy.later k0
  replace L0 := L0.trans k0
  go_wp2_with fail
  try refine ⟨by first | assumption | exact later_drew _ | exact later_alloc _ _ | exact Later.refl _, ?_⟩
  try simp only [wpParts, pick, List.getElem?_cons_succ, List.getElem?_cons_zero, Option.toList_some, List.cons_append, List.nil_append]
  repeat (first | go_big_quiet_skip | (go_big_quiet_want; (first | refine quiet_4 _ rfl h1 rfl ?_ | refine quiet_4 _ rfl h2 rfl ?_ | refine quiet_N _ rfl hx rfl ?_ | refine quiet_N _ rfl hy rfl ?_ | refine quiet_build1 n hn _ rfl rfl ?_); simp only [Act.put, List.setIfInBounds_toArray, List.set_cons_succ, List.set_cons_zero]; go_big_quiet_on) | (go_big_quiet_step (fail)))
  refine wpQuiet_nil ?_
  clear k0
  go_wp2_with fail
  (with_reducible refine (cBr.out _).mono ?_); rintro e u ⟨rfl, k0⟩
  replace h1 := h1.later k0
  replace h2 := h2.later k0
  replace hx := hx.later k0
  replace hy := hy.later k0
  replace L0 := L0.trans k0
  go_wp2_with fail
  try refine ⟨by first | assumption | exact later_drew _ | exact later_alloc _ _ | exact Later.refl _, ?_⟩
  try simp only [wpParts, pick, List.getElem?_cons_succ, List.getElem?_cons_zero, Option.toList_some, List.cons_append, List.nil_append]
  repeat (first | go_big_quiet_skip | (go_big_quiet_want; (first | refine quiet_4 _ rfl h1 rfl ?_ | refine quiet_4 _ rfl h2 rfl ?_ | refine quiet_N _ rfl hx rfl ?_ | refine quiet_N _ rfl hy rfl ?_ | refine quiet_build1 n hn _ rfl rfl ?_); simp only [Act.put, List.setIfInBounds_toArray, List.set_cons_succ, List.set_cons_zero]; go_big_quiet_on) | (go_big_quiet_step (fail)))
  refine wpQuiet_nil ?_
  clear k0
  go_wp2_with fail
  have dx := hx.drew.cellD 0 (NL_get x 0 (by omega))
  have hl0 := HL0.out
  have hx2 : (x % 2 < B32) = True := eq_true (Nat.lt_trans (Nat.mod_lt _ (by omega)) (by decide : 2 < B32))
  replace h1 := h1.drew
  replace h2 := h2.drew
  replace hx := hx.drew
  replace hy := hy.drew
  replace L0 := L0.trans (later_drew _)
  refine wp_region_parts [([0, 1, 3, 4, 5], 2), ([6, 7, 8, 10, 11, 12, 13], 9)] [14, 15, 16] [] (by as_aux_lemma => kernel_rfl) (by as_aux_lemma => kernel_rfl) (by intro _ _ d _ _ h; cases d <;> exact h) ?_
  simp only [wpParts, pick, List.getElem?_cons_succ, List.getElem?_cons_zero, Option.toList_some, List.cons_append, List.nil_append]
  repeat (first | go_big_quiet_skip | (go_big_quiet_want; (first | refine quiet_4 _ rfl h1 rfl ?_ | refine quiet_4 _ rfl h2 rfl ?_ | refine quiet_N _ rfl hx rfl ?_ | refine quiet_N _ rfl hy rfl ?_ | refine quiet_build1 n hn _ rfl rfl ?_); simp only [Act.put, List.setIfInBounds_toArray, List.set_cons_succ, List.set_cons_zero]; go_big_quiet_on) | (go_big_quiet_step (fail)))
  refine wpQuiet_nil ?_
  go_wp2_with fail
  (with_reducible refine (cFi.out _).mono ?_); rintro e u ⟨rfl, k0⟩
  replace h1 := h1.later k0
  replace h2 := h2.later k0
  replace hx := hx.later k0
  replace hy := hy.later k0
  replace L0 := L0.trans k0
  obtain ⟨z, hz⟩ : ∃ z, z = (x == y) := ⟨_, rfl⟩
  rw [← hz]
  have hxy : ∀ W, (binOp .eql 35 (NN x) (NN y)).run Try.prog W = .ok (.bool z) W := fun W => by rw [run_eql_N _ _ haT hbT, hz]
  clear hz
  replace dx := hx.cellD 0 (NL_get x 0 (by omega))
  go_wp2_with fail
  try refine ⟨by first | assumption | exact later_drew _ | exact later_alloc _ _ | exact Later.refl _, ?_⟩
  try simp only [wpParts, pick, List.getElem?_cons_succ, List.getElem?_cons_zero, Option.toList_some, List.cons_append, List.nil_append]
  repeat (first | go_big_quiet_skip | (go_big_quiet_want; (first | refine quiet_4 _ rfl h1 rfl ?_ | refine quiet_4 _ rfl h2 rfl ?_ | refine quiet_N _ rfl hx rfl ?_ | refine quiet_N _ rfl hy rfl ?_ | refine quiet_build1 n hn _ rfl rfl ?_); simp only [Act.put, List.setIfInBounds_toArray, List.set_cons_succ, List.set_cons_zero]; go_big_quiet_on) | (go_big_quiet_step (fail)))
  refine wpQuiet_nil ?_
  clear k0
  go_wp2_with fail
  (with_reducible refine (cOdd.out _).mono ?_); rintro e u ⟨rfl, k0⟩
  replace h1 := h1.later k0
  replace h2 := h2.later k0
  replace hx := hx.later k0
  replace hy := hy.later k0
  replace L0 := L0.trans k0
  go_wp2_with fail
  try refine ⟨by first | assumption | exact later_drew _ | exact later_alloc _ _ | exact Later.refl _, ?_⟩
  try simp only [wpParts, pick, List.getElem?_cons_succ, List.getElem?_cons_zero, Option.toList_some, List.cons_append, List.nil_append]
  repeat (first | go_big_quiet_skip | (go_big_quiet_want; (first | refine quiet_4 _ rfl h1 rfl ?_ | refine quiet_4 _ rfl h2 rfl ?_ | refine quiet_N _ rfl hx rfl ?_ | refine quiet_N _ rfl hy rfl ?_ | refine quiet_build1 n hn _ rfl rfl ?_); simp only [Act.put, List.setIfInBounds_toArray, List.set_cons_succ, List.set_cons_zero]; go_big_quiet_on) | (go_big_quiet_step (fail)))
  refine wpQuiet_nil ?_
  clear k0
  go_wp2
  go_ret
  exact ⟨rfl, L0⟩
end Go.Proofs.Ytmdjhbiiifnfiaa
