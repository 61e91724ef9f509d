/-
  curve's ladder: step.
-/
import Derived.Test.YtmdjhbiiifnfiaaCurve2
namespace Go.Proofs.Ytmdjhbiiifnfiaa
open Go.RowKit
open Go.BigFrame

theorem Only.past {g j : Nat} {a b c : World} (h : Only g a b) (k : Only j b c) (hj : a.heap.size ≤ j) : Only g a c :=
  World.grownBy.andThen h k (fun i e => .inl (by injection e with e; omega))
theorem fadd_T (a b : Nat) : fadd a b < T256 := Nat.lt_trans (Nat.mod_lt _ P25_pos) (by decide)
theorem fsub_T (a b : Nat) : fsub a b < T256 := Nat.lt_trans (Nat.mod_lt _ P25_pos) (by decide)
theorem fmul_T (a b : Nat) : fmul a b < T256 := Nat.lt_trans (Nat.mod_lt _ P25_pos) (by decide)
theorem sum2 (x y : Nat) (hx : x < T256) (hy : y < T256) (w : World) (g : Nat) (hb : Blk w g 28 (EL x ++ EL y)) :
    Calls Try.prog 35 #[.slice (some ⟨g, 0, none⟩) 2 2] w fun e w' => e = .returned (E (fadd x y)) ∧ Later w w' := by
  have := sum_any (some ⟨g, 0, none⟩) 2 2 [x, y] w (rdE_new [x, y] 2 hb (by simp) rfl) (by intro z hz; simp at hz; rcases hz with rfl | rfl; exact hx; exact hy) (by omega)
  rwa [show [x, y].sum = x + y by simp] at this
theorem product2 (x y : Nat) (hx : x < T256) (hy : y < T256) (w : World) (g : Nat) (hb : Blk w g 28 (EL x ++ EL y)) :
    Calls Try.prog 25 #[.slice (some ⟨g, 0, none⟩) 2 2] w fun e w' => e = .returned (E (fmul x y)) ∧ Later w w' := by
  have := product_any (some ⟨g, 0, none⟩) 2 2 [x, y] w (rdE_new [x, y] 2 hb (by simp) rfl) (by intro z hz; simp at hz; rcases hz with rfl | rfl; exact hx; exact hy) (by omega) (by omega)
  rwa [show prodN [x, y] = x * y by simp [prodN]] at this
theorem square1 (x : Nat) (hx : x < T256) (w : World) :
    Calls Try.prog 42 #[E x] w fun e w' => e = .returned (E (fmul x x)) ∧ Later w w' := square_any x hx w
theorem sub2 (x y : Nat) (hx : x < T256) (hy : y < T256) (w : World) :
    Calls Try.prog 40 #[E x, E y] w fun e w' => e = .returned (E (fsub x y)) ∧ Later w w' := fsub_any x y hx hy w
section
variable {ops : Array Oper} {o : Oper} {a : Act}
theorem makes_row2 (hw : Region.wanted o (yielded ops a.tmps) = true) (x y : Operand) (ho : o.op = .buildSlice 56 2 #[(0, x), (1, y)]) (n m : Nat) (hx : a.eval x = E n) (hy : a.eval y = E m) :
    Makes Try.prog ops o (fun g => .slice (some ⟨g, 0, none⟩) 2 2) (.cells (EL n ++ EL m).toArray 28) a :=
  ⟨hw, fun w => by
    have hr := run_build2 n m w
    simp only [execOp, ho, List.map_toArray, List.map_cons, List.map_nil, hx, hy, Sem.run_bind, hr, Result.andThen_ok, Sem.run_pure]⟩
theorem makes_cell (hw : Region.wanted o (yielded ops a.tmps) = true) (ho : o.op = .alloc 28) :
    Makes Try.prog ops o (fun g => .pointer (some ⟨g, 0, none⟩)) (.cells (List.replicate 4 (.int .u64 0)).toArray 28) a :=
  ⟨hw, fun w => by
    unfold execOp
    rw [ho]
    simp [go_sem]⟩
end
/-- A block that is worked on, with elements of one's own that were made on the way. -/
structure St (w0 wk : World) (g : Nat) (t : TypeId) (l : List Value) (ls : List (Nat × Nat)) : Prop where
  only : Only g w0 wk
  blk : Blk wk g t l
  loc : ∀ p ∈ ls, Blk wk p.1 28 (EL p.2) ∧ w0.heap.size ≤ p.1
  gl : g < w0.heap.size
section
variable {w0 wk v : World} {g : Nat} {t : TypeId} {l : List Value} {ls : List (Nat × Nat)}
theorem St.nth (h : St w0 wk g t l ls) (i : Nat) {k n : Nat} (hi : ls[i]? = some (k, n)) : Blk wk k 28 (EL n) := (h.loc (k, n) (List.mem_of_getElem? hi)).1
theorem St.later (h : St w0 wk g t l ls) (k : Later wk v) : St w0 v g t l ls :=
  ⟨h.only.later k, h.blk.later k, fun p hp => ⟨(h.loc p hp).1.later k, (h.loc p hp).2⟩, h.gl⟩
theorem St.drew (h : St w0 wk g t l ls) : St w0 wk.drew g t l ls := h.later (later_drew _)
theorem St.write {l' : List Value} (h : St w0 wk g t l ls) (k : Only g wk v) (hb : Blk v g t l') : St w0 v g t l' ls :=
  ⟨h.only.trans k, hb, fun p hp => ⟨(h.loc p hp).1.only k (by have := (h.loc p hp).2; have := h.gl; omega), (h.loc p hp).2⟩, h.gl⟩
/-- A new element, stored. -/
theorem St.one {v1 : World} {k n : Nat} (h : St w0 wk g t l ls) (j : Later wk v) (hk : wk.heap.size ≤ k) (o : Only k v v1) (hb : Blk v1 k 28 (EL n)) : St w0 v1 g t l ((k, n) :: ls) := by
  have h1 := h.later j
  have hs := h.only.size
  refine ⟨h1.only.past o (by omega), h1.blk.only o (by have := h.blk.lt; omega), ?_, h.gl⟩
  intro p hp
  rcases List.mem_cons.1 hp with rfl | hp
  · exact ⟨hb, by show w0.heap.size ≤ k; omega⟩
  · exact ⟨(h1.loc p hp).1.only o (by have := (h.loc p hp).1.lt; omega), (h.loc p hp).2⟩
/-- Two new elements, stored. -/
theorem St.two {v1 v2 : World} {k1 k2 n1 n2 : Nat} (h : St w0 wk g t l ls) (j : Later wk v) (hk1 : wk.heap.size ≤ k1) (hk2 : wk.heap.size ≤ k2) (hne : k1 ≠ k2) (o1 : Only k1 v v1) (hb1 : Blk v1 k1 28 (EL n1)) (o2 : Only k2 v1 v2) (hb2 : Blk v2 k2 28 (EL n2)) : St w0 v2 g t l ((k1, n1) :: (k2, n2) :: ls) := by
  have h1 := h.later j
  have hs := h.only.size
  refine ⟨(h1.only.past o1 (by omega)).past o2 (by omega), (h1.blk.only o1 (by have := h.blk.lt; omega)).only o2 (by have := h.blk.lt; omega), ?_, h.gl⟩
  intro p hp
  rcases List.mem_cons.1 hp with rfl | hp
  · exact ⟨hb1.only o2 hne, by show w0.heap.size ≤ k1; omega⟩
  rcases List.mem_cons.1 hp with rfl | hp
  · exact ⟨hb2, by show w0.heap.size ≤ k2; omega⟩
  · exact ⟨((h1.loc p hp).1.only o1 (by have := (h.loc p hp).1.lt; omega)).only o2 (by have := (h.loc p hp).1.lt; omega), (h.loc p hp).2⟩
end
set_option maxRecDepth 100000 in
set_option maxHeartbeats 8000000 in
theorem ladder_step (g : Nat) (t : TypeId) (x1 x2 z2 x3 z3 : Nat) (k1 : x1 < T256) (k2 : x2 < T256) (k3 : z2 < T256) (k4 : x3 < T256) (k5 : z3 < T256) (w : World) (hb : Blk w g t (L5 x1 x2 z2 x3 z3)) :
    Calls Try.prog 71 #[.pointer (some ⟨g, 0, none⟩)] w fun e w' => e = .returned (.tuple #[]) ∧ Blk w' g t (L5 x1
      (fmul (fmul (fadd x2 z2) (fadd x2 z2)) (fmul (fsub x2 z2) (fsub x2 z2)))
      (fmul (fsub (fmul (fadd x2 z2) (fadd x2 z2)) (fmul (fsub x2 z2) (fsub x2 z2))) (fadd (fmul (fadd x2 z2) (fadd x2 z2)) (fmul 121665 (fsub (fmul (fadd x2 z2) (fadd x2 z2)) (fmul (fsub x2 z2) (fsub x2 z2))))))
      (fmul (fadd (fmul (fsub x3 z3) (fadd x2 z2)) (fmul (fadd x3 z3) (fsub x2 z2))) (fadd (fmul (fsub x3 z3) (fadd x2 z2)) (fmul (fadd x3 z3) (fsub x2 z2))))
      (fmul x1 (fmul (fsub (fmul (fsub x3 z3) (fadd x2 z2)) (fmul (fadd x3 z3) (fsub x2 z2))) (fsub (fmul (fsub x3 z3) (fadd x2 z2)) (fmul (fadd x3 z3) (fsub x2 z2)))))) ∧ Only g w w' := by
  have cA := hid (sum2 x2 z2 k2 k3)
  have cB := hid (sub2 x2 z2 k2 k3)
  have cC := hid (sum2 x3 z3 k4 k5)
  have cD := hid (sub2 x3 z3 k4 k5)
  have tA := fadd_T x2 z2
  have tB := fsub_T x2 z2
  have tC := fadd_T x3 z3
  have tD := fsub_T x3 z3
  generalize fadd x2 z2 = A at *
  generalize fsub x2 z2 = B at *
  generalize fadd x3 z3 = C at *
  generalize fsub x3 z3 = D at *
  have cAA := hid (square1 A tA)
  have cBB := hid (square1 B tB)
  have cDA := hid (product2 D A tD tA)
  have cCB := hid (product2 C B tC tB)
  have tAA := fmul_T A A
  have tBB := fmul_T B B
  have tDA := fmul_T D A
  have tCB := fmul_T C B
  generalize fmul A A = AA at *
  generalize fmul B B = BB at *
  generalize fmul D A = DA at *
  generalize fmul C B = CB at *
  have cF := hid (sub2 AA BB tAA tBB)
  have tF := fsub_T AA BB
  have cS := hid (sum2 DA CB tDA tCB)
  have tS := fadd_T DA CB
  have cG := hid (sub2 DA CB tDA tCB)
  have tG := fsub_T DA CB
  have cX2 := hid (product2 AA BB tAA tBB)
  generalize fsub AA BB = F at *
  generalize fadd DA CB = S at *
  generalize fsub DA CB = G at *
  generalize fmul AA BB = X2 at *
  have cSS := hid (square1 S tS)
  have cGG := hid (square1 G tG)
  have tGG := fmul_T G G
  have cM := hid (product2 121665 F (by decide) tF)
  have tM := fmul_T 121665 F
  generalize fmul S S = X3 at *
  generalize fmul G G = GG at *
  generalize fmul 121665 F = M at *
  have cZ3 := hid (product2 x1 GG k1 tGG)
  have cN := hid (sum2 AA M tAA tM)
  have tN := fadd_T AA M
  generalize fmul x1 GG = Z3 at *
  generalize fadd AA M = N at *
  have cZ2 := hid (product2 F N tF tN)
  generalize fmul F N = Z2 at *
  have cOf : Hid (∀ w, Calls Try.prog 20 #[.int .u64 121665] w fun e w' => e = .returned (E 121665) ∧ Later w w') := hid (of_any 121665 (by decide))
  clear tA tB tC tD tAA tBB tDA tCB tF tS tG tGG tM tN k1 k2 k3 k4 k5
  have S0 : St w w g t (L5 x1 x2 z2 x3 z3) [] := ⟨World.grownBy.refl w _, hb, by simp, hb.lt⟩
  go_enter Try.func71, Try.ntmps71
  go_wp2_with fail
  refine wp_region_makers [0, 1, 2, 3, 4, 5, 6, 7, 10, 11, 12, 13, 14, 15, 16, 17] [([], 2, 8), ([], 1, 9), ([], 1, 18), ([], 2, 19), ([], 2, 20)] [] [21, 22] [8, 19, 20] (fun i => if i = 8 then (fun g => .slice (some ⟨g, 0, none⟩) 2 2, .cells (EL x2 ++ EL z2).toArray 28) else (fun g => .pointer (some ⟨g, 0, none⟩), .cells (List.replicate 4 (Value.int .u64 0)).toArray 28)) (by as_aux_lemma => kernel_rfl) (by as_aux_lemma => kernel_rfl) (by intro _ _ d _ _ h; cases d <;> exact h) (by intro _ _ d _ _ h; cases d <;> exact h) ?_
  simp only [pick, List.getElem?_cons_succ, List.getElem?_cons_zero, Option.toList_some, List.cons_append, List.nil_append]
  repeat (first | go_big_quiet_skip | (go_big_quiet_want; (first | refine quiet_at _ rfl S0.drew.blk (fun j v hv => L5_1 _ _ _ _ _ j v hv) rfl ?_ | refine quiet_at _ rfl S0.drew.blk (fun j v hv => L5_2 _ _ _ _ _ j v hv) rfl ?_); simp only [Act.put, List.setIfInBounds_toArray, List.set_cons_succ, List.set_cons_zero]; go_big_quiet_on) | (go_big_quiet_step (fail)))
  refine wpQuiet_nil ?_
  refine ⟨?mk, ?_⟩
  case mk =>
    refine ⟨fun o ho => ?_, fun o ho => ?_, fun o ho => ?_, trivial⟩
    all_goals
      simp only [List.getElem?_cons_succ, List.getElem?_cons_zero, Option.some.injEq] at ho
      subst ho
    · exact makes_row2 rfl _ _ rfl x2 z2 rfl rfl
    · exact makes_cell rfl rfl
    · exact makes_cell rfl rfl
  simp only [wpPartsM, pick, List.getElem?_cons_succ, List.getElem?_cons_zero, Option.toList_some, List.cons_append, List.nil_append, reduceIte, Option.bind_some]
  refine wpQuiet_nil ?_
  intro aa gx j1 _ _ hx1
  have hx2 : Blk aa gx 28 (EL x2 ++ EL z2) := hx1
  refine wpQuiet_nil ?_
  intro ab j2
  go_wp2_with fail
  (with_reducible refine (cA.out _ gx (hx2.later j2)).mono ?_); rintro e ac ⟨rfl, j3⟩
  go_wp2_with fail
  try refine ⟨by first | assumption | exact later_drew _ | exact later_alloc _ _ | exact Later.refl _, ?_⟩
  try simp only [wpParts, pick, List.getElem?_cons_succ, List.getElem?_cons_zero, Option.toList_some, List.cons_append, List.nil_append]
  repeat (go_big_quiet_step (fail))
  refine wpQuiet_nil ?_
  intro ad j4
  go_wp2_with fail
  (with_reducible refine (cB.out _).mono ?_); rintro e ae ⟨rfl, j5⟩
  go_wp2_with fail
  try refine ⟨by first | assumption | exact later_drew _ | exact later_alloc _ _ | exact Later.refl _, ?_⟩
  try simp only [wpParts, pick, List.getElem?_cons_succ, List.getElem?_cons_zero, Option.toList_some, List.cons_append, List.nil_append]
  repeat (go_big_quiet_step (fail))
  refine wpQuiet_nil ?_
  have j0 := ((((later_drew _).trans j1).trans j2).trans j3).trans (j4.trans j5)
  clear j1 j2 j3 j4 j5 hx1 hx2
  intro a1 gA i1 hg1 _ hb1
  refine wpQuiet_nil ?_
  intro a2 gB i2 hg2 hn2 hb2
  refine wpQuiet_nil ?_
  intro a3 i3
  have hne : gA ≠ gB := fun e => hn2 (.inl e.symm)
  have hX : Blk a3 gA 28 (List.replicate 4 (Value.int .u64 0)) := Blk.later (show Blk a1 gA _ _ from hb1) (i2.trans i3)
  have hY : Blk a3 gB 28 (List.replicate 4 (Value.int .u64 0)) := Blk.later (show Blk a2 gB _ _ from hb2) i3
  have jj := j0.trans (i1.trans (i2.trans i3))
  clear hb1 hb2 i1 i2 i3 hn2
  simp only [List.getElem?_cons_succ, List.getElem?_cons_zero, Option.bind_some, Act.put, List.setIfInBounds_toArray, List.set_cons_succ, List.set_cons_zero]
  go_wp2_with (first
    | (refine store_E rfl rfl _ _ rfl hX rfl rfl rfl ?_; intro a4 hb3 ho3
       have hY3 := hY.only ho3 (fun e => hne e.symm))
    | (refine store_E rfl rfl _ _ rfl hY3 rfl rfl rfl ?_; intro a5 hb4 ho4
       have S1 := S0.two jj hg1 hg2 hne ho3 hb3 ho4 hb4)
    | fail)
  clear jj hX hY hY3 hg1 hg2 hne ho3 hb3 ho4 hb4 S0
  clear j0 cA cB
  go_wp2_with fail
  refine wp_region_makers [0, 1, 2, 3, 4, 5, 6, 7, 10, 11, 12, 13, 14, 15, 16, 17] [([], 2, 8), ([], 1, 9), ([], 1, 18), ([], 2, 19), ([], 2, 20)] [] [21, 22] [8, 19, 20] (fun i => if i = 8 then (fun g => .slice (some ⟨g, 0, none⟩) 2 2, .cells (EL x3 ++ EL z3).toArray 28) else (fun g => .pointer (some ⟨g, 0, none⟩), .cells (List.replicate 4 (Value.int .u64 0)).toArray 28)) (by as_aux_lemma => kernel_rfl) (by as_aux_lemma => kernel_rfl) (by intro _ _ d _ _ h; cases d <;> exact h) (by intro _ _ d _ _ h; cases d <;> exact h) ?_
  simp only [pick, List.getElem?_cons_succ, List.getElem?_cons_zero, Option.toList_some, List.cons_append, List.nil_append]
  repeat (first | go_big_quiet_skip | (go_big_quiet_want; (first | refine quiet_at _ rfl S1.drew.blk (fun j v hv => L5_3 _ _ _ _ _ j v hv) rfl ?_ | refine quiet_at _ rfl S1.drew.blk (fun j v hv => L5_4 _ _ _ _ _ j v hv) rfl ?_); simp only [Act.put, List.setIfInBounds_toArray, List.set_cons_succ, List.set_cons_zero]; go_big_quiet_on) | (go_big_quiet_step (fail)))
  refine wpQuiet_nil ?_
  refine ⟨?mk, ?_⟩
  case mk =>
    refine ⟨fun o ho => ?_, fun o ho => ?_, fun o ho => ?_, trivial⟩
    all_goals
      simp only [List.getElem?_cons_succ, List.getElem?_cons_zero, Option.some.injEq] at ho
      subst ho
    · exact makes_row2 rfl _ _ rfl x3 z3 rfl rfl
    · exact makes_cell rfl rfl
    · exact makes_cell rfl rfl
  simp only [wpPartsM, pick, List.getElem?_cons_succ, List.getElem?_cons_zero, Option.toList_some, List.cons_append, List.nil_append, reduceIte, Option.bind_some]
  refine wpQuiet_nil ?_
  intro ba gx j1 _ _ hx1
  have hx2 : Blk ba gx 28 (EL x3 ++ EL z3) := hx1
  refine wpQuiet_nil ?_
  intro bb j2
  go_wp2_with fail
  (with_reducible refine (cC.out _ gx (hx2.later j2)).mono ?_); rintro e bc ⟨rfl, j3⟩
  go_wp2_with fail
  try refine ⟨by first | assumption | exact later_drew _ | exact later_alloc _ _ | exact Later.refl _, ?_⟩
  try simp only [wpParts, pick, List.getElem?_cons_succ, List.getElem?_cons_zero, Option.toList_some, List.cons_append, List.nil_append]
  repeat (go_big_quiet_step (fail))
  refine wpQuiet_nil ?_
  intro bd j4
  go_wp2_with fail
  (with_reducible refine (cD.out _).mono ?_); rintro e be ⟨rfl, j5⟩
  go_wp2_with fail
  try refine ⟨by first | assumption | exact later_drew _ | exact later_alloc _ _ | exact Later.refl _, ?_⟩
  try simp only [wpParts, pick, List.getElem?_cons_succ, List.getElem?_cons_zero, Option.toList_some, List.cons_append, List.nil_append]
  repeat (go_big_quiet_step (fail))
  refine wpQuiet_nil ?_
  have j0 := ((((later_drew _).trans j1).trans j2).trans j3).trans (j4.trans j5)
  clear j1 j2 j3 j4 j5 hx1 hx2
  intro b1 gC i1 hg1 _ hb1
  refine wpQuiet_nil ?_
  intro b2 gD i2 hg2 hn2 hb2
  refine wpQuiet_nil ?_
  intro b3 i3
  have hne : gC ≠ gD := fun e => hn2 (.inl e.symm)
  have hX : Blk b3 gC 28 (List.replicate 4 (Value.int .u64 0)) := Blk.later (show Blk b1 gC _ _ from hb1) (i2.trans i3)
  have hY : Blk b3 gD 28 (List.replicate 4 (Value.int .u64 0)) := Blk.later (show Blk b2 gD _ _ from hb2) i3
  have jj := j0.trans (i1.trans (i2.trans i3))
  clear hb1 hb2 i1 i2 i3 hn2
  simp only [List.getElem?_cons_succ, List.getElem?_cons_zero, Option.bind_some, Act.put, List.setIfInBounds_toArray, List.set_cons_succ, List.set_cons_zero]
  go_wp2_with (first
    | (refine store_E rfl rfl _ _ rfl hX rfl rfl rfl ?_; intro b4 hb3 ho3
       have hY3 := hY.only ho3 (fun e => hne e.symm))
    | (refine store_E rfl rfl _ _ rfl hY3 rfl rfl rfl ?_; intro b5 hb4 ho4
       have S2 := S1.two jj hg1 hg2 hne ho3 hb3 ho4 hb4)
    | fail)
  clear jj hX hY hY3 hg1 hg2 hne ho3 hb3 ho4 hb4 S1
  clear j0 cC cD
  go_wp2_with fail
  refine wp_region_makers [0, 2] [([], 1, 1), ([], 1, 3), ([], 2, 4), ([], 2, 5)] [] [6, 7] [4, 5] (fun _ => (fun g => .pointer (some ⟨g, 0, none⟩), .cells (List.replicate 4 (Value.int .u64 0)).toArray 28)) (by as_aux_lemma => kernel_rfl) (by as_aux_lemma => kernel_rfl) (by intro _ _ d _ _ h; cases d <;> exact h) (by intro _ _ d _ _ h; cases d <;> exact h) ?_
  simp only [pick, List.getElem?_cons_succ, List.getElem?_cons_zero, Option.toList_some, List.cons_append, List.nil_append]
  repeat (first | go_big_quiet_skip | (go_big_quiet_want; (first | refine quiet_E _ rfl (S2.drew.nth 2 rfl) rfl ?_ | refine quiet_E _ rfl (S2.drew.nth 3 rfl) rfl ?_); simp only [Act.put, List.setIfInBounds_toArray, List.set_cons_succ, List.set_cons_zero]; go_big_quiet_on) | (go_big_quiet_step (fail)))
  refine wpQuiet_nil ?_
  refine ⟨?mk, ?_⟩
  case mk =>
    refine ⟨fun o ho => ?_, fun o ho => ?_, trivial⟩
    all_goals
      simp only [List.getElem?_cons_succ, List.getElem?_cons_zero, Option.some.injEq] at ho
      subst ho
      exact makes_cell rfl rfl
  simp only [wpPartsM, pick, List.getElem?_cons_succ, List.getElem?_cons_zero, Option.toList_some, List.cons_append, List.nil_append, reduceIte, Option.bind_some]
  refine wpQuiet_nil ?_
  intro ca j1
  go_wp2_with fail
  (with_reducible refine (cAA.out _).mono ?_); rintro e cb ⟨rfl, j2⟩
  go_wp2_with fail
  try refine ⟨by first | assumption | exact later_drew _ | exact later_alloc _ _ | exact Later.refl _, ?_⟩
  try simp only [wpParts, pick, List.getElem?_cons_succ, List.getElem?_cons_zero, Option.toList_some, List.cons_append, List.nil_append]
  repeat (go_big_quiet_step (fail))
  refine wpQuiet_nil ?_
  intro cc j3
  go_wp2_with fail
  (with_reducible refine (cBB.out _).mono ?_); rintro e cd ⟨rfl, j4⟩
  go_wp2_with fail
  try refine ⟨by first | assumption | exact later_drew _ | exact later_alloc _ _ | exact Later.refl _, ?_⟩
  try simp only [wpParts, pick, List.getElem?_cons_succ, List.getElem?_cons_zero, Option.toList_some, List.cons_append, List.nil_append]
  repeat (go_big_quiet_step (fail))
  refine wpQuiet_nil ?_
  have j0 := (((later_drew _).trans j1).trans j2).trans (j3.trans j4)
  clear j1 j2 j3 j4
  intro c1 gAA i1 hg1 _ hb1
  refine wpQuiet_nil ?_
  intro c2 gBB i2 hg2 hn2 hb2
  refine wpQuiet_nil ?_
  intro c3 i3
  have hne : gAA ≠ gBB := fun e => hn2 (.inl e.symm)
  have hX : Blk c3 gAA 28 (List.replicate 4 (Value.int .u64 0)) := Blk.later (show Blk c1 gAA _ _ from hb1) (i2.trans i3)
  have hY : Blk c3 gBB 28 (List.replicate 4 (Value.int .u64 0)) := Blk.later (show Blk c2 gBB _ _ from hb2) i3
  have jj := j0.trans (i1.trans (i2.trans i3))
  clear hb1 hb2 i1 i2 i3 hn2
  simp only [List.getElem?_cons_succ, List.getElem?_cons_zero, Option.bind_some, Act.put, List.setIfInBounds_toArray, List.set_cons_succ, List.set_cons_zero]
  go_wp2_with (first
    | (refine store_E rfl rfl _ _ rfl hX rfl rfl rfl ?_; intro c4 hb3 ho3
       have hY3 := hY.only ho3 (fun e => hne e.symm))
    | (refine store_E rfl rfl _ _ rfl hY3 rfl rfl rfl ?_; intro c5 hb4 ho4
       have S3 := S2.two jj hg1 hg2 hne ho3 hb3 ho4 hb4
       have q0 := S3.nth 0 rfl
       have q1 := S3.nth 1 rfl)
    | (refine load_E rfl _ rfl q0 rfl ?_)
    | (refine load_E rfl _ rfl q1 rfl ?_)
    | fail)
  clear jj hX hY hY3 hg1 hg2 hne ho3 hb3 ho4 hb4 S2
  clear j0 cAA cBB
  (with_reducible refine (cF.out _).mono ?_); rintro e d1 ⟨rfl, j1⟩
  go_wp2_with (first
    | (refine store_E rfl rfl _ _ rfl (Blk.new d1 _ (List.replicate 4 (.int .u64 0))) rfl rfl rfl ?_; intro d2 hb3 ho3)
    | fail)
  have S4 := S3.one (j1.trans (later_alloc d1 _)) j1.size ho3 hb3
  clear j1 hb3 ho3 S3 cF q0 q1
  generalize hgF : d1.heap.size = gF at *
  clear hgF
  refine wp_region_makers [0, 1, 4, 5] [([], 2, 2), ([], 1, 3), ([], 2, 6), ([], 1, 7), ([], 2, 8), ([], 2, 9)] [] [10, 11] [2, 6, 8, 9] (fun i => if i = 2 then (fun g => .slice (some ⟨g, 0, none⟩) 2 2, .cells (EL D ++ EL A).toArray 28) else if i = 6 then (fun g => .slice (some ⟨g, 0, none⟩) 2 2, .cells (EL C ++ EL B).toArray 28) else (fun g => .pointer (some ⟨g, 0, none⟩), .cells (List.replicate 4 (Value.int .u64 0)).toArray 28)) (by as_aux_lemma => kernel_rfl) (by as_aux_lemma => kernel_rfl) (by intro _ _ d _ _ h; cases d <;> exact h) (by intro _ _ d _ _ h; cases d <;> exact h) ?_
  simp only [pick, List.getElem?_cons_succ, List.getElem?_cons_zero, Option.toList_some, List.cons_append, List.nil_append]
  repeat (first | go_big_quiet_skip | (go_big_quiet_want; (first | refine quiet_E _ rfl (S4.drew.nth 3 rfl) rfl ?_ | refine quiet_E _ rfl (S4.drew.nth 4 rfl) rfl ?_ | refine quiet_E _ rfl (S4.drew.nth 5 rfl) rfl ?_ | refine quiet_E _ rfl (S4.drew.nth 6 rfl) rfl ?_); simp only [Act.put, List.setIfInBounds_toArray, List.set_cons_succ, List.set_cons_zero]; go_big_quiet_on) | (go_big_quiet_step (fail)))
  refine wpQuiet_nil ?_
  refine ⟨?mk, ?_⟩
  case mk =>
    refine ⟨fun o ho => ?_, fun o ho => ?_, fun o ho => ?_, fun o ho => ?_, trivial⟩
    all_goals
      simp only [List.getElem?_cons_succ, List.getElem?_cons_zero, Option.some.injEq] at ho
      subst ho
    · exact makes_row2 rfl _ _ rfl D A rfl rfl
    · exact makes_row2 rfl _ _ rfl C B rfl rfl
    · exact makes_cell rfl rfl
    · exact makes_cell rfl rfl
  simp only [wpPartsM, pick, List.getElem?_cons_succ, List.getElem?_cons_zero, Option.toList_some, List.cons_append, List.nil_append, reduceIte, Option.bind_some]
  refine wpQuiet_nil ?_
  intro e1 gx j1 _ _ hx1
  have hx2 : Blk e1 gx 28 (EL D ++ EL A) := hx1
  refine wpQuiet_nil ?_
  intro e2 j2
  go_wp2_with fail
  (with_reducible refine (cDA.out _ gx (hx2.later j2)).mono ?_); rintro e e3 ⟨rfl, j3⟩
  go_wp2_with fail
  try refine ⟨by first | assumption | exact later_drew _ | exact later_alloc _ _ | exact Later.refl _, ?_⟩
  try simp only [wpParts, pick, List.getElem?_cons_succ, List.getElem?_cons_zero, Option.toList_some, List.cons_append, List.nil_append]
  repeat (go_big_quiet_step (fail))
  refine wpQuiet_nil ?_
  intro e4 gy j4 _ _ hy1
  have hy2 : Blk e4 gy 28 (EL C ++ EL B) := hy1
  refine wpQuiet_nil ?_
  intro e5 j5
  go_wp2_with fail
  (with_reducible refine (cCB.out _ gy (hy2.later j5)).mono ?_); rintro e e6 ⟨rfl, j6⟩
  go_wp2_with fail
  try refine ⟨by first | assumption | exact later_drew _ | exact later_alloc _ _ | exact Later.refl _, ?_⟩
  try simp only [wpParts, pick, List.getElem?_cons_succ, List.getElem?_cons_zero, Option.toList_some, List.cons_append, List.nil_append]
  repeat (go_big_quiet_step (fail))
  refine wpQuiet_nil ?_
  have j0 := (((later_drew _).trans j1).trans (j2.trans j3)).trans ((j4.trans j5).trans j6)
  clear j1 j2 j3 j4 j5 j6 hx1 hx2 hy1 hy2
  intro f1 gDA i1 hg1 _ hb1
  refine wpQuiet_nil ?_
  intro f2 gCB i2 hg2 hn2 hb2
  refine wpQuiet_nil ?_
  intro f3 i3
  have hne : gDA ≠ gCB := fun e => hn2 (.inl e.symm)
  have hX : Blk f3 gDA 28 (List.replicate 4 (Value.int .u64 0)) := Blk.later (show Blk f1 gDA _ _ from hb1) (i2.trans i3)
  have hY : Blk f3 gCB 28 (List.replicate 4 (Value.int .u64 0)) := Blk.later (show Blk f2 gCB _ _ from hb2) i3
  have jj := j0.trans (i1.trans (i2.trans i3))
  clear hb1 hb2 i1 i2 i3 hn2
  simp only [List.getElem?_cons_succ, List.getElem?_cons_zero, Option.bind_some, Act.put, List.setIfInBounds_toArray, List.set_cons_succ, List.set_cons_zero]
  go_wp2_with (first
    | (refine store_E rfl rfl _ _ rfl hX rfl rfl rfl ?_; intro f4 hb3 ho3
       have hY3 := hY.only ho3 (fun e => hne e.symm))
    | (refine store_E rfl rfl _ _ rfl hY3 rfl rfl rfl ?_; intro f5 hb4 ho4
       have S5 := S4.two jj hg1 hg2 hne ho3 hb3 ho4 hb4
       have q0 := S5.nth 0 rfl
       have q1 := S5.nth 1 rfl)
    | (refine load_E rfl _ rfl q0 rfl ?_)
    | (refine load_E rfl _ rfl q1 rfl ?_)
    | (refine build_row2 rfl _ _ rfl DA CB rfl rfl ?_)
    | fail)
  clear jj hX hY hY3 hg1 hg2 hne ho3 hb3 ho4 hb4 S4
  clear j0 cDA cCB
  (with_reducible refine (cS.out _ _ (Blk.new f5 _ (EL DA ++ EL CB))).mono ?_); rintro e h1 ⟨rfl, j1⟩
  go_wp2_with fail
  (with_reducible refine (cSS.out _).mono ?_); rintro e h2 ⟨rfl, j2⟩
  replace S5 := (S5.later (later_alloc f5 _)).later (j1.trans j2)
  go_wp2_with (first
    | (refine store_at rfl rfl _ _ rfl S5.blk rfl rfl (by rw [L5_length]; omega) ?_; intro h3 hb3 ho3)
    | fail)
  rw [L5_set3] at hb3
  have S6 := S5.write ho3 hb3
  clear j1 j2 hb3 ho3 S5 cS cSS q0 q1
  go_wp2_with fail
  refine wp_region_parts [([0, 1, 2, 3, 4, 5, 6], 7), ([], 8), ([], 9), ([], 10)] [11, 12] [13] (by as_aux_lemma => kernel_rfl) (by as_aux_lemma => kernel_rfl) (by intro _ _ d _ _ h; cases d <;> exact h) ?_
  simp only [wpParts, pick, List.getElem?_cons_succ, List.getElem?_cons_zero, Option.toList_some, List.cons_append, List.nil_append]
  repeat (first | go_big_quiet_skip | (go_big_quiet_want; (first | refine quiet_E _ rfl (S6.drew.nth 0 rfl) rfl ?_ | refine quiet_E _ rfl (S6.drew.nth 1 rfl) rfl ?_ | refine quiet_at _ rfl S6.drew.blk (fun j v hv => L5_0 _ _ _ _ _ j v hv) rfl ?_); simp only [Act.put, List.setIfInBounds_toArray, List.set_cons_succ, List.set_cons_zero]; go_big_quiet_on) | (go_big_quiet_step (fail)))
  refine wpQuiet_nil ?_
  go_wp2_with fail
  (with_reducible refine (cG.out _).mono ?_); rintro e p1 ⟨rfl, j1⟩
  go_wp2_with fail
  try refine ⟨by first | assumption | exact later_drew _ | exact later_alloc _ _ | exact Later.refl _, ?_⟩
  try simp only [wpParts, pick, List.getElem?_cons_succ, List.getElem?_cons_zero, Option.toList_some, List.cons_append, List.nil_append]
  repeat (go_big_quiet_step (fail))
  refine wpQuiet_nil ?_
  go_wp2_with fail
  (with_reducible refine (cGG.out _).mono ?_); rintro e p2 ⟨rfl, j2⟩
  go_wp2_with fail
  try refine ⟨by first | assumption | exact later_drew _ | exact later_alloc _ _ | exact Later.refl _, ?_⟩
  try simp only [wpParts, pick, List.getElem?_cons_succ, List.getElem?_cons_zero, Option.toList_some, List.cons_append, List.nil_append]
  repeat (go_big_quiet_step (fail))
  refine wpQuiet_nil ?_
  go_wp2_with (first
    | (refine build_row2 rfl _ _ rfl x1 GG rfl rfl ?_)
    | fail)
  refine ⟨later_alloc _ _, ?_⟩
  simp only [Act.put, List.setIfInBounds_toArray, List.set_cons_succ, List.set_cons_zero]
  refine wpQuiet_nil ?_
  go_wp2_with fail
  (with_reducible refine (cZ3.out _ _ (Blk.new p2 _ (EL x1 ++ EL GG))).mono ?_); rintro e p3 ⟨rfl, j3⟩
  replace S6 := S6.later ((((later_drew _).trans j1).trans j2).trans ((later_alloc p2 _).trans j3))
  go_wp2_with fail
  try refine ⟨by first | assumption | exact later_drew _ | exact later_alloc _ _ | exact Later.refl _, ?_⟩
  try simp only [wpParts, pick, List.getElem?_cons_succ, List.getElem?_cons_zero, Option.toList_some, List.cons_append, List.nil_append]
  repeat (go_big_quiet_step (fail))
  refine wpQuiet_nil ?_
  go_wp2_with (first
    | (refine store_at rfl rfl _ _ rfl S6.blk rfl rfl (by rw [L5_length]; omega) ?_; intro p4 hb3 ho3
       rw [L5_set4] at hb3
       have S7 := S6.write ho3 hb3
       have q3 := S7.nth 3 rfl
       have q4 := S7.nth 4 rfl)
    | (refine load_E rfl _ rfl q3 rfl ?_)
    | (refine load_E rfl _ rfl q4 rfl ?_)
    | (refine build_row2 rfl _ _ rfl AA BB rfl rfl ?_)
    | fail)
  clear j1 j2 j3 hb3 ho3 S6 q3 q4 cG cGG cZ3
  (with_reducible refine (cX2.out _ _ (Blk.new p4 _ (EL AA ++ EL BB))).mono ?_); rintro e r1 ⟨rfl, j1⟩
  replace S7 := S7.later ((later_alloc p4 _).trans j1)
  go_wp2_with (first
    | (refine store_at rfl rfl _ _ rfl S7.blk rfl rfl (by rw [L5_length]; omega) ?_; intro r2 hb3 ho3
       rw [L5_set1] at hb3
       have S8 := S7.write ho3 hb3)
    | fail)
  clear j1 hb3 ho3 S7 cX2
  refine wp_region_parts [([0, 1, 2, 4], 3), ([], 5), ([], 6), ([], 7), ([], 8), ([], 9), ([], 10)] [11, 12] [13] (by as_aux_lemma => kernel_rfl) (by as_aux_lemma => kernel_rfl) (by intro _ _ d _ _ h; cases d <;> exact h) ?_
  simp only [wpParts, pick, List.getElem?_cons_succ, List.getElem?_cons_zero, Option.toList_some, List.cons_append, List.nil_append]
  repeat (first | go_big_quiet_skip | (go_big_quiet_want; (first | refine quiet_E _ rfl (S8.drew.nth 2 rfl) rfl ?_ | refine quiet_E _ rfl (S8.drew.nth 3 rfl) rfl ?_); simp only [Act.put, List.setIfInBounds_toArray, List.set_cons_succ, List.set_cons_zero]; go_big_quiet_on) | (go_big_quiet_step (fail)))
  refine wpQuiet_nil ?_
  go_wp2_with fail
  (with_reducible refine (cOf.out _).mono ?_); rintro e u1 ⟨rfl, j1⟩
  go_wp2_with fail
  try refine ⟨by first | assumption | exact later_drew _ | exact later_alloc _ _ | exact Later.refl _, ?_⟩
  try simp only [wpParts, pick, List.getElem?_cons_succ, List.getElem?_cons_zero, Option.toList_some, List.cons_append, List.nil_append]
  repeat (go_big_quiet_step (fail))
  refine wpQuiet_nil ?_
  go_wp2_with (first
    | (refine build_row2 rfl _ _ rfl 121665 F rfl rfl ?_)
    | fail)
  refine ⟨later_alloc _ _, ?_⟩
  simp only [Act.put, List.setIfInBounds_toArray, List.set_cons_succ, List.set_cons_zero]
  refine wpQuiet_nil ?_
  go_wp2_with fail
  (with_reducible refine (cM.out _ _ (Blk.new u1 _ (EL 121665 ++ EL F))).mono ?_); rintro e u2 ⟨rfl, j2⟩
  go_wp2_with fail
  try refine ⟨by first | assumption | exact later_drew _ | exact later_alloc _ _ | exact Later.refl _, ?_⟩
  try simp only [wpParts, pick, List.getElem?_cons_succ, List.getElem?_cons_zero, Option.toList_some, List.cons_append, List.nil_append]
  repeat (go_big_quiet_step (fail))
  refine wpQuiet_nil ?_
  go_wp2_with (first
    | (refine build_row2 rfl _ _ rfl AA M rfl rfl ?_)
    | fail)
  refine ⟨later_alloc _ _, ?_⟩
  simp only [Act.put, List.setIfInBounds_toArray, List.set_cons_succ, List.set_cons_zero]
  refine wpQuiet_nil ?_
  go_wp2_with fail
  (with_reducible refine (cN.out _ _ (Blk.new u2 _ (EL AA ++ EL M))).mono ?_); rintro e u3 ⟨rfl, j3⟩
  go_wp2_with fail
  try refine ⟨by first | assumption | exact later_drew _ | exact later_alloc _ _ | exact Later.refl _, ?_⟩
  try simp only [wpParts, pick, List.getElem?_cons_succ, List.getElem?_cons_zero, Option.toList_some, List.cons_append, List.nil_append]
  repeat (go_big_quiet_step (fail))
  refine wpQuiet_nil ?_
  go_wp2_with (first
    | (refine build_row2 rfl _ _ rfl F N rfl rfl ?_)
    | fail)
  refine ⟨later_alloc _ _, ?_⟩
  simp only [Act.put, List.setIfInBounds_toArray, List.set_cons_succ, List.set_cons_zero]
  refine wpQuiet_nil ?_
  go_wp2_with fail
  (with_reducible refine (cZ2.out _ _ (Blk.new u3 _ (EL F ++ EL N))).mono ?_); rintro e u4 ⟨rfl, j4⟩
  replace S8 := S8.later ((((later_drew _).trans j1).trans ((later_alloc u1 _).trans j2)).trans (((later_alloc u2 _).trans j3).trans ((later_alloc u3 _).trans j4)))
  go_wp2_with fail
  try refine ⟨by first | assumption | exact later_drew _ | exact later_alloc _ _ | exact Later.refl _, ?_⟩
  try simp only [wpParts, pick, List.getElem?_cons_succ, List.getElem?_cons_zero, Option.toList_some, List.cons_append, List.nil_append]
  repeat (go_big_quiet_step (fail))
  refine wpQuiet_nil ?_
  go_wp2_with (first
    | (refine store_at rfl rfl _ _ rfl S8.blk rfl rfl (by rw [L5_length]; omega) ?_; intro u5 hb3 ho3
       rw [L5_set2] at hb3
       have S9 := S8.write ho3 hb3)
    | fail)
  exact bodyPost_end (results_none rfl _ _ _) rfl ⟨rfl, S9.blk, S9.only⟩
end Go.Proofs.Ytmdjhbiiifnfiaa
