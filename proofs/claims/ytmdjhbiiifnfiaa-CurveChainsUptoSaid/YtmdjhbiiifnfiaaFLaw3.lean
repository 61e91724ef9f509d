/-
  shallotlaw05: FieldSubs.
-/
import Derived.Test.YtmdjhbiiifnfiaaFLaw2
namespace Go.Proofs.Ytmdjhbiiifnfiaa
open Go.RowKit

set_option maxRecDepth 100000 in
set_option maxHeartbeats 4000000 in
theorem fieldSubs_walk (a b : Nat) (ha : a < T256) (hb : b < T256) (w : World) :
    Calls Try.prog 8 #[E a, E b] w fun e w' => e = .returned (.bool true) ∧ Later w w' := by
  have h1 : Blk ((w.alloc (.cells (EL a).toArray 24)).alloc (.cells (EL b).toArray 24)) w.heap.size 24 (EL a) := (Blk.new _ _ _).later (later_alloc _ _)
  have h2 : Blk ((w.alloc (.cells (EL a).toArray 24)).alloc (.cells (EL b).toArray 24)) (w.heap.size + 1) 24 (EL b) := Blk.new' _ _ _ (by simp)
  have L0 : Later w ((w.alloc (.cells (EL a).toArray 24)).alloc (.cells (EL b).toArray 24)) := (later_alloc _ _).trans (later_alloc _ _)
  have hSub := hid (fsub_any a b ha hb)
  have hSub' := hid (sub_ref a b ha hb)
  have hSq := hid (square_any a ha)
  have hMul := hid (mul_ref a a ha ha)
  have hInv := hid (inv_any b hb)
  have hInv' := hid (inv_ref b hb)
  have hI1 := hid (lawIs_eq ((a + (P25 - b % P25)) % P25) (Nat.lt_trans (Nat.mod_lt _ P25_pos) (by decide)))
  have hI2 := hid (lawIs_eq (a * a % P25) (Nat.lt_trans (Nat.mod_lt _ P25_pos) (by decide)))
  have hI3 := hid (lawIs_eq (pinv b) (pinv_T b))
  generalize (a + (P25 - b % P25)) % P25 = s at *
  generalize a * a % P25 = q at *
  generalize pinv b = i at *
  go_enter Try.func8, Try.ntmps8
  go_wp2_with fail
  (with_reducible refine (awake05 _).mono ?_); rintro e w2 ⟨rfl, hl2⟩
  replace h1 := h1.later hl2
  replace h2 := h2.later hl2
  replace L0 := L0.trans hl2
  go_wp2_with fail
  refine wp_region_makers [0, 2] [([], 1, 1), ([], 1, 3), ([], 2, 4), ([], 2, 5)] [] [6, 7] [4, 5] (fun _ => (fun g => .pointer (some ⟨g, 0, none⟩), .cells (List.replicate 8 (Value.int .u32 0)).toArray 35)) (by as_aux_lemma => kernel_rfl) (by as_aux_lemma => kernel_rfl) (by intro _ _ d _ _ h; cases d <;> exact h) (by intro _ _ d _ _ h; cases d <;> exact h) ?_
  simp only [pick, List.getElem?_cons_succ, List.getElem?_cons_zero, Option.toList_some, List.cons_append, List.nil_append]
  repeat (first | go_big_quiet_skip | (go_big_quiet_want; (first | refine quiet_4 _ rfl h1.drew rfl ?_ | refine quiet_4 _ rfl h2.drew rfl ?_); simp only [Act.put, List.setIfInBounds_toArray, List.set_cons_succ, List.set_cons_zero]; go_big_quiet_on) | (go_big_quiet_step (fail)))
  refine wpQuiet_nil ?_
  refine ⟨?mk, ?_⟩
  case mk =>
    refine ⟨fun o ho => ?_, fun o ho => ?_, trivial⟩
    all_goals
      simp only [List.getElem?_cons_succ, List.getElem?_cons_zero, Option.some.injEq] at ho
      subst ho
      refine ⟨rfl, fun W => ?_⟩
      unfold execOp
      simp [go_sem]
  simp only [wpPartsM, pick, List.getElem?_cons_succ, List.getElem?_cons_zero, Option.toList_some, List.cons_append, List.nil_append]
  refine wpQuiet_nil ?_
  intro v1 j1
  go_wp2_with fail
  (with_reducible refine (from_any a _).mono ?_); rintro e v2 ⟨rfl, j2⟩
  go_wp2_with fail
  try refine ⟨by first | assumption | exact later_drew _ | exact later_alloc _ _ | exact Later.refl _, ?_⟩
  try simp only [wpParts, pick, List.getElem?_cons_succ, List.getElem?_cons_zero, Option.toList_some, List.cons_append, List.nil_append]
  repeat (go_big_quiet_step (fail))
  refine wpQuiet_nil ?_
  intro v3 j3
  go_wp2_with fail
  (with_reducible refine (from_any b _).mono ?_); rintro e v4 ⟨rfl, j4⟩
  go_wp2_with fail
  try refine ⟨by first | assumption | exact later_drew _ | exact later_alloc _ _ | exact Later.refl _, ?_⟩
  try simp only [wpParts, pick, List.getElem?_cons_succ, List.getElem?_cons_zero, Option.toList_some, List.cons_append, List.nil_append]
  repeat (go_big_quiet_step (fail))
  refine wpQuiet_nil ?_
  intro v5 g5 j5 hg5 _ hb5
  refine wpQuiet_nil ?_
  intro v6 g6 j6 hg6 hn6 hb6
  refine wpQuiet_nil ?_
  intro v7 j7
  have Lr := (((((later_drew _).trans j1).trans j2).trans j3).trans j4).trans ((j5.trans j6).trans j7)
  have hX : Blk v7 g5 35 (List.replicate 8 (Value.int .u32 0)) := Blk.later hb5 (j6.trans j7)
  have hY : Blk v7 g6 35 (List.replicate 8 (Value.int .u32 0)) := Blk.later hb6 j7
  have hne : g5 ≠ g6 := fun e => hn6 (.inl e.symm)
  have hs2 := h2.lt
  replace h1 := h1.later Lr
  replace h2 := h2.later Lr
  replace L0 := L0.trans Lr
  have hs0 := hl2.size
  clear j1 j2 j3 j4 j5 j6 j7 hb5 hb6 Lr hn6
  have hgg5 : w.heap.size + 1 < g5 := Nat.lt_of_lt_of_le hs2 hg5
  have hgg6 : w.heap.size + 1 < g6 := Nat.lt_of_lt_of_le hs2 hg6
  simp only [List.getElem?_cons_succ, List.getElem?_cons_zero, Option.bind_some, Act.put, List.setIfInBounds_toArray, List.set_cons_succ, List.set_cons_zero]
  go_wp2_with (first
    | (refine store_N rfl rfl _ _ rfl hX rfl rfl rfl ?_; intro w3 hb3 ho3
       have hY3 := hY.only ho3 (fun e => hne e.symm))
    | (refine store_N rfl rfl _ _ rfl hY3 rfl rfl rfl ?_; intro w4 hb4 ho4)
    | fail)
  have hx := hb3.only ho4 hne
  have hy := hb4
  replace h1 := (h1.only ho3 (by omega)).only ho4 (by omega)
  replace h2 := (h2.only ho3 (by omega)).only ho4 (by omega)
  replace L0 := (L0.only ho3 (by omega)).only ho4 (by omega)
  clear hb3 hb4 hX hY hY3 ho3 ho4 hg5 hg6 hs2 hs0 hl2
  replace h1 := h1.drew
  replace h2 := h2.drew
  replace hx := hx.drew
  replace hy := hy.drew
  replace L0 := L0.trans (later_drew _)
  refine wp_region_parts [([0, 1, 3, 4], 2), ([], 5), ([], 6), ([7, 8, 10, 11], 9), ([], 12), ([], 13), ([14, 15, 16, 18], 17), ([], 19), ([], 20)] [21, 22] [] (by as_aux_lemma => kernel_rfl) (by as_aux_lemma => kernel_rfl) (by intro _ _ d _ _ h; cases d <;> exact h) ?_
  simp only [wpParts, pick, List.getElem?_cons_succ, List.getElem?_cons_zero, Option.toList_some, List.cons_append, List.nil_append]
  repeat (first | go_big_quiet_skip | (go_big_quiet_want; (first | refine quiet_4 _ rfl h1 rfl ?_ | refine quiet_4 _ rfl h2 rfl ?_ | refine quiet_N _ rfl hx rfl ?_ | refine quiet_N _ rfl hy rfl ?_); simp only [Act.put, List.setIfInBounds_toArray, List.set_cons_succ, List.set_cons_zero]; go_big_quiet_on) | (go_big_quiet_step (fail)))
  refine wpQuiet_nil ?_
  go_wp2_with fail
  (with_reducible refine (hSub.out _).mono ?_); rintro e u0 ⟨rfl, k0⟩
  replace h1 := h1.later k0
  replace h2 := h2.later k0
  replace hx := hx.later k0
  replace hy := hy.later k0
  replace L0 := L0.trans k0
  go_wp2_with fail
  try refine ⟨by first | assumption | exact later_drew _ | exact later_alloc _ _ | exact Later.refl _, ?_⟩
  try simp only [wpParts, pick, List.getElem?_cons_succ, List.getElem?_cons_zero, Option.toList_some, List.cons_append, List.nil_append]
  repeat (first | go_big_quiet_skip | (go_big_quiet_want; (first | refine quiet_4 _ rfl h1 rfl ?_ | refine quiet_4 _ rfl h2 rfl ?_ | refine quiet_N _ rfl hx rfl ?_ | refine quiet_N _ rfl hy rfl ?_); simp only [Act.put, List.setIfInBounds_toArray, List.set_cons_succ, List.set_cons_zero]; go_big_quiet_on) | (go_big_quiet_step (fail)))
  refine wpQuiet_nil ?_
  clear k0
  go_wp2_with fail
  (with_reducible refine (hSub'.out _).mono ?_); rintro e u1 ⟨rfl, k1⟩
  replace h1 := h1.later k1
  replace h2 := h2.later k1
  replace hx := hx.later k1
  replace hy := hy.later k1
  replace L0 := L0.trans k1
  go_wp2_with fail
  try refine ⟨by first | assumption | exact later_drew _ | exact later_alloc _ _ | exact Later.refl _, ?_⟩
  try simp only [wpParts, pick, List.getElem?_cons_succ, List.getElem?_cons_zero, Option.toList_some, List.cons_append, List.nil_append]
  repeat (first | go_big_quiet_skip | (go_big_quiet_want; (first | refine quiet_4 _ rfl h1 rfl ?_ | refine quiet_4 _ rfl h2 rfl ?_ | refine quiet_N _ rfl hx rfl ?_ | refine quiet_N _ rfl hy rfl ?_); simp only [Act.put, List.setIfInBounds_toArray, List.set_cons_succ, List.set_cons_zero]; go_big_quiet_on) | (go_big_quiet_step (fail)))
  refine wpQuiet_nil ?_
  clear k1
  go_wp2_with fail
  (with_reducible refine (hI1.out _).mono ?_); rintro e u2 ⟨rfl, k2⟩
  replace h1 := h1.later k2
  replace h2 := h2.later k2
  replace hx := hx.later k2
  replace hy := hy.later k2
  replace L0 := L0.trans k2
  go_wp2_with fail
  try refine ⟨by first | assumption | exact later_drew _ | exact later_alloc _ _ | exact Later.refl _, ?_⟩
  try simp only [wpParts, pick, List.getElem?_cons_succ, List.getElem?_cons_zero, Option.toList_some, List.cons_append, List.nil_append]
  repeat (first | go_big_quiet_skip | (go_big_quiet_want; (first | refine quiet_4 _ rfl h1 rfl ?_ | refine quiet_4 _ rfl h2 rfl ?_ | refine quiet_N _ rfl hx rfl ?_ | refine quiet_N _ rfl hy rfl ?_); simp only [Act.put, List.setIfInBounds_toArray, List.set_cons_succ, List.set_cons_zero]; go_big_quiet_on) | (go_big_quiet_step (fail)))
  refine wpQuiet_nil ?_
  clear k2
  go_wp2_with fail
  (with_reducible refine (hSq.out _).mono ?_); rintro e u3 ⟨rfl, k3⟩
  replace h1 := h1.later k3
  replace h2 := h2.later k3
  replace hx := hx.later k3
  replace hy := hy.later k3
  replace L0 := L0.trans k3
  go_wp2_with fail
  try refine ⟨by first | assumption | exact later_drew _ | exact later_alloc _ _ | exact Later.refl _, ?_⟩
  try simp only [wpParts, pick, List.getElem?_cons_succ, List.getElem?_cons_zero, Option.toList_some, List.cons_append, List.nil_append]
  repeat (first | go_big_quiet_skip | (go_big_quiet_want; (first | refine quiet_4 _ rfl h1 rfl ?_ | refine quiet_4 _ rfl h2 rfl ?_ | refine quiet_N _ rfl hx rfl ?_ | refine quiet_N _ rfl hy rfl ?_); simp only [Act.put, List.setIfInBounds_toArray, List.set_cons_succ, List.set_cons_zero]; go_big_quiet_on) | (go_big_quiet_step (fail)))
  refine wpQuiet_nil ?_
  clear k3
  go_wp2_with fail
  (with_reducible refine (hMul.out _).mono ?_); rintro e u4 ⟨rfl, k4⟩
  replace h1 := h1.later k4
  replace h2 := h2.later k4
  replace hx := hx.later k4
  replace hy := hy.later k4
  replace L0 := L0.trans k4
  go_wp2_with fail
  try refine ⟨by first | assumption | exact later_drew _ | exact later_alloc _ _ | exact Later.refl _, ?_⟩
  try simp only [wpParts, pick, List.getElem?_cons_succ, List.getElem?_cons_zero, Option.toList_some, List.cons_append, List.nil_append]
  repeat (first | go_big_quiet_skip | (go_big_quiet_want; (first | refine quiet_4 _ rfl h1 rfl ?_ | refine quiet_4 _ rfl h2 rfl ?_ | refine quiet_N _ rfl hx rfl ?_ | refine quiet_N _ rfl hy rfl ?_); simp only [Act.put, List.setIfInBounds_toArray, List.set_cons_succ, List.set_cons_zero]; go_big_quiet_on) | (go_big_quiet_step (fail)))
  refine wpQuiet_nil ?_
  clear k4
  go_wp2_with fail
  (with_reducible refine (hI2.out _).mono ?_); rintro e u5 ⟨rfl, k5⟩
  replace h1 := h1.later k5
  replace h2 := h2.later k5
  replace hx := hx.later k5
  replace hy := hy.later k5
  replace L0 := L0.trans k5
  go_wp2_with fail
  try refine ⟨by first | assumption | exact later_drew _ | exact later_alloc _ _ | exact Later.refl _, ?_⟩
  try simp only [wpParts, pick, List.getElem?_cons_succ, List.getElem?_cons_zero, Option.toList_some, List.cons_append, List.nil_append]
  repeat (first | go_big_quiet_skip | (go_big_quiet_want; (first | refine quiet_4 _ rfl h1 rfl ?_ | refine quiet_4 _ rfl h2 rfl ?_ | refine quiet_N _ rfl hx rfl ?_ | refine quiet_N _ rfl hy rfl ?_); simp only [Act.put, List.setIfInBounds_toArray, List.set_cons_succ, List.set_cons_zero]; go_big_quiet_on) | (go_big_quiet_step (fail)))
  refine wpQuiet_nil ?_
  clear k5
  go_wp2_with fail
  (with_reducible refine (hInv.out _).mono ?_); rintro e u6 ⟨rfl, k6⟩
  replace h1 := h1.later k6
  replace h2 := h2.later k6
  replace hx := hx.later k6
  replace hy := hy.later k6
  replace L0 := L0.trans k6
  go_wp2_with fail
  try refine ⟨by first | assumption | exact later_drew _ | exact later_alloc _ _ | exact Later.refl _, ?_⟩
  try simp only [wpParts, pick, List.getElem?_cons_succ, List.getElem?_cons_zero, Option.toList_some, List.cons_append, List.nil_append]
  repeat (first | go_big_quiet_skip | (go_big_quiet_want; (first | refine quiet_4 _ rfl h1 rfl ?_ | refine quiet_4 _ rfl h2 rfl ?_ | refine quiet_N _ rfl hx rfl ?_ | refine quiet_N _ rfl hy rfl ?_); simp only [Act.put, List.setIfInBounds_toArray, List.set_cons_succ, List.set_cons_zero]; go_big_quiet_on) | (go_big_quiet_step (fail)))
  refine wpQuiet_nil ?_
  clear k6
  go_wp2_with fail
  (with_reducible refine (hInv'.out _).mono ?_); rintro e u7 ⟨rfl, k7⟩
  replace h1 := h1.later k7
  replace h2 := h2.later k7
  replace hx := hx.later k7
  replace hy := hy.later k7
  replace L0 := L0.trans k7
  go_wp2_with fail
  try refine ⟨by first | assumption | exact later_drew _ | exact later_alloc _ _ | exact Later.refl _, ?_⟩
  try simp only [wpParts, pick, List.getElem?_cons_succ, List.getElem?_cons_zero, Option.toList_some, List.cons_append, List.nil_append]
  repeat (first | go_big_quiet_skip | (go_big_quiet_want; (first | refine quiet_4 _ rfl h1 rfl ?_ | refine quiet_4 _ rfl h2 rfl ?_ | refine quiet_N _ rfl hx rfl ?_ | refine quiet_N _ rfl hy rfl ?_); simp only [Act.put, List.setIfInBounds_toArray, List.set_cons_succ, List.set_cons_zero]; go_big_quiet_on) | (go_big_quiet_step (fail)))
  refine wpQuiet_nil ?_
  clear k7
  go_wp2_with fail
  (with_reducible refine (hI3.out _).mono ?_); rintro e u8 ⟨rfl, k8⟩
  replace h1 := h1.later k8
  replace h2 := h2.later k8
  replace hx := hx.later k8
  replace hy := hy.later k8
  replace L0 := L0.trans k8
  go_wp2_with fail
  try refine ⟨by first | assumption | exact later_drew _ | exact later_alloc _ _ | exact Later.refl _, ?_⟩
  try simp only [wpParts, pick, List.getElem?_cons_succ, List.getElem?_cons_zero, Option.toList_some, List.cons_append, List.nil_append]
  repeat (first | go_big_quiet_skip | (go_big_quiet_want; (first | refine quiet_4 _ rfl h1 rfl ?_ | refine quiet_4 _ rfl h2 rfl ?_ | refine quiet_N _ rfl hx rfl ?_ | refine quiet_N _ rfl hy rfl ?_); simp only [Act.put, List.setIfInBounds_toArray, List.set_cons_succ, List.set_cons_zero]; go_big_quiet_on) | (go_big_quiet_step (fail)))
  refine wpQuiet_nil ?_
  clear k8
  go_wp2
  go_ret
  exact ⟨rfl, L0⟩
end Go.Proofs.Ytmdjhbiiifnfiaa
