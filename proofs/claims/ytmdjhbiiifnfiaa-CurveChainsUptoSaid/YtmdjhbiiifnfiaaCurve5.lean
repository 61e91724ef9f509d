/-
  A fraction's value; the ladder as numbers.
-/
import Derived.Test.YtmdjhbiiifnfiaaCurve4
namespace Go.Proofs.Ytmdjhbiiifnfiaa
open Go.RowKit
open Go.BigFrame

theorem L2_0 (a b j : Nat) (v : Value) (h : (EL a)[j]? = some v) : (EL a ++ EL b)[0 + j]? = some v := by
  have hj : j < 4 := by have := (List.getElem?_eq_some_iff.1 h).1; rwa [EL_length] at this
  rw [Nat.zero_add, List.getElem?_append_left (by rw [EL_length]; exact hj)]
  exact h
theorem L2_1 (a b j : Nat) (v : Value) (h : (EL b)[j]? = some v) : (EL a ++ EL b)[4 + j]? = some v := by
  rw [List.getElem?_append_right (by rw [EL_length]; omega), EL_length, show 4 + j - 4 = j by omega]
  exact h
set_option maxRecDepth 100000 in
set_option maxHeartbeats 2000000 in
theorem value_any (u v : Nat) (hu : u < T256) (hv : v < T256) (w : World) :
    Calls Try.prog 31 #[.agg (EL u ++ EL v).toArray] w fun e w' => e = .returned (E (fmul u (pinv v))) ∧ Later w w' := by
  have h1 : Blk ((w.alloc (.cells (EL u ++ EL v).toArray 48)).alloc (.cells (List.replicate 4 (.int .u64 0)).toArray 28)) w.heap.size 48 (EL u ++ EL v) := (Blk.new _ _ _).later (later_alloc _ _)
  have h2 : Blk ((w.alloc (.cells (EL u ++ EL v).toArray 48)).alloc (.cells (List.replicate 4 (.int .u64 0)).toArray 28)) (w.heap.size + 1) 28 (List.replicate 4 (.int .u64 0)) := Blk.new' _ _ _ (by simp)
  have L0 : Later w ((w.alloc (.cells (EL u ++ EL v).toArray 48)).alloc (.cells (List.replicate 4 (.int .u64 0)).toArray 28)) := (later_alloc _ _).trans (later_alloc _ _)
  have hI := hid (inv_any v hv)
  have hM : Hid (∀ w, Calls Try.prog 61 #[E u, E (pinv v)] w fun e w' => e = .returned (E (fmul u (pinv v))) ∧ Later w w') := hid (multiply_any u (pinv v) hu (pinv_T v))
  generalize fmul u (pinv v) = q at *
  generalize pinv v = i at *
  go_enter Try.func31, Try.ntmps31
  go_wp2_with fail
  refine wp_region_parts [([0, 1, 2, 3], 4)] [] [5, 6] (by as_aux_lemma => kernel_rfl) (by as_aux_lemma => kernel_rfl) (by intro _ _ d _ _ h; cases d <;> exact h) ?_
  simp only [wpParts, pick, List.getElem?_cons_succ, List.getElem?_cons_zero, Option.toList_some, List.cons_append, List.nil_append]
  repeat (first | go_big_quiet_skip | (go_big_quiet_want; (first | refine quiet_at _ rfl h1.drew (fun j v hv => L2_0 _ _ j v hv) rfl ?_ | refine quiet_at _ rfl h1.drew (fun j v hv => L2_1 _ _ j v hv) rfl ?_); simp only [Act.put, List.setIfInBounds_toArray, List.set_cons_succ, List.set_cons_zero]; go_big_quiet_on) | (go_big_quiet_step (fail)))
  refine wpQuiet_nil ?_
  go_wp2_with fail
  (with_reducible refine (hI.out _).mono ?_); rintro e w2 ⟨rfl, hl2⟩
  replace hl2 := (later_drew _).trans hl2
  go_wp2_with fail
  try refine ⟨by first | assumption | exact later_drew _ | exact later_alloc _ _ | exact Later.refl _, ?_⟩
  try simp only [wpParts, pick, List.getElem?_cons_succ, List.getElem?_cons_zero, Option.toList_some, List.cons_append, List.nil_append]
  repeat (go_big_quiet_step (fail))
  refine wpQuiet_nil ?_
  go_wp2_with fail
  (with_reducible refine (hM.out _).mono ?_); rintro e w3 ⟨rfl, hl3⟩
  replace hl3 := hl2.trans hl3
  go_wp2_with (first
    | (refine store_E rfl rfl _ _ rfl (h2.later hl3) rfl rfl rfl ?_; intro w9 hb9 ho9)
    | fail)
  exact bodyPost_ret (ret_E rfl hb9 rfl) rfl ⟨rfl, (L0.trans hl3).only ho9 (by omega)⟩
end Go.Proofs.Ytmdjhbiiifnfiaa
