/-
  shallotref05: Sub.
-/
import Derived.Test.YtmdjhbiiifnfiaaNRef4
namespace Go.Proofs.Ytmdjhbiiifnfiaa
open Go.RowKit

theorem minus_38 (a : Nat) (w : World) :
    Calls Try.prog 63 #[NN a, NN 38] w fun e w' => e = .returned (.tuple #[NN (a + T256 - 38), .bool (owed B32 a 38 8 == 1)]) ∧ Later w w' := minus_any a 38 (by decide) w
set_option maxRecDepth 100000 in
set_option maxHeartbeats 2000000 in
theorem sub_ref (a b : Nat) (ha : a < T256) (hb : b < T256) (w : World) :
    Calls Try.prog 41 #[NN a, NN b] w fun e w' => e = .returned (NN ((a + (P25 - b % P25)) % P25)) ∧ Later w w' := by
  have h1 : Blk (((w.alloc (.cells (NL a).toArray 35)).alloc (.cells (NL b).toArray 35)).alloc (.cells (List.replicate 8 (.int .u32 0)).toArray 35)) w.heap.size 35 (NL a) := ((Blk.new _ _ _).later (later_alloc _ _)).later (later_alloc _ _)
  have h2 : Blk (((w.alloc (.cells (NL a).toArray 35)).alloc (.cells (NL b).toArray 35)).alloc (.cells (List.replicate 8 (.int .u32 0)).toArray 35)) (w.heap.size + 1) 35 (NL b) := (Blk.new' _ _ (NL b) (by simp)).later (later_alloc _ _)
  have h3 : Blk (((w.alloc (.cells (NL a).toArray 35)).alloc (.cells (NL b).toArray 35)).alloc (.cells (List.replicate 8 (.int .u32 0)).toArray 35)) (w.heap.size + 1 + 1) 35 (List.replicate 8 (.int .u32 0)) := Blk.new' _ _ (List.replicate 8 (Value.int .u32 0)) (by simp)
  have L : Later w (((w.alloc (.cells (NL a).toArray 35)).alloc (.cells (NL b).toArray 35)).alloc (.cells (List.replicate 8 (.int .u32 0)).toArray 35)) := ((later_alloc _ _).trans (later_alloc _ _)).trans (later_alloc _ _)
  have hmin := fun w => minus_any (a % P25) (b % P25) (Nat.lt_trans (Nat.mod_lt _ P25_pos) (by decide)) w
  rw [owed_end _ _ 8 (by rw [B32_8]; exact Nat.lt_trans (Nat.mod_lt _ P25_pos) (by decide)) (by rw [B32_8]; exact Nat.lt_trans (Nat.mod_lt _ P25_pos) (by decide))] at hmin
  have HMIN := hid hmin
  clear hmin
  go_enter Try.func41, Try.ntmps41
  go_wp2_with fail
  refine wp_region_makers [0, 2] [([], 1, 1), ([], 1, 3), ([], 1, 4), ([5, 6, 7], 2, 8)] [] [9, 10] [8] (fun _ => (fun g => .pointer (some ⟨g, 0, none⟩), .cells (List.replicate 8 (Value.int .u32 0)).toArray 35)) (by as_aux_lemma => kernel_rfl) (by as_aux_lemma => kernel_rfl) (by intro _ _ d _ _ h; cases d <;> exact h) (by intro _ _ d _ _ h; cases d <;> exact h) ?_
  simp only [pick, List.getElem?_cons_succ, List.getElem?_cons_zero, Option.toList_some, List.cons_append, List.nil_append]
  repeat (first | go_big_quiet_skip | (go_big_quiet_want; (first | refine quiet_N _ rfl h1.drew rfl ?_ | refine quiet_N _ rfl h2.drew rfl ?_); simp only [Act.put, List.setIfInBounds_toArray, List.set_cons_succ, List.set_cons_zero]; go_big_quiet_on) | (go_big_quiet_step (fail)))
  refine wpQuiet_nil ?_
  refine ⟨?mk, ?_⟩
  case mk =>
    refine ⟨fun o ho => ?_, trivial⟩
    simp only [List.getElem?_cons_succ, List.getElem?_cons_zero, Option.some.injEq] at ho
    subst ho
    refine ⟨rfl, fun W => ?_⟩
    unfold execOp
    simp [go_sem]
  simp only [wpPartsM, pick, List.getElem?_cons_succ, List.getElem?_cons_zero, Option.toList_some, List.cons_append, List.nil_append]
  refine wpQuiet_nil ?_
  intro v1 j1
  go_wp2_with fail
  (with_reducible refine (norm_ref a ha _).mono ?_); rintro e v2 ⟨rfl, j2⟩
  go_wp2_with fail
  try refine ⟨by first | assumption | exact later_drew _ | exact later_alloc _ _ | exact Later.refl _, ?_⟩
  try simp only [wpParts, pick, List.getElem?_cons_succ, List.getElem?_cons_zero, Option.toList_some, List.cons_append, List.nil_append]
  repeat (go_big_quiet_step (fail))
  refine wpQuiet_nil ?_
  intro v3 j3
  go_wp2_with fail
  (with_reducible refine (norm_ref b hb _).mono ?_); rintro e v4 ⟨rfl, j4⟩
  go_wp2_with fail
  try refine ⟨by first | assumption | exact later_drew _ | exact later_alloc _ _ | exact Later.refl _, ?_⟩
  try simp only [wpParts, pick, List.getElem?_cons_succ, List.getElem?_cons_zero, Option.toList_some, List.cons_append, List.nil_append]
  repeat (go_big_quiet_step (fail))
  refine wpQuiet_nil ?_
  intro v5 j5
  go_wp2_with fail
  (with_reducible refine (HMIN.out _).mono ?_); rintro e v6 ⟨rfl, j6⟩
  obtain ⟨X, hX⟩ : ∃ X : Bool, X = ((if a % P25 < b % P25 then 1 else 0) == 1) := ⟨_, rfl⟩
  rw [← hX]
  have HX := hid hX
  clear hX
  go_wp2_with fail
  try refine ⟨by first | assumption | exact later_drew _ | exact later_alloc _ _ | exact Later.refl _, ?_⟩
  try simp only [wpParts, pick, List.getElem?_cons_succ, List.getElem?_cons_zero, Option.toList_some, List.cons_append, List.nil_append]
  repeat (go_big_quiet_step (fail))
  refine wpQuiet_nil ?_
  intro v7 g7 j7 hg7 _ hb7
  refine wpQuiet_nil ?_
  intro v8 j8
  have Lr := (((((((later_drew _).trans j1).trans j2).trans j3).trans j4).trans j5).trans j6).trans (j7.trans j8)
  have hB : Blk v8 g7 35 (List.replicate 8 (Value.int .u32 0)) := Blk.later hb7 j8
  have hR := h3.later Lr
  have hlt3 : w.heap.size + 1 + 1 < g7 := Nat.lt_of_lt_of_le h3.lt hg7
  have L8 := L.trans Lr
  clear h1 h2 h3 j1 j2 j3 j4 j5 j6 j7 j8 hb7 Lr L
  have hap : a % P25 < P25 := Nat.mod_lt _ P25_pos
  have hbp : b % P25 < P25 := Nat.mod_lt _ P25_pos
  have hres : (a + (P25 - b % P25)) % P25 = (a % P25 + (P25 - b % P25)) % P25 := by rw [Nat.mod_add_mod]
  have HRES := hid hres
  clear hres
  rcases Nat.lt_or_ge (a % P25) (b % P25) with hmp | hmp
  · obtain rfl : X = true := by rw [HX.out, if_pos hmp]; rfl
    have hfin : (a % P25 + T256 - b % P25 - 38) % P25 = (a % P25 + (P25 - b % P25)) % P25 := by unfold T256 P25 at *; omega
    have hc1 : NL (a % P25 + T256 - b % P25 + T256 - 38) = NL (a % P25 + T256 - b % P25 - 38) := NL_cong (by unfold T256 P25 at *; omega)
    have hbd : a % P25 + T256 - b % P25 - 38 < T256 := by omega
    have HC := hid hc1
    have HFN := hid hfin
    clear hc1 hfin hap hbp
    generalize a % P25 + T256 - b % P25 = y at *
    go_wp2_with (first
      | (refine store_N rfl rfl _ _ rfl hB rfl rfl rfl ?_; intro w1 hb1 ho1
         have hR1 := hR.only ho1 (by omega)
         have L1 := L8.only ho1 (by have := L8.size; omega))
      | (refine load_N rfl _ rfl hb1 rfl ?_)
      | (refine wpList_build_is rfl 35 _ rfl (NL 38) ?hb ?_; (case hb => kernel_rfl))
      | (go_at_call 63; (with_reducible refine (minus_38 y _).mono ?_); rintro e w2 ⟨rfl, hl2⟩)
      | (refine store_N rfl rfl _ _ rfl (hb1.later hl2) rfl rfl (NL_length _) ?_; intro w3 hb3 ho3
         rw [HC.out] at hb3
         have hR3 := (hR1.later hl2).only ho3 (by omega)
         have L3 := (L1.trans hl2).only ho3 (by have := L8.size; omega))
      | (refine load_N rfl _ rfl hb3 rfl ?_)
      | (go_at_call 26; (with_reducible refine (norm_ref _ hbd _).mono ?_); rintro e w4 ⟨rfl, hl4⟩)
      | (refine store_N rfl rfl _ _ rfl (hR3.later hl4) rfl rfl rfl ?_; intro w5 hb5 ho5)
      | fail)
    exact bodyPost_ret (ret_N rfl hb5 rfl) rfl ⟨by rw [HRES.out, ← HFN.out], (L3.trans hl4).only ho5 (by omega)⟩
  · obtain rfl : X = false := by rw [HX.out, if_neg (by omega)]; rfl
    have hfin : (a % P25 - b % P25) % P25 = (a % P25 + (P25 - b % P25)) % P25 := by unfold T256 P25 at *; omega
    have hc1 : NL (a % P25 + T256 - b % P25) = NL (a % P25 - b % P25) := NL_cong (by unfold T256 P25 at *; omega)
    have hbd : a % P25 - b % P25 < T256 := by unfold T256 P25 at *; omega
    have HC := hid hc1
    have HFN := hid hfin
    clear hc1 hfin hap hbp
    generalize a % P25 + T256 - b % P25 = y at *
    generalize a % P25 - b % P25 = z at *
    go_wp2_with (first
      | (refine store_N rfl rfl _ _ rfl hB rfl rfl rfl ?_; intro w1 hb1 ho1
         rw [HC.out] at hb1
         have hR1 := hR.only ho1 (by omega)
         have L1 := L8.only ho1 (by have := L8.size; omega))
      | (refine load_N rfl _ rfl hb1 rfl ?_)
      | (go_at_call 26; (with_reducible refine (norm_ref _ hbd _).mono ?_); rintro e w4 ⟨rfl, hl4⟩)
      | (refine store_N rfl rfl _ _ rfl (hR1.later hl4) rfl rfl rfl ?_; intro w5 hb5 ho5)
      | fail)
    exact bodyPost_ret (ret_N rfl hb5 rfl) rfl ⟨by rw [HRES.out, ← HFN.out], (L1.trans hl4).only ho5 (by omega)⟩
end Go.Proofs.Ytmdjhbiiifnfiaa
