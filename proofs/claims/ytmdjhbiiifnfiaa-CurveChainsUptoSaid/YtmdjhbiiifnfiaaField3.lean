/-
  math/bits.Mul64, field.step, field.add.
-/
import Derived.Test.YtmdjhbiiifnfiaaField2
namespace Go.Proofs.Ytmdjhbiiifnfiaa
open Go.RowKit

theorem ret_two {a a' b b' : Value} (h : a = a') (h' : b = b') : Ending.returned (.tuple #[a, b]) = .returned (.tuple #[a', b']) := by rw [h, h']
set_option maxHeartbeats 1000000 in
theorem mul64_any (x y : Nat) (hx : x < B64) (hy : y < B64) (w : World) :
    Calls Try.prog 76 #[n64 x, n64 y] w fun e w' => e = .returned (.tuple #[n64 (x * y / B64), n64 (x * y % B64)]) ∧ w = w' := by
  have hB : B64 = 18446744073709551616 := rfl
  obtain ⟨bd, bt, bw, hhi⟩ := Lib.mul64_hi x y hx hy
  rw [← hB] at hhi bd bt bw
  have HH := hid hhi
  clear hhi hB
  go_enter Try.func76, Try.ntmps76
  go_wp2
  go_ret2
  exact ⟨ret_two (congrArg n64 HH.out) (n64_of (Nat.mod_mod (x * y) B64).symm), rfl⟩
theorem step_math (p m c : Nat) : p / B64 + (p % B64 + m) / B64 + ((p + m) % B64 + c) / B64 = (p + m + c) / B64 := by
  unfold B64
  omega
set_option maxHeartbeats 1000000 in
theorem step_any (x y m c : Nat) (hx : x < B64) (hy : y < B64) (hm : m < B64) (hc : c < B64) (w : World) :
    Calls Try.prog 72 #[n64 x, n64 y, n64 m, n64 c] w fun e w' => e = .returned (.tuple #[n64 ((x * y + m + c) % B64), n64 ((x * y + m + c) / B64)]) ∧ w = w' := by
  have H2 := hid (step_math (x * y) m c)
  go_enter Try.func72, Try.ntmps72
  go_wp2_with (go_at_call 76; (with_reducible refine (mul64_any x y hx hy _).mono ?_); rintro e w' ⟨rfl, rfl⟩)
  go_ret2
  exact ⟨ret_two rfl (congrArg n64 H2.out), rfl⟩
set_option maxHeartbeats 1000000 in
theorem add_any' (a b : Nat) (hsum : a + b < T256) (w : World) :
    Calls Try.prog 67 #[E a, E b] w fun e w' => e = .returned (E ((a + b) % P25)) ∧ Later w w' := by
  have hlS := EL_length (a + b)
  have hlA := EL_length a
  go_enter Try.func67, Try.ntmps67
  go_wp2
  go_loopw [5, 7] (fun c i wr => ∃ k : Nat, k ≤ 4 ∧ i = .int .i64 k ∧ c = n64 (carr B64 a b 0 k) ∧ Blk wr w.heap.size 28 (filled (EL (a + b)) (EL a) k) ∧ Blk wr (w.heap.size + 1) 28 (EL b) ∧ Blk wr (w.heap.size + 1 + 1) 28 (List.replicate 4 (.int .u64 0)) ∧ Later w wr) (fun _ i _ => 4 - (intOf i).toNat)
  case atStart =>
    refine ⟨0, by omega, rfl, by rw [carr_zero]; rfl, ?_, ?_, Blk.new' _ _ (List.replicate 4 (Value.int .u64 0)) (by simp), ((later_alloc _ _).trans (later_alloc _ _)).trans (later_alloc _ _)⟩
    · rw [filled_zero]
      exact ((Blk.new _ _ _).later (later_alloc _ _)).later (later_alloc _ _)
    · exact (Blk.new' _ _ _ (by simp)).later (later_alloc _ _)
  case round =>
    obtain ⟨k, hk4, rfl, rfl, h1, h2, h3, L⟩ := hrel
    by_cases hlt : k < 4
    · have hc := carr_le B64_pos a b 0 k (by omega)
      have S0 := hid (sum_dig B64_pos a b 0 k)
      have S1 := hid (carr_succ B64_pos a b 0 k)
      have d0 := h1.cellD k (u := n64 (lim a k)) (by rw [filled_old _ _ _ _ (by omega) (Nat.le_refl _) (by omega)]; exact EL_get a k hlt)
      have d1 := h2.cellD k (EL_get b k hlt)
      generalize carr B64 a b 0 k = c at *
      go_wp2
      refine wp_region_parts [([0, 1, 2, 3, 4, 5, 6, 7], 8)] [9, 10, 11, 12] [13, 14] (by as_aux_lemma => kernel_rfl) (by as_aux_lemma => kernel_rfl) (by intro _ _ d _ _ h; cases d <;> exact h) ?_
      simp only [wpParts, pick, List.getElem?_cons_succ, List.getElem?_cons_zero, Option.toList_some, List.cons_append, List.nil_append]
      repeat (go_big_quiet_step (fail))
      refine wpQuiet_nil ?_
      go_wp2
      try refine ⟨by first | assumption | exact later_drew _ | exact later_alloc _ _ | exact Later.refl _, ?_⟩
      try simp only [wpParts, pick, List.getElem?_cons_succ, List.getElem?_cons_zero, Option.toList_some, List.cons_append, List.nil_append]
      repeat (go_big_quiet_step (fail))
      refine wpQuiet_nil ?_
      go_wp2_with (first
        | (refine wpList_store_in rfl rfl _ _ _ rfl _ _ _ _ h1.drew rfl ?hl rfl (by kernel_rfl) ?_; (case hl => rw [filled_length _ _ _ (by omega)]; omega); intro v w2 hv hb2 ho2; simp [go_sem] at hv; subst hv))
      go_roundw
      case rel =>
        rw [filled_step _ _ _ _ (by omega) (by omega) (by rw [EL_get (a + b) k hlt, lim, lim, lim, ← Nat.add_zero (a + b), ← S0.out])] at hb2
        exact ⟨k + 1, by omega, by go_num, by rw [← S1.out]; rfl, hb2, h2.drew.only ho2 (by omega), h3.drew.only ho2 (by omega), (L.trans (later_drew _)).only ho2 (Nat.le_refl _)⟩
      case measure => simp [intOf]; omega
    · obtain rfl : k = 4 := by omega
      rw [filled_all _ _ _ hlS hlA] at h1
      go_wp2_with (first
        | (refine load_E rfl _ rfl h1 rfl ?_)
        | (go_at_call 27; (with_reducible refine (norm_any (a + b) hsum _).mono ?_); rintro e w2 ⟨rfl, hl2⟩
           have h32 := h3.later hl2
           have L2 := L.trans hl2)
        | (refine store_E rfl rfl _ _ rfl h32 rfl rfl rfl ?_; intro w3 hb3 ho3))
      exact bodyPost_ret (ret_E rfl hb3 rfl) rfl ⟨rfl, L2.only ho3 (by omega)⟩
end Go.Proofs.Ytmdjhbiiifnfiaa
