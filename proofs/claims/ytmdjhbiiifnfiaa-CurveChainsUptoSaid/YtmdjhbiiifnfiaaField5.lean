/-
  field: Of, Square, Is, Odd, Sub.
-/
import Derived.Test.YtmdjhbiiifnfiaaField4
import Derived.Shelf.Spec.BitsCarry
namespace Go.Proofs.Ytmdjhbiiifnfiaa
open Go.RowKit

theorem EL_zero : EL 0 = List.replicate 4 (.int .u64 0) := by rfl
theorem EL_small {n : Nat} (h : n < B64) : EL n = [n64 n, .int .u64 0, .int .u64 0, .int .u64 0] := by
  have e : ∀ k, 0 < k → n / B64 ^ k % B64 = 0 := fun k hk => dig_small h k hk
  have e1 : dig B64 4 n = [n / B64 ^ 0 % B64, n / B64 ^ 1 % B64, n / B64 ^ 2 % B64, n / B64 ^ 3 % B64] := by
    rw [dig_snoc, dig_snoc, dig_snoc, dig_snoc]
    rfl
  rw [EL, e1, e 1 (by omega), e 2 (by omega), e 3 (by omega), Nat.pow_zero, Nat.div_one, Nat.mod_eq_of_lt h]
  rfl
theorem small_T256 {n : Nat} (h : n < B64) : n < T256 := Nat.lt_trans h (by decide)
@[go_sem] theorem mod_P25_T (n : Nat) : (n % P25 < T256) = True := eq_true (Nat.lt_trans (Nat.mod_lt _ P25_pos) (by decide))
@[go_sem] theorem mod_P25_P (n : Nat) : (n % P25 < P25) = True := eq_true (Nat.mod_lt _ P25_pos)
def ofs (l : List Nat) : List UInt64 := l.map UInt64.ofNat
theorem EL_ofs (n : Nat) : EL n = (ofs (dig B64 4 n)).map W64 := by rw [EL, ofs, List.map_map]; rfl
theorem ofs_inj {l m : List Nat} (hl : ∀ x ∈ l, x < B64) (hm : ∀ x ∈ m, x < B64) (h : ofs l = ofs m) : l = m := by
  have e : ∀ l : List Nat, (∀ x ∈ l, x < B64) → (ofs l).map UInt64.toNat = l := by
    intro l hl
    rw [ofs, List.map_map]
    conv => rhs; rw [← List.map_id l]
    apply List.map_congr_left
    intro x hx
    exact tn64 (hl x hx)
  rw [← e l hl, ← e m hm, h]
theorem ofs_beq {x y : Nat} (hx : x < T256) (hy : y < T256) : (ofs (dig B64 4 x) == ofs (dig B64 4 y)) = (x == y) := by
  rw [Bool.eq_iff_iff, beq_iff_eq, beq_iff_eq]
  refine ⟨fun h => ?_, fun h => by rw [h]⟩
  have := ofs_inj (dig_lt B64_pos 4 x) (dig_lt B64_pos 4 y) h
  exact dig_inj (k := 4) (B := B64) (by rw [T256_eq]; exact hx) (by rw [T256_eq]; exact hy) this
theorem size64 : (Try.prog.info? 22).map (·.size) = some 1 := by kernel_rfl
theorem eqg_E : Try.prog.eqGuardType Try.prog.depth 28 = false := by kernel_rfl
@[go_sem high] theorem eqGuard_E (op : BinOp) (x y : Operand) (xs ys : Array Value) (w : World) : (eqGuard op 28 x y (.agg xs) (.agg ys)).run Try.prog w = .ok () w := run_eqGuard_agg w op _ x y xs ys eqg_E
@[go_sem high] theorem run_eql_E (x y : Nat) (hx : x < T256) (hy : y < T256) (w : World) : (binOp .eql 28 (E x) (E y)).run Try.prog w = .ok (.bool (x == y)) w := by
  rw [run_eql_struct, EL_ofs, EL_ofs, run_equalIn_arr w 0 W64 9998 28 22 4 Try.underlying28 size64 Try.underlying22 rfl (heq_w64 _ _ Try.underlying22) _ _ (by rw [ofs, List.length_map, dig_length]) (by rw [ofs, List.length_map, dig_length]), ofs_beq hx hy]
  rfl
@[go_sem high] theorem run_neq_E (x y : Nat) (hx : x < T256) (hy : y < T256) (w : World) : (binOp .neq 28 (E x) (E y)).run Try.prog w = .ok (.bool (x != y)) w := by
  rw [run_neq_struct, EL_ofs, EL_ofs, run_equalIn_arr w 0 W64 9998 28 22 4 Try.underlying28 size64 Try.underlying22 rfl (heq_w64 _ _ Try.underlying22) _ _ (by rw [ofs, List.length_map, dig_length]) (by rw [ofs, List.length_map, dig_length]), ofs_beq hx hy]
  rfl
theorem eqg_4 : Try.prog.eqGuardType Try.prog.depth 23 = false := by kernel_rfl
@[go_sem high] theorem eqGuard_4 (op : BinOp) (x y : Operand) (xs ys : Array Value) (w : World) : (eqGuard op 23 x y (.agg xs) (.agg ys)).run Try.prog w = .ok () w := run_eqGuard_agg w op _ x y xs ys eqg_4
@[go_sem high] theorem run_eql_4 (x y : Nat) (hx : x < T256) (hy : y < T256) (w : World) : (binOp .eql 23 (E x) (E y)).run Try.prog w = .ok (.bool (x == y)) w := by
  rw [run_eql_struct, EL_ofs, EL_ofs, run_equalIn_arr w 0 W64 9998 23 22 4 Try.underlying23 size64 Try.underlying22 rfl (heq_w64 _ _ Try.underlying22) _ _ (by rw [ofs, List.length_map, dig_length]) (by rw [ofs, List.length_map, dig_length]), ofs_beq hx hy]
  rfl

set_option maxHeartbeats 1000000 in
theorem of_any (n : Nat) (hn : n < B64) (w : World) :
    Calls Try.prog 20 #[n64 n] w fun e w' => e = .returned (E n) ∧ Later w w' := by
  have hs := hid (EL_small hn)
  go_enter Try.func20, Try.ntmps20
  go_wp2_with (first
    | (refine wpList_build_is rfl 28 _ rfl [n64 n, .int .u64 0, .int .u64 0, .int .u64 0] ?hb ?_; (case hb => kernel_rfl); rw [← hs.out])
    | (refine store_E rfl rfl _ _ rfl (Blk.new w _ (List.replicate 4 (.int .u64 0))) rfl rfl rfl ?_; intro w3 hb3 ho3))
  exact bodyPost_ret (ret_E rfl hb3 rfl) rfl ⟨rfl, (later_alloc _ _).only ho3 (by omega)⟩
set_option maxHeartbeats 1000000 in
theorem square_any (n : Nat) (hn : n < T256) (w : World) :
    Calls Try.prog 42 #[E n] w fun e w' => e = .returned (E (n * n % P25)) ∧ Later w w' := by
  have hb : Blk ((w.alloc (.cells (EL n).toArray 28)).alloc (.cells (List.replicate 4 (.int .u64 0)).toArray 28)) w.heap.size 28 (EL n) := (Blk.new _ _ _).later (later_alloc _ _)
  have hr : Blk ((w.alloc (.cells (EL n).toArray 28)).alloc (.cells (List.replicate 4 (.int .u64 0)).toArray 28)) (w.heap.size + 1) 28 (List.replicate 4 (.int .u64 0)) := Blk.new' _ _ _ (by simp)
  go_enter Try.func42, Try.ntmps42
  go_wp2_with (first
    | (refine load_E rfl _ rfl hb rfl ?_)
    | (go_at_call 61; (with_reducible refine (multiply_any n n hn hn _).mono ?_); rintro e w2 ⟨rfl, hl2⟩
       have hr2 := hr.later hl2
       have L2 : Later w w2 := ((later_alloc _ _).trans (later_alloc _ _)).trans hl2)
    | (refine store_E rfl rfl _ _ rfl hr2 rfl rfl rfl ?_; intro w3 hb3 ho3)
    | fail)
  exact bodyPost_ret (ret_E rfl hb3 rfl) rfl ⟨rfl, L2.only ho3 (by omega)⟩
set_option maxHeartbeats 1000000 in
theorem is_any (n m : Nat) (hn : n < T256) (hm : m < T256) (w : World) :
    Calls Try.prog 18 #[E n, E m] w fun e w' => e = .returned (.bool (n % P25 == m % P25)) ∧ Later w w' := by
  have hb : Blk ((w.alloc (.cells (EL n).toArray 28)).alloc (.cells (EL m).toArray 28)) w.heap.size 28 (EL n) := (Blk.new _ _ _).later (later_alloc _ _)
  have hc : Blk ((w.alloc (.cells (EL n).toArray 28)).alloc (.cells (EL m).toArray 28)) (w.heap.size + 1) 28 (EL m) := Blk.new' _ _ _ (by simp)
  go_enter Try.func18, Try.ntmps18
  go_wp2_with fail
  refine wp_region_parts [([0, 2], 1), ([], 3)] [4, 5] [] (by as_aux_lemma => kernel_rfl) (by as_aux_lemma => kernel_rfl) (by intro _ _ d _ _ h; cases d <;> exact h) ?_
  simp only [wpParts, pick, List.getElem?_cons_succ, List.getElem?_cons_zero, Option.toList_some, List.cons_append, List.nil_append]
  repeat (first | go_big_quiet_skip | (go_big_quiet_want; (first | refine quiet_E _ rfl hb.drew rfl ?_ | refine quiet_E _ rfl hc.drew rfl ?_); simp only [Act.put, List.setIfInBounds_toArray, List.set_cons_succ, List.set_cons_zero]; go_big_quiet_on) | (go_big_quiet_step (fail)))
  refine wpQuiet_nil ?_
  go_wp2_with fail
  (with_reducible refine (norm_any n hn _).mono ?_); rintro e w2 ⟨rfl, hl2⟩
  go_wp2_with fail
  try refine ⟨by first | assumption | exact later_drew _ | exact later_alloc _ _ | exact Later.refl _, ?_⟩
  try simp only [wpParts, pick, List.getElem?_cons_succ, List.getElem?_cons_zero, Option.toList_some, List.cons_append, List.nil_append]
  repeat (go_big_quiet_step (fail))
  refine wpQuiet_nil ?_
  go_wp2_with fail
  (with_reducible refine (norm_any m hm _).mono ?_); rintro e w3 ⟨rfl, hl3⟩
  go_wp2_with fail
  try refine ⟨by first | assumption | exact later_drew _ | exact later_alloc _ _ | exact Later.refl _, ?_⟩
  try simp only [wpParts, pick, List.getElem?_cons_succ, List.getElem?_cons_zero, Option.toList_some, List.cons_append, List.nil_append]
  repeat (go_big_quiet_step (fail))
  refine wpQuiet_nil ?_
  go_wp2
  go_ret
  exact ⟨rfl, ((((later_alloc _ _).trans (later_alloc _ _)).drewN 1).trans hl2).trans hl3⟩
set_option maxHeartbeats 1000000 in
theorem odd_any (n : Nat) (hn : n < T256) (w : World) :
    Calls Try.prog 30 #[E n] w fun e w' => e = .returned (.bool (n % P25 % 2 == 1)) ∧ Later w w' := by
  have hb : Blk (w.alloc (.cells (EL n).toArray 28)) w.heap.size 28 (EL n) := Blk.new _ _ _
  have hlm : lim (n % P25) 0 % 2 = n % P25 % 2 := by unfold lim B64; omega
  have hix : ∀ W', (Instr.index 28 (E (n % P25)) (.int .i64 0)).run Try.prog W' = .ok (n64 (lim (n % P25) 0)) W' := fun W' =>
    run_index_one Try.underlying28 size64 Try.underlying22 rfl _ .i64 0 _ (by omega) (EL_get _ 0 (by omega)) W'
  have h2 : (n % P25 % 2 < B64) = True := eq_true (Nat.lt_trans (Nat.mod_lt _ (by omega)) (by decide))
  go_enter Try.func30, Try.ntmps30
  go_wp2_with (first
    | (refine load_E rfl _ rfl hb rfl ?_)
    | (go_at_call 27; (with_reducible refine (norm_any n hn _).mono ?_); rintro e w2 ⟨rfl, hl2⟩)
    | fail)
  go_ret
  exact ⟨rfl, (later_alloc _ _).trans hl2⟩

/-! ### Differences -/
theorem run_sub64n (x y b : Nat) (hx : x < B64) (hy : y < B64) (hb : b ≤ 1) (w : World) :
    (callFunc 69 #[n64 x, n64 y, n64 b]).run Try.prog w = .ok (.value (.tuple #[n64 ((x + B64 - y - b) % B64), n64 (if x < y + b then 1 else 0)])) w := by
  rw [n64_eq hx, n64_eq hy, n64_eq (show b < B64 by unfold B64; omega), run_callFunc_extern Try.func69 (by kernel_rfl) (by kernel_rfl) (by kernel_rfl) (e := sub64Entry) (by kernel_rfl), run_sub64 _ _ _ hb]
  rw [n64_eq (Nat.mod_lt _ B64_pos), n64_eq (show (if x < y + b then 1 else 0) < B64 by split <;> decide)]
  rfl
set_option maxHeartbeats 2000000 in
theorem fsub_any (n m : Nat) (hn : n < T256) (hm : m < T256) (w : World) :
    Calls Try.prog 40 #[E n, E m] w fun e w' => e = .returned (E ((n + (P25 - m % P25)) % P25)) ∧ Later w w' := by
  have hm1 : m % P25 < P25 := Nat.mod_lt _ P25_pos
  have hn1 : n % P25 < P25 := Nat.mod_lt _ P25_pos
  have hE := hid (E_cong (n := P25 + B64 ^ 4 - m % P25) (m := P25 - m % P25) (by rw [T256_eq]; unfold T256 P25 at *; omega))
  have hadd := hid (add_any' (n % P25) (P25 - m % P25) (by unfold T256 P25 at *; omega))
  have hb0 : Blk ((w.alloc (.cells (EL n).toArray 28)).alloc (.cells (EL m).toArray 28)) w.heap.size 28 (EL n) := (Blk.new _ _ _).later (later_alloc _ _)
  have hc0 : Blk ((w.alloc (.cells (EL n).toArray 28)).alloc (.cells (EL m).toArray 28)) (w.heap.size + 1) 28 (EL m) := Blk.new' _ _ _ (by simp)
  have L0 : Later w ((w.alloc (.cells (EL n).toArray 28)).alloc (.cells (EL m).toArray 28)) := (later_alloc _ _).trans (later_alloc _ _)
  go_enter Try.func40, Try.ntmps40
  go_wp2_with (first
    | (refine wpList_build_is rfl 28 _ rfl (EL P25) ?hb ?_; (case hb => kernel_rfl))
    | (refine store_E (g := w.heap.size + 1 + 1 + 1) rfl rfl _ _ rfl (Blk.new' _ _ (List.replicate 4 (.int .u64 0)) (by simp)) rfl rfl rfl ?_; intro w3 hb3 ho3
       have hn3 : Blk w3 w.heap.size 28 (EL n) := ((hb0.later (later_alloc _ _)).later (later_alloc _ _)).only ho3 (by omega)
       have hm3 : Blk w3 (w.heap.size + 1) 28 (EL m) := ((hc0.later (later_alloc _ _)).later (later_alloc _ _)).only ho3 (by omega)
       have hr3 : Blk w3 (w.heap.size + 1 + 1) 28 (List.replicate 4 (.int .u64 0)) := ((Blk.new' _ _ (List.replicate 4 (Value.int .u64 0)) (by simp)).later (later_alloc _ _)).only ho3 (by omega)
       have L3 : Later w w3 := ((L0.alloc _).alloc _).only ho3 (by omega)
       clear hb0 hc0 L0 ho3)
    | (refine load_E rfl _ rfl hm3 rfl ?_)
    | (go_at_call 27; (with_reducible refine (norm_any m hm _).mono ?_); rintro e w4 ⟨rfl, hl4⟩)
    | (refine store_E rfl rfl _ _ rfl (hm3.later hl4) rfl rfl (EL_length _) ?_; intro w5 hb5 ho5
       have hn5 := (hn3.later hl4).only ho5 (by omega)
       have hr5 := (hr3.later hl4).only ho5 (by omega)
       have hp5 := (hb3.later hl4).only ho5 (by omega)
       have L5 := (L3.trans hl4).only ho5 (by omega)
       clear hn3 hm3 hr3 hb3 L3 hl4 ho5)
    | fail)
  have hlS := EL_length (P25 + B64 ^ 4 - m % P25)
  have hlA := EL_length P25
  have hm1' : m % P25 < B64 ^ 4 := Nat.lt_trans hm1 (by decide)
  have hbl := hb5.lt
  generalize hMM : m % P25 = M at *
  have HM := hid hMM
  clear hMM
  go_loopw [6, 11] (fun c i wr => ∃ k : Nat, k ≤ 4 ∧ i = .int .i64 k ∧ c = n64 (owed B64 P25 M k) ∧ Blk wr (w.heap.size + 1 + 1 + 1) 28 (filled (EL (P25 + B64 ^ 4 - M)) (EL P25) k) ∧ Blk wr (w.heap.size + 1) 28 (EL M) ∧ Blk wr w.heap.size 28 (EL n) ∧ Blk wr (w.heap.size + 1 + 1) 28 (List.replicate 4 (.int .u64 0)) ∧ Later w wr) (fun _ i _ => 4 - (intOf i).toNat)
  case atStart => exact ⟨0, by omega, rfl, by rw [owed_zero]; rfl, by rw [filled_zero]; exact hp5, hb5, hn5, hr5, L5⟩
  case round =>
    clear hb5 hp5 hn5 hr5 L5
    obtain ⟨k, hk4, rfl, rfl, h1, h2, h0, h3, L⟩ := hrel
    by_cases hlt : k < 4
    · have hc := owed_le B64 P25 M k
      have S0 := hid (diff_dig B64_pos P25 M k 4 hlt hm1')
      have S1 := hid (owed_succ B64_pos P25 M k)
      have d0 := h1.cellD k (u := n64 (lim P25 k)) (by rw [filled_old _ _ _ _ (by omega) (Nat.le_refl _) (by omega)]; exact EL_get P25 k hlt)
      have d1 := h2.cellD k (EL_get M k hlt)
      generalize owed B64 P25 M k = c at *
      have hsub : ∀ w, (callFunc 69 #[n64 (lim P25 k), n64 (lim M k), n64 c]).run Try.prog w = .ok (.value (.tuple #[n64 ((lim P25 k + B64 - lim M k - c) % B64), n64 (if lim P25 k < lim M k + c then 1 else 0)])) w := fun w => run_sub64n _ _ _ (Nat.mod_lt _ B64_pos) (Nat.mod_lt _ B64_pos) hc w
      obtain ⟨X, hX⟩ : ∃ X, X = (lim P25 k + B64 - lim M k - c) % B64 := ⟨_, rfl⟩
      obtain ⟨Y, hY⟩ : ∃ Y, Y = (if lim P25 k < lim M k + c then 1 else 0) := ⟨_, rfl⟩
      rw [← hX, ← hY] at hsub
      have HX := hid hX
      have HY := hid hY
      clear hX hY
      go_wp2_with fail
      refine wp_region_parts [([0, 1, 2, 3, 4, 5, 6, 7], 8)] [9, 10, 11, 12] [13, 14] (by as_aux_lemma => kernel_rfl) (by as_aux_lemma => kernel_rfl) (by intro _ _ d _ _ h; cases d <;> exact h) ?_
      simp only [wpParts, pick, List.getElem?_cons_succ, List.getElem?_cons_zero, Option.toList_some, List.cons_append, List.nil_append]
      repeat (go_big_quiet_step (fail))
      refine wpQuiet_nil ?_
      go_wp2_with fail
      try refine ⟨by first | assumption | exact later_drew _ | exact later_alloc _ _ | exact Later.refl _, ?_⟩
      try simp only [wpParts, pick, List.getElem?_cons_succ, List.getElem?_cons_zero, Option.toList_some, List.cons_append, List.nil_append]
      repeat (go_big_quiet_step (fail))
      refine wpQuiet_nil ?_
      go_wp2_with (first
        | (refine wpList_store_in rfl rfl _ _ _ rfl _ _ _ _ h1.drew rfl ?hl rfl (by kernel_rfl) ?_; (case hl => rw [filled_length _ _ _ (by omega)]; omega); intro v w2 hv hb2 ho2; simp [go_sem] at hv; subst hv)
        | fail)
      go_roundw
      case rel =>
        rw [filled_step _ _ _ _ (by omega) (by omega) (by rw [EL_get _ k hlt, HX.out, lim, lim, lim, S0.out])] at hb2
        exact ⟨k + 1, by omega, by go_num, by rw [S1.out, HY.out]; rfl, hb2, h2.drew.only ho2 (by omega), h0.drew.only ho2 (by omega), h3.drew.only ho2 (by omega), (L.trans (later_drew _)).only ho2 (by omega)⟩
      case measure => simp [intOf]; omega
    · rw [show k = 4 by omega, filled_all _ _ _ hlS hlA] at h1
      have h1' : Blk wr (w.heap.size + 1 + 1 + 1) 28 (EL (P25 - M)) := by
        have e : EL (P25 + B64 ^ 4 - M) = EL (P25 - M) := by rw [EL_cong]; rw [T256_eq]; unfold T256 P25 at *; omega
        rwa [e] at h1
      have hkf : decide ((k : Int) < 4) = false := by simp; omega
      clear h1 hE
      go_wp2_with fail
      refine wp_region_parts [([0, 2], 1)] [] [3, 4] (by as_aux_lemma => kernel_rfl) (by as_aux_lemma => kernel_rfl) (by intro _ _ d _ _ h; cases d <;> exact h) ?_
      simp only [wpParts, pick, List.getElem?_cons_succ, List.getElem?_cons_zero, Option.toList_some, List.cons_append, List.nil_append]
      repeat (first | go_big_quiet_skip | (go_big_quiet_want; (first | refine quiet_E _ rfl h0.drew rfl ?_ | refine quiet_E _ rfl h1'.drew rfl ?_); simp only [Act.put, List.setIfInBounds_toArray, List.set_cons_succ, List.set_cons_zero]; go_big_quiet_on) | (go_big_quiet_step (fail)))
      refine wpQuiet_nil ?_
      go_wp2_with fail
      (with_reducible refine (norm_any n hn _).mono ?_); rintro e w2 ⟨rfl, hl2⟩
      go_wp2_with fail
      try refine ⟨by first | assumption | exact later_drew _ | exact later_alloc _ _ | exact Later.refl _, ?_⟩
      try simp only [wpParts, pick, List.getElem?_cons_succ, List.getElem?_cons_zero, Option.toList_some, List.cons_append, List.nil_append]
      repeat (go_big_quiet_step (fail))
      refine wpQuiet_nil ?_
      go_wp2_with fail
      (with_reducible refine (hadd.out _).mono ?_); rintro e w3 ⟨rfl, hl3⟩
      have h33 := ((h3.drew.later hl2)).later hl3
      have L3 := ((L.trans (later_drew _)).trans hl2).trans hl3
      go_wp2_with (refine store_E rfl rfl _ _ rfl h33 rfl rfl rfl ?_; intro w4 hb4 ho4)
      exact bodyPost_ret (ret_E rfl hb4 rfl) rfl ⟨by rw [HM.out], L3.only ho4 (by omega)⟩
end Go.Proofs.Ytmdjhbiiifnfiaa
