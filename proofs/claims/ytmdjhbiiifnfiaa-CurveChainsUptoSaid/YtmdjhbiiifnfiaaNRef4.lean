/-
  shallotref05: Add, Mul, Sub.
-/
import Derived.Test.YtmdjhbiiifnfiaaNRef3
namespace Go.Proofs.Ytmdjhbiiifnfiaa
open Go.RowKit

theorem VL_filled' (S k : Nat) (hk : k ≤ 17) (hS : S < B32 ^ k) : filled (VL S) (List.replicate 17 (.int .u64 0)) k = VL S := by
  have hl := VL_length S
  apply List.ext_getElem (by rw [filled_length _ _ _ (by rw [hl]; rfl), hl]; rfl)
  intro i h1 h2
  rw [hl] at h2
  by_cases hi : i < k
  · have e : (filled (VL S) (List.replicate 17 (.int .u64 0)) k)[i]? = (VL S)[i]? := by
      rw [filled, List.getElem?_append_left (by rw [List.length_take, hl]; omega), List.getElem?_take, if_pos hi]
    rw [List.getElem?_eq_getElem h1, List.getElem?_eq_getElem (by rw [hl]; exact h2)] at e
    exact Option.some.inj e
  · have e := filled_old (VL S) (List.replicate 17 (.int .u64 0)) k i (by rw [hl]; rfl) (by omega) (by simpa using h2)
    rw [List.getElem?_eq_getElem h1, List.getElem?_replicate, if_pos h2] at e
    rw [Option.some.inj e, VL_at, lem, Nat.div_eq_of_lt, Nat.zero_mod]
    · rfl
    · exact Nat.lt_of_lt_of_le hS (Nat.pow_le_pow_right (by decide) (by omega))
set_option maxRecDepth 100000 in
set_option maxHeartbeats 2000000 in
theorem add_ref (a b : Nat) (ha : a < T256) (hb : b < T256) (w : World) :
    Calls Try.prog 36 #[NN a, NN b] w fun e w' => e = .returned (NN ((a + b) % P25)) ∧ Later w w' := by
  have hS9 : a + b < B32 ^ 9 := by
    have : B32 ^ 9 = 4294967296 * T256 := by decide
    rw [this]
    omega
  have HVF := hid (VL_filled' (a + b) 9 (by omega) hS9)
  have hlS := VL_length (a + b)
  have h8 : carr B32 a b 0 8 = lem (a + b) 8 := by
    rw [carr_end _ _ _ _ (by rw [B32_8]; exact ha) (by rw [B32_8]; exact hb), lem, Nat.mod_eq_of_lt, Nat.add_zero]
    exact Nat.div_lt_of_lt_mul (by rw [← Nat.pow_succ]; exact hS9)
  have HC8 := hid h8
  have HF := hid (folded_any (a + b) (Nat.lt_of_lt_of_le hS9 (Nat.pow_le_pow_right (by decide) (by omega))))
  clear h8 hS9
  go_enter Try.func36, Try.ntmps36
  go_wp2
  go_loopw [6, 7] (fun c i wr => ∃ k : Nat, k ≤ 8 ∧ i = .int .i64 k ∧ c = n64 (carr B32 a b 0 k) ∧ Blk wr w.heap.size 35 (NL a) ∧ Blk wr (w.heap.size + 1) 35 (NL b) ∧ Blk wr (w.heap.size + 1 + 1) 35 (List.replicate 8 (.int .u32 0)) ∧ Blk wr (w.heap.size + 1 + 1 + 1) 101 (filled (VL (a + b)) (List.replicate 17 (.int .u64 0)) k) ∧ Later w wr) (fun _ i _ => 8 - (intOf i).toNat)
  case atStart => exact ⟨0, by omega, rfl, by rw [carr_zero]; rfl, (((Blk.new _ _ _).later (later_alloc _ _)).later (later_alloc _ _)).later (later_alloc _ _), ((Blk.new' _ _ (NL b) (by simp)).later (later_alloc _ _)).later (later_alloc _ _), (Blk.new' _ _ (List.replicate 8 (Value.int .u32 0)) (by simp)).later (later_alloc _ _), by rw [filled_zero]; exact Blk.new' _ _ (List.replicate 17 (Value.int .u64 0)) (by simp), (((later_alloc _ _).trans (later_alloc _ _)).trans (later_alloc _ _)).trans (later_alloc _ _)⟩
  case round =>
    obtain ⟨k, hk4, rfl, rfl, h1, h2, h3, h4, L⟩ := hrel
    by_cases hlt : k < 8
    · have d0 := h1.cellD k (NL_get a _ (by omega))
      have d1 := h2.cellD k (NL_get b _ (by omega))
      have hc := carr_le B32_pos a b 0 k (by omega)
      have S0 := hid (sum_dig B32_pos a b 0 k)
      have S1 := hid (carr_succ B32_pos a b 0 k)
      have hx : lem a k < B32 := Nat.mod_lt _ B32_pos
      have hy : lem b k < B32 := Nat.mod_lt _ B32_pos
      change Hid ((lem a k + lem b k + carr B32 a b 0 k) % B32 = lem (a + b) k) at S0
      change Hid ((lem a k + lem b k + carr B32 a b 0 k) / B32 = carr B32 a b 0 (k + 1)) at S1
      generalize carr B32 a b 0 k = c at *
      have hsm : (c + lem a k + lem b k < B64) = True := eq_true (by unfold B64; unfold B32 at *; omega)
      have E0 := hid (show (c + lem a k + lem b k) % 4294967296 = lem (a + b) k by rw [← S0.out]; unfold B32; congr 1; omega)
      have E1 := hid (show (c + lem a k + lem b k) / 4294967296 = carr B32 a b 0 (k + 1) by rw [← S1.out]; unfold B32; congr 1; omega)
      go_wp2_with fail
      refine wp_region_parts [] [0, 1, 2, 3, 4, 5, 6, 7, 8, 9, 10, 11] [] (by as_aux_lemma => kernel_rfl) (by as_aux_lemma => kernel_rfl) (by intro _ _ d _ _ h; cases d <;> exact h) ?_
      simp only [wpParts, pick, List.getElem?_cons_succ, List.getElem?_cons_zero, Option.toList_some, List.cons_append, List.nil_append]
      repeat (go_big_quiet_step (fail))
      refine wpQuiet_nil ?_
      go_wp2_with (first
        | (refine wpList_store_in rfl rfl _ _ _ rfl _ _ _ _ h4.drew rfl ?hl rfl (by kernel_rfl) ?_; (case hl => rw [filled_length _ _ _ (by rw [hlS]; rfl)]; simp; omega); intro v w6 hv hb6 ho6; simp [go_sem] at hv; subst hv)
        | fail)
      go_roundw
      case rel =>
        rw [E0.out, filled_step _ _ _ _ (by rw [hlS]; rfl) (by simp; omega) (VL_get _ _ (by omega))] at hb6
        exact ⟨k + 1, by omega, by go_num, by rw [E1.out], h1.drew.only ho6 (by omega), h2.drew.only ho6 (by omega), h3.drew.only ho6 (by omega), hb6, (L.trans (later_drew _)).only ho6 (by omega)⟩
      case measure => simp [intOf]; omega
    · rw [show k = 8 by omega] at h4
      have hkf : decide ((k : Int) < 8) = false := by simp; omega
      have HC9 := hid (show n64 (carr B32 a b 0 k) = n64 (lem (a + b) 8) by rw [show k = 8 by omega, HC8.out])
      go_wp2_with (first
        | (refine wpList_store_in rfl rfl _ _ _ rfl _ _ _ _ h4 rfl ?hl rfl (by kernel_rfl) ?_; (case hl => rw [filled_length _ _ _ (by rw [hlS]; rfl)]; simp); intro v w6 hv hb6 ho6; simp [go_sem] at hv; subst hv
           rw [HC9.out, filled_step _ _ _ _ (by rw [hlS]; rfl) (by simp) (VL_get _ 8 (by omega)), HVF.out] at hb6
           have h36 := h3.only ho6 (by omega)
           have L6 := L.only ho6 (by omega))
        | (refine load_V rfl _ rfl hb6 rfl ?_)
        | (go_at_call 66; (with_reducible refine (HF.out _).mono ?_); rintro e w7 ⟨rfl, hl7⟩)
        | (refine store_N rfl rfl _ _ rfl (h36.later hl7) rfl rfl rfl ?_; intro w9 hb9 ho9)
        | fail)
      exact bodyPost_ret (ret_N rfl hb9 rfl) rfl ⟨rfl, (L6.trans hl7).only ho9 (by omega)⟩
theorem prod_dig {B : Nat} (hB : 0 < B) (a b k n : Nat) (ha : a < B ^ k) (hb : b < B ^ k) (hn : k + k ≤ n) : prodAt B (dig B k a) (dig B k b) n k = dig B n (a * b) := by
  have hl := prodAt_length B (dig B k a) (dig B k b) n k
  have hlt := prodAt_lt hB (dig B k a) (dig B k b) n (dig_lt hB k a) (dig_lt hB k b) k
  have hv := prodAt_val (B := B) (dig B k a) (dig B k b) n k (by rw [dig_length]; omega) (by rw [dig_length]; omega)
  rw [List.take_of_length_le (by rw [dig_length]; omega), val_dig, val_dig, Nat.mod_eq_of_lt ha, Nat.mod_eq_of_lt hb] at hv
  have := dig_val _ hlt
  rw [hl, hv] at this
  exact this.symm
set_option maxRecDepth 100000 in
set_option maxHeartbeats 4000000 in
theorem mul_ref (a b : Nat) (ha : a < T256) (hb : b < T256) (w : World) :
    Calls Try.prog 32 #[NN a, NN b] w fun e w' => e = .returned (NN (a * b % P25)) ∧ Later w w' := by
  have hab : a * b < B32 ^ 17 := by
    have h1 : a * b ≤ (T256 - 1) * (T256 - 1) := Nat.mul_le_mul (by omega) (by omega)
    exact Nat.lt_of_le_of_lt h1 (by decide)
  have HF := hid (folded_any (a * b) hab)
  have HP := hid (show (prodAt B32 (dig B32 8 a) (dig B32 8 b) 17 8).map n64 = VL (a * b) by rw [prod_dig B32_pos a b 8 17 (by rw [B32_8]; exact ha) (by rw [B32_8]; exact hb) (by omega)]; rfl)
  clear hab
  have hla := fun i (h : i < 8) => dig_getD B32 8 a i h
  have hlb := fun i (h : i < 8) => dig_getD B32 8 b i h
  have hal := dig_lt B32_pos 8 a
  have hbl := dig_lt B32_pos 8 b
  have hBl := dig_length B32 8 b
  generalize hdA : dig B32 8 a = dA at *
  generalize hdB : dig B32 8 b = dB at *
  have HLA := hid hla
  have HLB := hid hlb
  have HBl := hid hBl
  clear hdA hdB hla hlb hBl
  go_enter Try.func32, Try.ntmps32
  go_wp2
  go_loopw [6] (fun i wr => ∃ k : Nat, k ≤ 8 ∧ i = .int .i64 k ∧ Blk wr w.heap.size 35 (NL a) ∧ Blk wr (w.heap.size + 1) 35 (NL b) ∧ Blk wr (w.heap.size + 1 + 1) 35 (List.replicate 8 (.int .u32 0)) ∧ Blk wr (w.heap.size + 1 + 1 + 1) 101 ((prodAt B32 dA dB 17 k).map n64) ∧ Later w wr) (fun i _ => 8 - (intOf i).toNat)
  case atStart => exact ⟨0, by omega, rfl, (((Blk.new _ _ _).later (later_alloc _ _)).later (later_alloc _ _)).later (later_alloc _ _), ((Blk.new' _ _ (NL b) (by simp)).later (later_alloc _ _)).later (later_alloc _ _), (Blk.new' _ _ (List.replicate 8 (Value.int .u32 0)) (by simp)).later (later_alloc _ _), Blk.new' _ _ (List.replicate 17 (Value.int .u64 0)) (by simp), (((later_alloc _ _).trans (later_alloc _ _)).trans (later_alloc _ _)).trans (later_alloc _ _)⟩
  case round =>
    obtain ⟨k, hk4, rfl, h1, h2, h3, h4, L⟩ := hrel
    by_cases hlt : k < 8
    · have hpl := prodAt_length B32 dA dB 17 k
      have hpt := prodAt_lt B32_pos dA dB 17 hal hbl k
      have HS := hid (prodAt_next B32 dA dB 17 k (lem a k) 8 (HLA.out k hlt) HBl.out)
      generalize prodAt B32 dA dB 17 k = ws at *
      have HPL := hid hpl
      clear hpl
      have hkb : decide ((k : Int) < 8) = true := by simp; omega
      go_wp2
      go_loopw [7, 8] (fun c i wr => ∃ j : Nat, j ≤ 8 ∧ i = .int .i64 j ∧ c = n64 (rowAt B32 (lem a k) dB ws k j).2 ∧ Blk wr w.heap.size 35 (NL a) ∧ Blk wr (w.heap.size + 1) 35 (NL b) ∧ Blk wr (w.heap.size + 1 + 1) 35 (List.replicate 8 (.int .u32 0)) ∧ Blk wr (w.heap.size + 1 + 1 + 1) 101 ((rowAt B32 (lem a k) dB ws k j).1.map n64) ∧ Later w wr) (fun _ i _ => 8 - (intOf i).toNat)
      case atStart => exact ⟨0, by omega, rfl, rfl, h1, h2, h3, h4, L⟩
      case round =>
        clear h1 h2 h3 h4 L
        obtain ⟨j, hj4, rfl, rfl, h1, h2, h3, h4, L⟩ := hrel
        have hrl := rowAt_length B32 (lem a k) dB ws k j
        obtain ⟨hrt, hct⟩ := rowAt_lt (B := B32) (lem a k) dB ws k (Nat.mod_lt _ B32_pos) hbl hpt j
        by_cases hlj : j < 8
        · have da := h1.cellD k (NL_get a k hlt)
          have db := h2.cellD j (NL_get b j hlj)
          have dw := h4.cellD (k + j) (get_n64 _ _ (by rw [hrl, HPL.out]; omega))
          have hwl := getD_lt B32_pos hrt (k + j)
          have HR := hid (rowAt_next B32 (lem a k) dB ws k j (lem b j) (HLB.out j hlj))
          generalize (rowAt B32 (lem a k) dB ws k j).2 = c at *
          generalize (rowAt B32 (lem a k) dB ws k j).1.getD (k + j) 0 = v at *
          generalize (rowAt B32 (lem a k) dB ws k j).1 = vs at *
          have HRL := hid hrl
          clear hrl
          have hkj : IntKind.i64.wrap ((k : Int) + (j : Int)) = ((k + j : Nat) : Int) := by rw [IntKind.wrap_i64]; omega
          have hmul : lem a k * lem b j ≤ 4294967295 * 4294967295 := Nat.mul_le_mul (Nat.le_of_lt_succ (Nat.mod_lt _ B32_pos)) (Nat.le_of_lt_succ (Nat.mod_lt _ B32_pos))
          have hsm : (c + v + lem a k * lem b j < B64) = True := eq_true (by unfold B64; unfold B32 at *; omega)
          have HE : (c + v + lem a k * lem b j) = lem a k * lem b j + v + c := by omega
          have E0 := hid (show (c + v + lem a k * lem b j) % 4294967296 = (lem a k * lem b j + v + c) % B32 by rw [HE]; rfl)
          have E1 := hid (show (c + v + lem a k * lem b j) / 4294967296 = (lem a k * lem b j + v + c) / B32 by rw [HE]; rfl)
          clear HE hmul
          go_wp2_with fail
          refine wp_region_parts [] [0, 1, 2, 3, 4, 5, 6, 7, 8, 9, 10, 11, 12, 13, 14, 15, 16, 17] [] (by as_aux_lemma => kernel_rfl) (by as_aux_lemma => kernel_rfl) (by intro _ _ d _ _ h; cases d <;> exact h) ?_
          simp only [wpParts, pick, List.getElem?_cons_succ, List.getElem?_cons_zero, Option.toList_some, List.cons_append, List.nil_append]
          repeat (go_big_quiet_step (fail))
          refine wpQuiet_nil ?_
          go_wp2_with (first
            | (refine wpList_store_in rfl rfl _ _ _ rfl _ _ _ _ h4.drew rfl ?hl rfl (by kernel_rfl) ?_; (case hl => rw [List.length_map, HRL.out, HPL.out]; omega); intro v w2 hv hb2 ho2; simp [go_sem] at hv; subst hv)
            | fail)
          go_roundw
          case rel =>
            rw [set_n64, E0.out] at hb2
            exact ⟨j + 1, by omega, by go_num, by rw [HR.out, E1.out], h1.drew.only ho2 (by omega), h2.drew.only ho2 (by omega), h3.drew.only ho2 (by omega), by rw [HR.out]; exact hb2, (L.trans (later_drew _)).only ho2 (by omega)⟩
          case measure => simp [intOf]; omega
        · obtain rfl : j = 8 := by omega
          generalize hc4 : (rowAt B32 (lem a k) dB ws k 8).2 = c at *
          generalize hv4 : (rowAt B32 (lem a k) dB ws k 8).1 = vs at *
          have HRL := hid hrl
          have HC4 := hid hc4
          have HV4 := hid hv4
          clear hrl hc4 hv4
          have hk8 : IntKind.i64.wrap ((k : Int) + 8) = ((k + 8 : Nat) : Int) := by rw [IntKind.wrap_i64]; omega
          go_wp2_with (first
            | (refine wpList_store_in rfl rfl _ _ _ rfl _ _ _ _ h4 rfl ?hl rfl (by kernel_rfl) ?_; (case hl => rw [List.length_map, HRL.out, HPL.out]; omega); intro v w2 hv hb2 ho2; simp [go_sem] at hv; subst hv)
            | fail)
          go_roundw
          case rel =>
            rw [set_n64] at hb2
            exact ⟨k + 1, by omega, by go_num, h1.only ho2 (by omega), h2.only ho2 (by omega), h3.only ho2 (by omega), by rw [HS.out]; exact hb2, L.only ho2 (by omega)⟩
          case measure => simp [intOf]; omega
    · rw [show k = 8 by omega, HP.out] at h4
      have hkf : decide ((k : Int) < 8) = false := by simp; omega
      go_wp2_with (first
        | (refine load_V rfl _ rfl h4 rfl ?_)
        | (go_at_call 66; (with_reducible refine (HF.out _).mono ?_); rintro e w7 ⟨rfl, hl7⟩)
        | (refine store_N rfl rfl _ _ rfl (h3.later hl7) rfl rfl rfl ?_; intro w9 hb9 ho9)
        | fail)
      exact bodyPost_ret (ret_N rfl hb9 rfl) rfl ⟨rfl, (L.trans hl7).only ho9 (by omega)⟩
end Go.Proofs.Ytmdjhbiiifnfiaa
