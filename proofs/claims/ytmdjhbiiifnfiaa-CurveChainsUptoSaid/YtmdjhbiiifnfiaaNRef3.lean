/-
  shallotref05: high, folded.
-/
import Derived.Test.YtmdjhbiiifnfiaaNRef2
namespace Go.Proofs.Ytmdjhbiiifnfiaa
open Go.RowKit

theorem digits_zero {B : Nat} (x : Nat) : ∀ k, (∀ j, j < k → x / B ^ j % B = 0) → x % B ^ k = 0
  | 0, _ => by simp [Nat.mod_one]
  | k + 1, h => by rw [mod_pow_succ, digits_zero x k (fun j hj => h j (by omega)), h k (by omega), Nat.mul_zero]
theorem lem_hi (n j : Nat) : lem n (8 + j) = lem (n / T256) j := by rw [lem, lem, ← B32_8, Nat.div_div_eq_div_mul, ← Nat.pow_add]
theorem lem_lo (n j : Nat) (h : j < 8) : lem n j = lem (n % T256) j := by
  rw [lem, lem, ← dig_getD B32 8 n j h, ← dig_getD B32 8 _ j h, ← B32_8, dig_mod]
theorem high_no (n : Nat) (hn : n < B32 ^ 17) (h : ∀ j, 8 ≤ j → j < 17 → lem n j = 0) : n < T256 := by
  have h9 : n / T256 < B32 ^ 9 := Nat.div_lt_of_lt_mul (by rw [← B32_8, ← Nat.pow_add]; exact hn)
  have := digits_zero (B := B32) (n / T256) 9 (fun j hj => by have := h (8 + j) (by omega) (by omega); rw [lem_hi] at this; exact this)
  rw [Nat.mod_eq_of_lt h9] at this
  have hd := Nat.div_add_mod n T256
  rw [this, Nat.mul_zero, Nat.zero_add] at hd
  rw [← hd]
  exact Nat.mod_lt _ (by decide)
theorem high_yes (n j : Nat) (h8 : 8 ≤ j) (h : lem n j ≠ 0) : ¬ n < T256 := by
  intro hn
  refine h ?_
  rw [lem, Nat.div_eq_of_lt, Nat.zero_mod]
  exact Nat.lt_of_lt_of_le hn (by rw [← B32_8]; exact Nat.pow_le_pow_right (by decide) h8)
theorem ret_bool {b c : Bool} (h : b = c) : Ending.returned (.bool b) = .returned (.bool c) := by rw [h]
set_option maxHeartbeats 1000000 in
theorem high_any (n : Nat) (hn : n < B32 ^ 17) (w : World) :
    Calls Try.prog 74 #[VV n] w fun e w' => e = .returned (.bool (!decide (n < T256))) ∧ Later w w' := by
  have HNo := hid (high_no n hn)
  have HYes := hid (high_yes n)
  clear hn
  go_enter Try.func74, Try.ntmps74
  go_wp2
  go_loopw [3] (fun i wr => ∃ k : Nat, 8 ≤ k ∧ k ≤ 17 ∧ i = .int .i64 k ∧ Hid (∀ j, 8 ≤ j → j < k → lem n j = 0) ∧ Blk wr w.heap.size 101 (VL n) ∧ Later w wr) (fun i _ => 17 - (intOf i).toNat)
  case atStart => exact ⟨8, by omega, by omega, rfl, hid (fun j h1 h2 => by omega), Blk.new _ _ _, later_alloc _ _⟩
  case round =>
    obtain ⟨k, hk8, hk, rfl, HZ, h1, L⟩ := hrel
    by_cases hlt : k < 17
    · have d0 := h1.cellD k (VL_get n k hlt)
      by_cases hz : lem n k = 0
      · have hd : decide (0 < lem n k) = false := by simp [hz]
        have HZ' := hid hz
        clear hz
        go_wp2
        go_roundw
        case rel =>
          refine ⟨k + 1, by omega, by omega, by go_num, hid (fun j h1 h2 => ?_), h1, L⟩
          by_cases hj : j = k
          · rw [hj]; exact HZ'.out
          · exact HZ.out j h1 (by omega)
        case measure => simp [intOf]; omega
      · have hd : decide (0 < lem n k) = true := by simp; omega
        have HR := hid (HYes.out k hk8 hz)
        clear hz
        go_wp2
        go_ret
        exact ⟨ret_bool (by simp only [HR.out, decide_false, Bool.not_false]), L⟩
    · have HR := hid (HNo.out (fun j h8 hj => HZ.out j h8 (by omega)))
      go_wp2
      go_ret
      exact ⟨ret_bool (by simp only [HR.out, decide_true, Bool.not_true]), L⟩
theorem VL_filled (S : Nat) (hS : S < B32 ^ 10) : filled (VL S) (List.replicate 17 (.int .u64 0)) 10 = VL S := by
  have hl := VL_length S
  apply List.ext_getElem (by rw [filled_length _ _ _ (by rw [hl]; rfl), hl]; rfl)
  intro i h1 h2
  rw [hl] at h2
  by_cases hi : i < 10
  · have e : (filled (VL S) (List.replicate 17 (.int .u64 0)) 10)[i]? = (VL S)[i]? := by
      rw [filled, List.getElem?_append_left (by rw [List.length_take, hl]; omega), List.getElem?_take, if_pos hi]
    rw [List.getElem?_eq_getElem h1, List.getElem?_eq_getElem (by rw [hl]; exact h2)] at e
    exact Option.some.inj e
  · have e := filled_old (VL S) (List.replicate 17 (.int .u64 0)) 10 i (by rw [hl]; rfl) (by omega) (by simpa using h2)
    rw [List.getElem?_eq_getElem h1, List.getElem?_replicate, if_pos h2] at e
    rw [Option.some.inj e, VL_at, lem, Nat.div_eq_of_lt, Nat.zero_mod]
    · rfl
    · exact Nat.lt_of_lt_of_le hS (Nat.pow_le_pow_right (by decide) (by omega))
theorem fold_math (m : Nat) (h : T256 ≤ m) : 38 * (m / T256) + m % T256 < m ∧ (38 * (m / T256) + m % T256) % P25 = m % P25 := by
  unfold T256 P25 at *
  omega
set_option maxRecDepth 100000 in
set_option maxHeartbeats 2000000 in
theorem folded_any (n : Nat) (hn : n < B32 ^ 17) (w : World) :
    Calls Try.prog 66 #[VV n] w fun e w' => e = .returned (NN (n % P25)) ∧ Later w w' := by
  go_enter Try.func66, Try.ntmps66
  go_wp2
  go_loopw [] (fun wr => ∃ m : Nat, m < B32 ^ 17 ∧ Hid (m % P25 = n % P25) ∧ Blk wr w.heap.size 101 (VL m) ∧ Blk wr (w.heap.size + 1) 35 (List.replicate 8 (.int .u32 0)) ∧ Later w wr) (fun wr => lies B32 17 w.heap.size wr)
  case atStart => exact ⟨n, hn, hid rfl, (Blk.new _ _ _).later (later_alloc _ _), Blk.new' _ _ (List.replicate 8 (Value.int .u32 0)) (by simp), (later_alloc _ _).trans (later_alloc _ _)⟩
  case round =>
    obtain ⟨m, hm, HM, h1, h2, L⟩ := hrel
    have hhi := hid (high_any m hm)
    rcases Nat.lt_or_ge m T256 with hlt | hge
    · have hb : (!decide (m < T256)) = false := by simpa using hlt
      rw [hb] at hhi
      clear hb
      go_wp2_with (first
        | (refine load_V rfl _ rfl h1 rfl ?_)
        | (go_at_call 74; (with_reducible refine (hhi.out _).mono ?_); rintro e w2 ⟨rfl, hl2⟩
           have h12 := h1.later hl2
           have h22 := h2.later hl2
           have L2 := L.trans hl2
           clear hhi)
        | fail)
      have hlS := NL_length m
      have hlz := h12.lt
      have hlz2 := h22.lt
      go_loopw [7] (fun i wx => ∃ k : Nat, k ≤ 8 ∧ i = .int .i64 k ∧ Blk wx w.heap.size 101 (VL m) ∧ Blk wx (w.heap.size + 1) 35 (List.replicate 8 (.int .u32 0)) ∧ Blk wx w2.heap.size 35 (filled (NL m) (List.replicate 8 (.int .u32 0)) k) ∧ Later w wx) (fun i _ => 8 - (intOf i).toNat)
      case atStart => exact ⟨0, by omega, rfl, h12.later (later_alloc _ _), h22.later (later_alloc _ _), by rw [filled_zero]; exact Blk.new _ _ (List.replicate 8 (Value.int .u32 0)), L2.trans (later_alloc _ _)⟩
      case round =>
        clear h12 h22 L2
        obtain ⟨k, hk, rfl, h3, h4, h5, L3⟩ := hrel
        by_cases hk8 : k < 8
        · have d0 := h3.cellD k (VL_get m k (by omega))
          go_wp2_with (first
            | (refine wpList_store_in rfl rfl _ _ _ rfl _ _ _ _ h5 rfl ?hl rfl (by kernel_rfl) ?_; (case hl => rw [filled_length _ _ _ (by rw [hlS]; rfl)]; simp; omega); intro v w6 hv hb6 ho6; simp [go_sem] at hv; subst hv))
          go_roundw
          case rel =>
            rw [filled_step _ _ _ _ (by rw [hlS]; rfl) (by simp; omega) (NL_get _ _ (by omega))] at hb6
            exact ⟨k + 1, by omega, by go_num, h3.only ho6 (by omega), h4.only ho6 (by omega), hb6, L3.only ho6 (by have := L.size; omega)⟩
          case measure => simp [intOf]; omega
        · rw [show k = 8 by omega, filled_all _ _ _ hlS rfl] at h5
          have hkf : decide ((k : Int) < 8) = false := by simp; omega
          go_wp2_with (first
            | (refine load_N rfl _ rfl h5 rfl ?_)
            | (go_at_call 26; (with_reducible refine (norm_ref m hlt _).mono ?_); rintro e w7 ⟨rfl, hl7⟩)
            | (refine store_N rfl rfl _ _ rfl (h4.later hl7) rfl rfl rfl ?_; intro w9 hb9 ho9)
            | fail)
          exact bodyPost_ret (ret_N rfl hb9 rfl) rfl ⟨by rw [HM.out], (L3.trans hl7).only ho9 (by omega)⟩
    · have hb : (!decide (m < T256)) = true := by simpa using hge
      rw [hb] at hhi
      clear hb
      obtain ⟨hf1, hf2⟩ := fold_math m hge
      have hh9 : m / T256 < B32 ^ 9 := Nat.div_lt_of_lt_mul (by rw [← B32_8, ← Nat.pow_add]; exact hm)
      have hhl := fun j => lem_hi m j
      have hll := fun j h => lem_lo m j h
      have hlm := Nat.mod_lt m (show 0 < T256 by decide)
      have hS10 : 38 * (m / T256) + m % T256 < B32 ^ 10 := by
        have e1 : B32 ^ 10 = 4294967296 * (4294967296 * T256) := by decide
        have e2 : B32 ^ 9 = 4294967296 * T256 := by decide
        rw [e2] at hh9
        rw [e1]
        omega
      have hd10 : (38 * (m / T256) + m % T256) / B32 ^ 9 < B32 := Nat.div_lt_of_lt_mul (by rw [← Nat.pow_succ]; exact hS10)
      have hdd : lem (38 * (m / T256) + m % T256) 9 = (38 * (m / T256) + m % T256) / B32 ^ 9 := Nat.mod_eq_of_lt hd10
      have hmE : mcar B32 38 (m / T256) (m % T256) 9 = (38 * (m / T256) + m % T256) / B32 ^ 9 := by
        rw [mcar, Nat.mod_eq_of_lt hh9, Nat.mod_eq_of_lt (Nat.lt_trans hlm (by decide))]
      rw [← hmE] at hdd
      have HDD := hid hdd
      have HF2 := hid (hf2.trans HM.out)
      have HF1 := hid hf1
      have HVF := hid (VL_filled _ hS10)
      have HHL := hid hhl
      have HLL := hid hll
      have HS17 := hid (Nat.lt_of_lt_of_le hS10 (show B32 ^ 10 ≤ B32 ^ 17 from Nat.pow_le_pow_right (by decide) (by omega)))
      have hz8 : lem (m % T256) 8 = 0 := by rw [lem, Nat.div_eq_of_lt (by rw [B32_8]; exact hlm), Nat.zero_mod]
      have HZ8 := hid hz8
      clear hdd hmE hd10 hf1 hf2 hhl hll hS10 hz8 hh9 hlm
      generalize m / T256 = H at *
      generalize m % T256 = Lo at *
      have hlS := VL_length (38 * H + Lo)
      go_wp2_with (first
        | (refine load_V rfl _ rfl h1 rfl ?_)
        | (go_at_call 74; (with_reducible refine (hhi.out _).mono ?_); rintro e w2 ⟨rfl, hl2⟩
           have h12 := (h1.later hl2).later (later_alloc _ (.cells (List.replicate 17 (.int .u64 0)).toArray 101))
           have h22 := (h2.later hl2).later (later_alloc _ (.cells (List.replicate 17 (.int .u64 0)).toArray 101))
           have L2 := (L.trans hl2).trans (later_alloc _ (.cells (List.replicate 17 (.int .u64 0)).toArray 101))
           have hz1 := (h1.later hl2).lt
           have hz2 := (h2.later hl2).lt
           clear hhi)
        | fail)
      go_loopw [4, 5] (fun c i wx => ∃ k : Nat, k ≤ 9 ∧ i = .int .i64 k ∧ c = n64 (mcar B32 38 H Lo k) ∧ Blk wx w.heap.size 101 (VL m) ∧ Blk wx (w.heap.size + 1) 35 (List.replicate 8 (.int .u32 0)) ∧ Blk wx w2.heap.size 101 (filled (VL (38 * H + Lo)) (List.replicate 17 (.int .u64 0)) k) ∧ Later w wx) (fun _ i _ => 9 - (intOf i).toNat)
      case atStart => exact ⟨0, by omega, rfl, by rw [mcar_zero]; rfl, h12, h22, by rw [filled_zero]; exact Blk.new _ _ (List.replicate 17 (Value.int .u64 0)), L2⟩
      case round =>
        clear h12 h22 L2
        obtain ⟨k, hk, rfl, rfl, h3, h4, h5, L3⟩ := hrel
        by_cases hk9 : k < 9
        · have hc := mcar_lt (show 38 < B32 by decide) H Lo k
          have S0 := hid (mdig B32_pos 38 H Lo k)
          have S1 := hid (mcar_succ B32_pos 38 H Lo k)
          have d1 := h3.cellD (k + 8) (VL_get m (k + 8) (by omega))
          rw [Nat.add_comm k 8, HHL.out k, Nat.add_comm 8 k] at d1
          have hlH : lem H k < B32 := Nat.mod_lt _ B32_pos
          have hlL : lem Lo k < B32 := Nat.mod_lt _ B32_pos
          change Hid ((38 * lem H k + lem Lo k + mcar B32 38 H Lo k) % B32 = lem (38 * H + Lo) k) at S0
          change Hid ((38 * lem H k + lem Lo k + mcar B32 38 H Lo k) / B32 = _) at S1
          by_cases hk8 : k < 8
          · have d0 := h3.cellD k (VL_get m k (by omega))
            rw [HLL.out k hk8] at d0
            generalize mcar B32 38 H Lo k = c at *
            have hsm : (c + lem Lo k + 38 * lem H k < B64) = True := eq_true (by unfold B64; unfold B32 at *; omega)
            have E0 := hid (show (c + lem Lo k + 38 * lem H k) % 4294967296 = lem (38 * H + Lo) k by rw [← S0.out]; unfold B32; congr 1; omega)
            have E1 := hid (show (c + lem Lo k + 38 * lem H k) / 4294967296 = mcar B32 38 H Lo (k + 1) by rw [← S1.out]; unfold B32; congr 1; omega)
            go_wp2_with (first
              | (refine wpList_store_in rfl rfl _ _ _ rfl _ _ _ _ h5 rfl ?hl rfl (by kernel_rfl) ?_; (case hl => rw [filled_length _ _ _ (by rw [hlS]; rfl)]; simp; omega); intro v w6 hv hb6 ho6; simp [go_sem] at hv; subst hv))
            go_roundw
            case rel =>
              rw [E0.out, filled_step _ _ _ _ (by rw [hlS]; rfl) (by simp; omega) (VL_get _ _ (by omega))] at hb6
              exact ⟨k + 1, by omega, by go_num, by rw [E1.out], h3.only ho6 (by omega), h4.only ho6 (by omega), hb6, L3.only ho6 (by have := L.size; omega)⟩
            case measure => simp [intOf]; omega
          · have hk8e : lem Lo k = 0 := by rw [show k = 8 by omega]; exact HZ8.out
            have HKE := hid hk8e
            clear hk8e
            generalize mcar B32 38 H Lo k = c at *
            have hsm : (c + 38 * lem H k < B64) = True := eq_true (by unfold B64; unfold B32 at *; omega)
            have E0 := hid (show (c + 38 * lem H k) % 4294967296 = lem (38 * H + Lo) k by rw [← S0.out, HKE.out]; unfold B32; congr 1; omega)
            have E1 := hid (show (c + 38 * lem H k) / 4294967296 = mcar B32 38 H Lo (k + 1) by rw [← S1.out, HKE.out]; unfold B32; congr 1; omega)
            go_wp2_with (first
              | (refine wpList_store_in rfl rfl _ _ _ rfl _ _ _ _ h5 rfl ?hl rfl (by kernel_rfl) ?_; (case hl => rw [filled_length _ _ _ (by rw [hlS]; rfl)]; simp; omega); intro v w6 hv hb6 ho6; simp [go_sem] at hv; subst hv))
            go_roundw
            case rel =>
              rw [E0.out, filled_step _ _ _ _ (by rw [hlS]; rfl) (by simp; omega) (VL_get _ _ (by omega))] at hb6
              exact ⟨k + 1, by omega, by go_num, by rw [E1.out], h3.only ho6 (by omega), h4.only ho6 (by omega), hb6, L3.only ho6 (by have := L.size; omega)⟩
            case measure => simp [intOf]; omega
        · rw [show k = 9 by omega] at h5
          have hkf : decide ((k : Int) < 9) = false := by simp; omega
          have HC9 := hid (show n64 (mcar B32 38 H Lo k) = n64 (lem (38 * H + Lo) 9) by rw [show k = 9 by omega, HDD.out])
          go_wp2_with (first
            | (refine wpList_store_in rfl rfl _ _ _ rfl _ _ _ _ h5 rfl ?hl rfl (by kernel_rfl) ?_; (case hl => rw [filled_length _ _ _ (by rw [hlS]; rfl)]; simp); intro v w6 hv hb6 ho6; simp [go_sem] at hv; subst hv
               rw [HC9.out, filled_step _ _ _ _ (by rw [hlS]; rfl) (by simp) (VL_get _ 9 (by omega)), HVF.out] at hb6
               have h36 := h3.only ho6 (by omega))
            | (refine load_V rfl _ rfl hb6 rfl ?_)
            | (refine store_V rfl rfl _ _ rfl h36 rfl rfl (VL_length _) ?_; intro w7 hb7 ho7)
            | fail)
          go_roundw
          case rel =>
            repeat apply Exists.intro
            exact ⟨⟨38 * H + Lo, HS17.out, hid HF2.out, hb7, (h4.only ho6 (by omega)).only ho7 (by omega), (L3.only ho6 (by have := L.size; omega)).only ho7 (by omega)⟩, rfl⟩
          case measure =>
            have e1 := lies_V hb7 HS17.out
            have e2 := lies_V h1 hm
            have := HF1.out
            omega
end Go.Proofs.Ytmdjhbiiifnfiaa
