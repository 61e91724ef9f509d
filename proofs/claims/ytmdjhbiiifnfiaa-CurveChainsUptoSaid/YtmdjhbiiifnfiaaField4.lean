/-
  field.multiply.
-/
import Derived.Test.YtmdjhbiiifnfiaaField3
namespace Go.Proofs.Ytmdjhbiiifnfiaa
open Go.RowKit

/-! ### One row times a small number -/
def mcar (B x a b k : Nat) : Nat := (x * (a % B ^ k) + b % B ^ k) / B ^ k
theorem mcar_zero (B x a b : Nat) : mcar B x a b 0 = 0 := by simp [mcar, Nat.mod_one]
theorem mcar_succ {B : Nat} (hB : 0 < B) (x a b k : Nat) : (x * (a / B ^ k % B) + b / B ^ k % B + mcar B x a b k) / B = mcar B x a b (k + 1) := by
  have hp : 0 < B ^ k := Nat.pow_pos hB
  rw [mcar, mcar, mod_pow_succ, mod_pow_succ, Nat.pow_succ, ← Nat.div_div_eq_div_mul]
  congr 1
  have e : x * (a % B ^ k + B ^ k * (a / B ^ k % B)) + (b % B ^ k + B ^ k * (b / B ^ k % B)) = (x * (a % B ^ k) + b % B ^ k) + B ^ k * (x * (a / B ^ k % B) + b / B ^ k % B) := by
    rw [Nat.mul_add, Nat.mul_add, Nat.mul_left_comm x]
    omega
  rw [e, Nat.add_mul_div_left _ _ hp, Nat.add_comm]
theorem mdig {B : Nat} (hB : 0 < B) (x a b k : Nat) : (x * (a / B ^ k % B) + b / B ^ k % B + mcar B x a b k) % B = (x * a + b) / B ^ k % B := by
  have hp : 0 < B ^ k := Nat.pow_pos hB
  have ea := Nat.div_add_mod a (B ^ k)
  have eb := Nat.div_add_mod b (B ^ k)
  have e : x * a + b = (x * (a % B ^ k) + b % B ^ k) + B ^ k * (x * (a / B ^ k) + b / B ^ k) := by
    have : x * a = x * (a % B ^ k) + B ^ k * (x * (a / B ^ k)) := by
      rw [Nat.mul_left_comm, ← Nat.mul_add, Nat.add_comm, ea]
    rw [Nat.mul_add]
    omega
  rw [e, Nat.add_mul_div_left _ _ hp, ← mcar, Nat.add_comm (mcar B x a b k), Nat.add_mod, Nat.add_mod (x * (a / B ^ k) + b / B ^ k), Nat.add_mod (x * (a / B ^ k % B)), Nat.mul_mod_mod, Nat.mod_mod, ← Nat.add_mod (x * (a / B ^ k))]
theorem mcar_lt {B x : Nat} (hx : x < B) (a b k : Nat) : mcar B x a b k ≤ x := by
  have hp : 0 < B ^ k := Nat.pow_pos (by omega)
  rw [mcar]
  refine Nat.le_of_lt_succ (Nat.div_lt_of_lt_mul ?_)
  have h1 := Nat.mod_lt a hp
  have h2 := Nat.mod_lt b hp
  have h3 : x * (a % B ^ k) ≤ x * (B ^ k - 1) := Nat.mul_le_mul_left x (by omega)
  rw [Nat.mul_sub, Nat.mul_one] at h3
  have h4 : x ≤ x * B ^ k := Nat.le_mul_of_pos_right x hp
  rw [Nat.succ_eq_add_one, Nat.mul_add, Nat.mul_one, Nat.mul_comm (B ^ k)]
  omega
theorem mul_math (a b : Nat) (ha : a < T256) (hb : b < T256) (S c o c2 : Nat) (hS : S = 38 * (a * b / T256) + a * b % T256) (hc : c = S / T256) (ho : o = S % T256) (h2 : c2 = (o + 38 * c) / T256) :
    c ≤ 38 ∧ c2 ≤ 1 ∧ (o + 38 * c) % T256 + 38 * c2 < T256 ∧ ((o + 38 * c) % T256 + 38 * c2) % P25 = a * b % P25 := by
  have h : a * b ≤ (T256 - 1) * (T256 - 1) := Nat.mul_le_mul (by omega) (by omega)
  generalize a * b = X at *
  have h3 : X / T256 < T256 := by
    refine Nat.div_lt_of_lt_mul (Nat.lt_of_le_of_lt h ?_)
    decide
  have hd := Nat.div_add_mod X T256
  have hm := Nat.mod_lt X (show 0 < T256 by decide)
  generalize X / T256 = H at *
  generalize X % T256 = L at *
  unfold T256 P25 at *
  omega
/-- The wide product's limbs. -/
def WL (n : Nat) : List Value := (dig B64 8 n).map n64
theorem WL_length (n : Nat) : (WL n).length = 8 := by rw [WL, List.length_map, dig_length]
theorem WL_get (n i : Nat) (h : i < 8) : (WL n)[i]? = some (n64 (lim n i)) := by rw [WL, List.getElem?_map, dig_get _ _ _ _ h]; rfl
theorem prod_WL (a b : Nat) (ha : a < B64 ^ 4) (hb : b < B64 ^ 4) : (prodAt B64 (dig B64 4 a) (dig B64 4 b) 8 4).map n64 = WL (a * b) := by
  have hl := prodAt_length B64 (dig B64 4 a) (dig B64 4 b) 8 4
  have hlt := prodAt_lt B64_pos (dig B64 4 a) (dig B64 4 b) 8 (dig_lt B64_pos 4 a) (dig_lt B64_pos 4 b) 4
  have hv := prodAt_val (B := B64) (dig B64 4 a) (dig B64 4 b) 8 4 (by rw [dig_length]; omega) (by rw [dig_length]; omega)
  rw [List.take_of_length_le (by rw [dig_length]; omega), val_dig, val_dig, Nat.mod_eq_of_lt ha, Nat.mod_eq_of_lt hb] at hv
  have := dig_val _ hlt
  rw [hl, hv] at this
  rw [WL, this]
theorem lim_hi (n i : Nat) : lim n (i + 4) = lim (n / T256) i := by
  rw [lim, lim, ← T256_eq, Nat.div_div_eq_div_mul, ← Nat.pow_add, Nat.add_comm]
theorem lim_lo (n i : Nat) (h : i < 4) : lim n i = lim (n % T256) i := by
  rw [lim, lim, ← dig_getD B64 4 n i h, ← dig_getD B64 4 _ i h, ← T256_eq, dig_mod]
theorem set_n64 (l : List Nat) (i v : Nat) : (l.map n64).set i (n64 v) = (l.set i v).map n64 := by rw [List.map_set]
theorem get_n64 (l : List Nat) (i : Nat) (h : i < l.length) : (l.map n64)[i]? = some (n64 (l.getD i 0)) := by
  rw [List.getElem?_map, List.getD_eq_getElem?_getD, List.getElem?_eq_getElem h]
  rfl
theorem EL_cong {n m : Nat} (h : n % T256 = m % T256) : EL n = EL m := by
  rw [EL, EL, ← dig_mod, ← dig_mod (n := m), T256_eq, h]
theorem E_cong {n m : Nat} (h : n % T256 = m % T256) : E n = E m := by rw [E, E, EL_cong h]
theorem step_38 (x m c : Nat) (hx : x < B64) (hm : m < B64) (hc : c < B64) (w : World) :
    Calls Try.prog 72 #[n64 x, .int .u64 38, n64 m, n64 c] w fun e w' => e = .returned (.tuple #[n64 ((x * 38 + m + c) % B64), n64 ((x * 38 + m + c) / B64)]) ∧ w = w' := step_any x 38 m c hx (by decide) hm hc w
theorem prodAt_next (B : Nat) (xs ys : List Nat) (n i x m : Nat) (hx : xs.getD i 0 = x) (hm : ys.length = m) : prodAt B xs ys n (i + 1) = (rowAt B x ys (prodAt B xs ys n i) i m).1.set (i + m) (rowAt B x ys (prodAt B xs ys n i) i m).2 := by
  subst hx
  subst hm
  rfl
theorem rowAt_next (B x : Nat) (ys ws : List Nat) (i j y : Nat) (hy : ys.getD j 0 = y) : rowAt B x ys ws i (j + 1) = ((rowAt B x ys ws i j).1.set (i + j) ((x * y + (rowAt B x ys ws i j).1.getD (i + j) 0 + (rowAt B x ys ws i j).2) % B),
      (x * y + (rowAt B x ys ws i j).1.getD (i + j) 0 + (rowAt B x ys ws i j).2) / B) := by
  subst hy
  rfl
set_option maxRecDepth 100000 in
set_option maxHeartbeats 4000000 in
theorem multiply_any (a b : Nat) (ha : a < T256) (hb : b < T256) (w : World) :
    Calls Try.prog 61 #[E a, E b] w fun e w' => e = .returned (E (a * b % P25)) ∧ Later w w' := by
  have HP := hid (prod_WL a b (by rw [T256_eq]; exact ha) (by rw [T256_eq]; exact hb))
  have hla := fun i (h : i < 4) => dig_getD B64 4 a i h
  have hlb := fun i (h : i < 4) => dig_getD B64 4 b i h
  have hal := dig_lt B64_pos 4 a
  have hbl := dig_lt B64_pos 4 b
  have hAl := dig_length B64 4 a
  have hBl := dig_length B64 4 b
  have ha0 : Blk (((w.alloc (.cells (EL a).toArray 28)).alloc (.cells (EL b).toArray 28))) w.heap.size 28 (EL a) := (Blk.new _ _ _).later (later_alloc _ _)
  have hb0 : Blk (((w.alloc (.cells (EL a).toArray 28)).alloc (.cells (EL b).toArray 28))) (w.heap.size + 1) 28 (EL b) := (Blk.new' _ _ _ (by simp))
  generalize hdA : dig B64 4 a = dA at *
  generalize hdB : dig B64 4 b = dB at *
  have HA := hid hdA
  have HB := hid hdB
  have HLA := hid hla
  have HLB := hid hlb
  have HAl := hid hAl
  have HBl := hid hBl
  clear hdA hdB hla hlb hAl hBl
  go_enter Try.func61, Try.ntmps61
  go_wp2
  go_loopw [12] (fun i wr => ∃ k : Nat, k ≤ 4 ∧ i = .int .i64 k ∧ Blk wr w.heap.size 28 (EL a) ∧ Blk wr (w.heap.size + 1) 28 (EL b) ∧ Blk wr (w.heap.size + 1 + 1) 28 (List.replicate 4 (.int .u64 0)) ∧ Blk wr (w.heap.size + 1 + 1 + 1) 109 ((prodAt B64 dA dB 8 k).map n64) ∧ Later w wr) (fun i _ => 4 - (intOf i).toNat)
  case atStart =>
    have L0 : Later w ((w.alloc (.cells (EL a).toArray 28)).alloc (.cells (EL b).toArray 28)) := (later_alloc _ _).trans (later_alloc _ _)
    exact ⟨0, by omega, rfl, (ha0.later (later_alloc _ _)).later (later_alloc _ _), (hb0.later (later_alloc _ _)).later (later_alloc _ _), (Blk.new' _ _ (List.replicate 4 (Value.int .u64 0)) (by simp)).later (later_alloc _ _), Blk.new' _ _ (List.replicate 8 (Value.int .u64 0)) (by simp), (L0.alloc _).alloc _⟩
  case round =>
    clear ha0 hb0
    obtain ⟨k, hk4, rfl, h1, h2, h3, h4, L⟩ := hrel
    by_cases hlt : k < 4
    · have hpl := prodAt_length B64 dA dB 8 k
      have hpt := prodAt_lt B64_pos dA dB 8 hal hbl k
      have da := h1.cellD k (EL_get a k hlt)
      have HS := hid (prodAt_next B64 dA dB 8 k (lim a k) 4 (HLA.out k hlt) HBl.out)
      generalize prodAt B64 dA dB 8 k = ws at *
      have HPL := hid hpl
      clear hpl
      have hkb : decide ((k : Int) < 4) = true := by simp; omega
      go_wp2
      go_loopw [7, 15] (fun c i wr => ∃ j : Nat, j ≤ 4 ∧ i = .int .i64 j ∧ c = n64 (rowAt B64 (lim a k) dB ws k j).2 ∧ Blk wr w.heap.size 28 (EL a) ∧ Blk wr (w.heap.size + 1) 28 (EL b) ∧ Blk wr (w.heap.size + 1 + 1) 28 (List.replicate 4 (.int .u64 0)) ∧ Blk wr (w.heap.size + 1 + 1 + 1) 109 ((rowAt B64 (lim a k) dB ws k j).1.map n64) ∧ Later w wr) (fun _ i _ => 4 - (intOf i).toNat)
      case atStart => exact ⟨0, by omega, rfl, rfl, h1, h2, h3, h4, L⟩
      case round =>
        clear h1 h2 h3 h4 L da
        obtain ⟨j, hj4, rfl, rfl, h1, h2, h3, h4, L⟩ := hrel
        have hrl := rowAt_length B64 (lim a k) dB ws k j
        obtain ⟨hrt, hct⟩ := rowAt_lt (B := B64) (lim a k) dB ws k (Nat.mod_lt _ B64_pos) hbl hpt j
        by_cases hlj : j < 4
        · have da := h1.cellD k (EL_get a k hlt)
          have db := h2.cellD j (EL_get b j hlj)
          have dw := h4.cellD (k + j) (get_n64 _ _ (by rw [hrl, HPL.out]; omega))
          have hwl := getD_lt B64_pos hrt (k + j)
          have HR := hid (rowAt_next B64 (lim a k) dB ws k j (lim b j) (HLB.out j hlj))
          generalize (rowAt B64 (lim a k) dB ws k j).2 = c at *
          generalize (rowAt B64 (lim a k) dB ws k j).1.getD (k + j) 0 = v at *
          generalize (rowAt B64 (lim a k) dB ws k j).1 = vs at *
          have HRL := hid hrl
          clear hrl
          have hkj : IntKind.i64.wrap ((k : Int) + (j : Int)) = ((k + j : Nat) : Int) := by rw [IntKind.wrap_i64]; omega
          go_wp2_with fail
          refine wp_region_parts [([0, 1, 2, 3, 4, 5, 6, 7, 8, 9, 10, 11, 12, 13, 14], 15)] [16, 17, 18, 19] [20, 21] (by as_aux_lemma => kernel_rfl) (by as_aux_lemma => kernel_rfl) (by intro _ _ d _ _ h; cases d <;> exact h) ?_
          simp only [wpParts, pick, List.getElem?_cons_succ, List.getElem?_cons_zero, Option.toList_some, List.cons_append, List.nil_append]
          repeat (go_big_quiet_step (fail))
          refine wpQuiet_nil ?_
          go_wp2_with fail
          (with_reducible refine (step_any (lim a k) (lim b j) v c (Nat.mod_lt _ B64_pos) (Nat.mod_lt _ B64_pos) hwl hct _).mono ?_)
          rintro e w2 ⟨rfl, rfl⟩
          go_wp2_with fail
          try refine ⟨by first | assumption | exact later_drew _ | exact later_alloc _ _ | exact Later.refl _, ?_⟩
          try simp only [wpParts, pick, List.getElem?_cons_succ, List.getElem?_cons_zero, Option.toList_some, List.cons_append, List.nil_append]
          repeat (go_big_quiet_step (fail))
          refine wpQuiet_nil ?_
          go_wp2_with (first
            | (refine wpList_store_in rfl rfl _ _ _ rfl _ _ _ _ h4.drew rfl ?hl rfl (by kernel_rfl) ?_; (case hl => rw [List.length_map, HRL.out, HPL.out]; omega); intro v w2 hv hb2 ho2; simp [go_sem] at hv; subst hv)
            | fail)
          go_roundw
          case rel =>
            rw [set_n64] at hb2
            exact ⟨j + 1, by omega, by go_num, by rw [HR.out], h1.drew.only ho2 (by omega), h2.drew.only ho2 (by omega), h3.drew.only ho2 (by omega), by rw [HR.out]; exact hb2, (L.trans (later_drew _)).only ho2 (by omega)⟩
          case measure => simp [intOf]; omega
        · obtain rfl : j = 4 := by omega
          generalize hc4 : (rowAt B64 (lim a k) dB ws k 4).2 = c at *
          generalize hv4 : (rowAt B64 (lim a k) dB ws k 4).1 = vs at *
          have HRL := hid hrl
          have HC4 := hid hc4
          have HV4 := hid hv4
          clear hrl hc4 hv4
          go_wp2_with (first
            | (refine wpList_store_in rfl rfl _ _ _ rfl _ _ _ _ h4 rfl ?hl rfl (by kernel_rfl) ?_; (case hl => rw [List.length_map, HRL.out, HPL.out]; omega); intro v w2 hv hb2 ho2; simp [go_sem] at hv; subst hv)
            | fail)
          go_roundw
          case rel =>
            rw [set_n64] at hb2
            exact ⟨k + 1, by omega, by go_num, h1.only ho2 (by omega), h2.only ho2 (by omega), h3.only ho2 (by omega), by rw [HS.out]; exact hb2, L.only ho2 (by omega)⟩
          case measure => simp [intOf]; omega
    · rw [show k = 4 by omega, HP.out] at h4
      have hkf : decide ((k : Int) < 4) = false := by simp; omega
      have hX : a * b / T256 < T256 := by
        refine Nat.div_lt_of_lt_mul (Nat.lt_of_le_of_lt (Nat.mul_le_mul (Nat.le_sub_one_of_lt ha) (Nat.le_sub_one_of_lt hb)) ?_)
        decide
      obtain ⟨hm1, hm2, hm3, hm4⟩ := mul_math a b ha hb _ _ _ _ rfl rfl rfl rfl
      have hlo := fun i h => lim_lo (a * b) i h
      have hhi := fun i => lim_hi (a * b) i
      have hlm := Nat.mod_lt (a * b) (show 0 < T256 by decide)
      have HR := hid hm4
      clear hm4
      generalize hRR : a * b % P25 = R at *
      have HRR := hid ((congrArg (· % P25) (Nat.mul_comm b a)).trans hRR)
      clear hRR
      generalize hXX : a * b = X at *
      clear hXX HP HA HB HLA HLB HAl HBl hal hbl ha hb
      generalize X / T256 = H at *
      generalize X % T256 = Lo at *
      have HLO := hid hlo
      have HHI := hid hhi
      clear hlo hhi
      have hSl := EL_length (38 * H + Lo)
      go_wp2_with fail
      have hn0 : Blk (wr.alloc (.cells (List.replicate 4 (Value.int .u64 0)).toArray 28)) wr.heap.size 28 (List.replicate 4 (.int .u64 0)) := Blk.new _ _ _
      have hsz := h4.lt
      go_loopw [10, 44] (fun c i wx => ∃ k : Nat, k ≤ 4 ∧ i = .int .i64 k ∧ c = n64 (mcar B64 38 H Lo k) ∧ Blk wx wr.heap.size 28 (filled (EL (38 * H + Lo)) (List.replicate 4 (.int .u64 0)) k) ∧ Blk wx (w.heap.size + 1 + 1) 28 (List.replicate 4 (.int .u64 0)) ∧ Blk wx (w.heap.size + 1 + 1 + 1) 109 (WL X) ∧ Later w wx) (fun _ i _ => 4 - (intOf i).toNat)
      case atStart => exact ⟨0, by omega, rfl, by rw [mcar_zero]; rfl, by rw [filled_zero]; exact hn0, h3.later (later_alloc _ _), h4.later (later_alloc _ _), L.trans (later_alloc _ _)⟩
      case round =>
        clear h1 h2 h3 h4 L hn0
        obtain ⟨k, hk4, rfl, rfl, h1, h3, h4, L⟩ := hrel
        by_cases hlt : k < 4
        · have hc := mcar_lt (show 38 < B64 by decide) H Lo k
          have S0 := hid (mdig B64_pos 38 H Lo k)
          have S1 := hid (mcar_succ B64_pos 38 H Lo k)
          have d0 := h4.cellD k (WL_get X k (by omega))
          have d1 := h4.cellD (k + 4) (WL_get X (k + 4) (by omega))
          rw [HLO.out k hlt] at d0
          rw [HHI.out k] at d1
          generalize mcar B64 38 H Lo k = c at *
          have hkj : IntKind.i64.wrap ((k : Int) + 4) = ((k + 4 : Nat) : Int) := by rw [IntKind.wrap_i64]; omega
          go_wp2_with fail
          refine wp_region_parts [([0, 1, 2, 3, 4, 5, 6, 7, 8], 9)] [10, 11, 12, 13] [14, 15] (by as_aux_lemma => kernel_rfl) (by as_aux_lemma => kernel_rfl) (by intro _ _ d _ _ h; cases d <;> exact h) ?_
          simp only [wpParts, pick, List.getElem?_cons_succ, List.getElem?_cons_zero, Option.toList_some, List.cons_append, List.nil_append]
          repeat (go_big_quiet_step (fail))
          refine wpQuiet_nil ?_
          go_wp2_with fail
          (with_reducible refine (step_38 (lim H k) (lim Lo k) c (Nat.mod_lt _ B64_pos) (Nat.mod_lt _ B64_pos) (Nat.lt_of_le_of_lt hc (by decide)) _).mono ?_)
          rintro e w2 ⟨rfl, rfl⟩
          go_wp2_with fail
          try refine ⟨by first | assumption | exact later_drew _ | exact later_alloc _ _ | exact Later.refl _, ?_⟩
          try simp only [wpParts, pick, List.getElem?_cons_succ, List.getElem?_cons_zero, Option.toList_some, List.cons_append, List.nil_append]
          repeat (go_big_quiet_step (fail))
          refine wpQuiet_nil ?_
          go_wp2_with (first
            | (refine wpList_store_in rfl rfl _ _ _ rfl _ _ _ _ h1.drew rfl ?hl rfl (by kernel_rfl) ?_; (case hl => rw [filled_length _ _ _ (by rw [hSl]; rfl)]; exact hlt); intro v w2 hv hb2 ho2; simp [go_sem] at hv; subst hv)
            | fail)
          go_roundw
          case rel =>
            have e0 := S0.out
            have e1 := S1.out
            rw [Nat.mul_comm 38] at e0 e1
            rw [filled_step _ _ _ _ (by rw [hSl]; rfl) hlt (by rw [EL_get _ k hlt, lim, lim, lim, ← e0])] at hb2
            exact ⟨k + 1, by omega, by go_num, by rw [← e1]; rfl, hb2, h3.drew.only ho2 (by omega), h4.drew.only ho2 (by omega), (L.trans (later_drew _)).only ho2 (by omega)⟩
          case measure => simp [intOf]; omega
        · obtain rfl : k = 4 := by omega
          have hc4 : mcar B64 38 H Lo 4 = (38 * H + Lo) / T256 := by rw [mcar, T256_eq, Nat.mod_eq_of_lt hX, Nat.mod_eq_of_lt hlm]
          rw [filled_all _ _ _ hSl rfl] at h1
          have HC4 := hid hc4
          clear hc4
          generalize hS : 38 * H + Lo = S at *
          have e2 : (S % B64 ^ 4 + 38 * (S / T256)) / B64 ^ 4 = (S % T256 + 38 * (S / T256)) / T256 := by rw [T256_eq]
          have HE := hid e2
          clear e2
          have hp1 := plus_any S (38 * (S / T256)) (by unfold B64; omega)
          rw [HE.out] at hp1
          generalize hcc : (S % T256 + 38 * (S / T256)) / T256 = c2 at *
          have hp2 := plus_any (S + 38 * (S / T256)) (38 * c2) (by unfold B64; omega)
          have hEq : E (S + 38 * (S / T256) + 38 * c2) = E ((S % T256 + 38 * (S / T256)) % T256 + 38 * c2) := E_cong (by unfold T256; omega)
          have hn := norm_any _ hm3
          rw [HR.out] at hn
          have HQ := hid hEq
          have HN := hid hn
          have HP1 := hid hp1
          have HP2 := hid hp2
          clear hEq hn hp1 hp2
          generalize (S % T256 + 38 * (S / T256)) % T256 + 38 * c2 = fin at *
          generalize hcd : S / T256 = c1 at *
          have hcd' : n64 (mcar B64 38 H Lo 4) = n64 c1 := by rw [HC4.out]
          generalize mcar B64 38 H Lo 4 = c0 at *
          obtain rfl : c0 = c1 := HC4.out
          clear hcd' HC4 HE
          go_wp2_with (first
            | (refine load_E rfl _ rfl h1 rfl ?_)
            | (go_at_call 65; (with_reducible refine (HP1.out _).mono ?_); rintro e w2 ⟨rfl, hl2⟩
               have h12 := h1.later hl2
               have h32 := h3.later hl2
               have L2 := L.trans hl2
               clear HP1)
            | (refine store_E rfl rfl _ _ rfl h12 rfl rfl (EL_length _) ?_; intro w3 hb3 ho3
               have h33 := h32.only ho3 (by omega)
               have L3 := L2.only ho3 (by omega)
               clear h32 h12 L2)
            | (refine load_E rfl _ rfl hb3 rfl ?_)
            | (go_at_call 65; (with_reducible refine (HP2.out _).mono ?_); rintro e w4 ⟨rfl, hl4⟩
               have h14 := hb3.later hl4
               have h34 := h33.later hl4
               have L4 := L3.trans hl4
               rw [HQ.out]
               clear HP2)
            | (refine store_E rfl rfl _ _ rfl h14 rfl rfl (EL_length _) ?_; intro w5 hb5 ho5
               have h35 := h34.only ho5 (by omega)
               have L5 := L4.only ho5 (by omega)
               clear h34 h14 L4)
            | (refine load_E rfl _ rfl hb5 rfl ?_)
            | (go_at_call 27; (with_reducible refine (HN.out _).mono ?_); rintro e w6 ⟨rfl, hl6⟩
               have h36 := h35.later hl6
               have L6 := L5.trans hl6)
            | (refine store_E rfl rfl _ _ rfl h36 rfl rfl rfl ?_; intro w7 hb7 ho7)
            | fail)
          exact bodyPost_ret (ret_E rfl hb7 rfl) rfl ⟨by rw [Nat.mul_comm a b]; exact congrArg (fun t => Ending.returned (E t)) HRR.out.symm, L6.only ho7 (by omega)⟩
end Go.Proofs.Ytmdjhbiiifnfiaa
