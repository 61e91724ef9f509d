/-
  shallotref01.Get, shallotref05.Read.
-/
import Derived.Test.YtmdjhbiiifnfiaaNRef6
namespace Go.Proofs.Ytmdjhbiiifnfiaa
open Go.RowKit

@[go_sem] theorem mul_n64W (T : TypeId) (x : Nat) (y : UInt64) : binOp .mul T (n64 x) (W64 y) = pure (n64 (x * y.toNat)) := by
  rw [w64_n y, mul_n64]
theorem byte64 (x : UInt8) : x.toUInt64.toNat = x.toNat := UInt8.toNat_toUInt64 x
theorem shape_any (w : World) : Calls Try.prog 75 #[.int .i64 1, .int .i64 4] w fun e w' => e = .returned (.bool true) ∧ w = w' := by
  go_enter Try.func75, Try.ntmps75
  go_wp2
  go_ret
  exact ⟨rfl, rfl⟩
/-- Four bytes from 4k on. -/
def quad (bs : List UInt8) (k j : Nat) : Nat := num ((bs.drop (4 * k)).take j)
theorem quad_succ (bs : List UInt8) (k j : Nat) (h : 4 * k + j < bs.length) : quad bs k (j + 1) = quad bs k j + 256 ^ j * (bs.getD (4 * k + j) 0).toNat := by
  rw [quad, num_take _ _ (by rw [List.length_drop]; omega)]
  congr 3
  rw [List.getD_eq_getElem?_getD, List.getD_eq_getElem?_getD, List.getElem?_drop]
set_option maxHeartbeats 1000000 in
theorem get_any (A : Option Addr) (n c : Nat) (bs : List UInt8) (k : Nat) (w : World) (hr : RdB w A n bs) (hk : 4 * k + 4 ≤ n) (hn : n ≤ 140737488355328) :
    Calls Try.prog 68 #[.int .i64 1, .slice A n c, .int .i64 (4 * (k : Int)), .int .i64 4] w fun e w' => e = .returned (.tuple #[n64 (quad bs k 4), .int .i64 0]) ∧ Later w w' := by
  have hbl := hr.len
  obtain ⟨b, o, rfl, hb, hc⟩ := hr.at_ (by omega)
  have HC := hid hc
  have HQ := hid (fun j (h : j < 4) => quad_succ bs k j (by omega))
  clear hc hr
  have e1 : decide (4 * (k : Int) < 0) = false := by simp; omega
  have e2 : decide ((n : Int) < 4) = false := by simp; omega
  have e3 : decide ((n : Int) - 4 < 4 * (k : Int)) = false := by simp; omega
  go_enter Try.func68, Try.ntmps68
  go_wp2_with (go_at_call 75; (with_reducible refine (shape_any _).mono ?_); rintro e w2 ⟨rfl, rfl⟩)
  go_loopw [10, 11, 12] (fun v x i wr => ∃ j : Nat, j ≤ 4 ∧ i = .int .i64 j ∧ v = n64 (quad bs k j) ∧ x = n64 (256 ^ j) ∧ Later w wr) (fun _ _ i _ => 4 - (intOf i).toNat)
  case atStart => exact ⟨0, by omega, rfl, rfl, rfl, Later.refl w⟩
  case round =>
    obtain ⟨j, hj, rfl, rfl, rfl, L⟩ := hrel
    by_cases hlt : j < 4
    · have c0 : wr.cell? ⟨b, o + (4 * k + j), none⟩ = some (W8 (bs.getD (4 * k + j) 0)) := (L.below.cell (p := ⟨b, o + (4 * k + j), none⟩) hb).trans (HC.out (4 * k + j) (by omega))
      have HQj := hid (HQ.out j hlt)
      generalize bs.getD (4 * k + j) 0 = x at *
      have hbx := byte64 x
      go_wp2
      go_roundw
      case rel => exact ⟨j + 1, by omega, by go_num, by rw [HQj.out], by rw [Nat.pow_succ], L⟩
      case measure => simp [intOf]; omega
    · have hkf : decide ((j : Int) < 4) = false := by simp; omega
      have HJ := hid (show quad bs k j = quad bs k 4 by rw [show j = 4 by omega])
      go_wp2
      go_ret2
      exact ⟨ret_two (congrArg n64 HJ.out) rfl, L⟩
theorem quad_lem (bs : List UInt8) (k : Nat) (h : 4 * k + 4 ≤ bs.length) : quad bs k 4 = lem (num bs) k := by
  have e1 : num ((bs.drop (4 * k)).take 4) < 256 ^ 4 := by
    have := num_lt ((bs.drop (4 * k)).take 4)
    rwa [List.length_take, List.length_drop, Nat.min_eq_left (by omega)] at this
  have e2 : num bs = num (bs.take (4 * k)) + 256 ^ (4 * k) * (num ((bs.drop (4 * k)).take 4) + 256 ^ 4 * num ((bs.drop (4 * k)).drop 4)) := by
    have a1 : ∀ l m : List UInt8, num (l ++ m) = num l + 256 ^ l.length * num m := by
      intro l m
      rw [num, List.map_append, val_append, List.length_map]
      rfl
    conv => lhs; rw [← List.take_append_drop (4 * k) bs, a1, ← List.take_append_drop 4 (bs.drop (4 * k)), a1]
    rw [List.length_take, List.length_take, List.length_drop, Nat.min_eq_left (by omega), Nat.min_eq_left (by omega)]
  have e3 : num (bs.take (4 * k)) < 256 ^ (4 * k) := by
    have := num_lt (bs.take (4 * k))
    rwa [List.length_take, Nat.min_eq_left (by omega)] at this
  have e4 : B32 ^ k = 256 ^ (4 * k) := by rw [Nat.pow_mul]; rfl
  have e5 : B32 = 256 ^ 4 := by decide
  rw [quad, lem, e4, e5, e2, Nat.add_mul_div_left _ _ (Nat.pow_pos (by decide)), Nat.div_eq_of_lt e3, Nat.zero_add, Nat.add_mul_mod_self_left, Nat.mod_eq_of_lt e1]
@[go_sem] theorem rem_n32 (T : TypeId) (x : Nat) (hx : x < B32) : binOp .rem T (n32 x) (.int .u32 2147483648) = pure (n32 (x % 2147483648)) := by
  rw [n32, rem_w32i _ _ _ (by omega) (by omega) (by decide), n32_w]
  rw [UInt32.toNat_mod, tn32 hx]
  have : x % 2147483648 < B32 := by unfold B32; omega
  rw [Nat.mod_eq_of_lt this]
  rfl
theorem NL_low (n : Nat) : (NL n).set 7 (n32 (lem n 7 % 2147483648)) = NL (n % T255) := by
  have e : ∀ m, NL m = [n32 (lem m 0), n32 (lem m 1), n32 (lem m 2), n32 (lem m 3), n32 (lem m 4), n32 (lem m 5), n32 (lem m 6), n32 (lem m 7)] := by
    intro m
    apply List.ext_getElem (NL_length m)
    intro i hi1 hi2
    rw [NL_at]
    have : i = 0 ∨ i = 1 ∨ i = 2 ∨ i = 3 ∨ i = 4 ∨ i = 5 ∨ i = 6 ∨ i = 7 := by rw [NL_length] at hi1; omega
    rcases this with rfl | rfl | rfl | rfl | rfl | rfl | rfl | rfl <;> rfl
  have h0 : lem n 0 = lem (n % T255) 0 := by unfold lem T255 B32; omega
  have h1 : lem n 1 = lem (n % T255) 1 := by unfold lem T255 B32; omega
  have h2 : lem n 2 = lem (n % T255) 2 := by unfold lem T255 B32; omega
  have h3 : lem n 3 = lem (n % T255) 3 := by unfold lem T255 B32; omega
  have h4 : lem n 4 = lem (n % T255) 4 := by unfold lem T255 B32; omega
  have h5 : lem n 5 = lem (n % T255) 5 := by unfold lem T255 B32; omega
  have h6 : lem n 6 = lem (n % T255) 6 := by unfold lem T255 B32; omega
  have h7 : lem n 7 % 2147483648 = lem (n % T255) 7 := by unfold lem T255 B32; omega
  rw [e, e, h0, h1, h2, h3, h4, h5, h6, h7]
  rfl
set_option maxRecDepth 100000 in
set_option maxHeartbeats 2000000 in
theorem read_ref (A : Option Addr) (n c : Nat) (bs : List UInt8) (w : World) (hr : RdB w A n bs) (hn : n ≤ 140737488355328) :
    Calls Try.prog 39 #[.slice A n c] w fun e w' => e = .returned (.tuple #[NN (readN bs), .int .i64 (readE bs : Nat)]) ∧ Later w w' := by
  have hbl := hr.len
  have hb0 := Blk.new w 35 (List.replicate 8 (Value.int .u32 0))
  by_cases h32 : n = 32
  · subst h32
    have hRN := hid (show readN bs = num bs % T255 % P25 by rw [readN, if_pos hbl])
    have hRE := hid (show readE bs = 0 by rw [readE, if_pos hbl])
    have HQ := hid (fun k (h : k < 8) => quad_lem bs k (by omega))
    have hlS := NL_length (num bs)
    go_enter Try.func39, Try.ntmps39
    go_wp2
    go_loopw [5] (fun i wr => ∃ k : Nat, k ≤ 8 ∧ i = .int .i64 k ∧ Blk wr w.heap.size 35 (List.replicate 8 (.int .u32 0)) ∧ Blk wr (w.heap.size + 1) 35 (filled (NL (num bs)) (List.replicate 8 (.int .u32 0)) k) ∧ Later w wr) (fun i _ => 8 - (intOf i).toNat)
    case atStart => exact ⟨0, by omega, rfl, hb0.later (later_alloc _ _), by rw [filled_zero]; exact Blk.new' _ _ (List.replicate 8 (Value.int .u32 0)) (by simp), (later_alloc _ _).trans (later_alloc _ _)⟩
    case round =>
      clear hb0
      obtain ⟨k, hk, rfl, h1, h2, L⟩ := hrel
      by_cases hlt : k < 8
      · have HQk := hid (HQ.out k hlt)
        have HG := hid (get_any A 32 c bs k wr (hr.later L) (by omega) (by omega))
        go_wp2_with (first
          | (go_at_call 68; (with_reducible refine (HG.out).mono ?_); rintro e w3 ⟨rfl, hl3⟩; rw [HQk.out]
             have h23 := h2.later hl3)
          | (refine wpList_store_in rfl rfl _ _ _ rfl _ _ _ _ h23 rfl ?hl rfl (by kernel_rfl) ?_; (case hl => rw [filled_length _ _ _ (by rw [hlS]; rfl)]; exact hlt); intro v w6 hv hb6 ho6; simp [go_sem] at hv; subst hv)
          | fail)
        go_roundw
        case rel =>
          rw [filled_step _ _ _ _ (by rw [hlS]; rfl) hlt (NL_get _ _ hlt)] at hb6
          exact ⟨k + 1, by omega, by go_num, (h1.later hl3).only ho6 (by omega), hb6, (L.trans hl3).only ho6 (by omega)⟩
        case measure => simp [intOf]; omega
      · rw [show k = 8 by omega, filled_all _ _ _ hlS rfl] at h2
        have hkf : decide ((k : Int) < 8) = false := by simp; omega
        have d7 := h2.cellD 7 (NL_get _ 7 (by omega))
        have hlT : num bs % T255 < T256 := Nat.lt_trans (Nat.mod_lt _ (by decide)) (by decide)
        go_wp2_with (first
          | (refine wpList_store_in rfl rfl _ _ _ rfl _ _ _ _ h2 rfl ?hl rfl (by kernel_rfl) ?_; (case hl => rw [NL_length]; omega); intro v w6 hv hb6 ho6; simp [go_sem] at hv; subst hv
             rw [NL_low] at hb6
             have h16 := h1.only ho6 (by omega)
             have L6 := L.only ho6 (by omega))
          | (refine load_N rfl _ rfl hb6 rfl ?_)
          | (go_at_call 26; (with_reducible refine (norm_ref (num bs % T255) hlT _).mono ?_); rintro e w7 ⟨rfl, hl7⟩)
          | (refine store_N rfl rfl _ _ rfl (h16.later hl7) rfl rfl rfl ?_; intro w9 hb9 ho9)
          | fail)
        exact bodyPost_ret (results_blk_tmp rfl _ _ _ _ _ _ hb9 rfl Try.underlying35 rfl (by rw [NL_length]; exact sizeN)) rfl ⟨by rw [hRN.out, hRE.out]; rfl, (L6.trans hl7).only ho9 (by omega)⟩
  · have hRN := hid (show readN bs = 0 by rw [readN, if_neg (by omega)])
    have hRE := hid (show readE bs = 2 by rw [readE, if_neg (by omega)])
    have hne : ((n : Int) != 32) = true := by simp; omega
    go_enter Try.func39, Try.ntmps39
    go_wp2_with (first
      | (refine wpList_build_is rfl 35 _ rfl (NL 0) ?hb ?_; (case hb => kernel_rfl))
      | (refine store_N (n := 0) rfl rfl _ _ rfl hb0 rfl rfl rfl ?_; intro w9 hb9 ho9)
      | fail)
    exact bodyPost_ret (results_blk_tmp rfl _ _ _ _ _ _ hb9 rfl Try.underlying35 rfl (by rw [NL_length]; exact sizeN)) rfl ⟨by rw [hRN.out, hRE.out]; rfl, (later_alloc _ _).only ho9 (by omega)⟩
end Go.Proofs.Ytmdjhbiiifnfiaa
