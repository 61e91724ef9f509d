/-
  field.Power.
-/
import Derived.Test.YtmdjhbiiifnfiaaField5
namespace Go.Proofs.Ytmdjhbiiifnfiaa
open Go.RowKit

/-- The number that bytes are, the least first. -/
def num (bs : List UInt8) : Nat := val 256 (bs.map UInt8.toNat)
theorem num_cons (bs : List UInt8) (j : Nat) (h : j < bs.length) : num (bs.drop j) = (bs.getD j 0).toNat + 256 * num (bs.drop (j + 1)) := by
  rw [List.drop_eq_getElem_cons h, num, List.map_cons, val, num, List.getD_eq_getElem?_getD, List.getElem?_eq_getElem h]
  rfl
/-- A counter that comes down to -1. -/
def dn : Nat → Int
  | 0 => -1
  | j + 1 => j
theorem dn_zero : dn 0 = -1 := rfl
theorem dn_succ (j : Nat) : dn (j + 1) = j := rfl
theorem dn_pred (j : Nat) : (j : Int) - 1 = dn j := by
  cases j with
  | zero => rfl
  | succ j => simp only [dn]; omega
theorem bit_toNat (x : UInt8) (m : Nat) : (shr8 x m &&& 1).toNat = x.toNat / 2 ^ m % 2 := by
  rw [UInt8.toNat_and]
  have e : (shr8 x m).toNat = x.toNat / 2 ^ m := by
    rw [shr8]
    show (BitVec.toNat _) = _
    rw [BitVec.toNat_ushiftRight, Nat.shiftRight_eq_div_pow]
    rfl
  rw [e]
  exact Nat.and_two_pow_sub_one_eq_mod _ 1
theorem bit_eq (x : UInt8) (m : Nat) : (shr8 x m &&& 1 == 1) = decide (x.toNat / 2 ^ m % 2 = 1) := by
  rw [← bit_toNat, Bool.eq_iff_iff, beq_iff_eq, decide_eq_true_eq, ← UInt8.toNat_inj]
  rfl
theorem pow_two (a e P : Nat) : (a ^ e % P) * (a ^ e % P) % P = a ^ (2 * e) % P := by rw [← Nat.mul_mod, ← Nat.pow_add, Nat.two_mul]
theorem pow_two_one (a e P : Nat) : (a ^ e % P) * (a ^ e % P) * a % P = a ^ (2 * e + 1) % P := by
  rw [Nat.pow_succ, Nat.mul_mod, pow_two, ← Nat.mul_mod]
theorem exp_step (N x m : Nat) (hm : m < 8) : N * 2 ^ (8 - m) + x / 2 ^ m = 2 * (N * 2 ^ (8 - (m + 1)) + x / 2 ^ (m + 1)) + x / 2 ^ m % 2 := by
  rw [show 8 - m = (8 - (m + 1)) + 1 by omega, Nat.pow_succ, Nat.pow_succ, ← Nat.div_div_eq_div_mul, ← Nat.mul_assoc]
  omega
theorem of_1 (w : World) : Calls Try.prog 20 #[.int .u64 1] w fun e w' => e = .returned (E 1) ∧ Later w w' := of_any 1 (by decide) w
set_option maxRecDepth 100000 in
set_option maxHeartbeats 2000000 in
theorem power_any (a : Nat) (ha : a < T256) (A : Option Addr) (n c : Nat) (bs : List UInt8) (w : World) (hr : RdB w A n bs) (hn : n ≤ 140737488355328) :
    Calls Try.prog 19 #[E a, .slice A n c] w fun e w' => e = .returned (E (a ^ num bs % P25)) ∧ Later w w' := by
  have hbl := hr.len
  have h1 : Blk ((w.alloc (.cells (EL a).toArray 28)).alloc (.cells (List.replicate 4 (.int .u64 0)).toArray 28)) w.heap.size 28 (EL a) := (Blk.new _ _ _).later (later_alloc _ _)
  have h2 : Blk ((w.alloc (.cells (EL a).toArray 28)).alloc (.cells (List.replicate 4 (.int .u64 0)).toArray 28)) (w.heap.size + 1) 28 (List.replicate 4 (.int .u64 0)) := Blk.new' _ _ _ (by simp)
  have L0 : Later w ((w.alloc (.cells (EL a).toArray 28)).alloc (.cells (List.replicate 4 (.int .u64 0)).toArray 28)) := (later_alloc _ _).trans (later_alloc _ _)
  go_enter Try.func19, Try.ntmps19
  go_wp2_with (first
    | (go_at_call 20; (with_reducible refine (of_1 _).mono ?_); rintro e w2 ⟨rfl, hl2⟩)
    | (refine store_E rfl rfl _ _ rfl (Blk.new w2 _ (List.replicate 4 (.int .u64 0))) rfl rfl rfl ?_; intro w3 hb3 ho3)
    | fail)
  have h13 := ((h1.later hl2).later (later_alloc _ (.cells (List.replicate 4 (.int .u64 0)).toArray 28))).only ho3 (by have := (h1.later hl2).lt; omega)
  have h23 := ((h2.later hl2).later (later_alloc _ (.cells (List.replicate 4 (.int .u64 0)).toArray 28))).only ho3 (by have := (h2.later hl2).lt; omega)
  have L3 := ((L0.trans hl2).alloc (.cells (List.replicate 4 (.int .u64 0)).toArray 28)).only ho3 (by have := (L0.trans hl2).size; omega)
  have hg : w.heap.size + 1 < w2.heap.size := (h2.later hl2).lt
  generalize w2.heap.size = g at *
  clear h1 h2 L0 hl2 ho3
  go_loopw [6] (fun i wr => ∃ k : Nat, k ≤ n ∧ i = .int .i64 (dn k) ∧ Blk wr w.heap.size 28 (EL a) ∧ Blk wr (w.heap.size + 1) 28 (List.replicate 4 (.int .u64 0)) ∧ Blk wr g 28 (EL (a ^ num (bs.drop k) % P25)) ∧ Later w wr) (fun i _ => (intOf i + 1).toNat)
  case atStart =>
    refine ⟨n, by omega, by rw [← dn_pred], h13, h23, ?_, L3⟩
    rw [List.drop_of_length_le (by omega)]
    exact hb3
  case round =>
    clear h13 h23 hb3 L3
    obtain ⟨k, hk, rfl, h1, h2, h3, L⟩ := hrel
    cases k with
    | zero =>
      rw [List.drop_zero] at h3
      obtain ⟨y, hy⟩ : ∃ y, y = a ^ num bs % P25 := ⟨_, rfl⟩
      rw [← hy] at h3
      have HY := hid hy
      clear hy
      simp only [dn_zero]
      go_wp2_with (first
        | (refine load_E rfl _ rfl h3 rfl ?_)
        | (refine store_E rfl rfl _ _ rfl h2 rfl rfl rfl ?_; intro w9 hb9 ho9)
        | fail)
      exact bodyPost_ret (ret_E rfl hb9 rfl) rfl ⟨by rw [HY.out], L.only ho9 (by omega)⟩
    | succ j =>
      obtain ⟨b, o, rfl, hb, hc⟩ := hr.at_ (by omega)
      have HC := hid (hc j (by omega))
      have HN := hid (num_cons bs j (by omega))
      clear hc hr
      simp only [dn_succ]
      generalize bs.getD j 0 = x at *
      generalize num (bs.drop (j + 1)) = N at *
      generalize hNN : num (bs.drop j) = N' at *
      have HNN := hid hNN
      clear hNN
      go_wp2_with fail
      go_loopw [7] (fun i wr => ∃ m : Nat, m ≤ 8 ∧ i = .int .i64 (dn m) ∧ Blk wr w.heap.size 28 (EL a) ∧ Blk wr (w.heap.size + 1) 28 (List.replicate 4 (.int .u64 0)) ∧ Blk wr g 28 (EL (a ^ (N * 2 ^ (8 - m) + x.toNat / 2 ^ m) % P25)) ∧ Later w wr) (fun i _ => (intOf i + 1).toNat)
      case atStart =>
        refine ⟨8, by omega, rfl, h1, h2, ?_, L⟩
        have : x.toNat / 2 ^ 8 = 0 := Nat.div_eq_of_lt x.toNat_lt
        rw [this, Nat.sub_self, Nat.pow_zero, Nat.mul_one, Nat.add_zero]
        exact h3
      case round =>
        clear h1 h2 h3 L
        obtain ⟨m, hm, rfl, h1, h2, h3, L⟩ := hrel
        cases m with
        | zero =>
          simp only [dn_zero]
          go_wp2_with fail
          go_roundw
          case rel =>
            refine ⟨j, by omega, by rw [dn_pred], h1, h2, ?_, L⟩
            have e : N * 2 ^ (8 - 0) + x.toNat / 2 ^ 0 = N' := by
              rw [HN.out, Nat.pow_zero, Nat.div_one]
              show N * 256 + _ = _
              omega
            rw [e] at h3
            have hn' : num (bs.drop j) = N' := HNN.out
            rw [hn']
            exact h3
          case measure => simp [intOf]
        | succ m =>
          have d0 : wr.cell? ⟨b, o + j, none⟩ = some (W8 x) := (L.below.cell (p := ⟨b, o + j, none⟩) hb).trans HC.out
          have HE := hid (exp_step N x.toNat m (by omega))
          obtain ⟨y, hy⟩ : ∃ y, y = a ^ (N * 2 ^ (8 - (m + 1)) + x.toNat / 2 ^ (m + 1)) % P25 := ⟨_, rfl⟩
          rw [← hy] at h3
          have hyT : y < T256 := by rw [hy]; exact Nat.lt_trans (Nat.mod_lt _ P25_pos) (by decide)
          have HY := hid hy
          clear hy
          have hyy : y * y % P25 < T256 := Nat.lt_trans (Nat.mod_lt _ P25_pos) (by decide)
          have hbe := bit_eq x m
          have hcnt : cnt (UInt64.ofInt (m : Int)) = m := by rw [ofIntNat_w64, cnt, tn64 (by unfold B64; omega)]
          simp only [dn_succ]
          rcases Nat.mod_two_eq_zero_or_one (x.toNat / 2 ^ m) with hz | hz
          · have hd : (shr8 x m &&& 1 == 1) = false := by rw [hbe, hz]; rfl
            have HZ := hid hz
            clear hbe hz
            go_wp2_with (first
              | (refine load_E rfl _ rfl h3 rfl ?_)
              | (go_at_call 42; (with_reducible refine (square_any y hyT _).mono ?_); rintro e w4 ⟨rfl, hl4⟩)
              | (refine store_E rfl rfl _ _ rfl (h3.later hl4) rfl rfl (EL_length _) ?_; intro w5 hb5 ho5
                 have d5 : w5.cell? ⟨b, o + j, none⟩ = some (W8 x) := (((L.trans hl4).only ho5 (by omega)).below.cell (p := ⟨b, o + j, none⟩) hb).trans HC.out)
              | fail)
            go_roundw
            case rel =>
              refine ⟨m, by omega, by rw [dn_pred], (h1.later hl4).only ho5 (by omega), (h2.later hl4).only ho5 (by omega), ?_, (L.trans hl4).only ho5 (by omega)⟩
              rw [HE.out, HZ.out, Nat.add_zero, ← pow_two, ← HY.out]
              exact hb5
            case measure => simp [intOf]
          · have hd : (shr8 x m &&& 1 == 1) = true := by rw [hbe, hz]; rfl
            have HZ := hid hz
            clear hbe hz
            go_wp2_with (first
              | (refine load_E rfl _ rfl h3 rfl ?_)
              | (go_at_call 42; (with_reducible refine (square_any y hyT _).mono ?_); rintro e w4 ⟨rfl, hl4⟩)
              | (refine store_E rfl rfl _ _ rfl (h3.later hl4) rfl rfl (EL_length _) ?_; intro w5 hb5 ho5
                 have d5 : w5.cell? ⟨b, o + j, none⟩ = some (W8 x) := (((L.trans hl4).only ho5 (by omega)).below.cell (p := ⟨b, o + j, none⟩) hb).trans HC.out
                 have h15 := (h1.later hl4).only ho5 (by omega))
              | (refine load_E rfl _ rfl hb5 rfl ?_)
              | (refine load_E rfl _ rfl h15 rfl ?_)
              | (go_at_call 61; (with_reducible refine (multiply_any (y * y % P25) a hyy ha _).mono ?_); rintro e w6 ⟨rfl, hl6⟩)
              | (refine store_E rfl rfl _ _ rfl (hb5.later hl6) rfl rfl (EL_length _) ?_; intro w7 hb7 ho7)
              | fail)
            go_roundw
            case rel =>
              refine ⟨m, by omega, by rw [dn_pred], (h15.later hl6).only ho7 (by omega), (((h2.later hl4).only ho5 (by omega)).later hl6).only ho7 (by omega), ?_, (((L.trans hl4).only ho5 (by omega)).trans hl6).only ho7 (by omega)⟩
              rw [HE.out, HZ.out, ← pow_two_one, ← HY.out]
              first | exact hb7 | (rw [Nat.mod_mul_mod] at hb7; exact hb7)
            case measure => simp [intOf]
end Go.Proofs.Ytmdjhbiiifnfiaa
