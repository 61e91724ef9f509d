/-
  shallotref05: Power, Inv, Bytes.
-/
import Derived.Test.YtmdjhbiiifnfiaaField8
import Derived.Test.YtmdjhbiiifnfiaaPrime
namespace Go.Proofs.Ytmdjhbiiifnfiaa
open Go.RowKit

theorem NL_small {n : Nat} (h : n < B32) : NL n = [n32 n, .int .u32 0, .int .u32 0, .int .u32 0, .int .u32 0, .int .u32 0, .int .u32 0, .int .u32 0] := by
  have e : ∀ k, 0 < k → n / B32 ^ k % B32 = 0 := fun k hk => dig_small h k hk
  have e1 : dig B32 8 n = [n / B32 ^ 0 % B32, n / B32 ^ 1 % B32, n / B32 ^ 2 % B32, n / B32 ^ 3 % B32, n / B32 ^ 4 % B32, n / B32 ^ 5 % B32, n / B32 ^ 6 % B32, n / B32 ^ 7 % B32] := by
    rw [dig_snoc, dig_snoc, dig_snoc, dig_snoc, dig_snoc, dig_snoc, dig_snoc, dig_snoc]
    rfl
  rw [NL, e1, e 1 (by omega), e 2 (by omega), e 3 (by omega), e 4 (by omega), e 5 (by omega), e 6 (by omega), e 7 (by omega), Nat.pow_zero, Nat.div_one, Nat.mod_eq_of_lt h]
  rfl
/-- Bit i of a number by its bytes. -/
theorem num_byte (bs : List UInt8) (j : Nat) (h : j < bs.length) : num bs / 256 ^ j % 256 = (bs.getD j 0).toNat := by
  have e := dig_val (B := 256) (bs.map UInt8.toNat) (by intro x hx; obtain ⟨y, _, rfl⟩ := List.mem_map.1 hx; exact y.toNat_lt)
  rw [List.length_map] at e
  have g := dig_getD 256 bs.length (num bs) j h
  rw [num, e] at g
  rw [num, ← g, List.getD_eq_getElem?_getD, List.getD_eq_getElem?_getD, List.getElem?_map, List.getElem?_eq_getElem h]
  rfl
theorem num_bit (bs : List UInt8) (i : Nat) (h : i / 8 < bs.length) : num bs / 2 ^ i % 2 = (bs.getD (i / 8) 0).toNat / 2 ^ (i % 8) % 2 := by
  rw [← num_byte bs _ h]
  have e : (2 : Nat) ^ i = 256 ^ (i / 8) * 2 ^ (i % 8) := by
    have : (256 : Nat) = 2 ^ 8 := by decide
    rw [this, ← Nat.pow_mul, ← Nat.pow_add, Nat.div_add_mod]
  rw [e, ← Nat.div_div_eq_div_mul]
  generalize num bs / 256 ^ (i / 8) = x
  refine (mod_div_mod x 256 (2 ^ (i % 8)) 2 (by decide) ?_ (Nat.pow_pos (by decide))).symm
  have : (256 : Nat) = 2 ^ 8 := by decide
  rw [this, ← Nat.pow_succ]
  exact Nat.pow_dvd_pow 2 (by omega)
theorem bit_rem (x : UInt8) (m : Nat) : (shr8 x m % 2 == 1) = decide (x.toNat / 2 ^ m % 2 = 1) := by
  have e : (shr8 x m).toNat = x.toNat / 2 ^ m := by
    rw [shr8]
    show (BitVec.toNat _) = _
    rw [BitVec.toNat_ushiftRight, Nat.shiftRight_eq_div_pow]
    rfl
  rw [Bool.eq_iff_iff, beq_iff_eq, decide_eq_true_eq, ← UInt8.toNat_inj, UInt8.toNat_mod, e]
  rfl
theorem pow_low (a V i P : Nat) : a ^ (V % 2 ^ (i + 1)) % P = (a ^ (V % 2 ^ i) % P) * ((a ^ 2 ^ i % P) ^ (V / 2 ^ i % 2)) % P := by
  rw [mod_pow_succ, Nat.pow_add, Nat.mul_mod, Nat.pow_mul, ← pow_mod_base (a ^ 2 ^ i), Nat.mul_mod (a ^ (V % 2 ^ i) % P), Nat.mod_mod, Nat.mod_mod, Nat.mul_mod_mod]
set_option maxRecDepth 100000 in
set_option maxHeartbeats 2000000 in
theorem power_ref (a : Nat) (ha : a < T256) (A : Option Addr) (n c : Nat) (bs : List UInt8) (w : World) (hr : RdB w A n bs) (hn : n ≤ 140737488355328) :
    Calls Try.prog 23 #[NN a, .slice A n c] w fun e w' => e = .returned (NN (a ^ num bs % P25)) ∧ Later w w' := by
  have hbl := hr.len
  have h1 : Blk ((w.alloc (.cells (NL a).toArray 35)).alloc (.cells (List.replicate 8 (.int .u32 0)).toArray 35)) w.heap.size 35 (NL a) := (Blk.new _ _ _).later (later_alloc _ _)
  have h2 : Blk ((w.alloc (.cells (NL a).toArray 35)).alloc (.cells (List.replicate 8 (.int .u32 0)).toArray 35)) (w.heap.size + 1) 35 (List.replicate 8 (.int .u32 0)) := Blk.new' _ _ _ (by simp)
  have L0 : Later w ((w.alloc (.cells (NL a).toArray 35)).alloc (.cells (List.replicate 8 (.int .u32 0)).toArray 35)) := (later_alloc _ _).trans (later_alloc _ _)
  go_enter Try.func23, Try.ntmps23
  go_wp2_with (first
    | (refine wpList_build_is rfl 35 _ rfl (NL 1) ?hb ?_; (case hb => kernel_rfl))
    | (refine store_N (g := w.heap.size + 1 + 1) (n := 1) rfl rfl _ _ rfl (Blk.new' _ _ (List.replicate 8 (.int .u32 0)) (by simp)) rfl rfl rfl ?_; intro w3 hb3 ho3
       have h13 := (h1.later (later_alloc _ _)).only ho3 (by omega)
       have h23 := (h2.later (later_alloc _ _)).only ho3 (by omega)
       have L3 := (L0.alloc _).only ho3 (by omega))
    | (refine load_N rfl _ rfl h13 rfl ?_)
    | (refine store_N rfl rfl _ _ rfl (Blk.new w3 _ (List.replicate 8 (.int .u32 0))) rfl rfl rfl ?_; intro w4 hb4 ho4)
    | fail)
  have hz3 := hb3.lt
  have h14 := (h13.later (later_alloc _ _)).only ho4 (by omega)
  have h24 := (h23.later (later_alloc _ _)).only ho4 (by omega)
  have h34 := (hb3.later (later_alloc _ _)).only ho4 (by omega)
  have L4 := (L3.alloc _).only ho4 (by have := L3.size; omega)
  generalize w3.heap.size = g at *
  clear h13 h23 hb3 L3 ho3 ho4 h1 h2 L0
  have hw8 : IntKind.i64.wrap (8 * (n : Int)) = 8 * (n : Int) := by rw [IntKind.wrap_i64]; omega
  have HW8 := hid hw8
  clear hw8
  go_loopw [7] (fun i wr => ∃ k m s : Nat, k ≤ 8 * n ∧ i = .int .i64 k ∧ m < T256 ∧ s < T256 ∧ Hid (m % P25 = a ^ (num bs % 2 ^ k) % P25) ∧ Hid (s % P25 = a ^ 2 ^ k % P25) ∧ Blk wr (w.heap.size + 1) 35 (List.replicate 8 (.int .u32 0)) ∧ Blk wr (w.heap.size + 1 + 1) 35 (NL m) ∧ Blk wr g 35 (NL s) ∧ Later w wr) (fun i _ => 8 * n - (intOf i).toNat)
  case atStart => exact ⟨0, 1, a, by omega, rfl, by decide, ha, hid (by rw [Nat.pow_zero, Nat.mod_one, Nat.pow_zero]), hid (by rw [Nat.pow_zero, Nat.pow_one]), h24, h34, hb4, L4⟩
  case round =>
    clear h14 h24 h34 hb4 L4
    obtain ⟨k, m, s, hk, rfl, hm, hs, HM, HSq, h2, h3, h4, L⟩ := hrel
    by_cases hlt : k < 8 * n
    · obtain ⟨b, o, rfl, hb, hc⟩ := hr.at_ (by omega)
      have d0 : wr.cell? ⟨b, o + k / 8, none⟩ = some (W8 (bs.getD (k / 8) 0)) := (L.below.cell (p := ⟨b, o + k / 8, none⟩) hb).trans (hc _ (by omega))
      have HBit := hid (num_bit bs k (by omega))
      have hbr := bit_rem (bs.getD (k / 8) 0) (k % 8)
      have HLow := hid (pow_low a (num bs) k P25)
      have hkl : decide ((k : Int) < 8 * (n : Int)) = true := by simp; omega
      have hkx : (k < 8 * n) = True := eq_true hlt
      have HSS := hid (show s * s % P25 % P25 = a ^ 2 ^ (k + 1) % P25 by
        rw [Nat.mod_mod, Nat.mul_mod, HSq.out, ← Nat.mul_mod, ← Nat.pow_add, Nat.pow_succ]
        congr 2
        omega)
      generalize bs.getD (k / 8) 0 = x at *
      clear hc hr
      rcases Nat.mod_two_eq_zero_or_one (x.toNat / 2 ^ (k % 8)) with hz | hz
      · have hd : (shr8 x (k % 8) % 2 == 1) = false := by rw [hbr, hz]; rfl
        have HL' := hid (show m % P25 = a ^ (num bs % 2 ^ (k + 1)) % P25 by rw [HLow.out, HBit.out, hz, Nat.pow_zero, Nat.mul_one, Nat.mod_mod, HM.out])
        clear hbr hz
        go_wp2_with (first
          | (refine load_N rfl _ rfl h4 rfl ?_)
          | (go_at_call 32; (with_reducible refine (mul_ref s s hs hs _).mono ?_); rintro e w5 ⟨rfl, hl5⟩)
          | (refine store_N rfl rfl _ _ rfl (h4.later hl5) rfl rfl (NL_length _) ?_; intro w6 hb6 ho6)
          | fail)
        go_roundw
        case rel => exact ⟨k + 1, m, s * s % P25, by omega, by go_num, hm, Nat.lt_trans (Nat.mod_lt _ P25_pos) (by decide), hid HL'.out, hid HSS.out, (h2.later hl5).only ho6 (by omega), (h3.later hl5).only ho6 (by omega), hb6, (L.trans hl5).only ho6 (by omega)⟩
        case measure => simp [intOf]; omega
      · have hd : (shr8 x (k % 8) % 2 == 1) = true := by rw [hbr, hz]; rfl
        have HL' := hid (show m * s % P25 % P25 = a ^ (num bs % 2 ^ (k + 1)) % P25 by
          rw [HLow.out, HBit.out, hz, Nat.pow_one, ← HM.out, ← HSq.out, ← Nat.mul_mod, Nat.mod_mod])
        clear hbr hz
        go_wp2_with (first
          | (refine load_N rfl _ rfl h3 rfl ?_)
          | (refine load_N rfl _ rfl h4 rfl ?_)
          | (go_at_call 32; (with_reducible refine (mul_ref m s hm hs _).mono ?_); rintro e w5 ⟨rfl, hl5⟩)
          | (refine store_N rfl rfl _ _ rfl (h3.later hl5) rfl rfl (NL_length _) ?_; intro w6 hb6 ho6
             have h46 := (h4.later hl5).only ho6 (by omega))
          | (refine load_N rfl _ rfl h46 rfl ?_)
          | (go_at_call 32; (with_reducible refine (mul_ref s s hs hs _).mono ?_); rintro e w7 ⟨rfl, hl7⟩)
          | (refine store_N rfl rfl _ _ rfl (h46.later hl7) rfl rfl (NL_length _) ?_; intro w8 hb8 ho8)
          | fail)
        go_roundw
        case rel => exact ⟨k + 1, m * s % P25, s * s % P25, by omega, by go_num, Nat.lt_trans (Nat.mod_lt _ P25_pos) (by decide), Nat.lt_trans (Nat.mod_lt _ P25_pos) (by decide), hid HL'.out, hid HSS.out, (((h2.later hl5).only ho6 (by omega)).later hl7).only ho8 (by omega), (hb6.later hl7).only ho8 (by omega), hb8, (((L.trans hl5).only ho6 (by omega)).trans hl7).only ho8 (by omega)⟩
        case measure => simp [intOf]; omega
    · have hkf : decide ((k : Int) < 8 * (n : Int)) = false := by simp; omega
      have hkx : (k < 8 * n) = False := eq_false hlt
      have HR := hid (show m % P25 = a ^ num bs % P25 by
        have hnl := num_lt bs
        have e : (256 : Nat) ^ bs.length = 2 ^ (8 * bs.length) := by rw [Nat.pow_mul]
        rw [e, ← show k = 8 * bs.length by omega] at hnl
        rw [HM.out, Nat.mod_eq_of_lt hnl])
      go_wp2_with (first
        | (refine load_N rfl _ rfl h3 rfl ?_)
        | (go_at_call 26; (with_reducible refine (norm_ref m hm _).mono ?_); rintro e w5 ⟨rfl, hl5⟩)
        | (refine store_N rfl rfl _ _ rfl (h2.later hl5) rfl rfl rfl ?_; intro w9 hb9 ho9)
        | fail)
      exact bodyPost_ret (ret_N rfl hb9 rfl) rfl ⟨by rw [HR.out], (L.trans hl5).only ho9 (by omega)⟩

set_option maxRecDepth 100000 in
set_option maxHeartbeats 2000000 in
theorem inv_ref (a : Nat) (ha : a < T256) (w : World) :
    Calls Try.prog 33 #[NN a] w fun e w' => e = .returned (NN (pinv a)) ∧ Later w w' := by
  have h1 : Blk ((w.alloc (.cells (NL a).toArray 35)).alloc (.cells (List.replicate 8 (.int .u32 0)).toArray 35)) w.heap.size 35 (NL a) := (Blk.new _ _ _).later (later_alloc _ _)
  have h2 : Blk ((w.alloc (.cells (NL a).toArray 35)).alloc (.cells (List.replicate 8 (.int .u32 0)).toArray 35)) (w.heap.size + 1) 35 (List.replicate 8 (.int .u32 0)) := Blk.new' _ _ _ (by simp)
  have L0 : Later w ((w.alloc (.cells (NL a).toArray 35)).alloc (.cells (List.replicate 8 (.int .u32 0)).toArray 35)) := (later_alloc _ _).trans (later_alloc _ _)
  have HP := hid (power_ref a ha)
  have HN := hid num_inv
  go_enter Try.func33, Try.ntmps33
  go_wp2_with (first
    | (refine wpList_make_n rfl _ _ 25 rfl 5 (.int .u8 0) 1 Try.underlying25 info8 rfl _ _ _ _ 32 rfl rfl rfl rfl (by omega) (by omega) ?_; intro w2 hb2 hl2)
    | fail)
  have h12 := h1.later hl2
  have h22 := h2.later hl2
  have L2 := L0.trans hl2
  replace hb2 : Blk w2 (w.heap.size + 1 + 1) 5 (List.replicate 32 (.int .u8 0)) := Eq.mp (congrArg (fun g => Blk w2 g 5 (List.replicate 32 (.int .u8 0))) (by simp)) hb2
  clear h1 h2 L0 hl2
  go_loopw [4] (fun i wr => ∃ k : Nat, k ≤ 32 ∧ i = .int .i64 k ∧ Blk wr w.heap.size 35 (NL a) ∧ Blk wr (w.heap.size + 1) 35 (List.replicate 8 (.int .u32 0)) ∧ Blk wr (w.heap.size + 1 + 1) 5 (filled (List.replicate 32 (.int .u8 255)) (List.replicate 32 (.int .u8 0)) k) ∧ Later w wr) (fun i _ => 32 - (intOf i).toNat)
  case atStart => exact ⟨0, by omega, rfl, h12, h22, by rw [filled_zero]; exact hb2, L2⟩
  case round =>
    clear h12 h22 hb2 L2
    obtain ⟨k, hk, rfl, h1, h2, h3, L⟩ := hrel
    by_cases hlt : k < 32
    · go_wp2_with (first
        | (refine wpList_store_in rfl rfl _ _ _ rfl _ _ _ _ h3 rfl ?hl rfl (by kernel_rfl) ?_; (case hl => rw [filled_length _ _ _ (by rfl)]; exact hlt); intro v w6 hv hb6 ho6; simp [go_sem] at hv; subst hv)
        | fail)
      go_roundw
      case rel =>
        rw [filled_step _ _ _ _ (by rfl) hlt (by rw [List.getElem?_replicate, if_pos hlt])] at hb6
        exact ⟨k + 1, by omega, by go_num, h1.only ho6 (by omega), h2.only ho6 (by omega), hb6, L.only ho6 (by omega)⟩
      case measure => simp [intOf]; omega
    · have HF := hid (fill_255 _ (filled_all (List.replicate 32 (Value.int .u8 255)) (List.replicate 32 (.int .u8 0)) 32 rfl rfl))
      rw [show k = 32 by omega] at h3
      have hkf : decide ((k : Int) < 32) = false := by simp; omega
      go_wp2_with (first
        | (refine wpList_store_in rfl rfl _ _ _ rfl _ _ _ _ h3 rfl ?hl rfl (by kernel_rfl) ?_; (case hl => rw [filled_length _ _ _ (by rfl)]; decide); intro v w6 hv hb6 ho6; simp [go_sem] at hv; subst hv)
        | (refine wpList_store_in rfl rfl _ _ _ rfl _ _ _ _ hb6 rfl ?hl rfl (by kernel_rfl) ?_; (case hl => rw [List.length_set, filled_length _ _ _ (by rfl)]; decide); intro v w7 hv hb7 ho7; simp [go_sem] at hv; subst hv
           rw [HF.out] at hb7
           have h17 := (h1.only ho6 (by omega)).only ho7 (by omega)
           have h27 := (h2.only ho6 (by omega)).only ho7 (by omega)
           have L7 := (L.only ho6 (by omega)).only ho7 (by omega))
        | (refine load_N rfl _ rfl h17 rfl ?_)
        | (go_at_call 23; (with_reducible refine (HP.out _ 32 _ invBytes _ (blk_rdB hb7 rfl) (by omega)).mono ?_); rintro e w8 ⟨rfl, hl8⟩
           rw [HN.out])
        | (refine store_N rfl rfl _ _ rfl (h27.later hl8) rfl rfl rfl ?_; intro w9 hb9 ho9)
        | fail)
      exact bodyPost_ret (ret_N rfl hb9 rfl) rfl ⟨rfl, (L7.trans hl8).only ho9 (by omega)⟩
@[go_sem] theorem shr_n32 (T : TypeId) (x : Nat) (hx : x < B32) (yk : IntKind) (k : Int) (h0 : 0 ≤ k) : binOp .shr T (n32 x) (.int yk k) = pure (n32 (x / 2 ^ k.toNat)) := by
  rw [n32, shr_w32' _ _ _ _ h0, n32_w]
  rw [shr32]
  show (BitVec.toNat _) = _
  rw [BitVec.toNat_ushiftRight]
  show (UInt32.ofNat x).toNat >>> _ = _
  rw [tn32 hx, Nat.shiftRight_eq_div_pow]
  have : x / 2 ^ k.toNat < B32 := Nat.lt_of_le_of_lt (Nat.div_le_self _ _) hx
  rw [Nat.mod_eq_of_lt this]
@[go_sem] theorem run_convert_n32_n8 {P : Program} (w : World) (S D : TypeId) (x : Nat) (hs : (P.underlying S).isSome = true) (hd : P.underlying D = some (.int .u8)) : (convert S D (n32 x)).run P w = .ok (n8 x) w := by
  rw [n32, run_convert_w32_w8 _ _ _ _ hs hd, n8_w]
  rw [UInt32.toNat_toUInt8, UInt32.toNat_ofNat']
  omega
theorem toNat_8 (k : Nat) : (8 * ((k : Int) % 4)).toNat = 8 * (k % 4) := by omega
set_option maxRecDepth 100000 in
set_option maxHeartbeats 2000000 in
theorem bytes_ref (n : Nat) (hn : n < T256) (w : World) :
    Calls Try.prog 29 #[NN n] w fun e w' => e = .returned (BB (n % P25)) ∧ Later w w' := by
  have h1 : Blk ((w.alloc (.cells (NL n).toArray 35)).alloc (.cells (List.replicate 32 (Value.int .u8 0)).toArray 42)) w.heap.size 35 (NL n) := (Blk.new _ _ _).later (later_alloc _ _)
  have h2 : Blk ((w.alloc (.cells (NL n).toArray 35)).alloc (.cells (List.replicate 32 (Value.int .u8 0)).toArray 42)) (w.heap.size + 1) 42 (List.replicate 32 (.int .u8 0)) := Blk.new' _ _ _ (by simp)
  have L0 : Later w ((w.alloc (.cells (NL n).toArray 35)).alloc (.cells (List.replicate 32 (Value.int .u8 0)).toArray 42)) := (later_alloc _ _).trans (later_alloc _ _)
  have hlS : ((nb (n % P25)).map W8).length = 32 := by rw [List.length_map, nb_length]
  have HGet := hid (fun k (h : k < 32) => show ((nb (n % P25)).map W8)[k]? = some (n8 (n % P25 / 256 ^ k % 256)) by rw [List.getElem?_map, nb_get _ _ h]; rfl)
  go_enter Try.func29, Try.ntmps29
  go_wp2_with (first
    | (refine load_N rfl _ rfl h1 rfl ?_)
    | (go_at_call 26; (with_reducible refine (norm_ref n hn _).mono ?_); rintro e w2 ⟨rfl, hl2⟩)
    | (refine store_N rfl rfl _ _ rfl (h1.later hl2) rfl rfl (NL_length _) ?_; intro w3 hb3 ho3
       have h23 := (h2.later hl2).only ho3 (by omega)
       have L3 := (L0.trans hl2).only ho3 (by omega))
    | fail)
  have hg : w.heap.size + 1 < w3.heap.size := h23.lt
  clear h1 h2 L0 hl2 ho3
  generalize hM : n % P25 = M at *
  have HM := hid hM
  clear hM
  go_loopw [4] (fun i wr => ∃ k : Nat, k ≤ 32 ∧ i = .int .i64 k ∧ Blk wr w.heap.size 35 (NL M) ∧ Blk wr (w.heap.size + 1) 42 (List.replicate 32 (.int .u8 0)) ∧ Blk wr w3.heap.size 42 (filled ((nb M).map W8) (List.replicate 32 (.int .u8 0)) k) ∧ Later w wr) (fun i _ => 32 - (intOf i).toNat)
  case atStart => exact ⟨0, by omega, rfl, hb3.later (later_alloc _ _), h23.later (later_alloc _ _), by rw [filled_zero]; exact Blk.new _ _ (List.replicate 32 (Value.int .u8 0)), L3.trans (later_alloc _ _)⟩
  case round =>
    clear hb3 h23
    have hL3 := L3.size
    clear L3
    obtain ⟨k, hk, rfl, h1, h2, h3, L⟩ := hrel
    by_cases hlt : k < 32
    · have d0 := h1.cellD (k / 4) (NL_get M (k / 4) (by omega))
      have hct := toNat_8 k
      have h08 : (0 : Int) ≤ 8 * ((k : Int) % 4) := by omega
      have h04 : (0 : Int) ≤ (k : Int) % 4 := by omega
      have hbl := hid (byte_lem M k hlt)
      go_wp2_with (first
        | (refine wpList_store_in rfl rfl _ _ _ rfl _ _ _ _ h3 rfl ?hl rfl (by kernel_rfl) ?_; (case hl => rw [filled_length _ _ _ (by rw [hlS]; rfl)]; exact hlt); intro v w6 hv hb6 ho6; simp [go_sem] at hv; subst hv)
        | fail)
      go_roundw
      case rel =>
        rw [n8_of (show lem M (k / 4) / 2 ^ (8 * (k % 4)) % 256 = M / 256 ^ k % 256 % 256 by rw [hbl.out, Nat.mod_mod]), filled_step _ _ _ _ (by rw [hlS]; rfl) hlt (HGet.out k hlt)] at hb6
        exact ⟨k + 1, by omega, by go_num, h1.only ho6 (by omega), h2.only ho6 (by omega), hb6, L.only ho6 (by omega)⟩
      case measure => simp [intOf]; omega
    · rw [show k = 32 by omega, filled_all _ _ _ hlS rfl] at h3
      have hkf : decide ((k : Int) < 32) = false := by simp; omega
      go_wp2_with (first
        | (refine wpList_load_blk rfl 42 _ rfl _ _ _ h3 rfl _ Try.underlying42 rfl 32 size32b hlS ?_)
        | (refine wpList_store_blk rfl rfl 42 _ _ rfl _ _ _ _ h2 rfl rfl 32 size32b hlS rfl (w8_one _) ?_; intro w9 hb9 ho9)
        | fail)
      exact bodyPost_ret (results_blk rfl _ _ _ _ ((nb M).map W8) _ hb9 rfl Try.underlying42 rfl (by rw [hlS]; exact size32b)) rfl ⟨by rw [HM.out], L.only ho9 (by omega)⟩
end Go.Proofs.Ytmdjhbiiifnfiaa
