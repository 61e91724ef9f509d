/-
  field: Bytes, Read.
-/
import Derived.Test.YtmdjhbiiifnfiaaNumB
namespace Go.Proofs.Ytmdjhbiiifnfiaa
open Go.RowKit

@[go_sem] theorem shr_n64W (T : TypeId) (x : Nat) (hx : x < B64) (k : UInt64) : binOp .shr T (n64 x) (W64 k) = pure (n64 (x / 2 ^ (cnt k))) := by
  have := shr_n64 T x hx .u64 (k.toNat : Int) (by omega)
  rw [Int.toNat_natCast] at this
  exact this
@[go_sem] theorem or_n64W (T : TypeId) (x : Nat) (hx : x < B64) (y : UInt64) : binOp .or T (n64 x) (W64 y) = pure (n64 (x ||| y.toNat)) := by
  rw [n64, or_w64, n64_w]
  rw [UInt64.toNat_or, tn64 hx, Nat.mod_eq_of_lt (show (x ||| y.toNat) < B64 from Nat.or_lt_two_pow (n := 64) hx y.toNat_lt)]
theorem cnt_mul8 (i : Nat) (h : i < 32) : cnt (8 * UInt64.ofInt ((i : Int) % 8)) = 8 * (i % 8) := by
  have : ∀ k : Fin 32, cnt (8 * UInt64.ofInt ((k.val : Int) % 8)) = 8 * (k.val % 8) := by decide
  exact this ⟨i, h⟩
theorem size32b : (Try.prog.info? 42).map (·.size) = some 32 := by kernel_rfl
theorem n8_of {n m : Nat} (h : n % 256 = m % 256) : n8 n = n8 m := by
  rw [n8]
  apply n8_w
  rw [UInt8.toNat_ofNat', ← h]
set_option maxRecDepth 100000 in
set_option maxHeartbeats 2000000 in
theorem bytes_any (n : Nat) (hn : n < T256) (w : World) :
    Calls Try.prog 28 #[E n] w fun e w' => e = .returned (BB (n % P25)) ∧ Later w w' := by
  have h1 : Blk ((w.alloc (.cells (EL n).toArray 28)).alloc (.cells (List.replicate 32 (Value.int .u8 0)).toArray 42)) w.heap.size 28 (EL n) := (Blk.new _ _ _).later (later_alloc _ _)
  have h2 : Blk ((w.alloc (.cells (EL n).toArray 28)).alloc (.cells (List.replicate 32 (Value.int .u8 0)).toArray 42)) (w.heap.size + 1) 42 (List.replicate 32 (.int .u8 0)) := Blk.new' _ _ _ (by simp)
  have L0 : Later w ((w.alloc (.cells (EL n).toArray 28)).alloc (.cells (List.replicate 32 (Value.int .u8 0)).toArray 42)) := (later_alloc _ _).trans (later_alloc _ _)
  have hlS : ((nb (n % P25)).map W8).length = 32 := by rw [List.length_map, nb_length]
  have HGet := hid (fun k (h : k < 32) => show ((nb (n % P25)).map W8)[k]? = some (n8 (n % P25 / 256 ^ k % 256)) by rw [List.getElem?_map, nb_get _ _ h]; rfl)
  go_enter Try.func28, Try.ntmps28
  go_wp2_with (first
    | (refine load_E rfl _ rfl h1 rfl ?_)
    | (go_at_call 27; (with_reducible refine (norm_any n hn _).mono ?_); rintro e w2 ⟨rfl, hl2⟩)
    | (refine store_E rfl rfl _ _ rfl (h1.later hl2) rfl rfl (EL_length _) ?_; intro w3 hb3 ho3
       have h23 := (h2.later hl2).only ho3 (by omega)
       have L3 := (L0.trans hl2).only ho3 (by omega))
    | fail)
  have hg : w.heap.size + 1 < w3.heap.size := h23.lt
  clear h1 h2 L0 hl2 ho3
  generalize hM : n % P25 = M at *
  have HM := hid hM
  clear hM
  go_loopw [7] (fun i wr => ∃ k : Nat, k ≤ 32 ∧ i = .int .i64 k ∧ Blk wr w.heap.size 28 (EL M) ∧ Blk wr (w.heap.size + 1) 42 (List.replicate 32 (.int .u8 0)) ∧ Blk wr w3.heap.size 42 (filled ((nb M).map W8) (List.replicate 32 (.int .u8 0)) k) ∧ Later w wr) (fun i _ => 32 - (intOf i).toNat)
  case atStart => exact ⟨0, by omega, rfl, hb3.later (later_alloc _ _), h23.later (later_alloc _ _), by rw [filled_zero]; exact Blk.new _ _ (List.replicate 32 (Value.int .u8 0)), L3.trans (later_alloc _ _)⟩
  case round =>
    clear hb3 h23
    have hL3 := L3.size
    clear L3
    obtain ⟨k, hk, rfl, h1, h2, h3, L⟩ := hrel
    by_cases hlt : k < 32
    · have d0 := h1.cellD (k / 8) (EL_get M (k / 8) (by omega))
      have hct := cnt_mul8 k hlt
      have hbl := hid (byte_lim M k hlt)
      go_wp2_with (first
        | (refine wpList_store_in rfl rfl _ _ _ rfl _ _ _ _ h3 rfl ?hl rfl (by kernel_rfl) ?_; (case hl => rw [filled_length _ _ _ (by rw [hlS]; rfl)]; exact hlt); intro v w6 hv hb6 ho6; simp [go_sem] at hv; subst hv)
        | fail)
      go_roundw
      case rel =>
        rw [n8_of (show lim M (k / 8) / 2 ^ (8 * (k % 8)) % 256 = M / 256 ^ k % 256 % 256 by rw [hbl.out, Nat.mod_mod]), filled_step _ _ _ _ (by rw [hlS]; rfl) hlt (HGet.out k hlt)] at hb6
        exact ⟨k + 1, by omega, by go_num, h1.only ho6 (by omega), h2.only ho6 (by omega), hb6, L.only ho6 (by omega)⟩
      case measure => simp [intOf]; omega
    · rw [show k = 32 by omega, filled_all _ _ _ hlS rfl] at h3
      have hkf : decide ((k : Int) < 32) = false := by simp; omega
      go_wp2_with (first
        | (refine wpList_load_blk rfl 42 _ rfl _ _ _ h3 rfl _ Try.underlying42 rfl 32 size32b hlS ?_)
        | (refine wpList_store_blk rfl rfl 42 _ _ rfl _ _ _ _ h2 rfl rfl 32 size32b hlS rfl (w8_one _) ?_; intro w9 hb9 ho9)
        | fail)
      exact bodyPost_ret (results_blk rfl _ _ _ _ ((nb M).map W8) _ hb9 rfl Try.underlying42 rfl (by rw [hlS]; exact size32b)) rfl ⟨by rw [HM.out], L.only ho9 (by omega)⟩

theorem shl_byte (x : UInt8) (r : Nat) (hr : r < 8) : (shl64 x.toUInt64 (8 * r)).toNat = x.toNat * 2 ^ (8 * r) := by
  rw [shl64]
  show (BitVec.toNat _) = _
  rw [BitVec.toNat_shiftLeft, Nat.shiftLeft_eq]
  show x.toUInt64.toNat * _ % _ = _
  rw [UInt8.toNat_toUInt64, Nat.mod_eq_of_lt]
  have hx := x.toNat_lt
  have h1 : 2 ^ (8 * r) ≤ 2 ^ 56 := Nat.pow_le_pow_right (by decide) (by omega)
  have h2 : x.toNat * 2 ^ (8 * r) ≤ 255 * 2 ^ 56 := Nat.mul_le_mul (by omega) h1
  omega
/-- What Read answers. -/
def readN (bs : List UInt8) : Nat := if bs.length = 32 then num bs % T255 % P25 else 0
def readE (bs : List UInt8) : Nat := if bs.length = 32 then 0 else 2
set_option maxRecDepth 100000 in
set_option maxHeartbeats 2000000 in
theorem read_any (A : Option Addr) (n c : Nat) (bs : List UInt8) (w : World) (hr : RdB w A n bs) (hn : n ≤ 140737488355328) :
    Calls Try.prog 38 #[.slice A n c] w fun e w' => e = .returned (.tuple #[E (readN bs), .int .i64 (readE bs : Nat)]) ∧ Later w w' := by
  have hbl := hr.len
  have hb0 := Blk.new w 28 (List.replicate 4 (Value.int .u64 0))
  by_cases h32 : n = 32
  · subst h32
    have hRN := hid (show readN bs = num bs % T255 % P25 by rw [readN, if_pos hbl])
    have hRE := hid (show readE bs = 0 by rw [readE, if_pos hbl])
    obtain ⟨b, o, rfl, hb, hc⟩ := hr.at_ (by omega)
    have HC := hid hc
    have HT := hid (fun k (h : k < 32) => num_take bs k (by omega))
    have HL := hid (fun k (h : k ≤ 32) => show num (bs.take k) < 256 ^ k by have := num_lt (bs.take k); rwa [List.length_take, Nat.min_eq_left (by omega)] at this)
    have HF := hid (show bs.take 32 = bs from List.take_of_length_le (by omega))
    clear hc hr
    go_enter Try.func38, Try.ntmps38
    go_wp2
    go_loopw [13] (fun i wr => ∃ k : Nat, k ≤ 32 ∧ i = .int .i64 k ∧ Blk wr w.heap.size 28 (List.replicate 4 (.int .u64 0)) ∧ Blk wr (w.heap.size + 1) 28 (EL (num (bs.take k))) ∧ Later w wr) (fun i _ => 32 - (intOf i).toNat)
    case atStart => exact ⟨0, by omega, rfl, hb0.later (later_alloc _ _), by rw [List.take_zero]; exact Blk.new' _ _ (List.replicate 4 (Value.int .u64 0)) (by simp), (later_alloc _ _).trans (later_alloc _ _)⟩
    case round =>
      clear hb0
      obtain ⟨k, hk, rfl, h1, h2, L⟩ := hrel
      by_cases hlt : k < 32
      · have d0 := h2.cellD (k / 8) (EL_get _ (k / 8) (by omega))
        have c0 : wr.cell? ⟨b, o + k, none⟩ = some (W8 (bs.getD k 0)) := (L.below.cell (p := ⟨b, o + k, none⟩) hb).trans (HC.out k hlt)
        have hct := cnt_mul8 k hlt
        have hsb := shl_byte (bs.getD k 0) (k % 8) (by omega)
        have HM := hid (EL_more (num (bs.take k)) (bs.getD k 0).toNat k hlt (HL.out k (by omega)) (UInt8.toNat_lt _))
        have HO := hid (or_add (lim (num (bs.take k)) (k / 8)) (8 * (k % 8)) (bs.getD k 0).toNat (lim_low _ k (HL.out k (by omega))))
        have HTk := hid (HT.out k hlt)
        generalize bs.getD k 0 = x at *
        generalize num (bs.take k) = V at *
        go_wp2_with (first
          | (refine wpList_store_in rfl rfl _ _ _ rfl _ _ _ _ h2 rfl ?hl rfl (by kernel_rfl) ?_; (case hl => rw [EL_length]; omega); intro v w6 hv hb6 ho6; simp [go_sem] at hv; subst hv)
          | fail)
        go_roundw
        case rel =>
          refine ⟨k + 1, by omega, by go_num, h1.only ho6 (by omega), ?_, L.only ho6 (by omega)⟩
          rw [HTk.out, ← HM.out, ← HO.out]
          first | exact hb6 | (rw [hsb] at hb6; exact hb6)
        case measure => simp [intOf]; omega
      · rw [show k = 32 by omega, HF.out] at h2
        have hkf : decide ((k : Int) < 32) = false := by simp; omega
        have d3 := h2.cellD 3 (EL_get _ 3 (by omega))
        have hlT : num bs % T255 < T256 := Nat.lt_trans (Nat.mod_lt _ (by decide)) (by decide)
        go_wp2_with (first
          | (refine wpList_store_in rfl rfl _ _ _ rfl _ _ _ _ h2 rfl ?hl rfl (by kernel_rfl) ?_; (case hl => rw [EL_length]; omega); intro v w6 hv hb6 ho6; simp [go_sem] at hv; subst hv
             rw [EL_low] at hb6
             have h16 := h1.only ho6 (by omega)
             have L6 := L.only ho6 (by omega))
          | (refine load_E rfl _ rfl hb6 rfl ?_)
          | (go_at_call 27; (with_reducible refine (norm_any (num bs % T255) hlT _).mono ?_); rintro e w7 ⟨rfl, hl7⟩)
          | (refine store_E rfl rfl _ _ rfl (h16.later hl7) rfl rfl rfl ?_; intro w9 hb9 ho9)
          | fail)
        exact bodyPost_ret (results_blk_tmp rfl _ _ _ _ _ _ hb9 rfl Try.underlying28 rfl (by rw [EL_length]; exact sizeE)) rfl ⟨by rw [hRN.out, hRE.out]; rfl, (L6.trans hl7).only ho9 (by omega)⟩
  · have hRN := hid (show readN bs = 0 by rw [readN, if_neg (by omega)])
    have hRE := hid (show readE bs = 2 by rw [readE, if_neg (by omega)])
    have hne : ((n : Int) != 32) = true := by simp; omega
    go_enter Try.func38, Try.ntmps38
    go_wp2_with (first
      | (refine wpList_build_is rfl 28 _ rfl (EL 0) ?hb ?_; (case hb => kernel_rfl))
      | (refine store_E (n := 0) rfl rfl _ _ rfl hb0 rfl rfl rfl ?_; intro w9 hb9 ho9)
      | fail)
    exact bodyPost_ret (results_blk_tmp rfl _ _ _ _ _ _ hb9 rfl Try.underlying28 rfl (by rw [EL_length]; exact sizeE)) rfl ⟨by rw [hRN.out, hRE.out]; rfl, (later_alloc _ _).only ho9 (by omega)⟩
end Go.Proofs.Ytmdjhbiiifnfiaa
