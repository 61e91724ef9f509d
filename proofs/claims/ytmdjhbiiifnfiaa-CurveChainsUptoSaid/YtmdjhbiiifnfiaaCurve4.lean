/-
  curve.Clamp and its twin.
-/
import Derived.Test.YtmdjhbiiifnfiaaCurve3
namespace Go.Proofs.Ytmdjhbiiifnfiaa
open Go.RowKit
open Go.BigFrame

/-- A scalar with its fixed bits. -/
def clampB (bs : List UInt8) : List UInt8 := if bs.length = 32 then (bs.set 0 (bs.getD 0 0 &&& 248)).set 31 (((bs.getD 31 0) &&& 127) ||| 64) else List.replicate 32 0
theorem clampB_length (bs : List UInt8) : (clampB bs).length = 32 := by
  unfold clampB
  split
  · simp; assumption
  · simp
set_option maxRecDepth 100000 in
set_option maxHeartbeats 2000000 in
theorem clamp_any (A : Option Addr) (n c : Nat) (bs : List UInt8) (w : World) (hr : RdB w A n bs) (hn : n ≤ 140737488355328) :
    Calls Try.prog 45 #[.slice A n c] w fun e w' => e = .returned (.tuple #[.agg ((clampB bs).map W8).toArray, .int .i64 (readE bs : Nat)]) ∧ Later w w' := by
  have hbl := hr.len
  have hb0 := Blk.new w 42 (List.replicate 32 (Value.int .u8 0))
  by_cases h32 : n = 32
  · subst h32
    have hRN := hid (show (clampB bs) = (bs.set 0 (bs.getD 0 0 &&& 248)).set 31 (((bs.getD 31 0) &&& 127) ||| 64) by rw [clampB, if_pos hbl])
    have hRE := hid (show readE bs = 0 by rw [readE, if_pos hbl])
    have L0 : Later w ((w.alloc (.cells (List.replicate 32 (Value.int .u8 0)).toArray 42)).alloc (.cells (List.replicate 32 (Value.int .u8 0)).toArray 42)) := (later_alloc _ _).trans (later_alloc _ _)
    go_enter Try.func45, Try.ntmps45
    have hcl := clampB_length bs
    have hx0 : (bs.map W8)[0]? = some (W8 (bs.getD 0 0)) := by rw [List.getElem?_map, List.getD_eq_getElem?_getD, List.getElem?_eq_getElem (by omega)]; rfl
    have hy0 : (bs.map W8)[31]? = some (W8 (bs.getD 31 0)) := by rw [List.getElem?_map, List.getD_eq_getElem?_getD, List.getElem?_eq_getElem (by omega)]; rfl
    generalize bs.getD 0 0 = x at *
    generalize bs.getD 31 0 = y at *
    go_wp2_with (first
      | (refine wpList_copy_rd rfl _ _ _ _ rfl 5 Try.underlying25 size8 (w.heap.size + 1) 0 32 32 42 (List.replicate 32 (W8 0)) (Blk.new' _ _ _ (by simp)) A 32 c (bs.map W8) (RdB.later hr L0) (w8_one _) rfl rfl (by simp) ?_; intro w4 hb4 ho4
         rw [List.take_of_length_le (by simp; omega), spliced_all _ _ (by simp; omega)] at hb4
         have L4 := L0.only ho4 (by omega)
         have h04 := (hb0.later (later_alloc _ _)).only ho4 (by omega)
         have d0 := hb4.cellD 0 hx0
         clear ho4)
      | (refine wpList_store_in rfl rfl _ _ _ rfl _ _ _ _ hb4 rfl ?hl rfl (by kernel_rfl) ?_; (case hl => simp; omega); intro v w5 hv hb5 ho5; simp [go_sem] at hv; subst hv
         have L5 := L4.only ho5 (by omega)
         have h05 := h04.only ho5 (by omega)
         have d31 := hb5.cellD 31 (u := W8 y) (by rw [List.getElem?_set_ne (by omega)]; exact hy0)
         clear ho5 d0 hb4)
      | (refine wpList_store_in rfl rfl _ _ _ rfl _ _ _ _ hb5 rfl ?hl rfl (by kernel_rfl) ?_; (case hl => simp; omega); intro v w6 hv hb6 ho6; simp [go_sem] at hv; subst hv
         have L6 := L5.only ho6 (by omega)
         have h06 := h05.only ho6 (by omega)
         have d31' := hb6.cellD 31 (List.getElem?_set_self (by simp; omega))
         clear ho6 d31 hb5)
      | (refine wpList_store_in rfl rfl _ _ _ rfl _ _ _ _ hb6 rfl ?hl rfl (by kernel_rfl) ?_; (case hl => simp; omega); intro v w7 hv hb7 ho7; simp [go_sem] at hv; subst hv
         rw [List.set_set, ← List.map_set, ← List.map_set, ← hRN.out] at hb7
         have L7 := L6.only ho7 (by omega)
         have h07 := h06.only ho7 (by omega)
         clear ho7 d31' hb6)
      | (refine load_B rfl _ rfl hb7 hcl rfl ?_)
      | (refine store_B rfl rfl _ _ rfl h07 rfl rfl hcl rfl ?_; intro w8 hb8 ho8)
      | fail)
    exact bodyPost_ret (results_blk_tmp rfl _ _ _ _ _ _ hb8 rfl Try.underlying42 rfl (by rw [List.length_map, hcl]; exact size32b)) rfl ⟨by rw [hRE.out]; rfl, L7.only ho8 (by omega)⟩
  · have hne : ((n : Int) != 32) = true := by simp; omega
    have hRN := hid (show clampB bs = List.replicate 32 0 by rw [clampB, if_neg (by omega)])
    have hRE := hid (show readE bs = 2 by rw [readE, if_neg (by omega)])
    go_enter Try.func45, Try.ntmps45
    go_wp2_with (first
      | (refine wpList_build_is rfl 42 _ rfl (List.replicate 32 (W8 0)) ?hb ?_; (case hb => kernel_rfl))
      | (refine store_B (bs := List.replicate 32 0) rfl rfl _ _ rfl hb0 rfl (by kernel_rfl) rfl rfl ?_; intro w9 hb9 ho9)
      | fail)
    exact bodyPost_ret (results_blk_tmp rfl _ _ _ _ _ _ hb9 rfl Try.underlying42 rfl (by rw [List.length_map, List.length_replicate]; exact size32b)) rfl ⟨by rw [hRN.out, hRE.out]; rfl, (later_alloc _ _).only ho9 (by omega)⟩
theorem and_fact : ∀ x : Fin 256, x.1 &&& 248 = x.1 / 8 * 8 ∧ (x.1 &&& 127) ||| 64 = x.1 % 64 + 64 := by decide +kernel
theorem and_248 (x : UInt8) : x &&& 248 = x / 8 * 8 := by
  apply UInt8.toNat_inj.1
  have h := x.toNat_lt
  have := (and_fact ⟨x.toNat, h⟩).1
  rw [UInt8.toNat_and, UInt8.toNat_mul, UInt8.toNat_div]
  show x.toNat &&& 248 = x.toNat / 8 * 8 % 256
  simp only at this
  omega
theorem and_127 (x : UInt8) : (x &&& 127) ||| 64 = x % 64 + 64 := by
  apply UInt8.toNat_inj.1
  have h := x.toNat_lt
  have := (and_fact ⟨x.toNat, h⟩).2
  rw [UInt8.toNat_or, UInt8.toNat_and, UInt8.toNat_add, UInt8.toNat_mod]
  show (x.toNat &&& 127) ||| 64 = (x.toNat % 64 + 64) % 256
  simp only at this
  omega
set_option maxRecDepth 100000 in
set_option maxHeartbeats 2000000 in
theorem clamp_ref (A : Option Addr) (n c : Nat) (bs : List UInt8) (w : World) (hr : RdB w A n bs) (hn : n ≤ 140737488355328) :
    Calls Try.prog 46 #[.slice A n c] w fun e w' => e = .returned (.tuple #[.agg ((clampB bs).map W8).toArray, .int .i64 (readE bs : Nat)]) ∧ Later w w' := by
  have hbl := hr.len
  have hb0 := Blk.new w 42 (List.replicate 32 (Value.int .u8 0))
  by_cases h32 : n = 32
  · subst h32
    have hRN := hid (show (clampB bs) = (bs.set 0 (bs.getD 0 0 &&& 248)).set 31 (((bs.getD 31 0) &&& 127) ||| 64) by rw [clampB, if_pos hbl])
    have hRE := hid (show readE bs = 0 by rw [readE, if_pos hbl])
    have L0 : Later w ((w.alloc (.cells (List.replicate 32 (Value.int .u8 0)).toArray 42)).alloc (.cells (List.replicate 32 (Value.int .u8 0)).toArray 42)) := (later_alloc _ _).trans (later_alloc _ _)
    go_enter Try.func46, Try.ntmps46
    have hX := hid (and_248 (bs.getD 0 0))
    have hY := hid (and_127 (bs.getD 31 0))
    have hcl := clampB_length bs
    have hx0 : (bs.map W8)[0]? = some (W8 (bs.getD 0 0)) := by rw [List.getElem?_map, List.getD_eq_getElem?_getD, List.getElem?_eq_getElem (by omega)]; rfl
    have hy0 : (bs.map W8)[31]? = some (W8 (bs.getD 31 0)) := by rw [List.getElem?_map, List.getD_eq_getElem?_getD, List.getElem?_eq_getElem (by omega)]; rfl
    generalize bs.getD 0 0 = x at *
    generalize bs.getD 31 0 = y at *
    go_wp2_with (first
      | (refine wpList_copy_rd rfl _ _ _ _ rfl 5 Try.underlying25 size8 (w.heap.size + 1) 0 32 32 42 (List.replicate 32 (W8 0)) (Blk.new' _ _ _ (by simp)) A 32 c (bs.map W8) (RdB.later hr L0) (w8_one _) rfl rfl (by simp) ?_; intro w4 hb4 ho4
         rw [List.take_of_length_le (by simp; omega), spliced_all _ _ (by simp; omega)] at hb4
         have L4 := L0.only ho4 (by omega)
         have h04 := (hb0.later (later_alloc _ _)).only ho4 (by omega)
         have d0 := hb4.cellD 0 hx0
         clear ho4)
      | (refine wpList_store_in rfl rfl _ _ _ rfl _ _ _ _ hb4 rfl ?hl rfl (by kernel_rfl) ?_; (case hl => simp; omega); intro v w5 hv hb5 ho5; simp [go_sem] at hv; subst hv
         have L5 := L4.only ho5 (by omega)
         have h05 := h04.only ho5 (by omega)
         have d31 := hb5.cellD 31 (u := W8 y) (by rw [List.getElem?_set_ne (by omega)]; exact hy0)
         clear ho5 d0 hb4)
      | (refine wpList_store_in rfl rfl _ _ _ rfl _ _ _ _ hb5 rfl ?hl rfl (by kernel_rfl) ?_; (case hl => simp; omega); intro v w6 hv hb6 ho6; simp [go_sem] at hv; subst hv
         have L6 := L5.only ho6 (by omega)
         have h06 := h05.only ho6 (by omega)
         rw [← hX.out, ← hY.out, ← List.map_set, ← List.map_set, ← hRN.out] at hb6
         clear ho6 d31 hb5)
      | (refine load_B rfl _ rfl hb6 hcl rfl ?_)
      | (refine store_B rfl rfl _ _ rfl h06 rfl rfl hcl rfl ?_; intro w8 hb8 ho8)
      | fail)
    exact bodyPost_ret (results_blk_tmp rfl _ _ _ _ _ _ hb8 rfl Try.underlying42 rfl (by rw [List.length_map, hcl]; exact size32b)) rfl ⟨by rw [hRE.out]; rfl, L6.only ho8 (by omega)⟩
  · have hne : ((n : Int) != 32) = true := by simp; omega
    have hRN := hid (show clampB bs = List.replicate 32 0 by rw [clampB, if_neg (by omega)])
    have hRE := hid (show readE bs = 2 by rw [readE, if_neg (by omega)])
    have h0a := hb0.later (later_alloc _ (.cells (List.replicate 32 (Value.int .u8 0)).toArray 42))
    go_enter Try.func46, Try.ntmps46
    go_wp2_with (first
      | (refine load_B (bs := List.replicate 32 0) rfl _ rfl (Blk.new' _ _ _ (by simp)) rfl rfl ?_)
      | (refine store_B (bs := List.replicate 32 0) rfl rfl _ _ rfl h0a rfl rfl rfl rfl ?_; intro w9 hb9 ho9)
      | fail)
    exact bodyPost_ret (results_blk_tmp rfl _ _ _ _ _ _ hb9 rfl Try.underlying42 rfl (by rw [List.length_map, List.length_replicate]; exact size32b)) rfl ⟨by rw [hRN.out, hRE.out]; rfl, ((later_alloc _ _).trans (later_alloc _ _)).only ho9 (by omega)⟩
end Go.Proofs.Ytmdjhbiiifnfiaa
