/-
  field.Norm, Mul64, step, add.
-/
import Derived.Test.YtmdjhbiiifnfiaaField1
namespace Go.Proofs.Ytmdjhbiiifnfiaa
open Go.RowKit

theorem plus_19 (a : Nat) (w : World) : Calls Try.prog 65 #[E a, .int .u64 19] w fun e w' => e = .returned (.tuple #[E (a + 19), n64 ((a % B64 ^ 4 + 19) / B64 ^ 4)]) ∧ Later w w' := plus_any a 19 (by decide) w
theorem four_zero : (List.replicate 4 (Value.int .u64 0)).length = 4 := rfl
set_option maxHeartbeats 1000000 in
theorem norm_any (n : Nat) (hn : n < T256) (w : World) :
    Calls Try.prog 27 #[E n] w fun e w' => e = .returned (E (n % P25)) ∧ Later w w' := by
  obtain ⟨u, hu, hu1, hu2⟩ := norm_math n hn
  have hl3 := lim3 n hn
  have hq : n / T255 ≤ 1 := by unfold T255; unfold T256 at hn; omega
  have hus : u < T256 := by unfold T255 at hu; unfold T256 at *; omega
  have hus' : u + 19 < T256 := by unfold T255 at hu; unfold T256 at *; omega
  have hlu := lim3 (u + 19) hus'
  have HQ := hid hl3
  have HU := hid hu
  have HL := hid hlu
  clear hl3 hu hlu
  have hlS := EL_length n
  have hb : Blk ((w.alloc (.cells (EL n).toArray 28)).alloc (.cells (List.replicate 4 (.int .u64 0)).toArray 28)) w.heap.size 28 (EL n) := (Blk.new _ _ _).later (later_alloc _ _)
  have hr : Blk ((w.alloc (.cells (EL n).toArray 28)).alloc (.cells (List.replicate 4 (.int .u64 0)).toArray 28)) (w.heap.size + 1) 28 (List.replicate 4 (.int .u64 0)) := Blk.new' _ _ _ (by simp)
  have hcs : u + 19 < T255 ∧ (u + 19) / T255 = 0 ∨ T255 ≤ u + 19 ∧ (u + 19) / T255 = 1 := by unfold T255; unfold T256 at hus'; omega
  rcases hcs with ⟨hlt, hz⟩ | ⟨hge, hz⟩
  · have hz' : lim (u + 19) 3 / 9223372036854775808 = 0 := HL.out.trans hz
    have hR := hid (hu1 hlt)
    clear hz hu1 hu2
    go_enter Try.func27, Try.ntmps27
    go_wp2_with (first
      | (refine wpList_store_in rfl rfl _ _ _ rfl _ _ _ _ hb rfl ?hl rfl (by kernel_rfl) ?_; (case hl => omega); intro v w1 hv hb1 ho1; simp [go_sem] at hv; subst hv
         rw [EL_low] at hb1
         have hr1 := hr.only ho1 (by omega)
         have L1 : Later w w1 := ((later_alloc _ _).trans (later_alloc _ _)).only ho1 (Nat.le_refl _)
         clear hb hr ho1)
      | (refine load_E rfl _ rfl hb1 rfl ?_)
      | (go_at_call 65; (with_reducible refine (plus_any (n % T255) _ ?hb19 _).mono ?_); (case hb19 => rw [HQ.out]; unfold B64; omega); rintro e w2 ⟨rfl, hl2⟩; rw [HQ.out, ← HU.out]
         replace hb1 := hb1.later hl2
         have hr2 := hr1.later hl2
         have L2 := L1.trans hl2
         clear hr1 L1 hl2)
      | (refine store_E rfl rfl _ _ rfl hb1 rfl rfl (EL_length _) ?_; intro w3 hb3 ho3
         have hr3 := hr2.only ho3 (by omega)
         have L3 := L2.only ho3 (Nat.le_refl _)
         clear hr2 L2 ho3 hb1)
      | (refine load_E rfl _ rfl hb3 rfl ?_)
      | (go_at_call 65; (with_reducible refine (plus_19 u _).mono ?_); rintro e w4 ⟨rfl, hl4⟩
         have hb4 := (hb3.later hl4).later (later_alloc _ (.cells (List.replicate 4 (.int .u64 0)).toArray 28))
         have hr4 := (hr3.later hl4).later (later_alloc _ (.cells (List.replicate 4 (.int .u64 0)).toArray 28))
         have L4 := (L3.trans hl4).alloc (.cells (List.replicate 4 (.int .u64 0)).toArray 28)
         have hs4 := hr3.lt
         have hs5 := hl4.size
         have hn4 : Blk (w4.alloc (.cells (List.replicate 4 (.int .u64 0)).toArray 28)) w4.heap.size 28 (List.replicate 4 (.int .u64 0)) := Blk.new _ _ _
         clear hr3 L3 hl4 hb3)
      | (refine store_E rfl rfl _ _ rfl hn4 rfl rfl rfl ?_; intro w5 hb5 ho5
         have hu5 := hb4.only ho5 (by omega)
         have hr5 := hr4.only ho5 (by omega)
         have L5 := L4.only ho5 (by omega)
         have d5 := hb5.cellD 3 (EL_get _ 3 (by omega))
         clear hr4 L4 ho5 hb4)
      | (refine load_E rfl _ rfl hu5 rfl ?_)
      | (refine store_E rfl rfl _ _ rfl hr5 rfl rfl rfl ?_; intro w6 hb6 ho6))
    exact bodyPost_ret (ret_E rfl hb6 rfl) rfl ⟨by rw [hR.out], L5.only ho6 (by omega)⟩
  · have hz' : lim (u + 19) 3 / 9223372036854775808 = 1 := HL.out.trans hz
    obtain ⟨_, hu3⟩ := hu2 hge
    have hm : (u + 19) % T255 = n % P25 := by rw [← hu3]; unfold T255 at *; unfold T256 at *; omega
    have hR := hid hm
    clear hz hu1 hu2 hu3 hm
    go_enter Try.func27, Try.ntmps27
    go_wp2_with (first
      | (refine wpList_store_in rfl rfl _ _ _ rfl _ _ _ _ hb rfl ?hl rfl (by kernel_rfl) ?_; (case hl => omega); intro v w1 hv hb1 ho1; simp [go_sem] at hv; subst hv
         rw [EL_low] at hb1
         have hr1 := hr.only ho1 (by omega)
         have L1 : Later w w1 := ((later_alloc _ _).trans (later_alloc _ _)).only ho1 (Nat.le_refl _)
         clear hb hr ho1)
      | (refine load_E rfl _ rfl hb1 rfl ?_)
      | (go_at_call 65; (with_reducible refine (plus_any (n % T255) _ ?hb19 _).mono ?_); (case hb19 => rw [HQ.out]; unfold B64; omega); rintro e w2 ⟨rfl, hl2⟩; rw [HQ.out, ← HU.out]
         replace hb1 := hb1.later hl2
         have hr2 := hr1.later hl2
         have L2 := L1.trans hl2
         clear hr1 L1 hl2)
      | (refine store_E rfl rfl _ _ rfl hb1 rfl rfl (EL_length _) ?_; intro w3 hb3 ho3
         have hr3 := hr2.only ho3 (by omega)
         have L3 := L2.only ho3 (Nat.le_refl _)
         clear hr2 L2 ho3 hb1)
      | (refine load_E rfl _ rfl hb3 rfl ?_)
      | (go_at_call 65; (with_reducible refine (plus_19 u _).mono ?_); rintro e w4 ⟨rfl, hl4⟩
         have hb4 := (hb3.later hl4).later (later_alloc _ (.cells (List.replicate 4 (.int .u64 0)).toArray 28))
         have hr4 := (hr3.later hl4).later (later_alloc _ (.cells (List.replicate 4 (.int .u64 0)).toArray 28))
         have L4 := (L3.trans hl4).alloc (.cells (List.replicate 4 (.int .u64 0)).toArray 28)
         have hs4 := hr3.lt
         have hs5 := hl4.size
         have hn4 : Blk (w4.alloc (.cells (List.replicate 4 (.int .u64 0)).toArray 28)) w4.heap.size 28 (List.replicate 4 (.int .u64 0)) := Blk.new _ _ _
         clear hr3 L3 hl4 hb3)
      | (refine store_E rfl rfl _ _ rfl hn4 rfl rfl rfl ?_; intro w5 hb5 ho5
         have hu5 := hb4.only ho5 (by omega)
         have hr5 := hr4.only ho5 (by omega)
         have L5 := L4.only ho5 (by omega)
         have d5 := hb5.cellD 3 (EL_get _ 3 (by omega))
         clear hr4 L4 ho5 hb4)
      | (refine wpList_store_in rfl rfl _ _ _ rfl _ _ _ _ hb5 rfl ?hl rfl (by kernel_rfl) ?_; (case hl => rw [EL_length]; omega); intro v w6 hv hb6 ho6; simp [go_sem] at hv; subst hv
         rw [EL_low, hR.out] at hb6
         have hr6 := hr5.only ho6 (by omega)
         have L6 := L5.only ho6 (by omega))
      | (refine load_E rfl _ rfl hb6 rfl ?_)
      | (refine store_E rfl rfl _ _ rfl hr6 rfl rfl rfl ?_; intro w7 hb7 ho7))
    exact bodyPost_ret (ret_E rfl hb7 rfl) rfl ⟨rfl, L6.only ho7 (by omega)⟩
end Go.Proofs.Ytmdjhbiiifnfiaa
