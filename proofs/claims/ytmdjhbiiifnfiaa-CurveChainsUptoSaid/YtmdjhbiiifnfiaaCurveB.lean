/-
  shallotlaw06: CurveMults.
-/
import Derived.Test.YtmdjhbiiifnfiaaCurveA
import Derived.Test.YtmdjhbiiifnfiaaLists
namespace Go.Proofs.Ytmdjhbiiifnfiaa
open Go.RowKit
open Go.BigFrame

set_option maxRecDepth 100000 in
set_option maxHeartbeats 4000000 in
theorem curveMults_walk (A B : Option Addr) (n m c d : Nat) (ks us : List UInt8) (w : World) (hk : RdB w A n ks) (hu : RdB w B m us) (hn : n ≤ 140737488355328) (hm : m ≤ 140737488355328) :
    Calls Try.prog 10 #[.slice A n c, .slice B m d] w fun e w' => e = .returned (.bool true) ∧ Later w w' := by
  have hC := hid (fun (w : World) A c h => clamp_any A n c ks w h hn)
  have hCr := hid (fun (w : World) A c h => clamp_ref A n c ks w h hn)
  have hM := hid (fun (w : World) A B c d h1 h2 => mult_any A B n c m d ks us w h1 h2 hn hm)
  have hMr := hid (fun (w : World) A B c d h1 h2 => mult_ref A B n c m d ks us w h1 h2 hn hm)
  obtain ⟨y, hy⟩ := sub32 (multB_length ks us)
  obtain ⟨x, hx⟩ := sub32 (clampB_length ks)
  rw [← hy] at hM hMr
  rw [← hx] at hC hCr
  clear hx hy
  generalize multE ks us = e1 at *
  generalize readE ks = e0 at *
  have hxl := x.2
  have hyl := y.2
  go_enter Try.func10, Try.ntmps10
  go_wp2_with fail
  (with_reducible refine (awake06 _).mono ?_); rintro e w1 ⟨rfl, j1⟩
  go_wp2_with fail
  (with_reducible refine (copy_any A n c ks _ (hk.later j1) (by omega)).mono ?_); rintro e w2 ⟨A2, c2, rfl, o2, j2⟩
  go_wp2_with fail
  (with_reducible refine (hC.out _ A2 c2 o2.rd).mono ?_); rintro e w3 ⟨rfl, j3⟩
  go_wp2_with (first
    | (refine store_B rfl rfl _ _ rfl (Blk.new w3 _ (List.replicate 32 (.int .u8 0))) rfl rfl hxl rfl ?_; intro w4 hb4 ho4)
    | fail)
  have B1 := (Bag.none w).push (((j1.trans j2).trans j3).trans (later_alloc w3 _)) ((j1.trans j2).trans j3).size ho4 hb4
  clear j1 j2 j3 o2 hb4 ho4
  (with_reducible refine (hCr.out _ A c (hk.later B1.lat)).mono ?_); rintro e w5 ⟨rfl, j5⟩
  go_wp2_with (first
    | (refine store_B rfl rfl _ _ rfl (Blk.new w5 _ (List.replicate 32 (.int .u8 0))) rfl rfl hxl rfl ?_; intro w6 hb6 ho6
       have B2 := B1.push (j5.trans (later_alloc w5 _)) j5.size ho6 hb6)
    | (refine load_B rfl _ rfl (B2.nth 1 rfl) hxl rfl ?_)
    | (refine load_B rfl _ rfl (B2.nth 0 rfl) hxl rfl ?_)
    | fail)
  clear j5 hb6 ho6 B1
  (with_reducible refine (copy_any A n c ks _ (hk.later B2.lat) (by omega)).mono ?_); rintro e w7 ⟨A7, c7, rfl, o7, j7⟩
  go_wp2_with fail
  (with_reducible refine (copy_any B m d us _ (hu.later (B2.lat.trans j7)) (by omega)).mono ?_); rintro e w8 ⟨A8, c8, rfl, o8, j8⟩
  go_wp2_with fail
  (with_reducible refine (hM.out _ A7 A8 c7 c8 (o7.rd.later j8) o8.rd).mono ?_); rintro e w9 ⟨rfl, j9⟩
  go_wp2_with (first
    | (refine store_B rfl rfl _ _ rfl (Blk.new w9 _ (List.replicate 32 (.int .u8 0))) rfl rfl hyl rfl ?_; intro w10 hb10 ho10)
    | fail)
  have B3 := B2.push (((j7.trans j8).trans j9).trans (later_alloc w9 _)) ((j7.trans j8).trans j9).size ho10 hb10
  clear j7 j8 j9 o7 o8 hb10 ho10 B2
  (with_reducible refine (hMr.out _ A B c d (hk.later B3.lat) (hu.later B3.lat)).mono ?_); rintro e w11 ⟨rfl, j11⟩
  go_wp2_with (first
    | (refine store_B rfl rfl _ _ rfl (Blk.new w11 _ (List.replicate 32 (.int .u8 0))) rfl rfl hyl rfl ?_; intro w12 hb12 ho12
       have B4 := B3.push (j11.trans (later_alloc w11 _)) j11.size ho12 hb12)
    | (refine load_B rfl _ rfl (B4.nth 1 rfl) hyl rfl ?_)
    | (refine load_B rfl _ rfl (B4.nth 0 rfl) hyl rfl ?_)
    | fail)
  go_ret
  exact ⟨rfl, B4.lat⟩
end Go.Proofs.Ytmdjhbiiifnfiaa
