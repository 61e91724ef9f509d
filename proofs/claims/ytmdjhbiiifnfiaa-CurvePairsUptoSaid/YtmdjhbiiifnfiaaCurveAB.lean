/-
  curve.Public, NewPair, Shared, Low, and the twins' Public.
  shallotlaw06: awake.
  shallotlaw06: CurveMults.
-/
import Derived.Test.YtmdjhbiiifnfiaaCurve8
import Derived.Test.YtmdjhbiiifnfiaaLists
namespace Go.Proofs.Ytmdjhbiiifnfiaa
open Go.RowKit
open Go.BigFrame

theorem bag_new (w : World) (t : TypeId) (l : List Value) : Bag w (w.alloc (.cells l.toArray t)) [(w.heap.size, t, l)] :=
  ⟨later_alloc _ _, by intro p hp; simp at hp; subst hp; exact Blk.new w t l, by simp, by simp⟩
theorem of_9 (w : World) : Calls Try.prog 20 #[.int .u64 9] w fun e w' => e = .returned (E 9) ∧ Later w w' := of_any 9 (by decide) w
theorem bytes9 (w : World) : Calls Try.prog 28 #[E 9] w fun e w' => e = .returned (.agg ((nb 9).map W8).toArray) ∧ Later w w' := by
  have := bytes_any 9 (by decide) w
  rwa [show 9 % P25 = 9 by decide, BB] at this
theorem bytes9_ref (w : World) : Calls Try.prog 29 #[NN 9] w fun e w' => e = .returned (.agg ((nb 9).map W8).toArray) ∧ Later w w' := by
  have := bytes_ref 9 (by decide) w
  rwa [show 9 % P25 = 9 by decide, BB] at this
theorem built_N9 : Program.built Try.prog 35 [(0, Value.int .u32 9)] = some (NL 9).toArray := by kernel_rfl
set_option maxRecDepth 100000 in
set_option maxHeartbeats 2000000 in
theorem public_any (A : Option Addr) (n c : Nat) (ks : List UInt8) (w : World) (hk : RdB w A n ks) (hn : n ≤ 140737488355328) :
    Calls Try.prog 57 #[.slice A n c] w fun e w' => e = .returned (.tuple #[.agg ((multB ks (nb 9)).map W8).toArray, .int .i64 (multE ks (nb 9) : Nat)]) ∧ Later w w' := by
  have B0 := bag_new w 42 (List.replicate 32 (Value.int .u8 0))
  have cM := hid (fun (w : World) g d h1 h2 => mult_any A (some ⟨g, 0, none⟩) n c 32 d ks (nb 9) w h1 h2 hn (by omega))
  have hml := multB_length ks (nb 9)
  have h9 := nb_length 9
  have cB := hid bytes9
  generalize multB ks (nb 9) = M at *
  generalize multE ks (nb 9) = e9 at *
  generalize nb 9 = N9 at *
  go_enter Try.func57, Try.ntmps57
  go_wp2_with fail
  generalize hW : w.alloc _ = w0
  replace B0 : Bag w w0 [(w.heap.size, 42, List.replicate 32 (Value.int .u8 0))] := by rw [← hW]; exact bag_new w 42 (List.replicate 32 (Value.int .u8 0))
  clear hW
  (with_reducible refine (of_9 _).mono ?_); rintro e w1 ⟨rfl, hl1⟩
  go_wp2_with (first
    | (go_at_call 28; (with_reducible refine (cB.out _).mono ?_); rintro e w2 ⟨rfl, hl2⟩)
    | (refine store_B rfl rfl _ _ rfl (Blk.new w2 _ (List.replicate 32 (.int .u8 0))) rfl rfl h9 rfl ?_; intro w3 hb3 ho3)
    | fail)
  have B1 := B0.push ((hl1.trans hl2).trans (later_alloc w2 _)) (hl1.trans hl2).size ho3 hb3
  (with_reducible refine (cM.out _ _ _ (hk.later B1.lat) (blk_rdB (B1.nth 0 rfl) h9)).mono ?_); rintro e w4 ⟨rfl, hl4⟩
  go_wp2_with (first
    | (refine store_B rfl rfl _ _ rfl ((B1.later hl4).nth 1 rfl) rfl rfl hml rfl ?_; intro w5 hb5 ho5)
    | fail)
  exact bodyPost_ret (results_blk_tmp rfl _ _ _ _ _ _ hb5 rfl Try.underlying42 rfl (by rw [List.length_map, hml]; exact size32b)) rfl ⟨rfl, ((B1.later hl4).write 1 rfl ho5 hb5).lat⟩
set_option maxRecDepth 100000 in
set_option maxHeartbeats 2000000 in
theorem public_ref (A : Option Addr) (n c : Nat) (ks : List UInt8) (w : World) (hk : RdB w A n ks) (hn : n ≤ 140737488355328) :
    Calls Try.prog 51 #[.slice A n c] w fun e w' => e = .returned (.tuple #[.agg ((multB ks (nb 9)).map W8).toArray, .int .i64 (multE ks (nb 9) : Nat)]) ∧ Later w w' := by
  have B0 := bag_new w 42 (List.replicate 32 (Value.int .u8 0))
  have cM := hid (fun (w : World) g d h1 h2 => mult_ref A (some ⟨g, 0, none⟩) n c 32 d ks (nb 9) w h1 h2 hn (by omega))
  have hml := multB_length ks (nb 9)
  have h9 := nb_length 9
  have cB := hid bytes9_ref
  generalize multB ks (nb 9) = M at *
  generalize multE ks (nb 9) = e9 at *
  generalize nb 9 = N9 at *
  go_enter Try.func51, Try.ntmps51
  go_wp2_with (first
    | (refine wpList_build_is rfl 35 _ rfl (NL 9) ?hb ?_; (case hb => simp only [List.map_toArray, List.map_cons, List.map_nil]; exact built_N9))
    | fail)
  generalize hW : w.alloc _ = w0
  replace B0 : Bag w w0 [(w.heap.size, 42, List.replicate 32 (Value.int .u8 0))] := by rw [← hW]; exact bag_new w 42 (List.replicate 32 (Value.int .u8 0))
  clear hW
  (with_reducible refine (cB.out _).mono ?_); rintro e w2 ⟨rfl, hl2⟩
  go_wp2_with (first
    | (refine store_B rfl rfl _ _ rfl (Blk.new w2 _ (List.replicate 32 (.int .u8 0))) rfl rfl h9 rfl ?_; intro w3 hb3 ho3)
    | fail)
  have B1 := B0.push (hl2.trans (later_alloc w2 _)) hl2.size ho3 hb3
  (with_reducible refine (cM.out _ _ _ (hk.later B1.lat) (blk_rdB (B1.nth 0 rfl) h9)).mono ?_); rintro e w4 ⟨rfl, hl4⟩
  go_wp2_with (first
    | (refine store_B rfl rfl _ _ rfl ((B1.later hl4).nth 1 rfl) rfl rfl hml rfl ?_; intro w5 hb5 ho5)
    | fail)
  exact bodyPost_ret (results_blk_tmp rfl _ _ _ _ _ _ hb5 rfl Try.underlying42 rfl (by rw [List.length_map, hml]; exact size32b)) rfl ⟨rfl, ((B1.later hl4).write 1 rfl ho5 hb5).lat⟩
end Go.Proofs.Ytmdjhbiiifnfiaa
namespace Go.Proofs.Ytmdjhbiiifnfiaa
open Go.RowKit
open Go.BigFrame

def kaB : List UInt8 := [0xa5, 0x46, 0xe3, 0x6b, 0xf0, 0x52, 0x7c, 0x9d, 0x3b, 0x16, 0x15, 0x4b, 0x82, 0x46, 0x5e, 0xdd, 0x62, 0x14, 0x4c, 0x0a, 0xc1, 0xfc, 0x5a, 0x18, 0x50, 0x6a, 0x22, 0x44, 0xba, 0x44, 0x9a, 0xc4]
def uaB : List UInt8 := [0xe6, 0xdb, 0x68, 0x67, 0x58, 0x30, 0x30, 0xdb, 0x35, 0x94, 0xc1, 0xa4, 0x24, 0xb1, 0x5f, 0x7c, 0x72, 0x66, 0x24, 0xec, 0x26, 0xb3, 0x35, 0x3b, 0x10, 0xa9, 0x03, 0xa6, 0xd0, 0xab, 0x1c, 0x4c]
theorem pinv_fast (a : Nat) : pinv a = pwm P25 256 a (P25 - 2) := (pwm_eq P25 256 a (P25 - 2) (by decide)).symm
theorem multQ_fast (ks us : List UInt8) : multQ ks us = fmul (Lad.at (readN us) (clampB ks) 255).x2 (pwm P25 256 (Lad.at (readN us) (clampB ks) 255).z2 (P25 - 2)) := by rw [multQ, pinv_fast]
set_option maxRecDepth 100000 in
theorem aw_fact : fmul (Lad.at (readN uaB) (clampB kaB) 255).x2 (pwm P25 256 (Lad.at (readN uaB) (clampB kaB) 255).z2 (P25 - 2)) ≠ 0 ∧
    (nb (fmul (Lad.at (readN uaB) (clampB kaB) 255).x2 (pwm P25 256 (Lad.at (readN uaB) (clampB kaB) 255).z2 (P25 - 2))))[0]? = some 195 ∧
    (nb (fmul (Lad.at (readN uaB) (clampB kaB) 255).x2 (pwm P25 256 (Lad.at (readN uaB) (clampB kaB) 255).z2 (P25 - 2))))[1]? = some 218 ∧
    (nb (fmul (Lad.at (readN uaB) (clampB kaB) 255).x2 (pwm P25 256 (Lad.at (readN uaB) (clampB kaB) 255).z2 (P25 - 2))))[31]? = some 82 := by decide +kernel
theorem aw_mult : multE kaB uaB = 0 ∧ (multB kaB uaB)[0]? = some 195 ∧ (multB kaB uaB)[1]? = some 218 ∧ (multB kaB uaB)[31]? = some 82 := by
  have h := aw_fact
  rw [← multQ_fast] at h
  have hl : kaB.length = 32 ∧ uaB.length = 32 := ⟨rfl, rfl⟩
  rw [multE, if_pos hl, if_neg h.1, multB, if_pos hl]
  exact ⟨rfl, h.2⟩
set_option maxRecDepth 100000 in
set_option maxHeartbeats 2000000 in
theorem awake06 (w : World) : Calls Try.prog 44 #[] w fun e w' => e = .returned (.bool true) ∧ Later w w' := by
  have hm := aw_mult
  have cM := hid (fun (w : World) A B h1 h2 => mult_any A B 32 32 32 32 kaB uaB w h1 h2 (by omega) (by omega))
  have hml := multB_length kaB uaB
  obtain ⟨he, h0, h1, h31⟩ := hm
  rw [he] at cM
  generalize multB kaB uaB = M at *
  go_enter Try.func44, Try.ntmps44
  go_wp2_with fail
  generalize hW : (w.alloc _).alloc _ = w0
  have hB1 : Blk w0 w.heap.size 5 (kaB.map W8) := by rw [← hW]; exact (Blk.new w 5 (kaB.map W8)).later (later_alloc _ _)
  have hB2 : Blk w0 (w.heap.size + 1) 5 (uaB.map W8) := by rw [← hW]; exact Blk.new' (w.alloc (.cells (kaB.map W8).toArray 5)) 5 (uaB.map W8) (by simp)
  have L0 : Later w w0 := by rw [← hW]; exact (later_alloc _ _).trans (later_alloc _ _)
  clear hW
  (with_reducible refine (cM.out _ _ _ (blk_rdB hB1 rfl) (blk_rdB hB2 rfl)).mono ?_); rintro e w1 ⟨rfl, hl1⟩
  have q0 : (M.map W8)[0]? = some (W8 195) := by rw [List.getElem?_map, h0]; rfl
  have q1 : (M.map W8)[1]? = some (W8 218) := by rw [List.getElem?_map, h1]; rfl
  have q31 : (M.map W8)[31]? = some (W8 82) := by rw [List.getElem?_map, h31]; rfl
  clear h0 h1 h31 hB1 hB2
  go_wp2_with (first
    | (refine store_B rfl rfl _ _ rfl (Blk.new w1 _ (List.replicate 32 (.int .u8 0))) rfl rfl hml rfl ?_; intro w2 hb2 ho2
       have d0 := hb2.cellD 0 q0
       have d1 := hb2.cellD 1 q1
       have d31 := hb2.cellD 31 q31)
    | fail)
  go_ret
  exact ⟨rfl, (L0.trans (hl1.trans (later_alloc w1 _))).only ho2 (by have := (L0.trans hl1).size; omega)⟩
end Go.Proofs.Ytmdjhbiiifnfiaa
namespace Go.Proofs.Ytmdjhbiiifnfiaa
open Go.RowKit
open Go.BigFrame

set_option maxRecDepth 100000 in
set_option maxHeartbeats 4000000 in
theorem curveMults_walk (A B : Option Addr) (n m c d : Nat) (ks us : List UInt8) (w : World) (hk : RdB w A n ks) (hu : RdB w B m us) (hn : n ≤ 140737488355328) (hm : m ≤ 140737488355328) :
    Calls Try.prog 10 #[.slice A n c, .slice B m d] w fun e w' => e = .returned (.bool true) ∧ Later w w' := by
  have hC := hid (fun (w : World) A c h => clamp_any A n c ks w h hn)
  have hCr := hid (fun (w : World) A c h => clamp_ref A n c ks w h hn)
  have hM := hid (fun (w : World) A B c d h1 h2 => mult_any A B n c m d ks us w h1 h2 hn hm)
  have hMr := hid (fun (w : World) A B c d h1 h2 => mult_ref A B n c m d ks us w h1 h2 hn hm)
  obtain ⟨y, hy⟩ := sub32 (multB_length ks us)
  obtain ⟨x, hx⟩ := sub32 (clampB_length ks)
  rw [← hy] at hM hMr
  rw [← hx] at hC hCr
  clear hx hy
  generalize multE ks us = e1 at *
  generalize readE ks = e0 at *
  have hxl := x.2
  have hyl := y.2
  go_enter Try.func10, Try.ntmps10
  go_wp2_with fail
  (with_reducible refine (awake06 _).mono ?_); rintro e w1 ⟨rfl, j1⟩
  go_wp2_with fail
  (with_reducible refine (copy_any A n c ks _ (hk.later j1) (by omega)).mono ?_); rintro e w2 ⟨A2, c2, rfl, o2, j2⟩
  go_wp2_with fail
  (with_reducible refine (hC.out _ A2 c2 o2.rd).mono ?_); rintro e w3 ⟨rfl, j3⟩
  go_wp2_with (first
    | (refine store_B rfl rfl _ _ rfl (Blk.new w3 _ (List.replicate 32 (.int .u8 0))) rfl rfl hxl rfl ?_; intro w4 hb4 ho4)
    | fail)
  have B1 := (Bag.none w).push (((j1.trans j2).trans j3).trans (later_alloc w3 _)) ((j1.trans j2).trans j3).size ho4 hb4
  clear j1 j2 j3 o2 hb4 ho4
  (with_reducible refine (hCr.out _ A c (hk.later B1.lat)).mono ?_); rintro e w5 ⟨rfl, j5⟩
  go_wp2_with (first
    | (refine store_B rfl rfl _ _ rfl (Blk.new w5 _ (List.replicate 32 (.int .u8 0))) rfl rfl hxl rfl ?_; intro w6 hb6 ho6
       have B2 := B1.push (j5.trans (later_alloc w5 _)) j5.size ho6 hb6)
    | (refine load_B rfl _ rfl (B2.nth 1 rfl) hxl rfl ?_)
    | (refine load_B rfl _ rfl (B2.nth 0 rfl) hxl rfl ?_)
    | fail)
  clear j5 hb6 ho6 B1
  (with_reducible refine (copy_any A n c ks _ (hk.later B2.lat) (by omega)).mono ?_); rintro e w7 ⟨A7, c7, rfl, o7, j7⟩
  go_wp2_with fail
  (with_reducible refine (copy_any B m d us _ (hu.later (B2.lat.trans j7)) (by omega)).mono ?_); rintro e w8 ⟨A8, c8, rfl, o8, j8⟩
  go_wp2_with fail
  (with_reducible refine (hM.out _ A7 A8 c7 c8 (o7.rd.later j8) o8.rd).mono ?_); rintro e w9 ⟨rfl, j9⟩
  go_wp2_with (first
    | (refine store_B rfl rfl _ _ rfl (Blk.new w9 _ (List.replicate 32 (.int .u8 0))) rfl rfl hyl rfl ?_; intro w10 hb10 ho10)
    | fail)
  have B3 := B2.push (((j7.trans j8).trans j9).trans (later_alloc w9 _)) ((j7.trans j8).trans j9).size ho10 hb10
  clear j7 j8 j9 o7 o8 hb10 ho10 B2
  (with_reducible refine (hMr.out _ A B c d (hk.later B3.lat) (hu.later B3.lat)).mono ?_); rintro e w11 ⟨rfl, j11⟩
  go_wp2_with (first
    | (refine store_B rfl rfl _ _ rfl (Blk.new w11 _ (List.replicate 32 (.int .u8 0))) rfl rfl hyl rfl ?_; intro w12 hb12 ho12
       have B4 := B3.push (j11.trans (later_alloc w11 _)) j11.size ho12 hb12)
    | (refine load_B rfl _ rfl (B4.nth 1 rfl) hyl rfl ?_)
    | (refine load_B rfl _ rfl (B4.nth 0 rfl) hyl rfl ?_)
    | fail)
  go_ret
  exact ⟨rfl, B4.lat⟩
end Go.Proofs.Ytmdjhbiiifnfiaa
