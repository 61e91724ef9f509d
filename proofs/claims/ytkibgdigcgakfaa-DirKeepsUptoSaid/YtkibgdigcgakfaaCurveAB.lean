/-
  curve.Public, NewPair, Shared, Low, and the twins' Public.
  shallotlaw06: awake.
  shallotlaw06: CurveMults.
-/
import Derived.Test.YtkibgdigcgakfaaCurve8
import Derived.Test.YtkibgdigcgakfaaLists
namespace Go.Proofs.Ytkibgdigcgakfaa
open Go.RowKit
open Go.BigFrame

theorem of_9 (w : World) : Calls Try.prog 13 #[.int .u64 9] w fun e w' => e = .returned (E 9) ∧ Later w w' := of_any 9 (by decide) w
theorem bytes9 (w : World) : Calls Try.prog 43 #[E 9] w fun e w' => e = .returned (.agg ((nb 9).map W8).toArray) ∧ Later w w' := by
  have := bytes_any 9 (by decide) w
  rwa [show 9 % P25 = 9 by decide, BB] at this
set_option maxRecDepth 100000 in
set_option maxHeartbeats 2000000 in
theorem public_any (A : Option Addr) (n c : Nat) (ks : List UInt8) (w : World) (hk : RdB w A n ks) (hn : n ≤ 140737488355328) :
    Calls Try.prog 34 #[.slice A n c] w fun e w' => e = .returned (.tuple #[.agg ((multB ks (nb 9)).map W8).toArray, .int .i64 (multE ks (nb 9) : Nat)]) ∧ Later w w' := by
  have B0 := bag_new w 48 (List.replicate 32 (Value.int .u8 0))
  have cM := hid (fun (w : World) g d h1 h2 => mult_any A (some ⟨g, 0, none⟩) n c 32 d ks (nb 9) w h1 h2 hn (by omega))
  have hml := multB_length ks (nb 9)
  have h9 := nb_length 9
  have cB := hid bytes9
  generalize multB ks (nb 9) = M at *
  generalize multE ks (nb 9) = e9 at *
  generalize nb 9 = N9 at *
  go_enter Try.func34, Try.ntmps34
  go_wp2_with fail
  generalize hW : w.alloc _ = w0
  replace B0 : Bag w w0 [(w.heap.size, 48, List.replicate 32 (Value.int .u8 0))] := by rw [← hW]; exact bag_new w 48 (List.replicate 32 (Value.int .u8 0))
  clear hW
  (with_reducible refine (of_9 _).mono ?_); rintro e w1 ⟨rfl, hl1⟩
  go_wp2_with (first
    | (go_at_call 43; (with_reducible refine (cB.out _).mono ?_); rintro e w2 ⟨rfl, hl2⟩)
    | (refine store_B rfl rfl _ _ rfl (Blk.new w2 _ (List.replicate 32 (.int .u8 0))) rfl rfl h9 rfl ?_; intro w3 hb3 ho3)
    | fail)
  have B1 := B0.push ((hl1.trans hl2).trans (later_alloc w2 _)) (hl1.trans hl2).size ho3 hb3
  (with_reducible refine (cM.out _ _ _ (hk.later B1.lat) (blk_rdB (B1.nth 0 rfl) h9)).mono ?_); rintro e w4 ⟨rfl, hl4⟩
  go_wp2_with (first
    | (refine store_B rfl rfl _ _ rfl ((B1.later hl4).nth 1 rfl) rfl rfl hml rfl ?_; intro w5 hb5 ho5)
    | fail)
  exact bodyPost_ret (results_blk_tmp rfl _ _ _ _ _ _ hb5 rfl Try.underlying48 rfl (by rw [List.length_map, hml]; exact size32b)) rfl ⟨rfl, ((B1.later hl4).write 1 rfl ho5 hb5).lat⟩
end Go.Proofs.Ytkibgdigcgakfaa
namespace Go.Proofs.Ytkibgdigcgakfaa
open Go.RowKit
open Go.BigFrame

def kaB : List UInt8 := [0xa5, 0x46, 0xe3, 0x6b, 0xf0, 0x52, 0x7c, 0x9d, 0x3b, 0x16, 0x15, 0x4b, 0x82, 0x46, 0x5e, 0xdd, 0x62, 0x14, 0x4c, 0x0a, 0xc1, 0xfc, 0x5a, 0x18, 0x50, 0x6a, 0x22, 0x44, 0xba, 0x44, 0x9a, 0xc4]
def uaB : List UInt8 := [0xe6, 0xdb, 0x68, 0x67, 0x58, 0x30, 0x30, 0xdb, 0x35, 0x94, 0xc1, 0xa4, 0x24, 0xb1, 0x5f, 0x7c, 0x72, 0x66, 0x24, 0xec, 0x26, 0xb3, 0x35, 0x3b, 0x10, 0xa9, 0x03, 0xa6, 0xd0, 0xab, 0x1c, 0x4c]
theorem pinv_fast (a : Nat) : pinv a = pwm P25 256 a (P25 - 2) := (pwm_eq P25 256 a (P25 - 2) (by decide)).symm
theorem multQ_fast (ks us : List UInt8) : multQ ks us = fmul (Lad.at (readN us) (clampB ks) 255).x2 (pwm P25 256 (Lad.at (readN us) (clampB ks) 255).z2 (P25 - 2)) := by rw [multQ, pinv_fast]
set_option maxRecDepth 100000 in
theorem aw_fact : fmul (Lad.at (readN uaB) (clampB kaB) 255).x2 (pwm P25 256 (Lad.at (readN uaB) (clampB kaB) 255).z2 (P25 - 2)) ≠ 0 ∧
    (nb (fmul (Lad.at (readN uaB) (clampB kaB) 255).x2 (pwm P25 256 (Lad.at (readN uaB) (clampB kaB) 255).z2 (P25 - 2))))[0]? = some 195 ∧
    (nb (fmul (Lad.at (readN uaB) (clampB kaB) 255).x2 (pwm P25 256 (Lad.at (readN uaB) (clampB kaB) 255).z2 (P25 - 2))))[1]? = some 218 ∧
    (nb (fmul (Lad.at (readN uaB) (clampB kaB) 255).x2 (pwm P25 256 (Lad.at (readN uaB) (clampB kaB) 255).z2 (P25 - 2))))[31]? = some 82 := by decide +kernel
theorem aw_mult : multE kaB uaB = 0 ∧ (multB kaB uaB)[0]? = some 195 ∧ (multB kaB uaB)[1]? = some 218 ∧ (multB kaB uaB)[31]? = some 82 := by
  have h := aw_fact
  rw [← multQ_fast] at h
  have hl : kaB.length = 32 ∧ uaB.length = 32 := ⟨rfl, rfl⟩
  rw [multE, if_pos hl, if_neg h.1, multB, if_pos hl]
  exact ⟨rfl, h.2⟩
end Go.Proofs.Ytkibgdigcgakfaa
namespace Go.Proofs.Ytkibgdigcgakfaa
open Go.RowKit
open Go.BigFrame

end Go.Proofs.Ytkibgdigcgakfaa
