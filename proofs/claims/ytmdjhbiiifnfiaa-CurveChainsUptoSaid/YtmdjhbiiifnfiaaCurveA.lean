/-
  shallotlaw06: awake.
-/
import Derived.Test.YtmdjhbiiifnfiaaCurve9
namespace Go.Proofs.Ytmdjhbiiifnfiaa
open Go.RowKit
open Go.BigFrame

def kaB : List UInt8 := [0xa5, 0x46, 0xe3, 0x6b, 0xf0, 0x52, 0x7c, 0x9d, 0x3b, 0x16, 0x15, 0x4b, 0x82, 0x46, 0x5e, 0xdd, 0x62, 0x14, 0x4c, 0x0a, 0xc1, 0xfc, 0x5a, 0x18, 0x50, 0x6a, 0x22, 0x44, 0xba, 0x44, 0x9a, 0xc4]
def uaB : List UInt8 := [0xe6, 0xdb, 0x68, 0x67, 0x58, 0x30, 0x30, 0xdb, 0x35, 0x94, 0xc1, 0xa4, 0x24, 0xb1, 0x5f, 0x7c, 0x72, 0x66, 0x24, 0xec, 0x26, 0xb3, 0x35, 0x3b, 0x10, 0xa9, 0x03, 0xa6, 0xd0, 0xab, 0x1c, 0x4c]
theorem pinv_fast (a : Nat) : pinv a = pwm P25 256 a (P25 - 2) := (pwm_eq P25 256 a (P25 - 2) (by decide)).symm
theorem multQ_fast (ks us : List UInt8) : multQ ks us = fmul (Lad.at (readN us) (clampB ks) 255).x2 (pwm P25 256 (Lad.at (readN us) (clampB ks) 255).z2 (P25 - 2)) := by rw [multQ, pinv_fast]
set_option maxRecDepth 100000 in
theorem aw_fact : fmul (Lad.at (readN uaB) (clampB kaB) 255).x2 (pwm P25 256 (Lad.at (readN uaB) (clampB kaB) 255).z2 (P25 - 2)) ≠ 0 ∧
    (nb (fmul (Lad.at (readN uaB) (clampB kaB) 255).x2 (pwm P25 256 (Lad.at (readN uaB) (clampB kaB) 255).z2 (P25 - 2))))[0]? = some 195 ∧
    (nb (fmul (Lad.at (readN uaB) (clampB kaB) 255).x2 (pwm P25 256 (Lad.at (readN uaB) (clampB kaB) 255).z2 (P25 - 2))))[1]? = some 218 ∧
    (nb (fmul (Lad.at (readN uaB) (clampB kaB) 255).x2 (pwm P25 256 (Lad.at (readN uaB) (clampB kaB) 255).z2 (P25 - 2))))[31]? = some 82 := by decide +kernel
theorem aw_mult : multE kaB uaB = 0 ∧ (multB kaB uaB)[0]? = some 195 ∧ (multB kaB uaB)[1]? = some 218 ∧ (multB kaB uaB)[31]? = some 82 := by
  have h := aw_fact
  rw [← multQ_fast] at h
  have hl : kaB.length = 32 ∧ uaB.length = 32 := ⟨rfl, rfl⟩
  rw [multE, if_pos hl, if_neg h.1, multB, if_pos hl]
  exact ⟨rfl, h.2⟩
set_option maxRecDepth 100000 in
set_option maxHeartbeats 2000000 in
theorem awake06 (w : World) : Calls Try.prog 44 #[] w fun e w' => e = .returned (.bool true) ∧ Later w w' := by
  have hm := aw_mult
  have cM := hid (fun (w : World) A B h1 h2 => mult_any A B 32 32 32 32 kaB uaB w h1 h2 (by omega) (by omega))
  have hml := multB_length kaB uaB
  obtain ⟨he, h0, h1, h31⟩ := hm
  rw [he] at cM
  generalize multB kaB uaB = M at *
  go_enter Try.func44, Try.ntmps44
  go_wp2_with fail
  generalize hW : (w.alloc _).alloc _ = w0
  have hB1 : Blk w0 w.heap.size 5 (kaB.map W8) := by rw [← hW]; exact (Blk.new w 5 (kaB.map W8)).later (later_alloc _ _)
  have hB2 : Blk w0 (w.heap.size + 1) 5 (uaB.map W8) := by rw [← hW]; exact Blk.new' (w.alloc (.cells (kaB.map W8).toArray 5)) 5 (uaB.map W8) (by simp)
  have L0 : Later w w0 := by rw [← hW]; exact (later_alloc _ _).trans (later_alloc _ _)
  clear hW
  (with_reducible refine (cM.out _ _ _ (blk_rdB hB1 rfl) (blk_rdB hB2 rfl)).mono ?_); rintro e w1 ⟨rfl, hl1⟩
  have q0 : (M.map W8)[0]? = some (W8 195) := by rw [List.getElem?_map, h0]; rfl
  have q1 : (M.map W8)[1]? = some (W8 218) := by rw [List.getElem?_map, h1]; rfl
  have q31 : (M.map W8)[31]? = some (W8 82) := by rw [List.getElem?_map, h31]; rfl
  clear h0 h1 h31 hB1 hB2
  go_wp2_with (first
    | (refine store_B rfl rfl _ _ rfl (Blk.new w1 _ (List.replicate 32 (.int .u8 0))) rfl rfl hml rfl ?_; intro w2 hb2 ho2
       have d0 := hb2.cellD 0 q0
       have d1 := hb2.cellD 1 q1
       have d31 := hb2.cellD 31 q31)
    | fail)
  go_ret
  exact ⟨rfl, (L0.trans (hl1.trans (later_alloc w1 _))).only ho2 (by have := (L0.trans hl1).size; omega)⟩
end Go.Proofs.Ytmdjhbiiifnfiaa
