/-
  curve: scalars of a wrong length, however long.
-/
import Derived.Test.YtpijjldkehimfaaCurveF
namespace Go.Proofs.Ytpijjldkehimfaa
open Go.RowKit
open Go.BigFrame

set_option maxRecDepth 100000 in
set_option maxHeartbeats 2000000 in
theorem clamp_bad (A : Option Addr) (n c : Nat) (h : n ≠ 32) (w : World) :
    Calls Try.prog 81 #[.slice A n c] w fun e w' => e = .returned (.tuple #[.agg ((List.replicate 32 (0 : UInt8)).map W8).toArray, .int .i64 2]) ∧ Later w w' := by
  have hb0 := Blk.new w 47 (List.replicate 32 (Value.int .u8 0))
  have hne : ((n : Int) != 32) = true := by simp; omega
  go_enter Try.func81, Try.ntmps81
  go_wp2_with (first
    | (refine wpList_build_is rfl 47 _ rfl (List.replicate 32 (W8 0)) ?hb ?_; (case hb => kernel_rfl))
    | (refine store_B (bs := List.replicate 32 0) rfl rfl _ _ rfl hb0 rfl (by kernel_rfl) rfl rfl ?_; intro w9 hb9 ho9)
    | fail)
  exact bodyPost_ret (results_blk_tmp rfl _ _ _ _ _ _ hb9 rfl Try.underlying47 rfl (by rw [List.length_map, List.length_replicate]; exact size32b)) rfl ⟨rfl, (later_alloc _ _).only ho9 (by omega)⟩
set_option maxRecDepth 100000 in
set_option maxHeartbeats 2000000 in
theorem mult_bad (A B : Option Addr) (n c m d : Nat) (h : n ≠ 32) (w : World) :
    Calls Try.prog 63 #[.slice A n c, .slice B m d] w fun e w' => e = .returned (.tuple #[.agg ((List.replicate 32 (0 : UInt8)).map W8).toArray, .int .i64 2]) ∧ Later w w' := by
  have B0 := bag_new w 47 (List.replicate 32 (Value.int .u8 0))
  have hC := hid (fun w => clamp_bad A n c h w)
  have hzl : (List.replicate 32 (0 : UInt8)).length = 32 := by simp
  have hbz : Program.built Try.prog 47 [] = some ((List.replicate 32 (0 : UInt8)).map W8).toArray := by kernel_rfl
  generalize List.replicate 32 (0 : UInt8) = Z at *
  go_enter Try.func63, Try.ntmps63
  go_wp2_with fail
  generalize hW : w.alloc _ = w0
  replace B0 : Bag w w0 [(w.heap.size, 47, List.replicate 32 (Value.int .u8 0))] := by rw [← hW]; exact B0
  clear hW
  (with_reducible refine (hC.out _).mono ?_); rintro e w1 ⟨rfl, j1⟩
  go_wp2_with (first
    | (refine store_B rfl rfl _ _ rfl (Blk.new w1 _ (List.replicate 32 (.int .u8 0))) rfl rfl hzl rfl ?_; intro w2 hb2 ho2
       have B1 := B0.push (j1.trans (later_alloc w1 _)) j1.size ho2 hb2)
    | (refine wpList_build_is rfl 47 _ rfl (Z.map W8) ?hb ?_; (case hb => simp only [List.map_toArray, List.map_nil]; exact hbz))
    | (refine store_B rfl rfl _ _ rfl (B1.nth 1 rfl) rfl rfl hzl rfl ?_; intro w9 hb9 ho9)
    | fail)
  exact bodyPost_ret (results_blk_tmp rfl _ _ _ _ _ _ hb9 rfl Try.underlying47 rfl (by rw [List.length_map, hzl]; exact size32b)) rfl ⟨rfl, (B1.write 1 rfl ho9 hb9).lat⟩
set_option maxRecDepth 100000 in
set_option maxHeartbeats 2000000 in
theorem public_bad (A : Option Addr) (n c : Nat) (h : n ≠ 32) (w : World) :
    Calls Try.prog 48 #[.slice A n c] w fun e w' => e = .returned (.tuple #[.agg ((List.replicate 32 (0 : UInt8)).map W8).toArray, .int .i64 2]) ∧ Later w w' := by
  have B0 := bag_new w 47 (List.replicate 32 (Value.int .u8 0))
  have cM := hid (fun (w : World) g d => mult_bad A (some ⟨g, 0, none⟩) n c 32 d h w)
  have h9 := nb_length 9
  have hzl : (List.replicate 32 (0 : UInt8)).length = 32 := by simp
  have cB := hid bytes9
  generalize List.replicate 32 (0 : UInt8) = Z at *
  generalize nb 9 = N9 at *
  go_enter Try.func48, Try.ntmps48
  go_wp2_with fail
  generalize hW : w.alloc _ = w0
  replace B0 : Bag w w0 [(w.heap.size, 47, List.replicate 32 (Value.int .u8 0))] := by rw [← hW]; exact B0
  clear hW
  (with_reducible refine (of_9 _).mono ?_); rintro e w1 ⟨rfl, hl1⟩
  go_wp2_with fail
  (with_reducible refine (cB.out _).mono ?_); rintro e w2 ⟨rfl, hl2⟩
  go_wp2_with (first
    | (refine store_B rfl rfl _ _ rfl (Blk.new w2 _ (List.replicate 32 (.int .u8 0))) rfl rfl h9 rfl ?_; intro w3 hb3 ho3)
    | fail)
  have B1 := B0.push ((hl1.trans hl2).trans (later_alloc w2 _)) (hl1.trans hl2).size ho3 hb3
  (with_reducible refine (cM.out _ _ _).mono ?_); rintro e w4 ⟨rfl, hl4⟩
  go_wp2_with (first
    | (refine store_B rfl rfl _ _ rfl ((B1.later hl4).nth 1 rfl) rfl rfl hzl rfl ?_; intro w5 hb5 ho5)
    | fail)
  exact bodyPost_ret (results_blk_tmp rfl _ _ _ _ _ _ hb5 rfl Try.underlying47 rfl (by rw [List.length_map, hzl]; exact size32b)) rfl ⟨rfl, ((B1.later hl4).write 1 rfl ho5 hb5).lat⟩
set_option maxRecDepth 100000 in
set_option maxHeartbeats 2000000 in
theorem newpair_bad (A : Option Addr) (n c : Nat) (h : n ≠ 32) (w : World) :
    Calls Try.prog 47 #[.slice A n c] w fun e w' => e = .returned (.tuple #[.agg ((List.replicate 64 (0 : UInt8)).map W8).toArray, .int .i64 2]) ∧ Later w w' := by
  have B0 := bag_new w 79 (List.replicate 64 (Value.int .u8 0))
  have cP := hid (fun w => public_bad A n c h w)
  have hml : (List.replicate 32 (0 : UInt8)).length = 32 := by simp
  generalize List.replicate 32 (0 : UInt8) = M at *
  have hb0 := built_pair0
  have hz0l : (List.replicate 64 (0 : UInt8)).length = 64 := by simp
  generalize List.replicate 64 (0 : UInt8) = Z0 at *
  go_enter Try.func47, Try.ntmps47
  go_wp2_with fail
  generalize hW : w.alloc _ = w0
  replace B0 : Bag w w0 [(w.heap.size, 79, List.replicate 64 (Value.int .u8 0))] := by rw [← hW]; exact bag_new w 79 (List.replicate 64 (Value.int .u8 0))
  clear hW
  (with_reducible refine (cP.out _).mono ?_); rintro e w1 ⟨rfl, j1⟩
  go_wp2_with (first
    | (refine store_B rfl rfl _ _ rfl (Blk.new w1 _ (List.replicate 32 (.int .u8 0))) rfl rfl hml rfl ?_; intro w2 hb2 ho2
       have B1 := B0.push (j1.trans (later_alloc w1 _)) j1.size ho2 hb2)
    | (refine wpList_build_is rfl 79 _ rfl (Z0.map W8) ?hb ?_; (case hb => simp only [List.map_toArray, List.map_nil]; exact hb0))
    | (refine store_P rfl rfl _ _ rfl (B1.nth 1 rfl) rfl rfl hz0l (by simp) ?_; intro w9 hb9 ho9)
    | fail)
  exact bodyPost_ret (results_blk_tmp rfl _ _ _ _ _ _ hb9 rfl Try.underlying79 rfl (by rw [List.length_map, hz0l]; exact size64p)) rfl ⟨rfl, (B1.write 1 rfl ho9 hb9).lat⟩
end Go.Proofs.Ytpijjldkehimfaa
