/-
  curve.Public, NewPair, Shared, Low, and the twins' Public.
-/
import Derived.Test.YtmdjhbiiifnfiaaCurve8
namespace Go.Proofs.Ytmdjhbiiifnfiaa
open Go.RowKit
open Go.BigFrame

theorem bag_new (w : World) (t : TypeId) (l : List Value) : Bag w (w.alloc (.cells l.toArray t)) [(w.heap.size, t, l)] :=
  ⟨later_alloc _ _, by intro p hp; simp at hp; subst hp; exact Blk.new w t l, by simp, by simp⟩
theorem of_9 (w : World) : Calls Try.prog 20 #[.int .u64 9] w fun e w' => e = .returned (E 9) ∧ Later w w' := of_any 9 (by decide) w
theorem bytes9 (w : World) : Calls Try.prog 28 #[E 9] w fun e w' => e = .returned (.agg ((nb 9).map W8).toArray) ∧ Later w w' := by
  have := bytes_any 9 (by decide) w
  rwa [show 9 % P25 = 9 by decide, BB] at this
theorem bytes9_ref (w : World) : Calls Try.prog 29 #[NN 9] w fun e w' => e = .returned (.agg ((nb 9).map W8).toArray) ∧ Later w w' := by
  have := bytes_ref 9 (by decide) w
  rwa [show 9 % P25 = 9 by decide, BB] at this
theorem built_N9 : Program.built Try.prog 35 [(0, Value.int .u32 9)] = some (NL 9).toArray := by kernel_rfl
set_option maxRecDepth 100000 in
set_option maxHeartbeats 2000000 in
theorem public_any (A : Option Addr) (n c : Nat) (ks : List UInt8) (w : World) (hk : RdB w A n ks) (hn : n ≤ 140737488355328) :
    Calls Try.prog 57 #[.slice A n c] w fun e w' => e = .returned (.tuple #[.agg ((multB ks (nb 9)).map W8).toArray, .int .i64 (multE ks (nb 9) : Nat)]) ∧ Later w w' := by
  have B0 := bag_new w 42 (List.replicate 32 (Value.int .u8 0))
  have cM := hid (fun (w : World) g d h1 h2 => mult_any A (some ⟨g, 0, none⟩) n c 32 d ks (nb 9) w h1 h2 hn (by omega))
  have hml := multB_length ks (nb 9)
  have h9 := nb_length 9
  have cB := hid bytes9
  generalize multB ks (nb 9) = M at *
  generalize multE ks (nb 9) = e9 at *
  generalize nb 9 = N9 at *
  go_enter Try.func57, Try.ntmps57
  go_wp2_with fail
  generalize hW : w.alloc _ = w0
  replace B0 : Bag w w0 [(w.heap.size, 42, List.replicate 32 (Value.int .u8 0))] := by rw [← hW]; exact bag_new w 42 (List.replicate 32 (Value.int .u8 0))
  clear hW
  (with_reducible refine (of_9 _).mono ?_); rintro e w1 ⟨rfl, hl1⟩
  go_wp2_with (first
    | (go_at_call 28; (with_reducible refine (cB.out _).mono ?_); rintro e w2 ⟨rfl, hl2⟩)
    | (refine store_B rfl rfl _ _ rfl (Blk.new w2 _ (List.replicate 32 (.int .u8 0))) rfl rfl h9 rfl ?_; intro w3 hb3 ho3)
    | fail)
  have B1 := B0.push ((hl1.trans hl2).trans (later_alloc w2 _)) (hl1.trans hl2).size ho3 hb3
  (with_reducible refine (cM.out _ _ _ (hk.later B1.lat) (blk_rdB (B1.nth 0 rfl) h9)).mono ?_); rintro e w4 ⟨rfl, hl4⟩
  go_wp2_with (first
    | (refine store_B rfl rfl _ _ rfl ((B1.later hl4).nth 1 rfl) rfl rfl hml rfl ?_; intro w5 hb5 ho5)
    | fail)
  exact bodyPost_ret (results_blk_tmp rfl _ _ _ _ _ _ hb5 rfl Try.underlying42 rfl (by rw [List.length_map, hml]; exact size32b)) rfl ⟨rfl, ((B1.later hl4).write 1 rfl ho5 hb5).lat⟩
set_option maxRecDepth 100000 in
set_option maxHeartbeats 2000000 in
theorem public_ref (A : Option Addr) (n c : Nat) (ks : List UInt8) (w : World) (hk : RdB w A n ks) (hn : n ≤ 140737488355328) :
    Calls Try.prog 51 #[.slice A n c] w fun e w' => e = .returned (.tuple #[.agg ((multB ks (nb 9)).map W8).toArray, .int .i64 (multE ks (nb 9) : Nat)]) ∧ Later w w' := by
  have B0 := bag_new w 42 (List.replicate 32 (Value.int .u8 0))
  have cM := hid (fun (w : World) g d h1 h2 => mult_ref A (some ⟨g, 0, none⟩) n c 32 d ks (nb 9) w h1 h2 hn (by omega))
  have hml := multB_length ks (nb 9)
  have h9 := nb_length 9
  have cB := hid bytes9_ref
  generalize multB ks (nb 9) = M at *
  generalize multE ks (nb 9) = e9 at *
  generalize nb 9 = N9 at *
  go_enter Try.func51, Try.ntmps51
  go_wp2_with (first
    | (refine wpList_build_is rfl 35 _ rfl (NL 9) ?hb ?_; (case hb => simp only [List.map_toArray, List.map_cons, List.map_nil]; exact built_N9))
    | fail)
  generalize hW : w.alloc _ = w0
  replace B0 : Bag w w0 [(w.heap.size, 42, List.replicate 32 (Value.int .u8 0))] := by rw [← hW]; exact bag_new w 42 (List.replicate 32 (Value.int .u8 0))
  clear hW
  (with_reducible refine (cB.out _).mono ?_); rintro e w2 ⟨rfl, hl2⟩
  go_wp2_with (first
    | (refine store_B rfl rfl _ _ rfl (Blk.new w2 _ (List.replicate 32 (.int .u8 0))) rfl rfl h9 rfl ?_; intro w3 hb3 ho3)
    | fail)
  have B1 := B0.push (hl2.trans (later_alloc w2 _)) hl2.size ho3 hb3
  (with_reducible refine (cM.out _ _ _ (hk.later B1.lat) (blk_rdB (B1.nth 0 rfl) h9)).mono ?_); rintro e w4 ⟨rfl, hl4⟩
  go_wp2_with (first
    | (refine store_B rfl rfl _ _ rfl ((B1.later hl4).nth 1 rfl) rfl rfl hml rfl ?_; intro w5 hb5 ho5)
    | fail)
  exact bodyPost_ret (results_blk_tmp rfl _ _ _ _ _ _ hb5 rfl Try.underlying42 rfl (by rw [List.length_map, hml]; exact size32b)) rfl ⟨rfl, ((B1.later hl4).write 1 rfl ho5 hb5).lat⟩
end Go.Proofs.Ytmdjhbiiifnfiaa
