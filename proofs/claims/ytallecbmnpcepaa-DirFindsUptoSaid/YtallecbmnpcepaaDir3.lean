/-
  dir: keys in new memory, directories of one's own.
-/
import Derived.Test.YtallecbmnpcepaaFLaws
import Derived.Test.YtallecbmnpcepaaStructs
import Derived.Test.YtallecbmnpcepaaByteStr
import Derived.Test.YtallecbmnpcepaaDir2
namespace Go.Proofs.Ytallecbmnpcepaa
open Go.RowKit
open Go.BigFrame

set_option maxRecDepth 100000 in
theorem copyKey_any (K : List UInt8) (hK : K.length = 32) (w : World) :
    Calls Try.prog 34 #[.agg (K.map W8).toArray] w fun e w' => ∃ g, e = .returned (.slice (some ⟨g, 0, none⟩) 32 32) ∧ w.heap.size ≤ g ∧ Blk w' g 5 (K.map W8) ∧ Later w w' := by
  have hb0 : Blk (w.alloc (.cells (K.map W8).toArray 43)) w.heap.size 43 (K.map W8) := Blk.new _ _ _
  go_enter Try.func34, Try.ntmps34
  go_wp2_with (first
    | (refine wpList_make_n rfl _ _ 33 rfl 5 (.int .u8 0) 1 Try.underlying33 info8 rfl _ _ _ _ 32 rfl rfl rfl rfl (by omega) (by omega) ?_; intro w2 hb2 hl2; rw [show (w.alloc (.cells (K.map W8).toArray 43)).heap.size = w.heap.size + 1 by simp] at hb2)
    | (refine copy_Y 0 32 rfl _ _ _ _ rfl 5 Try.underlying33 size8 (show Blk w2 (w.heap.size + 1) 5 ((List.replicate 32 0).map W8) by (rw [List.map_replicate]; exact hb2)) (blk_rdB (hb0.later hl2) hK) rfl rfl (by simp) ?_; intro w3 hb3 ho3; rw [putB_all _ _ (by simpa using hK)] at hb3)
    | fail)
  go_ret
  exact ⟨w.heap.size + 1, rfl, by omega, hb3, ((later_alloc _ _).trans hl2).only ho3 (by omega)⟩
theorem own_of_blk0 {w : World} {base g sz : Nat} {e : TypeId} (h : Blk w g e []) (hb : base ≤ g) : w.ownsRow base e sz (.slice (some ⟨g, 0, none⟩) 0 0) 0 [] :=
  ⟨by simp, .inr ⟨g, 0, #[], rfl, hb, h, Nat.zero_le _, Nat.zero_le _, by simp, by simp⟩⟩
theorem infoN : (Try.prog.info? 45).map (fun i => (i.zero, i.size, i.bytes)) = some (some (.agg (NC nod0).toArray), 66, 88) := by kernel_rfl
set_option maxRecDepth 100000 in
theorem ntwin_any (A : Option Addr) (n c : Nat) (xs : List Nod) (w : World) (hx : RdN w A n xs) (hn : n ≤ 1099511627776) :
    Calls Try.prog 10 #[.slice A n c] w fun e w' => ∃ A' c', e = .returned (.slice A' n c') ∧ w'.ownsRow w.heap.size 45 66 (.slice A' n c') n (xs.flatMap NC) ∧ Later w w' := by
  go_enter Try.func10, Try.ntmps10
  go_wp2_with (first
    | (refine wpList_append_f NC_length NC_one (by omega) rfl _ _ _ rfl 45 _ 88 Try.underlying22 infoN rfl w _ 0 [] (own_of_blk0 (Blk.new w _ []) (Nat.le_refl _)) (later_alloc _ _) A n c xs (hx.later (later_alloc _ _)) rfl rfl (by omega) (by omega) ?_; intro A' c' w' hown hl _)
    | fail)
  rw [Nat.zero_add, List.nil_append] at hown
  go_ret
  exact ⟨_, _, rfl, hown, hl⟩
end Go.Proofs.Ytallecbmnpcepaa
