/-
  curve.Low.
-/
import Derived.Test.YtmdjhbiiifnfiaaCurveAB
namespace Go.Proofs.Ytmdjhbiiifnfiaa
open Go.RowKit
open Go.BigFrame

/-- What Low tells. -/
def lowB (us : List UInt8) : Bool := if us.length = 32 then ((multE (List.replicate 32 0) us : Nat) : Int) == 5 else false
set_option maxRecDepth 100000 in
set_option maxHeartbeats 2000000 in
theorem low_any (B : Option Addr) (m d : Nat) (us : List UInt8) (w : World) (hu : RdB w B m us) (hm : m ≤ 140737488355328) :
    Calls Try.prog 49 #[.slice B m d] w fun e w' => e = .returned (.tuple #[.bool (lowB us), .int .i64 (readE us : Nat)]) ∧ Later w w' := by
  have hul := hu.len
  by_cases h32 : m = 32
  · subst h32
    have e1 : readE us = 0 := by rw [readE, if_pos hul]
    have hL := hid (show lowB us = (((multE (List.replicate 32 0) us : Nat) : Int) == 5) by rw [lowB, if_pos hul])
    have hM := hid (fun (w : World) A c h1 h2 => mult_any A B 32 c 32 d (List.replicate 32 0) us w h1 h2 (by omega) (by omega))
    have hml := multB_length (List.replicate 32 0) us
    generalize multB (List.replicate 32 0) us = M at *
    generalize multE (List.replicate 32 0) us = e9 at *
    rw [e1]
    clear e1
    go_enter Try.func49, Try.ntmps49
    go_wp2_with (first
      | (refine wpList_make_n rfl _ _ 25 rfl 5 (.int .u8 0) 1 Try.underlying25 info8 rfl _ _ _ _ 32 rfl rfl rfl rfl (by omega) (by omega) ?_; intro w2 hb2 hl2)
      | fail)
    have hrd : RdB w2 (some ⟨w.heap.size, 0, none⟩) 32 (List.replicate 32 0) := blk_rdB (bs := List.replicate 32 0) (by rw [List.map_replicate]; exact hb2) (by simp)
    (with_reducible refine (hM.out _ _ 32 hrd (hu.later hl2)).mono ?_); rintro e w3 ⟨rfl, j3⟩
    go_wp2_with (first
      | (refine store_B rfl rfl _ _ rfl (Blk.new w3 _ (List.replicate 32 (.int .u8 0))) rfl rfl hml rfl ?_; intro w4 hb4 ho4)
      | fail)
    go_ret2
    exact ⟨by rw [hL.out]; rfl, ((hl2.trans j3).trans (later_alloc w3 _)).only ho4 (by have := (hl2.trans j3).size; omega)⟩
  · have e1 : readE us = 2 := by rw [readE, if_neg (by omega)]
    have hL := hid (show lowB us = false by rw [lowB, if_neg (by omega)])
    have hne : ((m : Int) != 32) = true := by simp; omega
    rw [e1]
    go_enter Try.func49, Try.ntmps49
    go_wp2_with fail
    go_ret2
    exact ⟨by rw [hL.out]; rfl, Later.refl w⟩
end Go.Proofs.Ytmdjhbiiifnfiaa
