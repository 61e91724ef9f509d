/-
  shallotlaw03: awake, MacTags, MacChecks.
-/
import Derived.Test.YtmdbekdphkkmkaaRefMac2
namespace Go.Proofs.Ytmdbekdphkkmkaa
open Go.RowKit

def jefe : List UInt8 := [74, 101, 102, 101]
def whatDo : List UInt8 := [119, 104, 97, 116, 32, 100, 111, 32, 121, 97, 32]
def wantFor : List UInt8 := [119, 97, 110, 116, 32, 102, 111, 114, 32, 110, 111, 116, 104, 105, 110, 103, 63]
set_option maxRecDepth 100000 in
theorem jefe_tag : (macTag jefe [whatDo, wantFor].flatten)[0]? = some 91 ∧ (macTag jefe [whatDo, wantFor].flatten)[1]? = some 220 ∧ (macTag jefe [whatDo, wantFor].flatten)[31]? = some 67 := by decide +kernel
set_option maxRecDepth 100000 in
set_option maxHeartbeats 1000000 in
theorem awake03 (w : World) : Calls Try.prog 42 #[] w fun e w' => e = .returned (.bool true) ∧ Later w w' := by
  obtain ⟨h0, h1, h31⟩ := jefe_tag
  have hT := macTag_length jefe [whatDo, wantFor].flatten
  have hs := fun A B n c m d w hx => tag_any A B n c m d jefe [whatDo, wantFor] w hx
  generalize macTag jefe [whatDo, wantFor].flatten = T at *
  have HS := hid hs
  clear hs
  go_enter Try.func42, Try.ntmps42
  go_wp2_with (first
    | (refine wpList_convert_lit rfl _ _ rfl 5 Try.underlying22 Try.underlying5 w (jefe.map W8) rfl w.heap.size 4 4 rfl rfl ?_; intro w1 hl1 hr1 hz1)
    | (refine wpList_convert_lit rfl _ _ rfl 5 Try.underlying22 Try.underlying5 w1 (whatDo.map W8) rfl w1.heap.size 11 11 rfl rfl ?_; intro w2 hl2 hr2 hz2)
    | (refine wpList_convert_lit rfl _ _ rfl 5 Try.underlying22 Try.underlying5 w2 (wantFor.map W8) rfl w2.heap.size 17 17 rfl rfl ?_; intro w3 hl3 hr3 hz3)
    | (go_at_call 53; refine (HS.out (some ⟨w.heap.size, 0, none⟩) (some ⟨w3.heap.size, 0, none⟩) 4 4 2 2 _ ?hx (by omega) (by omega) ?hparts (by omega) (by decide)).mono ?_
       (case hx => exact ((Rd.later hr1 hl2).later hl3).later (later_alloc _ _))
       (case hparts => exact parts_of ((Blk.new w3 22 [.slice (some ⟨w1.heap.size, 0, none⟩) 11 11, .slice (some ⟨w2.heap.size, 0, none⟩) 17 17]).rd rfl) ⟨part_of (n := 11) ((Rd.later hr2 hl3).later (later_alloc _ _)) (by omega), part_of (n := 17) (Rd.later hr3 (later_alloc _ _)) (by omega), trivial⟩)
       rintro e w4 ⟨rfl, hl4⟩)
    | (refine wpList_store_agg rfl rfl 39 _ _ rfl w4.heap.size 0 39 (List.replicate 32 (W8 0)) (T.map W8) ?b ?hx ?hy ?hi ?hf ?h1 ?_; (case hx => rfl); (case hy => rfl); (case hi => rw [List.length_map, hT]; kernel_rfl); (case hf => simp [hT]); (case h1 => exact w8_one _); (case b => exact Blk.new _ _ _); intro w9 hb9 ho9
       rw [spliced_all _ _ (by simp [hT])] at hb9
       have c0 := hb9.cellD 0 (w8_get h0)
       have c1 := hb9.cellD 1 (w8_get h1)
       have c31 := hb9.cellD 31 (w8_get h31)))
  go_ret
  exact ⟨rfl, (((((hl1.trans hl2).trans hl3).alloc _).trans hl4).alloc _).only ho9 (by have := hl1.size; have := hl2.size; have := hl3.size; have := hl4.size; simp at this; omega)⟩
end Go.Proofs.Ytmdbekdphkkmkaa
