/-
  shallotlaw02: awake, ShaSums.
-/
import Derived.Test.YtmdbekdphkkmkaaRef3
namespace Go.Proofs.Ytmdbekdphkkmkaa
open Go.RowKit

set_option maxRecDepth 100000 in
theorem abc_sum : (shaSum ([[97], [], [98, 99]] : List (List UInt8)).flatten)[0]? = some 186 ∧ (shaSum ([[97], [], [98, 99]] : List (List UInt8)).flatten)[1]? = some 120 ∧
    (shaSum ([[97], [], [98, 99]] : List (List UInt8)).flatten)[2]? = some 22 ∧ (shaSum ([[97], [], [98, 99]] : List (List UInt8)).flatten)[31]? = some 173 := by decide +kernel
theorem w8_get {l : List UInt8} {i : Nat} {x : UInt8} (h : l[i]? = some x) : (l.map W8)[i]? = some (W8 x) := by rw [List.getElem?_map, h]; rfl

set_option maxRecDepth 100000 in
set_option maxHeartbeats 1000000 in
theorem awake02 (w : World) : Calls Try.prog 23 #[] w fun e w' => e = .returned (.bool true) ∧ Later w w' := by
  obtain ⟨h0, h1, h2, h31⟩ := abc_sum
  have hG := shaSum_length ([[97], [], [98, 99]] : List (List UInt8)).flatten
  have hs := fun A n c w hx => sum_any A n c ([[97], [], [98, 99]] : List (List UInt8)) w hx
  generalize shaSum ([[97], [], [98, 99]] : List (List UInt8)).flatten = G at *
  have HS := hid hs
  clear hs
  go_enter Try.func23, Try.ntmps23
  go_wp2_with (first
    | (refine wpList_convert_lit rfl _ _ rfl 5 Try.underlying22 Try.underlying5 w [W8 97] rfl w.heap.size 1 1 rfl rfl ?_; intro w1 hl1 hr1 hz1)
    | (refine wpList_convert_lit rfl _ _ rfl 5 Try.underlying22 Try.underlying5 w1 [W8 98, W8 99] rfl w1.heap.size 2 2 rfl rfl ?_; intro w2 hl2 hr2 hz2)
    | (go_at_call 24; go_loud (refine (HS.out _ _ _ _ ?hparts (by omega) (by simp)).mono ?_; (case hparts => exact parts_of (vs := [.slice (some ⟨w.heap.size, 0, none⟩) 1 1, .slice none 0 0, .slice (some ⟨w1.heap.size, 0, none⟩) 2 2]) ((Blk.new w2 _ _).rd rfl) ⟨part_of ((Rd.later hr1 hl2).later (later_alloc _ _)) (by omega), part_of (rdb_none _) (by omega), part_of (Rd.later hr2 (later_alloc _ _)) (by omega), trivial⟩); rintro e w3 ⟨rfl, hl3⟩))
    | (refine wpList_store_agg rfl rfl 39 _ _ rfl w3.heap.size 0 39 (List.replicate 32 (W8 0)) (G.map W8) ?b ?hx ?hy ?hi ?hf ?h1 ?_; (case hx => rfl); (case hy => rfl); (case hi => rw [List.length_map, hG]; kernel_rfl); (case hf => simp [hG]); (case h1 => exact w8_one _); (case b => exact Blk.new _ _ _); intro w9 hb9 ho9
       rw [spliced_all _ _ (by simp [hG])] at hb9
       have c0 := hb9.cellD 0 (w8_get h0)
       have c1 := hb9.cellD 1 (w8_get h1)
       have c2 := hb9.cellD 2 (w8_get h2)
       have c31 := hb9.cellD 31 (w8_get h31)))
  go_ret
  exact ⟨rfl, ((((hl1.trans hl2).alloc _).trans hl3).alloc _).only ho9 (by have := hl1.size; have := hl2.size; have := hl3.size; simp at this; omega)⟩
set_option maxHeartbeats 1000000 in
theorem shaSums_walk (A : Option Addr) (n c : Nat) (ps : List (List UInt8)) (w : World) (hx : Parts w (fun _ => False) A n ps) (hm : ps.flatten.length + n ≤ 1048576) (hp : ∀ p ∈ ps, p.length ≤ 1048576) :
    Calls Try.prog 5 #[.slice A n c] w fun e w' => e = .returned (.bool true) ∧ Later w w' := by
  have hp' : ∀ p ∈ ps, p.length ≤ 140737488355328 := fun p h => by have := hp p h; omega
  have hG := shaSum_length ps.flatten
  have hs := fun A n c w hx => sum_any A n c ps w hx
  have hr := fun A n c w hx => ref_sum A n c ps.flatten w hx
  have hj := fun A n c w hx => join_any A n c ps w hx
  generalize shaSum ps.flatten = G at *
  generalize ps.flatten = F at *
  have HJ := hid hj
  have HS := hid hs
  have HR := hid hr
  have HP := hid hp'
  clear hs hr hp hp' hj
  go_enter Try.func5, Try.ntmps5
  go_wp2_with (first
    | (go_at_call 23; refine (awake02 _).mono ?_; rintro e w1 ⟨rfl, hl1⟩)
    | (go_at_call 25; refine (copies_any A n c ps _ (hx.later hl1) (by omega) HP.out).mono ?_; rintro e w2 ⟨A2, c2, rfl, hop2, hl2⟩)
    | (go_at_call 24; refine (HS.out A2 n c2 _ hop2.parts (by omega) (by omega)).mono ?_; rintro e w3 ⟨rfl, hl3⟩)
    | (go_at_call 27; refine (HJ.out A n c _ (((hx.later hl1).later hl2).later hl3) (by omega) (by omega)).mono ?_; rintro e w4 ⟨A4, c4, rfl, hop4, hl4⟩)
    | (go_at_call 26; refine (HR.out A4 _ c4 _ hop4.rd (by omega)).mono ?_; rintro e w5 ⟨rfl, hl5⟩))
  go_ret
  exact ⟨by simp, (((hl1.trans hl2).trans hl3).trans hl4).trans hl5⟩
end Go.Proofs.Ytmdbekdphkkmkaa
