/-
  shallotref03: Inside, Tag, Short.
-/
import Derived.Test.YtmdbekdphkkmkaaRefMac
namespace Go.Proofs.Ytmdbekdphkkmkaa
open Go.RowKit

set_option maxRecDepth 100000 in
set_option maxHeartbeats 1000000 in
theorem refInside_any (A B : Option Addr) (n c m d : Nat) (key bs : List UInt8) (w : World) (hx : RdB w A n key) (hn : n ≤ 70368744177664) (hb : RdB w B m bs) (hm : m ≤ 35184372088832) :
    Calls Try.prog 47 #[.slice A n c, .slice B m d] w fun e w' => e = .returned (.agg ((macIn key bs).map W8).toArray) ∧ Later w w' := by
  have hbl := hb.len
  have hml : (maskB (macKey key) 54).length = 64 := by rw [maskB_length, macKey_length]
  have hI := shaSum_length (maskB (macKey key) 54 ++ bs)
  have hs := hid (fun A n c w h => ref_sum A n c (maskB (macKey key) 54 ++ bs) w h)
  have hk := hid (fun w h => refBlock_any A n c key 54 w h hn)
  unfold macIn
  generalize shaSum (maskB (macKey key) 54 ++ bs) = I at *
  generalize maskB (macKey key) 54 = M at *
  go_enter Try.func47, Try.ntmps47
  go_wp2_with (first
    | (go_at_call 71; refine (hk.out _ (hx.later (later_alloc _ _))).mono ?_; rintro e w1 ⟨A1, c1, rfl, hown1, hl1⟩)
    | (refine wpList_append_rd rfl _ _ _ rfl 5 _ 1 Try.underlying22 info8 rfl _ _ 64 _ hown1 hl1 B m d _ (hb.later ((later_alloc _ _).trans hl1)) (w8_one _) rfl rfl (by omega) (by omega) ?_; intro A2 c2 w2 hown2 hl2 _ _
       have hown2' := own_cut hown2 rfl rfl)
    | (go_at_call 26; refine (hs.out A2 (64 + m) c2 _ (OwnB.rd hown2') (by omega)).mono ?_; rintro e w3 ⟨rfl, hl3⟩)
    | (refine wpList_store_agg rfl rfl 39 _ _ rfl w.heap.size 0 39 (List.replicate 32 (W8 0)) (I.map W8) ?b ?hx ?hy ?hi ?hf ?h1 ?_; (case hx => rfl); (case hy => rfl); (case hi => rw [List.length_map, hI]; kernel_rfl); (case hf => simp [hI]); (case h1 => exact w8_one _); (case b => exact ((Blk.new w _ _).later hl2).later hl3); intro w5 hb5 ho5
       rw [spliced_all _ _ (by simp [hI])] at hb5))
  exact bodyPost_ret (results_blk rfl _ _ _ _ (I.map W8) _ hb5 rfl Try.underlying39 rfl (by rw [List.length_map, hI]; kernel_rfl)) rfl ⟨rfl, ((later_alloc w _).trans (hl2.trans hl3)).only ho5 (Nat.le_refl _)⟩
set_option maxRecDepth 100000 in
set_option maxHeartbeats 1000000 in
theorem refTag_any (A B : Option Addr) (n c m d : Nat) (key bs : List UInt8) (w : World) (hx : RdB w A n key) (hn : n ≤ 70368744177664) (hb : RdB w B m bs) (hm : m ≤ 35184372088832) :
    Calls Try.prog 45 #[.slice A n c, .slice B m d] w fun e w' => e = .returned (.agg ((macTag key bs).map W8).toArray) ∧ Later w w' := by
  have hml : (maskB (macKey key) 92).length = 64 := by rw [maskB_length, macKey_length]
  have hI : (macIn key bs).length = 32 := shaSum_length _
  have hT := macTag_length key bs
  have hi := hid (fun w h1 h2 => refInside_any A B n c m d key bs w h1 hn h2 hm)
  have hk := hid (fun w h => refBlock_any A n c key 92 w h hn)
  have hs := fun A n c w h => ref_sum A n c (maskB (macKey key) 92 ++ macIn key bs) w h
  have he : shaSum (maskB (macKey key) 92 ++ macIn key bs) = macTag key bs := rfl
  rw [he] at hs
  have HS := hid hs
  clear hs he
  generalize macTag key bs = T at *
  generalize macIn key bs = I at *
  generalize maskB (macKey key) 92 = M at *
  go_enter Try.func45, Try.ntmps45
  go_wp2_with (first
    | (go_at_call 47; refine (hi.out _ (hx.later (later_alloc _ _)) (hb.later (later_alloc _ _))).mono ?_; rintro e w1 ⟨rfl, hl1⟩)
    | (refine wpList_store_agg rfl rfl 39 _ _ rfl w1.heap.size 0 39 (List.replicate 32 (W8 0)) (I.map W8) ?b ?hx ?hy ?hi ?hf ?h1 ?_; (case hx => rfl); (case hy => rfl); (case hi => rw [List.length_map, hI]; kernel_rfl); (case hf => simp [hI]); (case h1 => exact w8_one _); (case b => exact Blk.new _ _ _); intro w2 hb2 ho2
       rw [spliced_all _ _ (by simp [hI])] at hb2))
  have z1 : w.heap.size + 1 ≤ w1.heap.size := by have := hl1.size; simpa using this
  have hR2 : Blk w2 w.heap.size 39 (List.replicate 32 (W8 0)) := (((Blk.new w _ _).later hl1).later (later_alloc _ _)).only ho2 (by omega)
  have hL2 : Later w w2 := (((later_alloc w _).trans hl1).alloc _).only ho2 (by omega)
  clear hl1 ho2
  generalize w1.heap.size = g1 at *
  refine wp_region_parts [([0, 2], 1)] [] [3, 4, 5] (by as_aux_lemma => kernel_rfl) (by as_aux_lemma => kernel_rfl) (by intro _ _ d _ _ h; cases d <;> exact h) ?_
  simp only [wpParts, pick, List.getElem?_cons_succ, List.getElem?_cons_zero, Option.toList_some, List.cons_append, List.nil_append]
  repeat (go_big_quiet_step (fail))
  refine wpQuiet_nil ?_
  go_wp2_with (go_at_call 71; refine (hk.out _ (hx.later hL2.drew)).mono ?_; rintro e w3 ⟨A3, c3, rfl, hown3, hl3⟩)
  try refine ⟨by first | assumption | exact later_drew _ | exact later_alloc _ _ | exact Later.refl _, ?_⟩
  try simp only [wpParts, pick, List.getElem?_cons_succ, List.getElem?_cons_zero, Option.toList_some, List.cons_append, List.nil_append]
  repeat (go_big_quiet_step (fail))
  refine wpQuiet_nil ?_
  go_wp2_with (first
    | (refine wpList_append_rd rfl _ _ _ rfl 5 _ 1 Try.underlying22 info8 rfl _ _ 64 _ hown3 hl3 (some ⟨g1, 0, none⟩) 32 32 _ (((hb2.later (later_drew _)).later hl3).rd (by simp [hI])) (w8_one _) rfl rfl (by omega) (by omega) ?_; intro A4 c4 w4 hown4 hl4 _ _
       have hown4' := own_cut hown4 rfl rfl)
    | (go_at_call 26; refine (HS.out A4 96 c4 _ (OwnB.rd hown4') (by omega)).mono ?_; rintro e w5 ⟨rfl, hl5⟩)
    | (refine wpList_store_agg rfl rfl 39 _ _ rfl w.heap.size 0 39 (List.replicate 32 (W8 0)) (T.map W8) ?b ?hx ?hy ?hi ?hf ?h1 ?_; (case hx => rfl); (case hy => rfl); (case hi => rw [List.length_map, hT]; kernel_rfl); (case hf => simp [hT]); (case h1 => exact w8_one _); (case b => exact ((hR2.later (later_drew _)).later hl4).later hl5); intro w6 hb6 ho6
       rw [spliced_all _ _ (by simp [hT])] at hb6))
  exact bodyPost_ret (results_blk rfl _ _ _ _ (T.map W8) _ hb6 rfl Try.underlying39 rfl (by rw [List.length_map, hT]; kernel_rfl)) rfl ⟨rfl, ((hL2.drew.trans (hl4.trans hl5))).only ho6 (Nat.le_refl _)⟩
set_option maxRecDepth 100000 in
theorem refShort_any (A B : Option Addr) (n c m d : Nat) (key bs : List UInt8) (w : World) (hx : RdB w A n key) (hn : n ≤ 70368744177664) (hb : RdB w B m bs) (hm : m ≤ 35184372088832) :
    Calls Try.prog 46 #[.slice A n c, .slice B m d] w fun e w' => ∃ A' c', e = .returned (.slice A' 16 c') ∧ OwnB w' w.heap.size A' 16 c' ((macTag key bs).take 16) ∧ Later w w' := by
  have hT := macTag_length key bs
  have ht := hid (refTag_any A B n c m d key bs w hx hn hb hm)
  generalize macTag key bs = T at *
  have hl16 : (T.take 16).length = 16 := by simp [hT]
  go_enter Try.func46, Try.ntmps46
  go_wp2_with (first
    | (go_at_call 45; refine ht.out.mono ?_; rintro e w1 ⟨rfl, hl1⟩)
    | (refine wpList_store_agg rfl rfl 39 _ _ rfl w1.heap.size 0 39 (List.replicate 32 (W8 0)) (T.map W8) ?b ?hx ?hy ?hi ?hf ?h1 ?_; (case hx => rfl); (case hy => rfl); (case hi => rw [List.length_map, hT]; kernel_rfl); (case hf => simp [hT]); (case h1 => exact w8_one _); (case b => exact Blk.new _ _ _); intro w2 hb2 ho2
       rw [spliced_all _ _ (by simp [hT])] at hb2)
    | (go_at_call 29; go_loud (refine (copy_any (some ⟨w1.heap.size, 0, none⟩) 16 32 (T.take 16) _ (RdB.take (n := 32) (bs := T) (hb2.rd (by simp [hT])) (m := 16) (by omega)) (by omega)).mono ?_; rintro e w3 ⟨A3, c3, rfl, hown3, hl3⟩)))
  go_ret
  have hL2 := ((hl1.alloc _).only ho2 hl1.size)
  exact ⟨A3, c3, rfl, hown3.mono hL2.size, hL2.trans hl3⟩
end Go.Proofs.Ytmdbekdphkkmkaa
