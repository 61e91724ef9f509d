/-
  mac: block, masked, first; the tagger.
-/
import Derived.Test.YtmdbekdphkkmkaaMac1
namespace Go.Proofs.Ytmdbekdphkkmkaa
open Go.RowKit

theorem arr64_sl (b o : Nat) (W : World) : (Instr.sliceAt 50 (.pointer (some ⟨b, o, none⟩)) none none none).run Try.prog W = .ok (.slice (some ⟨b, o, none⟩) 64 64) W := arr64_all b o W
theorem splice_pad (l : List UInt8) (h : l.length ≤ 64) : spliced (List.replicate 64 (W8 0)) 0 ((l.map W8).take 64) = (l ++ List.replicate (64 - l.length) 0).map W8 := by
  rw [List.take_of_length_le (by simpa using h), spliced]
  simp only [List.take_zero, List.nil_append, List.length_map, Nat.zero_add, List.drop_replicate, List.map_append, List.map_replicate]
set_option maxRecDepth 100000 in
set_option maxHeartbeats 1000000 in
theorem block_any (A : Option Addr) (n c : Nat) (key : List UInt8) (w : World) (hx : RdB w A n key) (hc : n ≤ c) (hn : n ≤ 140737488355328) :
    Calls Try.prog 69 #[.slice A n c] w fun e w' => e = .returned (.agg ((macKey key).map W8).toArray) ∧ Later w w' := by
  have hl := hx.len
  have hkl := macKey_length key
  by_cases h64 : 64 < n
  · have hk : macKey key = shaSum key ++ List.replicate (64 - (shaSum key).length) 0 := by rw [macKey, keyOr, if_pos (by omega)]
    have hG := shaSum_length key
    have hs := fun A n c w hx => sum_any A n c [key] w hx
    rw [flatten_one] at hs
    generalize shaSum key = G at *
    generalize macKey key = K at *
    have HS := hid hs
    have HK := hid hk
    clear hs hk
    go_enter Try.func69, Try.ntmps69
    go_wp2_with (first
      | (go_at_call 24; refine (HS.out (some ⟨w.heap.size + 2, 0, none⟩) 1 1 _ ?hx (by omega) (by omega)).mono ?_
         (case hx => exact parts_of ((Blk.new' _ 22 [.slice A n c] (by simp)).rd rfl) ⟨part_of (hx.later (((later_alloc _ _).alloc _).alloc _)) hc, trivial⟩)
         rintro e w1 ⟨rfl, hl1⟩)
      | (refine wpList_store_agg rfl rfl 39 _ _ rfl w1.heap.size 0 39 (List.replicate 32 (W8 0)) (G.map W8) ?b ?hx ?hy ?hi ?hf ?h1 ?_; (case hx => rfl); (case hy => rfl); (case hi => rw [List.length_map, hG]; kernel_rfl); (case hf => simp [hG]); (case h1 => exact w8_one _); (case b => exact Blk.new _ _ _); intro w2 hb2 ho2
         rw [spliced_all _ _ (by simp [hG])] at hb2))
    have z1 : w.heap.size + 3 ≤ w1.heap.size := by have := hl1.size; simp at this; omega
    have hB2 : Blk w2 w.heap.size 50 (List.replicate 64 (W8 0)) := (((Blk.new w _ _).later (((later_alloc _ _).alloc _).trans hl1)).later (later_alloc _ _)).only ho2 (by omega)
    have hB3 : Blk w2 (w.heap.size + 1) 50 (List.replicate 64 (W8 0)) := (((Blk.new' _ _ (List.replicate 64 (W8 0)) (by simp)).later ((later_alloc _ _).trans hl1)).later (later_alloc _ _)).only ho2 (by omega)
    have hL2 : Later w w2 := (((((later_alloc w _).alloc _).alloc _).trans hl1).alloc _).only ho2 (by omega)
    refine wp_region_parts [] [0, 1] [2] (by as_aux_lemma => kernel_rfl) (by as_aux_lemma => kernel_rfl) (by intro _ _ d _ _ h; cases d <;> exact h) ?_
    simp only [wpParts, pick, List.getElem?_cons_succ, List.getElem?_cons_zero, Option.toList_some, List.cons_append, List.nil_append]
    repeat (go_big_quiet_step (fail))
    refine wpQuiet_nil ?_
    go_wp2_with (first
      | (refine wpList_copy_rd rfl _ _ _ _ rfl 5 Try.underlying22 size8 (w.heap.size + 1) 0 64 64 50 (List.replicate 64 (W8 0)) (hB3.later (later_drew _)) (some ⟨w1.heap.size, 0, none⟩) 32 32 (G.map W8) ((hb2.later (later_drew _)).rd (by simp [hG])) (w8_one _) rfl rfl (by simp) ?_; intro w4 hb4 ho4
         rw [splice_pad G (by omega), ← HK.out] at hb4
         have hB4 := (hB2.later (later_drew _)).only ho4 (by omega)
         have hL4 := (hL2.drew).only ho4 (by omega))
      | (refine wpList_load_agg rfl 50 _ rfl (w.heap.size + 1) 0 (K.map W8) ?hc ?hx _ Try.underlying50 rfl ?hi ?_; (case hx => rfl); (case hi => rw [List.length_map, hkl]; kernel_rfl); (case hc => intro j v hv; rw [Nat.zero_add]; exact hb4.cellD j hv))
      | (refine wpList_store_agg rfl rfl 50 _ _ rfl w.heap.size 0 50 (List.replicate 64 (W8 0)) (K.map W8) ?b ?hx ?hy ?hi ?hf ?h1 ?_; (case hx => rfl); (case hy => rfl); (case hi => rw [List.length_map, hkl]; kernel_rfl); (case hf => simp [hkl]); (case h1 => exact w8_one _); (case b => exact hB4); intro w9 hb9 ho9))
    rw [spliced_all _ _ (by simp [hkl])] at hb9
    exact bodyPost_ret (results_blk rfl _ _ _ _ (K.map W8) _ hb9 rfl Try.underlying50 rfl (by rw [List.length_map, hkl]; kernel_rfl)) rfl ⟨rfl, hL4.only ho9 (Nat.le_refl _)⟩
  · have hk : macKey key = key ++ List.replicate (64 - key.length) 0 := by rw [macKey, keyOr, if_neg (by omega)]
    generalize macKey key = K at *
    have HK := hid hk
    clear hk
    go_enter Try.func69, Try.ntmps69
    go_wp2_with (first
      | (refine wpList_copy_rd rfl _ _ _ _ rfl 5 Try.underlying22 size8 (w.heap.size + 1) 0 64 64 50 (List.replicate 64 (W8 0)) (Blk.new' _ _ _ (by simp)) A n c (key.map W8) (RdB.later hx ((later_alloc _ _).alloc _)) (w8_one _) rfl rfl (by simp) ?_; intro w4 hb4 ho4
         rw [splice_pad key (by omega), ← HK.out] at hb4
         have hB4 : Blk w4 w.heap.size 50 (List.replicate 64 (W8 0)) := ((Blk.new w _ _).later (later_alloc _ _)).only ho4 (by omega)
         have hL4 : Later w w4 := ((later_alloc w _).alloc _).only ho4 (by omega))
      | (refine wpList_load_agg rfl 50 _ rfl (w.heap.size + 1) 0 (K.map W8) ?hc ?hx _ Try.underlying50 rfl ?hi ?_; (case hx => rfl); (case hi => rw [List.length_map, hkl]; kernel_rfl); (case hc => intro j v hv; rw [Nat.zero_add]; exact hb4.cellD j hv))
      | (refine wpList_store_agg rfl rfl 50 _ _ rfl w.heap.size 0 50 (List.replicate 64 (W8 0)) (K.map W8) ?b ?hx ?hy ?hi ?hf ?h1 ?_; (case hx => rfl); (case hy => rfl); (case hi => rw [List.length_map, hkl]; kernel_rfl); (case hf => simp [hkl]); (case h1 => exact w8_one _); (case b => exact hB4); intro w9 hb9 ho9))
    rw [spliced_all _ _ (by simp [hkl])] at hb9
    exact bodyPost_ret (results_blk rfl _ _ _ _ (K.map W8) _ hb9 rfl Try.underlying50 rfl (by rw [List.length_map, hkl]; kernel_rfl)) rfl ⟨rfl, hL4.only ho9 (Nat.le_refl _)⟩
set_option maxRecDepth 100000 in
set_option maxHeartbeats 1000000 in
theorem masked_any (k : List UInt8) (m : UInt8) (w : World) (hk : k.length = 64) :
    Calls Try.prog 70 #[.agg (k.map W8).toArray, W8 m] w fun e w' => ∃ A c, e = .returned (.slice A 64 c) ∧ OwnB w' w.heap.size A 64 c (maskB k m) ∧ Later w w' := by
  have hml := maskB_length k m
  rw [hk] at hml
  have hg : ∀ j (hj : j < 64), (k.map W8)[j]? = some (W8 (k.getD j 0)) ∧ (maskB k m)[j]? = some (k.getD j 0 ^^^ m) := by
    intro j hj
    rw [List.getD_eq_getElem?_getD, List.getElem?_map, maskB, List.getElem?_map, List.getElem?_eq_getElem (by omega)]
    exact ⟨rfl, rfl⟩
  generalize maskB k m = M at *
  have hkm : (k.map W8).length = 64 := by simpa using hk
  have h1 := w8_one k
  have HG := hid hg
  clear hg
  generalize hkv : k.map W8 = kv at *
  clear hkv
  go_enter Try.func70, Try.ntmps70
  go_wp2_with (first
    | (refine wpList_make_n rfl _ _ _ rfl 5 _ 1 Try.underlying22 info8 rfl _ _ _ _ 64 rfl rfl ?hL ?hC (by omega) (by omega) ?_; (case hL => rfl); (case hC => rfl); intro w1 hb1 hl1)
    | (refine wpList_load_agg rfl 50 _ rfl w.heap.size 0 kv ?hc ?hx _ Try.underlying50 rfl ?hi ?_; (case hx => rfl); (case hi => rw [hkm]; kernel_rfl); (case hc => intro j v hv; rw [Nat.zero_add]; exact ((Blk.new w _ _).later hl1).cellD j hv)))
  have hfz : fillB M 64 0 = List.replicate 64 0 := rfl
  have hb1' : Blk w1 (w.heap.size + 1) 5 ((fillB M 64 0).map W8) := by
    rw [hfz, List.map_replicate]
    have hb := hb1
    simp only [World.size_alloc] at hb
    exact hb
  have hl1' : Later w w1 := (later_alloc _ _).trans hl1
  clear hb1 hl1 hfz
  go_loopw [10] (fun i wr => ∃ j : Nat, j ≤ 64 ∧ i = .int .i64 j ∧ Later w wr ∧ Blk wr (w.heap.size + 1) 5 ((fillB M 64 j).map W8)) (fun i _ => 64 - (intOf i).toNat)
  case atStart => exact ⟨0, by omega, rfl, hl1', hb1'⟩
  case round =>
    clear hb1' hl1'
    obtain ⟨j, hj, rfl, hl, hb⟩ := hrel
    by_cases hlt : j < 64
    · obtain ⟨e1, e2⟩ := HG.out j hlt
      have hfl := fillB_length M 64 j hml hj
      have HST := hid (fillB_step M 64 j _ hml hlt e2)
      clear e2
      generalize k.getD j 0 = x at *
      have hix : ∀ W', (Instr.index 50 (.agg kv.toArray) (.int .i64 (j : Int))).run Try.prog W' = .ok (W8 x) W' := fun W' => run_index_one Try.underlying50 size8 Try.underlying5 rfl kv .i64 j (W8 x) hlt e1 W'
      go_wp2_with (first
        | (refine wpList_store_in rfl rfl _ _ _ rfl _ _ _ _ hb rfl ?hl rfl (by kernel_rfl) ?_; (case hl => rw [List.length_map, hfl]; omega); intro v' w5 hv' hb5 ho5; simp [go_sem] at hv'; subst hv'))
      go_roundw
      case rel =>
        refine ⟨j + 1, by omega, by go_num, hl.only ho5 (by omega), ?_⟩
        rw [← HST.out, ← map_set8]
        exact hb5
      case measure => simp only [intOf]; omega
    · have hj' : j = 64 := by omega
      rw [hj', fillB_all M 64 hml] at hb
      go_wp2
      go_ret
      refine ⟨_, _, rfl, ?_, hl⟩
      have := own_of_blk hb (show w.heap.size ≤ w.heap.size + 1 by omega) (by simp [hml])
      rwa [List.length_map, hml] at this
end Go.Proofs.Ytmdbekdphkkmkaa
