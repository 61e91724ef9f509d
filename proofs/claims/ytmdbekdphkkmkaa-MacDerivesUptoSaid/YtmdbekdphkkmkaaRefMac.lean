/-
  shallotref03: block, Inside, Tag, Short.
-/
import Derived.Test.YtmdbekdphkkmkaaMac4
namespace Go.Proofs.Ytmdbekdphkkmkaa
open Go.RowKit

/-- A key's block, turned as far as k. -/
def maskAt (l : List UInt8) (m : UInt8) (k : Nat) : List UInt8 := maskB (l.take k) m ++ l.drop k
theorem maskAt_step (l : List UInt8) (m : UInt8) (k : Nat) (h : k < l.length) : (maskAt l m k)[k]? = some (l.getD k 0) ∧ (maskAt l m k).set k (l.getD k 0 ^^^ m) = maskAt l m (k + 1) := by
  have h1 : (maskB (l.take k) m).length = k := by simp [maskB]; omega
  have h2 : l.drop k = l[k] :: l.drop (k + 1) := List.drop_eq_getElem_cons h
  have h3 : l.getD k 0 = l[k] := by rw [List.getD_eq_getElem?_getD, List.getElem?_eq_getElem h]; rfl
  constructor
  · rw [maskAt, List.getElem?_append_right (by omega), h1, h2, h3]
    simp
  · rw [maskAt, maskAt, List.set_append_right _ _ (by omega), h1, h2, h3, List.take_succ_eq_append_getElem h, Nat.sub_self, List.set_cons_zero]
    simp only [maskB, List.map_append, List.append_assoc, List.map_cons, List.map_nil, List.cons_append, List.nil_append]
theorem maskAt_length (l : List UInt8) (m : UInt8) (k : Nat) (h : k ≤ l.length) : (maskAt l m k).length = l.length := by
  simp [maskAt, maskB]
  omega
theorem maskAt_all (l : List UInt8) (m : UInt8) (n : Nat) (h : l.length = n) : maskAt l m n = maskB l m := by
  simp [maskAt, ← h]
theorem maskAt_none (l : List UInt8) (m : UInt8) : maskAt l m 0 = l := by simp [maskAt, maskB]
set_option maxRecDepth 100000 in
set_option maxHeartbeats 1000000 in
theorem refBlock_any (A : Option Addr) (n c : Nat) (key : List UInt8) (m : UInt8) (w : World) (hx : RdB w A n key) (hn : n ≤ 70368744177664) :
    Calls Try.prog 71 #[.slice A n c, W8 m] w fun e w' => ∃ A' c', e = .returned (.slice A' 64 c') ∧ OwnB w' w.heap.size A' 64 c' (maskB (macKey key) m) ∧ Later w w' := by
  have hl := hx.len
  have hkl := macKey_length key
  have hml := maskB_length (macKey key) m
  have hks : ∀ k, k < 64 → (maskAt (macKey key) m k)[k]? = some ((macKey key).getD k 0) ∧ (maskAt (macKey key) m k).set k ((macKey key).getD k 0 ^^^ m) = maskAt (macKey key) m (k + 1) := fun k h => maskAt_step _ m k (by omega)
  have hkm : ∀ k, k ≤ 64 → (maskAt (macKey key) m k).length = 64 := fun k h => by rw [maskAt_length _ m k (by omega), hkl]
  have hka := maskAt_all (macKey key) m 64 hkl
  have hk0 := maskAt_none (macKey key) m
  by_cases h64 : 64 < n
  all_goals
    first
      | have hk : macKey key = shaSum key ++ List.replicate (64 - (shaSum key).length) 0 := by rw [macKey, keyOr, if_pos (by omega)]
      | have hk : macKey key = key ++ List.replicate (64 - key.length) 0 := by rw [macKey, keyOr, if_neg (by omega)]
    have HK := hid hk
    have HKS := hid hks
    have HKM := hid hkm
    clear hk hks hkm
    have hs := hid (ref_sum A n c key)
    have hG := shaSum_length key
    generalize shaSum key = G at *
    generalize macKey key = K at *
    go_enter Try.func71, Try.ntmps71
    go_wp2_with (first
      | (refine wpList_make_n rfl _ _ _ rfl 5 _ 1 Try.underlying22 info8 rfl _ _ _ _ 64 rfl rfl ?hL ?hC (by omega) (by omega) ?_; (case hL => rfl); (case hC => rfl); intro w1 hb1 hl1)
      | (go_at_call 26; refine (hs.out _ (hx.later hl1) (by omega)).mono ?_; rintro e w2 ⟨rfl, hl2⟩)
      | (refine wpList_store_agg rfl rfl 39 _ _ rfl w2.heap.size 0 39 (List.replicate 32 (W8 0)) (G.map W8) ?b ?hx ?hy ?hi ?hf ?h1 ?_; (case hx => rfl); (case hy => rfl); (case hi => rw [List.length_map, hG]; kernel_rfl); (case hf => simp [hG]); (case h1 => exact w8_one _); (case b => exact Blk.new _ _ _); intro w3 hb3 ho3
         rw [spliced_all _ _ (by simp [hG])] at hb3
         have z2 := hl2.size
         have hb13 := ((hb1.later hl2).later (later_alloc _ _)).only ho3 (by have := hb1.lt; omega)
         have hl3 := (((hl1.trans hl2).alloc _).only ho3 (by have := hl1.size; omega)))
      | (refine wpList_copy_rd rfl _ _ _ _ rfl 5 Try.underlying22 size8 w.heap.size 0 64 64 5 (List.replicate 64 (W8 0)) hb13 (some ⟨w2.heap.size, 0, none⟩) 32 32 (G.map W8) (hb3.rd (by simp [hG])) (w8_one _) rfl rfl (by simp) ?_; intro w4 hb4 ho4
         rw [splice_pad G (by omega), ← HK.out, ← hk0] at hb4
         have hl4 := hl3.only ho4 (Nat.le_refl _))
      | (refine wpList_copy_rd rfl _ _ _ _ rfl 5 Try.underlying22 size8 w.heap.size 0 64 64 5 (List.replicate 64 (W8 0)) hb1 A n c (key.map W8) (RdB.later hx hl1) (w8_one _) rfl rfl (by simp) ?_; intro w4 hb4 ho4
         rw [splice_pad key (by omega), ← HK.out, ← hk0] at hb4
         have hl4 := hl1.only ho4 (Nat.le_refl _)))
    go_loopw [7] (fun i wr => ∃ j : Nat, j ≤ 64 ∧ i = .int .i64 j ∧ Later w wr ∧ Blk wr w.heap.size 5 ((maskAt K m j).map W8)) (fun i _ => 64 - (intOf i).toNat)
    case atStart => exact ⟨0, by omega, rfl, hl4, hb4⟩
    case round =>
      clear hb4 hl4
      obtain ⟨j, hj, rfl, hl, hb⟩ := hrel
      by_cases hlt : j < 64
      · obtain ⟨e1, e2⟩ := HKS.out j hlt
        have hfl := HKM.out j hj
        have d0 := hb.cellD j (w8_get e1)
        have HST := hid e2
        clear e1 e2
        generalize K.getD j 0 = x at *
        go_wp2_with (first
          | (refine wpList_store_in rfl rfl _ _ _ rfl _ _ _ _ hb rfl ?hl rfl (by kernel_rfl) ?_; (case hl => rw [List.length_map, hfl]; omega); intro v' w5 hv' hb5 ho5; simp [go_sem] at hv'; subst hv'))
        go_roundw
        case rel =>
          refine ⟨j + 1, by omega, by go_num, hl.only ho5 (by omega), ?_⟩
          rw [← HST.out, ← map_set8]
          exact hb5
        case measure => simp only [intOf]; omega
      · have hj' : j = 64 := by omega
        rw [hj', hka] at hb
        go_wp2
        go_ret
        refine ⟨_, _, rfl, ?_, hl⟩
        have := own_of_blk hb (Nat.le_refl _) (by simp [hml, hkl])
        rwa [List.length_map, hml, hkl] at this
end Go.Proofs.Ytmdbekdphkkmkaa
