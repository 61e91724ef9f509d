/-
  shallotref02.Sum.
-/
import Derived.Test.YtmdbekdphkkmkaaRef1
import Derived.Test.YtmdbekdphkkmkaaRef2
namespace Go.Proofs.Ytmdbekdphkkmkaa
open Go.RowKit

theorem shr32_zero (x : UInt32) : shr32 x 0 = x := by
  unfold shr32
  rw [BitVec.ushiftRight_zero]
theorem shaOut_get (s : S8) (k : Nat) (h : k < 32) : (shaOut s)[k]? = some (shr32 (s.words.getD (k / 4) 0) (24 - 8 * (k % 4))).toUInt8 := by
  have e : ∀ x : UInt32, (shr32 x 0).toUInt8 = x.toUInt8 := fun x => by rw [shr32_zero]
  obtain ⟨a, b, c, d, f, g, i, j⟩ := s
  rcases (by omega : k = 0 ∨ k = 1 ∨ k = 2 ∨ k = 3 ∨ k = 4 ∨ k = 5 ∨ k = 6 ∨ k = 7 ∨ k = 8 ∨ k = 9 ∨ k = 10 ∨ k = 11 ∨ k = 12 ∨ k = 13 ∨ k = 14 ∨ k = 15 ∨ k = 16 ∨ k = 17 ∨ k = 18 ∨ k = 19 ∨ k = 20 ∨ k = 21 ∨ k = 22 ∨ k = 23 ∨ k = 24 ∨ k = 25 ∨ k = 26 ∨ k = 27 ∨ k = 28 ∨ k = 29 ∨ k = 30 ∨ k = 31) with
    rfl | rfl | rfl | rfl | rfl | rfl | rfl | rfl | rfl | rfl | rfl | rfl | rfl | rfl | rfl | rfl | rfl | rfl | rfl | rfl | rfl | rfl | rfl | rfl | rfl | rfl | rfl | rfl | rfl | rfl | rfl | rfl
  all_goals first
    | (show some _ = some _; exact congrArg some (e _).symm)
    | rfl
/-- A list that is filled from the front, noughts behind. -/
def fillB (l : List UInt8) (n k : Nat) : List UInt8 := l.take k ++ List.replicate (n - k) 0
theorem fillB_length (l : List UInt8) (n k : Nat) (hl : l.length = n) (hk : k ≤ n) : (fillB l n k).length = n := by
  simp [fillB]
  omega
theorem fillB_step (l : List UInt8) (n k : Nat) (x : UInt8) (hl : l.length = n) (hk : k < n) (hx : l[k]? = some x) : (fillB l n k).set k x = fillB l n (k + 1) := by
  have e : n - k = (n - (k + 1)) + 1 := by omega
  obtain ⟨h1, h2⟩ := List.getElem?_eq_some_iff.1 hx
  rw [fillB, fillB, e, List.replicate_succ, List.set_append_right _ _ (by simp; omega), List.take_succ_eq_append_getElem h1, h2]
  simp [show k - min k l.length = 0 by omega]
theorem fillB_all (l : List UInt8) (n : Nat) (hl : l.length = n) : fillB l n n = l := by
  simp [fillB, hl.symm]

set_option maxRecDepth 100000 in
set_option maxHeartbeats 2000000 in
theorem ref_sum (A : Option Addr) (n c : Nat) (bs : List UInt8) (w : World) (hr : RdB w A n bs) (hn : n ≤ 70368744177664) :
    Calls Try.prog 26 #[.slice A n c] w fun e w' => e = .returned (.agg ((shaSum bs).map W8).toArray) ∧ Later w w' := by
  have hlen := hr.len
  have hz : padZ n < 64 := Nat.mod_lt _ (by omega)
  have hpl := padB_length n
  have hpw := pad_whole n
  have hsum : shaSum bs = shaOut (shaFold (bs ++ padB n) ((n + (padZ n + 9)) / 64)) := by rw [shaSum, List.length_append, hlen, hpl]
  have HSUM := hid hsum
  clear hsum
  obtain ⟨W, hW⟩ : ∃ W, bs ++ padB n = W := ⟨_, rfl⟩
  have hWl : W.length = n + (padZ n + 9) := by rw [← hW, List.length_append, hlen, hpl]
  have HW := hid hW
  clear hW
  rw [HW.out] at HSUM
  have hgl := shaSum_length bs
  generalize shaSum bs = G at *
  obtain ⟨M, hM⟩ : ∃ M, n + (padZ n + 9) = 64 * M := ⟨(n + (padZ n + 9)) / 64, by omega⟩
  have hM2 : (n + (padZ n + 9)) / 64 = M := by omega
  rw [hM2] at HSUM
  clear hM2
  go_enter Try.func26, Try.ntmps26
  go_wp2_with (first
    | (go_at_call 29; refine (copy_any A n c bs _ (RdB.later hr (later_alloc _ _)) (by omega)).mono ?_; rintro e w1 ⟨A1, c1, rfl, hown1, hl1⟩)
    | (go_at_call 60; refine (ref_padding n (by omega) _).mono ?_; rintro e w2 ⟨A2, c2, rfl, hown2, hl2⟩)
    | (refine wpList_append_rd rfl _ _ _ rfl 5 _ 1 Try.underlying22 info8 rfl _ _ n _ (OwnB.later hown1 hl2) (hl1.trans hl2) A2 (padZ n + 9) c2 _ hown2.rd (w8_one _) rfl rfl (by omega) (by omega) ?_; intro A3 c3 w3 hown3 hl3 _ _)
    | (go_at_call 62; refine (first_any _).mono ?_; rintro e w4 ⟨rfl, hl4⟩)
    | (refine wpList_store_agg rfl rfl 31 _ _ rfl w4.heap.size 0 31 (List.replicate 8 (W32 0)) shaInit.list ?b ?hx ?hy ?hi ?hf ?h1 ?_; (case hx => rfl); (case hy => rfl); (case hi => kernel_rfl); (case hf => decide); (case h1 => exact s8_one _); (case b => exact Blk.new _ _ _); intro w5 hb5 ho5))
  rw [spliced_all _ _ (by rfl)] at hb5
  have hc3 : 64 * M ≤ c3 := by rw [← hM]; exact own_cap hown3
  have hrd3 : RdB w3 A3 (64 * M) W := by
    have h := own_rd hown3
    rw [← List.map_append, HW.out, hM] at h
    exact h
  have hM0 : 0 < 64 * M := by omega
  have hoff : Off A3 w4.heap.size := Rd.off hrd3 hM0 hl4.size
  have hR5 : Blk w5 w.heap.size 39 (List.replicate 32 (W8 0)) := ((((Blk.new w 39 (List.replicate 32 (W8 0))).later hl3).later hl4).later (later_alloc _ _)).only ho5 (by have := hl3.size; have := hl4.size; simp at *; omega)
  have hl5 : Later w w5 := ((((Later.refl w).alloc _).trans (hl3.trans hl4)).alloc _).only ho5 (by have := hl3.size; have := hl4.size; simp at *; omega)
  have hrd5 : RdB w5 A3 (64 * M) W := (Rd.onlyOff ((RdB.later hrd3 hl4).later (later_alloc _ _)) ho5 hoff)
  have hg4 : w.heap.size + 1 ≤ w4.heap.size := by have := hl3.size; have := hl4.size; simp at *; omega
  clear hown1 hown2 hl1 hl2 hown3 hl3 hl4 ho5 hrd3
  generalize hg : w4.heap.size = g at *
  clear hg
  go_loopw [5] (fun i wr => ∃ k : Nat, k ≤ M ∧ i = .int .i64 ((64 * k : Nat) : Int) ∧ Later w wr ∧ Blk wr w.heap.size 39 (List.replicate 32 (W8 0)) ∧ RdB wr A3 (64 * M) W ∧ ∃ S, Hid (shaFold W k = S) ∧ Blk wr g 31 S.list) (fun i _ => 64 * M - (intOf i).toNat)
  case atStart => exact ⟨0, by omega, rfl, hl5, hR5, hrd5, shaInit, hid rfl, hb5⟩
  case round =>
    clear hl5 hR5 hrd5 hb5
    obtain ⟨k, hk, rfl, hl, hR, hrd, S, HS, hb⟩ := hrel
    by_cases hlt : k < M
    · as_aux_lemma =>
      have hcmp : ((64 * k : Nat) : Int) < ((64 * M : Nat) : Int) := by omega
      have hrdk := (RdB.take (RdB.cut hrd (k := 64 * k) (c := c3) (by omega) hc3) (m := 64) (by omega))
      rw [cutA, if_neg (by omega)] at hrdk
      have hsl1 := s8_one S
      have hsl : S.list.length = 8 := rfl
      have h25 : ((64 * k : Nat) : Int) + 64 = ((64 * k + 64 : Nat) : Int) := by omega
      go_wp2
      refine wp_region_parts [] [0, 1, 2, 3, 4, 5] [6, 7] (by as_aux_lemma => kernel_rfl) (by as_aux_lemma => kernel_rfl) (by intro _ _ d _ _ h; cases d <;> exact h) ?_
      simp only [wpParts, pick, List.getElem?_cons_succ, List.getElem?_cons_zero, Option.toList_some, List.cons_append, List.nil_append]
      repeat (first | go_big_quiet_skip | (go_big_quiet_want; refine quiet_load_agg 31 _ rfl g 0 S.list ?hc ?hx _ Try.underlying31 rfl ?hi ?_; (case hx => rfl); (case hi => rw [hsl]; kernel_rfl); (case hc => rintro w' ⟨x, rfl⟩ j v hv; rw [Nat.zero_add]; exact (hb.later ⟨⟨x.blocks, x.drawn⟩, rfl⟩).cellD j hv); simp only [Act.put, List.setIfInBounds_toArray, List.set_cons_succ, List.set_cons_zero]; go_big_quiet_on) | (go_big_quiet_step (fail)))
      refine wpQuiet_nil ?_
      go_wp2_with fail
      refine (ref_compress S _ _ ((W.drop (64 * k)).take 64) _ (RdB.later hrdk (later_drew _))).mono ?_
      rintro e w1 ⟨rfl, hl1⟩
      generalize hS' : shaComp S ((W.drop (64 * k)).take 64) = S'
      have HS' := hid hS'
      clear hS'
      go_wp2_with (first | (refine wpList_store_agg rfl rfl 31 _ _ rfl g 0 31 S.list S'.list ?b ?hx ?hy ?hi ?hf ?h1 ?_; (case hx => rfl); (case hy => rfl); (case hi => rw [show S'.list.length = 8 by simp [S8.list]]; kernel_rfl); (case hf => simp [S8.list]); (case h1 => exact s8_one _); (case b => exact hb.later ((later_drew _).trans hl1)); intro w5 hb5 ho5))
      rw [spliced_all S.list S'.list (by simp [S8.list])] at hb5
      have hl' := (later_drew wr).trans hl1
      go_roundw
      case rel =>
        refine ⟨k + 1, by omega, by go_num, (hl.trans hl').only ho5 (by omega), (hR.later hl').only ho5 (by omega), Rd.onlyOff (RdB.later hrd hl') ho5 hoff, S', hid ?_, hb5⟩
        rw [shaFold, HS.out, HS'.out]
      case measure => simp only [intOf]; omega
    · have hkM : k = M := by omega
      subst hkM
      have hfin : shaOut S = G := by rw [HSUM.out, HS.out]
      have hcmp : ¬ ((64 * k : Nat) : Int) < ((64 * k : Nat) : Int) := by omega
      go_wp2
      have hO : Blk (wr.alloc (.cells ((fillB G 32 0).map W8).toArray 39)) wr.heap.size 39 ((fillB G 32 0).map W8) := Blk.new _ _ _
      have hl1 := hl.alloc (.cells ((fillB G 32 0).map W8).toArray 39)
      have hR1 := hR.later (later_alloc wr (.cells ((fillB G 32 0).map W8).toArray 39))
      have hb1 := hb.later (later_alloc wr (.cells ((fillB G 32 0).map W8).toArray 39))
      have hglt := hb.lt
      generalize hG' : wr.heap.size = g' at *
      clear hG'
      go_loopw [7] (fun i wr => ∃ k : Nat, k ≤ 32 ∧ i = .int .i64 k ∧ Later w wr ∧ Blk wr w.heap.size 39 (List.replicate 32 (W8 0)) ∧ Blk wr g 31 S.list ∧ Blk wr g' 39 ((fillB G 32 k).map W8)) (fun i _ => 32 - (intOf i).toNat)
      case atStart => exact ⟨0, by omega, rfl, hl1, hR1, hb1, hO⟩
      case round =>
        clear hl1 hR1 hb1 hO hl hR hb hrd
        obtain ⟨j, hj, rfl, hl, hR, hb, hO⟩ := hrel
        by_cases hj32 : j < 32
        · as_aux_lemma =>
          have d0 := hb.cellD (j / 4) (words_get S (j / 4) (by omega))
          have hfl := fillB_length G 32 j hgl hj
          have hget := shaOut_get S j hj32
          rw [hfin] at hget
          have HST := hid (fillB_step G 32 j _ hgl hj32 hget)
          clear hget
          generalize S.words.getD (j / 4) 0 = x at *
          go_wp2_with (first
            | (refine wpList_store_in rfl rfl _ _ _ rfl _ _ _ _ hO rfl ?hl rfl (by kernel_rfl) ?_; (case hl => rw [List.length_map, hfl]; omega); intro v' w5 hv' hb5 ho5; simp [go_sem] at hv'; subst hv'))
          refine ⟨⟨j + 1, by omega, by go_num, hl.only ho5 (by omega), hR.only ho5 (by omega), hb.only ho5 (by omega), ?_⟩, by simp only [intOf]; omega⟩
          rw [← HST.out, ← map_set8]
          exact hb5
        · as_aux_lemma =>
          have hj' : j = 32 := by omega
          rw [hj', fillB_all G 32 hgl] at hO
          go_wp2_with (first
            | (refine wpList_load_agg rfl 39 _ rfl g' 0 (G.map W8) ?hc ?hx _ Try.underlying39 rfl ?hi ?_; (case hx => rfl); (case hi => rw [List.length_map, hgl]; kernel_rfl); (case hc => intro j v hv; rw [Nat.zero_add]; exact hO.cellD j hv))
            | (refine wpList_store_agg rfl rfl 39 _ _ rfl w.heap.size 0 39 (List.replicate 32 (W8 0)) (G.map W8) ?b ?hx ?hy ?hi ?hf ?h1 ?_; (case hx => rfl); (case hy => rfl); (case hi => rw [List.length_map, hgl]; kernel_rfl); (case hf => simp [hgl]); (case h1 => exact w8_one _); (case b => exact hR); intro w9 hb9 ho9))
          rw [spliced_all _ _ (by simp [hgl])] at hb9
          exact bodyPost_ret (results_blk rfl _ _ _ _ (G.map W8) _ hb9 rfl Try.underlying39 rfl (by rw [List.length_map, hgl]; kernel_rfl)) rfl ⟨rfl, hl.only ho9 (Nat.le_refl _)⟩
end Go.Proofs.Ytmdbekdphkkmkaa
