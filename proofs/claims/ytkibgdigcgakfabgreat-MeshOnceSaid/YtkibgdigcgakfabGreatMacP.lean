/-
  mac: block, masked, the tagger, Tag, Short, Check; codec.Looks, Same, Join.
  mac: block, masked, first; the tagger.
  mac: first, the tagger, Tag, Short, Check.
  mac: Tag, first, Short, Check, Fits, Extract.
  shallotref03: block, Inside, Tag, Short.
  shallotref03: Inside, Tag, Short.
  shallotlaw03: awake, MacTags, MacChecks.
  The laws MacTags, MacChecks, walked.
  The law MacChecks, walked.
  HKDF: mac.Extract, codec.Join, mac.Expand, and the document's.
  mac.Expand and the document's.
  shallotref03.Expand.
  The law MacExpands, walked.
  mac.Derive, and the document's.
  mac.Derive.
-/
import Derived.Test.YtkibgdigcgakfabGreatShaL
import Derived.Test.YtkibgdigcgakfabGreatStrP
namespace Go.Proofs.YtkibgdigcgakfabGreat
open Go.RowKit

def keyOr (key : List UInt8) : List UInt8 := if 64 < key.length then shaSum key else key
def macKey (key : List UInt8) : List UInt8 := keyOr key ++ List.replicate (64 - (keyOr key).length) 0
theorem keyOr_length (key : List UInt8) : (keyOr key).length ≤ 64 := by
  unfold keyOr
  split
  · rw [shaSum_length]; omega
  · omega
theorem macKey_length (key : List UInt8) : (macKey key).length = 64 := by
  have := keyOr_length key
  simp [macKey]
  omega
def maskB (k : List UInt8) (m : UInt8) : List UInt8 := k.map (· ^^^ m)
theorem maskB_length (k : List UInt8) (m : UInt8) : (maskB k m).length = k.length := by simp [maskB]
def macIn (key bs : List UInt8) : List UInt8 := shaSum (maskB (macKey key) 54 ++ bs)
def macTag (key bs : List UInt8) : List UInt8 := shaSum (maskB (macKey key) 92 ++ macIn key bs)
theorem macTag_length (key bs : List UInt8) : (macTag key bs).length = 32 := shaSum_length _

theorem looks_any (A B : Option Addr) (n m c d : Nat) (xs ys : List UInt8) (w : World) (hx : RdB w A n xs) (hy : RdB w B m ys) (hn : n ≤ 140737488355328) (hm : m ≤ 140737488355328) :
    Calls Tryz.prog 93 #[.slice A n c, .slice B m d] w fun e w' => ∃ k, e = .returned (.tuple #[.bool (decide (xs = ys)), .int .i64 k]) ∧ Later w w' := by
  have lx := hx.len
  have ly := hy.len
  by_cases hnm : n = m
  · subst hnm
    have hr : ∀ x : UInt8, (x = 0 ↔ xs = ys) → decide (xs = ys) = (x == 0) := by
      intro x hb
      rw [Bool.eq_iff_iff, decide_eq_true_iff, beq_iff_eq]
      exact hb.symm
    have HR := hid hr
    clear hr
    generalize decide (xs = ys) = R at *
    go_enter Tryz.func93, Tryz.ntmps93
    go_wp2
    go_loopw [6, 7, 16] (fun v6 v7 i wr => ∃ (k : Nat) (x : UInt8), k ≤ n ∧ i = .int .i64 k ∧ v7 = .int .i64 k ∧ v6 = W8 x ∧ Later w wr ∧ Hid (x = 0 ↔ ∀ j, j < k → xs.getD j 0 = ys.getD j 0)) (fun _ _ i _ => n - (intOf i).toNat)
    case atStart => exact ⟨0, 0, by omega, rfl, rfl, rfl, Later.refl w, hid ⟨fun _ j hj => absurd hj (by omega), fun _ => rfl⟩⟩
    case round =>
      obtain ⟨k, x, hk, rfl, rfl, rfl, hl, he⟩ := hrel
      by_cases hlt : k < n
      · obtain ⟨b1, o1, rfl, hb1, hc1⟩ := hx.at_ (by omega)
        obtain ⟨b2, o2, rfl, hb2, hc2⟩ := hy.at_ (by omega)
        have c1 : wr.cell? ⟨b1, o1 + k, none⟩ = some (W8 (xs.getD k 0)) := (hl.below.cell (p := ⟨b1, o1 + k, none⟩) hb1).trans (hc1 k hlt)
        have c2 : wr.cell? ⟨b2, o2 + k, none⟩ = some (W8 (ys.getD k 0)) := (hl.below.cell (p := ⟨b2, o2 + k, none⟩) hb2).trans (hc2 k hlt)
        clear hc1 hc2 hx hy
        generalize hX : xs.getD k 0 = X at *
        generalize hY : ys.getD k 0 = Y at *
        have HX := hid hX
        have HY := hid hY
        clear hX hY
        go_wp2
        refine wp_region_parts [] [0, 1, 2, 3, 4, 5, 6, 7, 8, 9, 10, 11] [] (by as_aux_lemma => kernel_rfl) (by as_aux_lemma => kernel_rfl) (by intro _ _ d _ _ h; cases d <;> exact h) ?_
        simp only [wpParts, pick, List.getElem?_cons_succ, List.getElem?_cons_zero, Option.toList_some, List.cons_append, List.nil_append]
        repeat (go_big_quiet_step (fail))
        refine wpQuiet_nil ?_
        go_wp2
        refine ⟨⟨k + 1, x ||| (X ^^^ Y), by omega, by go_num, by go_num, rfl, hl.drew, hid ?_⟩, by simp only [intOf]; omega⟩
        have e : ∀ a b c : UInt8, (a ||| (b ^^^ c)) = 0 ↔ a = 0 ∧ b = c := by
          intro a b c
          rw [UInt8.or_eq_zero_iff, UInt8.xor_eq_zero_iff]
        rw [e, he.out]
        constructor
        · rintro ⟨h1, h2⟩ j hj
          by_cases hjk : j = k
          · subst hjk
            rw [HX.out, HY.out, h2]
          · exact h1 j (by omega)
        · intro h
          exact ⟨fun j hj => h j (by omega), by rw [← HX.out, ← HY.out]; exact h k (by omega)⟩
      · go_wp2
        go_ret2
        have hR : R = (x == 0) := by
          refine HR.out x (he.out.trans ⟨fun h => ?_, fun h => ?_⟩)
          · apply List.ext_getElem (by omega)
            intro j h1 h2
            have := h j (by omega)
            rw [List.getD_eq_getElem?_getD, List.getD_eq_getElem?_getD, List.getElem?_eq_getElem h1, List.getElem?_eq_getElem h2] at this
            exact this
          · intro j _
            rw [h]
        refine ⟨k, ?_, hl⟩
        rw [hR]
        rfl
  · have hne : ((n : Int) != (m : Int)) = true := by simp; omega
    have hf : decide (xs = ys) = false := decide_eq_false (fun h => hnm (by rw [← lx, ← ly, h]))
    have HF := hid hf
    clear hf
    generalize decide (xs = ys) = R at *
    go_enter Tryz.func93, Tryz.ntmps93
    go_wp2
    go_ret2
    exact ⟨0, by rw [HF.out]; rfl, Later.refl w⟩
theorem same_any (A B : Option Addr) (n m c d : Nat) (xs ys : List UInt8) (w : World) (hx : RdB w A n xs) (hy : RdB w B m ys) (hn : n ≤ 140737488355328) (hm : m ≤ 140737488355328) :
    Calls Tryz.prog 82 #[.slice A n c, .slice B m d] w fun e w' => e = .returned (.bool (decide (xs = ys))) ∧ Later w w' := by
  have h := hid (looks_any A B n m c d xs ys w hx hy hn hm)
  generalize decide (xs = ys) = R at *
  go_enter Tryz.func82, Tryz.ntmps82
  go_wp2_with (first | (go_at_call 93; refine h.out.mono ?_; rintro e w1 ⟨k, rfl, hl⟩))
  go_ret
  exact ⟨rfl, hl⟩
end Go.Proofs.YtkibgdigcgakfabGreat
namespace Go.Proofs.YtkibgdigcgakfabGreat
open Go.RowKit

theorem arr64_sl (b o : Nat) (W : World) : (Instr.sliceAt 203 (.pointer (some ⟨b, o, none⟩)) none none none).run Tryz.prog W = .ok (.slice (some ⟨b, o, none⟩) 64 64) W := arr64_all b o W
theorem splice_pad (l : List UInt8) (h : l.length ≤ 64) : spliced (List.replicate 64 (W8 0)) 0 ((l.map W8).take 64) = (l ++ List.replicate (64 - l.length) 0).map W8 := by
  rw [List.take_of_length_le (by simpa using h), spliced]
  simp only [List.take_zero, List.nil_append, List.length_map, Nat.zero_add, List.drop_replicate, List.map_append, List.map_replicate]
set_option maxRecDepth 100000 in
set_option maxHeartbeats 1000000 in
theorem block_any (A : Option Addr) (n c : Nat) (key : List UInt8) (w : World) (hx : RdB w A n key) (hc : n ≤ c) (hn : n ≤ 140737488355328) :
    Calls Tryz.prog 100 #[.slice A n c] w fun e w' => e = .returned (.agg ((macKey key).map W8).toArray) ∧ Later w w' := by
  have hl := hx.len
  have hkl := macKey_length key
  by_cases h64 : 64 < n
  · have hk : macKey key = shaSum key ++ List.replicate (64 - (shaSum key).length) 0 := by rw [macKey, keyOr, if_pos (by omega)]
    have hG := shaSum_length key
    have hs := fun A n c w hx => ssum_any A n c [key] w hx
    rw [flatten_one] at hs
    generalize shaSum key = G at *
    generalize macKey key = K at *
    have HS := hid hs
    have HK := hid hk
    clear hs hk
    go_enter Tryz.func100, Tryz.ntmps100
    go_wp2_with (first
      | (go_at_call 104; refine (HS.out (some ⟨w.heap.size + 2, 0, none⟩) 1 1 _ ?hx (by omega) (by omega)).mono ?_
         (case hx => exact parts_of ((Blk.new' _ 23 [.slice A n c] (by simp)).rd rfl) ⟨part_of (hx.later (((later_alloc _ _).alloc _).alloc _)) hc, trivial⟩)
         rintro e w1 ⟨rfl, hl1⟩)
      | (refine wpList_store_agg rfl rfl 91 _ _ rfl w1.heap.size 0 91 (List.replicate 32 (W8 0)) (G.map W8) ?b ?hx ?hy ?hi ?hf ?h1 ?_; (case hx => rfl); (case hy => rfl); (case hi => rw [List.length_map, hG]; kernel_rfl); (case hf => simp [hG]); (case h1 => exact w8_one _); (case b => exact Blk.new _ _ _); intro w2 hb2 ho2
         rw [spliced_all _ _ (by simp [hG])] at hb2))
    have z1 : w.heap.size + 3 ≤ w1.heap.size := by have := hl1.size; simp at this; omega
    have hB2 : Blk w2 w.heap.size 203 (List.replicate 64 (W8 0)) := (((Blk.new w _ _).later (((later_alloc _ _).alloc _).trans hl1)).later (later_alloc _ _)).only ho2 (by omega)
    have hB3 : Blk w2 (w.heap.size + 1) 203 (List.replicate 64 (W8 0)) := (((Blk.new' _ _ (List.replicate 64 (W8 0)) (by simp)).later ((later_alloc _ _).trans hl1)).later (later_alloc _ _)).only ho2 (by omega)
    have hL2 : Later w w2 := (((((later_alloc w _).alloc _).alloc _).trans hl1).alloc _).only ho2 (by omega)
    refine wp_region_parts [] [0, 1] [2] (by as_aux_lemma => kernel_rfl) (by as_aux_lemma => kernel_rfl) (by intro _ _ d _ _ h; cases d <;> exact h) ?_
    simp only [wpParts, pick, List.getElem?_cons_succ, List.getElem?_cons_zero, Option.toList_some, List.cons_append, List.nil_append]
    repeat (go_big_quiet_step (fail))
    refine wpQuiet_nil ?_
    go_wp2_with (first
      | (refine wpList_copy_rd rfl _ _ _ _ rfl 5 Tryz.underlying23 size8 (w.heap.size + 1) 0 64 64 203 (List.replicate 64 (W8 0)) (hB3.later (later_drew _)) (some ⟨w1.heap.size, 0, none⟩) 32 32 (G.map W8) ((hb2.later (later_drew _)).rd (by simp [hG])) (w8_one _) rfl rfl (by simp) ?_; intro w4 hb4 ho4
         rw [splice_pad G (by omega), ← HK.out] at hb4
         have hB4 := (hB2.later (later_drew _)).only ho4 (by omega)
         have hL4 := (hL2.drew).only ho4 (by omega))
      | (refine wpList_load_agg rfl 203 _ rfl (w.heap.size + 1) 0 (K.map W8) ?hc ?hx _ Tryz.underlying203 rfl ?hi ?_; (case hx => rfl); (case hi => rw [List.length_map, hkl]; kernel_rfl); (case hc => intro j v hv; rw [Nat.zero_add]; exact hb4.cellD j hv))
      | (refine wpList_store_agg rfl rfl 203 _ _ rfl w.heap.size 0 203 (List.replicate 64 (W8 0)) (K.map W8) ?b ?hx ?hy ?hi ?hf ?h1 ?_; (case hx => rfl); (case hy => rfl); (case hi => rw [List.length_map, hkl]; kernel_rfl); (case hf => simp [hkl]); (case h1 => exact w8_one _); (case b => exact hB4); intro w9 hb9 ho9))
    rw [spliced_all _ _ (by simp [hkl])] at hb9
    exact bodyPost_ret (results_blk rfl _ _ _ _ (K.map W8) _ hb9 rfl Tryz.underlying203 rfl (by rw [List.length_map, hkl]; kernel_rfl)) rfl ⟨rfl, hL4.only ho9 (Nat.le_refl _)⟩
  · have hk : macKey key = key ++ List.replicate (64 - key.length) 0 := by rw [macKey, keyOr, if_neg (by omega)]
    generalize macKey key = K at *
    have HK := hid hk
    clear hk
    go_enter Tryz.func100, Tryz.ntmps100
    go_wp2_with (first
      | (refine wpList_copy_rd rfl _ _ _ _ rfl 5 Tryz.underlying23 size8 (w.heap.size + 1) 0 64 64 203 (List.replicate 64 (W8 0)) (Blk.new' _ _ _ (by simp)) A n c (key.map W8) (RdB.later hx ((later_alloc _ _).alloc _)) (w8_one _) rfl rfl (by simp) ?_; intro w4 hb4 ho4
         rw [splice_pad key (by omega), ← HK.out] at hb4
         have hB4 : Blk w4 w.heap.size 203 (List.replicate 64 (W8 0)) := ((Blk.new w _ _).later (later_alloc _ _)).only ho4 (by omega)
         have hL4 : Later w w4 := ((later_alloc w _).alloc _).only ho4 (by omega))
      | (refine wpList_load_agg rfl 203 _ rfl (w.heap.size + 1) 0 (K.map W8) ?hc ?hx _ Tryz.underlying203 rfl ?hi ?_; (case hx => rfl); (case hi => rw [List.length_map, hkl]; kernel_rfl); (case hc => intro j v hv; rw [Nat.zero_add]; exact hb4.cellD j hv))
      | (refine wpList_store_agg rfl rfl 203 _ _ rfl w.heap.size 0 203 (List.replicate 64 (W8 0)) (K.map W8) ?b ?hx ?hy ?hi ?hf ?h1 ?_; (case hx => rfl); (case hy => rfl); (case hi => rw [List.length_map, hkl]; kernel_rfl); (case hf => simp [hkl]); (case h1 => exact w8_one _); (case b => exact hB4); intro w9 hb9 ho9))
    rw [spliced_all _ _ (by simp [hkl])] at hb9
    exact bodyPost_ret (results_blk rfl _ _ _ _ (K.map W8) _ hb9 rfl Tryz.underlying203 rfl (by rw [List.length_map, hkl]; kernel_rfl)) rfl ⟨rfl, hL4.only ho9 (Nat.le_refl _)⟩
set_option maxRecDepth 100000 in
set_option maxHeartbeats 1000000 in
theorem masked_any (k : List UInt8) (m : UInt8) (w : World) (hk : k.length = 64) :
    Calls Tryz.prog 101 #[.agg (k.map W8).toArray, W8 m] w fun e w' => ∃ A c, e = .returned (.slice A 64 c) ∧ OwnB w' w.heap.size A 64 c (maskB k m) ∧ Later w w' := by
  have hml := maskB_length k m
  rw [hk] at hml
  have hg : ∀ j (hj : j < 64), (k.map W8)[j]? = some (W8 (k.getD j 0)) ∧ (maskB k m)[j]? = some (k.getD j 0 ^^^ m) := by
    intro j hj
    rw [List.getD_eq_getElem?_getD, List.getElem?_map, maskB, List.getElem?_map, List.getElem?_eq_getElem (by omega)]
    exact ⟨rfl, rfl⟩
  generalize maskB k m = M at *
  have hkm : (k.map W8).length = 64 := by simpa using hk
  have h1 := w8_one k
  have HG := hid hg
  clear hg
  generalize hkv : k.map W8 = kv at *
  clear hkv
  go_enter Tryz.func101, Tryz.ntmps101
  go_wp2_with (first
    | (refine wpList_make_n rfl _ _ _ rfl 5 _ 1 Tryz.underlying23 info8 rfl _ _ _ _ 64 rfl rfl ?hL ?hC (by omega) (by omega) ?_; (case hL => rfl); (case hC => rfl); intro w1 hb1 hl1)
    | (refine wpList_load_agg rfl 203 _ rfl w.heap.size 0 kv ?hc ?hx _ Tryz.underlying203 rfl ?hi ?_; (case hx => rfl); (case hi => rw [hkm]; kernel_rfl); (case hc => intro j v hv; rw [Nat.zero_add]; exact ((Blk.new w _ _).later hl1).cellD j hv)))
  have hfz : fillB M 64 0 = List.replicate 64 0 := rfl
  have hb1' : Blk w1 (w.heap.size + 1) 5 ((fillB M 64 0).map W8) := by
    rw [hfz, List.map_replicate]
    have hb := hb1
    simp only [World.size_alloc] at hb
    exact hb
  have hl1' : Later w w1 := (later_alloc _ _).trans hl1
  clear hb1 hl1 hfz
  go_loopw [10] (fun i wr => ∃ j : Nat, j ≤ 64 ∧ i = .int .i64 j ∧ Later w wr ∧ Blk wr (w.heap.size + 1) 5 ((fillB M 64 j).map W8)) (fun i _ => 64 - (intOf i).toNat)
  case atStart => exact ⟨0, by omega, rfl, hl1', hb1'⟩
  case round =>
    clear hb1' hl1'
    obtain ⟨j, hj, rfl, hl, hb⟩ := hrel
    by_cases hlt : j < 64
    · obtain ⟨e1, e2⟩ := HG.out j hlt
      have hfl := fillB_length M 64 j hml hj
      have HST := hid (fillB_step M 64 j _ hml hlt e2)
      clear e2
      generalize k.getD j 0 = x at *
      have hix : ∀ W', (Instr.index 203 (.agg kv.toArray) (.int .i64 (j : Int))).run Tryz.prog W' = .ok (W8 x) W' := fun W' => run_index_one Tryz.underlying203 size8 Tryz.underlying5 rfl kv .i64 j (W8 x) hlt e1 W'
      go_wp2_with (first
        | (refine wpList_store_in rfl rfl _ _ _ rfl _ _ _ _ hb rfl ?hl rfl (by kernel_rfl) ?_; (case hl => rw [List.length_map, hfl]; omega); intro v' w5 hv' hb5 ho5; simp [go_sem] at hv'; subst hv'))
      go_roundw
      case rel =>
        refine ⟨j + 1, by omega, by go_num, hl.only ho5 (by omega), ?_⟩
        rw [← HST.out, ← map_set8]
        exact hb5
      case measure => simp only [intOf]; omega
    · have hj' : j = 64 := by omega
      rw [hj', fillB_all M 64 hml] at hb
      go_wp2
      go_ret
      refine ⟨_, _, rfl, ?_, hl⟩
      have := own_of_blk hb (show w.heap.size ≤ w.heap.size + 1 by omega) (by simp [hml])
      rwa [List.length_map, hml] at this
end Go.Proofs.YtkibgdigcgakfabGreat
namespace Go.Proofs.YtkibgdigcgakfabGreat
open Go.RowKit

theorem zero72 : Tryz.zeroCells207 = (hCells zeroS8 (List.replicate 64 0) 0 ++ List.replicate 64 (W8 0)).toArray := by kernel_rfl
theorem splice_end (l z v : List Value) (n : Nat) (hl : l.length = n) (hz : z.length = v.length) : spliced (l ++ z) n v = l ++ v := by
  subst hl
  rw [spliced, List.take_left', List.drop_of_length_le (by simp [hz]), List.append_nil]
  rfl
theorem builtTag (K : List UInt8) (hK : K.length = 64) : List.foldl (fun (cs : Array Value) (x : Value × Nat) => cs.setIfInBounds (73 + x.snd) x.fst) Tryz.zeroCells207 (K.map W8).zipIdx = (hCells zeroS8 (List.replicate 64 0) 0 ++ K.map W8).toArray := by
  have hl := hCells_length zeroS8 (List.replicate 64 0) 0 (by simp)
  have hk : (K.map W8).length = 64 := by simpa using hK
  rw [zero72]
  have h := foldl_splice (K.map W8) 0 73 (hCells zeroS8 (List.replicate 64 0) 0 ++ List.replicate 64 (W8 0)) (by rw [List.length_append, hl, hk]; simp)
  rcases h with h | h
  · rw [splice_end _ _ _ 73 hl (by rw [hk]; simp)] at h
    exact h
  · omega
/-- A tagger of this key, into which these bytes were written behind the key. -/
def TagAt (w : World) (g : Nat) (key bs : List UInt8) : Prop := HashAt w g 207 ((macKey key).map W8) (maskB (macKey key) 54 ++ bs)
theorem HashAt.restD {w : World} {g : Nat} {t : TypeId} {rest : List Value} {bs : List UInt8} (h : HashAt w g t rest bs) : ∀ (j : Nat) v, rest[j]? = some v → w.cell? ⟨g, 73 + j, none⟩ = some v := by
  obtain ⟨st, op, h1, h2⟩ := h
  intro j v hv
  refine h2.cellD (73 + j) ?_
  have hl := hCells_length st op bs.length h1.len
  rw [List.getElem?_append_right (by omega), hl, Nat.add_sub_cancel_left]
  exact hv
set_option maxRecDepth 100000 in
set_option maxHeartbeats 1000000 in
theorem newTagger_any (A : Option Addr) (n c : Nat) (key : List UInt8) (w : World) (hx : RdB w A n key) (hc : n ≤ c) (hn : n ≤ 140737488355328) :
    Calls Tryz.prog 96 #[.slice A n c] w fun e w' => ∃ g, e = .returned (.pointer (some ⟨g, 0, none⟩)) ∧ w.heap.size ≤ g ∧ TagAt w' g key [] ∧ Later w w' := by
  have hb := block_any A n c key w hx hc hn
  have hkl := macKey_length key
  unfold TagAt
  rw [List.append_nil]
  generalize macKey key = K at *
  have HB := hid hb
  clear hb
  have hkm : (K.map W8).length = 64 := by simpa using hkl
  go_enter Tryz.func96, Tryz.ntmps96
  go_wp2_with (first
    | (go_at_call 100; refine HB.out.mono ?_; rintro e w1 ⟨rfl, hl1⟩))
  rw [builtTag K hkl]
  have hH0 : HashAt (w1.alloc (.cells (hCells zeroS8 (List.replicate 64 0) 0 ++ K.map W8).toArray 207)) w1.heap.size 207 (K.map W8) [] := ⟨zeroS8, List.replicate 64 0, hok_nil, Blk.new _ _ _⟩
  generalize hC : hCells zeroS8 (List.replicate 64 0) 0 ++ K.map W8 = C at *
  clear hC
  have L0 := hl1.alloc (.cells C.toArray 207)
  have hz := hl1.size
  have hlt0 := hH0.lt
  generalize hW : w1.alloc (.cells C.toArray 207) = W at *
  clear hW
  generalize w1.heap.size = g at *
  have hH1 := hH0.later (later_drew _)
  refine wp_region_parts [([0, 1, 2, 3, 4, 5, 6], 7), ([], 8)] [] [9] (by as_aux_lemma => kernel_rfl) (by as_aux_lemma => kernel_rfl) (by intro _ _ d _ _ h; cases d <;> exact h) ?_
  simp only [wpParts, pick, List.getElem?_cons_succ, List.getElem?_cons_zero, Option.toList_some, List.cons_append, List.nil_append]
  repeat (first | go_big_quiet_skip | (go_big_quiet_want; refine quiet_load_agg 203 _ rfl g 73 (K.map W8) ?hc ?hx _ Tryz.underlying203 rfl ?hi ?_; (case hx => rfl); (case hi => rw [hkm]; kernel_rfl); (case hc => rintro w' ⟨x, rfl⟩; exact (hH1.later ⟨x, rfl⟩).restD); simp only [Act.put, List.setIfInBounds_toArray, List.set_cons_succ, List.set_cons_zero]; go_big_quiet_on) | (go_big_quiet_step (fail)))
  refine wpQuiet_nil ?_
  go_wp2_with (go_at_call 101; refine (masked_any K 54 _ hkl).mono ?_; rintro e w2 ⟨A2, c2, rfl, hown2, hl2⟩)
  try refine ⟨by first | assumption | exact later_drew _ | exact later_alloc _ _ | exact Later.refl _, ?_⟩
  try simp only [wpParts, pick, List.getElem?_cons_succ, List.getElem?_cons_zero, Option.toList_some, List.cons_append, List.nil_append]
  repeat (go_big_quiet_step (fail))
  refine wpQuiet_nil ?_
  go_wp2
  try refine ⟨by first | assumption | exact later_drew _ | exact later_alloc _ _ | exact Later.refl _, ?_⟩
  try simp only [wpParts, pick, List.getElem?_cons_succ, List.getElem?_cons_zero, Option.toList_some, List.cons_append, List.nil_append]
  repeat (go_big_quiet_step (fail))
  refine wpQuiet_nil ?_
  have hone : [maskB K 54].flatten = maskB K 54 := by simp
  have hml := maskB_length K 54
  have HO := hid hone
  clear hone
  generalize hM : maskB K 54 = M at *
  have HM := hid hM
  clear hM
  go_wp2_with (first
    | (go_at_call 97; refine (write_any g 207 (K.map W8) [] (some ⟨w2.heap.size, 0, none⟩) 1 1 [M] _ ?hh ?hx (by omega) (by rw [HO.out]; simp; omega)).mono ?_
       (case hh => exact (hH1.later hl2).later (later_alloc _ _))
       (case hx => exact parts_bad ((Blk.new w2 23 [.slice A2 64 c2]).rd rfl) (avoid_lt (by have := hl2.size; simp at this; omega)) ⟨part_own (hown2.later (later_alloc _ _)) (by simpa using hlt0), trivial⟩)
       rintro e w3 ⟨rfl, hh3, ho3⟩
       rw [HO.out, List.nil_append] at hh3))
  go_ret
  exact ⟨g, rfl, hz, by rw [HM.out]; exact hh3, (((L0.trans (later_drew _)).trans hl2).alloc _).only ho3 hz⟩

theorem macTag_eq (key bs : List UInt8) : macTag key bs = shaSum [maskB (macKey key) 92, macIn key bs].flatten := by simp [macTag]
set_option maxRecDepth 100000 in
set_option maxHeartbeats 1000000 in
theorem tagSum_any (g : Nat) (key bs : List UInt8) (w : World) (hh : TagAt w g key bs) (hlen : bs.length ≤ 2305843009213693000) :
    Calls Tryz.prog 98 #[.pointer (some ⟨g, 0, none⟩)] w fun e w' => e = .returned (.agg ((macTag key bs).map W8).toArray) ∧ Later w w' := by
  have hkl := macKey_length key
  have hml := maskB_length (macKey key) 54
  unfold TagAt at hh
  have hs := fun g t rest w hh => hsum_any g t rest (maskB (macKey key) 54 ++ bs) w hh (by rw [List.length_append, hml, hkl]; omega)
  have hin := shaSum_length (maskB (macKey key) 54 ++ bs)
  have hT := macTag_length key bs
  have hsum := fun A n c w hx => ssum_any A n c [maskB (macKey key) 92, macIn key bs] w hx
  rw [← macTag_eq] at hsum
  generalize macTag key bs = T at *
  have hmk : (maskB (macKey key) 92).length = 64 := by rw [maskB_length, hkl]
  have hmi := macKey_length key
  have hf : [maskB (macKey key) 92, macIn key bs].flatten.length = 96 := by simp [hmk, macIn, shaSum_length]
  unfold macIn at *
  generalize shaSum (maskB (macKey key) 54 ++ bs) = I at *
  generalize maskB (macKey key) 54 ++ bs = X at *
  have hmm := fun w => masked_any (macKey key) 92 w hkl
  generalize maskB (macKey key) 92 = M at *
  generalize macKey key = K at *
  have HS := hid hs
  have HSUM := hid hsum
  have HF := hid hf
  have HMM := hid hmm
  clear hs hsum hf hmm
  have hkm : (K.map W8).length = 64 := by simpa using hkl
  go_enter Tryz.func98, Tryz.ntmps98
  go_wp2_with (first
    | (go_at_call 103; refine (HS.out g 207 (K.map W8) _ (hh.later (later_alloc _ _))).mono ?_; rintro e w1 ⟨rfl, hl1⟩)
    | (refine wpList_store_agg rfl rfl 91 _ _ rfl w1.heap.size 0 91 (List.replicate 32 (W8 0)) (I.map W8) ?b ?hx ?hy ?hi ?hf ?h1 ?_; (case hx => rfl); (case hy => rfl); (case hi => rw [List.length_map, hin]; kernel_rfl); (case hf => simp [hin]); (case h1 => exact w8_one _); (case b => exact Blk.new _ _ _); intro w2 hb2 ho2
       rw [spliced_all _ _ (by simp [hin])] at hb2))
  have z1 : w.heap.size + 1 ≤ w1.heap.size := by have := hl1.size; simpa using this
  have hh2 := (((hh.later (later_alloc _ _)).later hl1).later (later_alloc _ _)).only ho2 (by have := hh.lt; omega)
  have hR2 : Blk w2 w.heap.size 91 (List.replicate 32 (W8 0)) := (((Blk.new w _ _).later hl1).later (later_alloc _ _)).only ho2 (by omega)
  have hL2 : Later w w2 := (((later_alloc w _).trans hl1).alloc _).only ho2 (by omega)
  clear hl1 ho2 hh
  generalize w1.heap.size = g1 at *
  have hh3 := hh2.later (later_drew _)
  refine wp_region_parts [([0, 1, 2, 3, 5], 4)] [] [6, 7, 8] (by as_aux_lemma => kernel_rfl) (by as_aux_lemma => kernel_rfl) (by intro _ _ d _ _ h; cases d <;> exact h) ?_
  simp only [wpParts, pick, List.getElem?_cons_succ, List.getElem?_cons_zero, Option.toList_some, List.cons_append, List.nil_append]
  repeat (first | go_big_quiet_skip | (go_big_quiet_want; refine quiet_load_agg 203 _ rfl g 73 (K.map W8) ?hc ?hx _ Tryz.underlying203 rfl ?hi ?_; (case hx => rfl); (case hi => rw [hkm]; kernel_rfl); (case hc => rintro w' ⟨x, rfl⟩; exact (hh3.later ⟨x, rfl⟩).restD); simp only [Act.put, List.setIfInBounds_toArray, List.set_cons_succ, List.set_cons_zero]; go_big_quiet_on) | (go_big_quiet_step (fail)))
  refine wpQuiet_nil ?_
  go_wp2_with (go_at_call 101; refine (HMM.out _).mono ?_; rintro e w3 ⟨A3, c3, rfl, hown3, hl3⟩)
  try refine ⟨by first | assumption | exact later_drew _ | exact later_alloc _ _ | exact Later.refl _, ?_⟩
  try simp only [wpParts, pick, List.getElem?_cons_succ, List.getElem?_cons_zero, Option.toList_some, List.cons_append, List.nil_append]
  repeat (go_big_quiet_step (fail))
  refine wpQuiet_nil ?_
  have hb3 := (hb2.later (later_drew _)).later hl3
  have hR3 := (hR2.later (later_drew _)).later hl3
  have hL3 := (hL2.drew).trans hl3
  go_wp2_with (first
    | (go_at_call 104; refine (HSUM.out (some ⟨w3.heap.size, 0, none⟩) 2 2 _ ?hx (by omega) (by rw [HF.out]; omega)).mono ?_
       (case hx => exact parts_of ((Blk.new w3 23 [.slice A3 64 c3, .slice (some ⟨g1, 0, none⟩) 32 32]).rd rfl) ⟨part_of (RdB.later hown3.rd (later_alloc _ _)) hown3.cap, part_of ((hb3.later (later_alloc _ _)).rd (by simp [hin])) (by omega), trivial⟩)
       rintro e w4 ⟨rfl, hl4⟩)
    | (refine wpList_store_agg rfl rfl 91 _ _ rfl w.heap.size 0 91 (List.replicate 32 (W8 0)) (T.map W8) ?b ?hx ?hy ?hi ?hf ?h1 ?_; (case hx => rfl); (case hy => rfl); (case hi => rw [List.length_map, hT]; kernel_rfl); (case hf => simp [hT]); (case h1 => exact w8_one _); (case b => exact (hR3.later (later_alloc _ _)).later hl4); intro w5 hb5 ho5
       rw [spliced_all _ _ (by simp [hT])] at hb5))
  exact bodyPost_ret (results_blk rfl _ _ _ _ (T.map W8) _ hb5 rfl Tryz.underlying91 rfl (by rw [List.length_map, hT]; kernel_rfl)) rfl ⟨rfl, (((hL3.alloc _).trans hl4)).only ho5 (Nat.le_refl _)⟩
end Go.Proofs.YtkibgdigcgakfabGreat
namespace Go.Proofs.YtkibgdigcgakfabGreat
open Go.RowKit

theorem TagAt.write {w : World} {g : Nat} {key bs x : List UInt8} (h : HashAt w g 207 ((macKey key).map W8) ((maskB (macKey key) 54 ++ bs) ++ x)) : TagAt w g key (bs ++ x) := by
  unfold TagAt
  rw [← List.append_assoc]
  exact h
set_option maxRecDepth 100000 in
set_option maxHeartbeats 1000000 in
theorem tag_any (A B : Option Addr) (n c m d : Nat) (key : List UInt8) (ps : List (List UInt8)) (w : World) (hx : RdB w A n key) (hc : n ≤ c) (hn : n ≤ 140737488355328) (hp : Parts w (fun _ => False) B m ps) (hm : m ≤ 140737488355328) (hlen : ps.flatten.length ≤ 2305843009213690000) :
    Calls Tryz.prog 88 #[.slice A n c, .slice B m d] w fun e w' => e = .returned (.agg ((macTag key ps.flatten).map W8).toArray) ∧ Later w w' := by
  have hT := macTag_length key ps.flatten
  have hs := fun g w hh => tagSum_any g key ps.flatten w hh (by omega)
  have hw := fun g bs n c w hh hx hm => write_any g 207 ((macKey key).map W8) bs B n c ps w hh hx hm
  generalize macTag key ps.flatten = T at *
  have hml : (maskB (macKey key) 54).length = 64 := by rw [maskB_length, macKey_length]
  have HS := hid hs
  have HW := hid hw
  clear hs hw
  go_enter Tryz.func88, Tryz.ntmps88
  go_wp2_with (first
    | (go_at_call 96; refine (newTagger_any A n c key _ (hx.later (later_alloc _ _)) hc hn).mono ?_; rintro e w1 ⟨g, rfl, hg, hh1, hl1⟩)
    | (go_at_call 97; refine (HW.out g _ m d _ hh1 ?hx hm ?hl).mono ?_
       (case hx => exact (hp.more (fun b hb => .inr (by subst hb; simp at hg; omega))).later ((later_alloc _ _).trans hl1))
       (case hl => rw [List.append_nil, hml]; omega)
       rintro e w2 ⟨rfl, hh2, ho2⟩
       have ht2 := TagAt.write hh2
       rw [List.nil_append] at ht2)
    | (go_at_call 98; refine (HS.out g _ ht2).mono ?_; rintro e w3 ⟨rfl, hl3⟩)
    | (refine wpList_store_agg rfl rfl 91 _ _ rfl w.heap.size 0 91 (List.replicate 32 (W8 0)) (T.map W8) ?b ?hx ?hy ?hi ?hf ?h1 ?_; (case hx => rfl); (case hy => rfl); (case hi => rw [List.length_map, hT]; kernel_rfl); (case hf => simp [hT]); (case h1 => exact w8_one _); (case b => exact (((Blk.new w _ _).later hl1).only ho2 (by simp at hg; omega)).later hl3); intro w5 hb5 ho5
       rw [spliced_all _ _ (by simp [hT])] at hb5))
  exact bodyPost_ret (results_blk rfl _ _ _ _ (T.map W8) _ hb5 rfl Tryz.underlying91 rfl (by rw [List.length_map, hT]; kernel_rfl)) rfl
    ⟨rfl, ((((later_alloc w _).trans hl1).only ho2 (by simp at hg; omega)).trans hl3).only ho5 (Nat.le_refl _)⟩
theorem take16 (G : List UInt8) (h : G.length = 32) : spliced (List.replicate 16 (W8 0)) 0 ((G.map W8).take 16) = (G.take 16).map W8 := by
  rw [spliced_all _ _ (by simp [h]), List.map_take]
set_option maxRecDepth 100000 in
theorem first16_any (G : List UInt8) (hG : G.length = 32) (w : World) :
    Calls Tryz.prog 94 #[.agg (G.map W8).toArray] w fun e w' => ∃ A c, e = .returned (.slice A 16 c) ∧ OwnB w' w.heap.size A 16 c (G.take 16) ∧ Later w w' := by
  have hb0 := Blk.new w 91 (G.map W8)
  have ht := take16 G hG
  have hl16 : (G.take 16).length = 16 := by simp [hG]
  have hgl : (G.map W8).length = 32 := by simp [hG]
  have h1 := w8_one G
  generalize G.take 16 = F at *
  generalize G.map W8 = gl at *
  have HT := hid ht
  clear ht
  go_enter Tryz.func94, Tryz.ntmps94
  go_wp2_with (first
    | (refine wpList_make_n rfl _ _ _ rfl 5 _ 1 Tryz.underlying23 info8 rfl _ _ _ _ 16 rfl rfl ?hL ?hC (by omega) (by omega) ?_; (case hL => rfl); (case hC => rfl); intro w1 hb1 hl1; simp only [World.size_alloc] at hb1)
    | (refine wpList_copy_rd rfl _ _ _ _ rfl 5 Tryz.underlying23 size8 (w.heap.size + 1) 0 16 16 5 (List.replicate 16 (W8 0)) hb1 (some ⟨w.heap.size, 0, none⟩) 32 32 gl ((hb0.later hl1).rd hgl) h1 rfl rfl (by simp) ?_; intro w4 hb4 ho4
       rw [HT.out] at hb4))
  go_ret
  refine ⟨_, _, rfl, ?_, ((later_alloc w _).trans hl1).only ho4 (by omega)⟩
  have := own_of_blk hb4 (show w.heap.size ≤ w.heap.size + 1 by omega) (by simp [hl16])
  rwa [List.length_map, hl16] at this
theorem short_any (A B : Option Addr) (n c m d : Nat) (key : List UInt8) (ps : List (List UInt8)) (w : World) (hx : RdB w A n key) (hc : n ≤ c) (hn : n ≤ 140737488355328) (hp : Parts w (fun _ => False) B m ps) (hm : m ≤ 140737488355328) (hlen : ps.flatten.length ≤ 2305843009213690000) :
    Calls Tryz.prog 83 #[.slice A n c, .slice B m d] w fun e w' => ∃ A' c', e = .returned (.slice A' 16 c') ∧ OwnB w' w.heap.size A' 16 c' ((macTag key ps.flatten).take 16) ∧ Later w w' := by
  have hT := macTag_length key ps.flatten
  have hs := hid (tag_any A B n c m d key ps w hx hc hn hp hm hlen)
  generalize macTag key ps.flatten = T at *
  have hf := hid (fun w => first16_any T hT w)
  go_enter Tryz.func83, Tryz.ntmps83
  go_wp2_with (first
    | (go_at_call 88; refine hs.out.mono ?_; rintro e w1 ⟨rfl, hl1⟩)
    | (go_at_call 94; refine (hf.out _).mono ?_; rintro e w2 ⟨A2, c2, rfl, hown2, hl2⟩))
  go_ret
  exact ⟨A2, c2, rfl, hown2.mono hl1.size, hl1.trans hl2⟩
theorem check_any (A B C : Option Addr) (n c m d k e0 : Nat) (key tag : List UInt8) (ps : List (List UInt8)) (w : World) (hx : RdB w A n key) (hc : n ≤ c) (hn : n ≤ 140737488355328) (ht : RdB w C k tag) (hk : k ≤ 140737488355328)
    (hp : Parts w (fun _ => False) B m ps) (hm : m ≤ 140737488355328) (hlen : ps.flatten.length ≤ 2305843009213690000) :
    Calls Tryz.prog 69 #[.slice A n c, .slice C k e0, .slice B m d] w fun e w' => e = .returned (.bool (decide ((macTag key ps.flatten).take 16 = tag))) ∧ Later w w' := by
  have hs := hid (short_any A B n c m d key ps w hx hc hn hp hm hlen)
  have hl16 : ((macTag key ps.flatten).take 16).length = 16 := by simp [macTag_length]
  generalize (macTag key ps.flatten).take 16 = S at *
  have hq := hid (fun A c w hx hy => same_any A C 16 k c e0 S tag w hx hy (by omega) hk)
  generalize decide (S = tag) = R at *
  go_enter Tryz.func69, Tryz.ntmps69
  go_wp2_with (first
    | (go_at_call 83; refine hs.out.mono ?_; rintro e w1 ⟨A1, c1, rfl, hown1, hl1⟩)
    | (go_at_call 82; refine (hq.out A1 c1 _ hown1.rd (ht.later hl1)).mono ?_; rintro e w2 ⟨rfl, hl2⟩))
  go_ret
  exact ⟨rfl, hl1.trans hl2⟩
end Go.Proofs.YtkibgdigcgakfabGreat
namespace Go.Proofs.YtkibgdigcgakfabGreat
open Go.RowKit

/-- A key's block, turned as far as k. -/
def maskAt (l : List UInt8) (m : UInt8) (k : Nat) : List UInt8 := maskB (l.take k) m ++ l.drop k
theorem maskAt_step (l : List UInt8) (m : UInt8) (k : Nat) (h : k < l.length) : (maskAt l m k)[k]? = some (l.getD k 0) ∧ (maskAt l m k).set k (l.getD k 0 ^^^ m) = maskAt l m (k + 1) := by
  have h1 : (maskB (l.take k) m).length = k := by simp [maskB]; omega
  have h2 : l.drop k = l[k] :: l.drop (k + 1) := List.drop_eq_getElem_cons h
  have h3 : l.getD k 0 = l[k] := by rw [List.getD_eq_getElem?_getD, List.getElem?_eq_getElem h]; rfl
  constructor
  · rw [maskAt, List.getElem?_append_right (by omega), h1, h2, h3]
    simp
  · rw [maskAt, maskAt, List.set_append_right _ _ (by omega), h1, h2, h3, List.take_succ_eq_append_getElem h, Nat.sub_self, List.set_cons_zero]
    simp only [maskB, List.map_append, List.append_assoc, List.map_cons, List.map_nil, List.cons_append, List.nil_append]
theorem maskAt_length (l : List UInt8) (m : UInt8) (k : Nat) (h : k ≤ l.length) : (maskAt l m k).length = l.length := by
  simp [maskAt, maskB]
  omega
theorem maskAt_all (l : List UInt8) (m : UInt8) (n : Nat) (h : l.length = n) : maskAt l m n = maskB l m := by
  simp [maskAt, ← h]
theorem maskAt_none (l : List UInt8) (m : UInt8) : maskAt l m 0 = l := by simp [maskAt, maskB]
end Go.Proofs.YtkibgdigcgakfabGreat
namespace Go.Proofs.YtkibgdigcgakfabGreat
open Go.RowKit

end Go.Proofs.YtkibgdigcgakfabGreat
namespace Go.Proofs.YtkibgdigcgakfabGreat
open Go.RowKit

def jefe : List UInt8 := [74, 101, 102, 101]
def whatDo : List UInt8 := [119, 104, 97, 116, 32, 100, 111, 32, 121, 97, 32]
def wantFor : List UInt8 := [119, 97, 110, 116, 32, 102, 111, 114, 32, 110, 111, 116, 104, 105, 110, 103, 63]
set_option maxRecDepth 100000 in
theorem jefe_tag : (macTag jefe [whatDo, wantFor].flatten)[0]? = some 91 ∧ (macTag jefe [whatDo, wantFor].flatten)[1]? = some 220 ∧ (macTag jefe [whatDo, wantFor].flatten)[31]? = some 67 := by decide +kernel
end Go.Proofs.YtkibgdigcgakfabGreat
namespace Go.Proofs.YtkibgdigcgakfabGreat
open Go.RowKit

end Go.Proofs.YtkibgdigcgakfabGreat
namespace Go.Proofs.YtkibgdigcgakfabGreat
open Go.RowKit

def emptyTag : List UInt8 := [182, 19, 103, 154, 8, 20, 217, 236, 119, 47, 149, 215, 120, 195, 95, 197]
set_option maxRecDepth 100000 in
theorem empty_tag : (macTag [] [].flatten).take 16 = emptyTag := by decide +kernel
theorem parts_nil (w : World) : Parts w (fun _ => False) none 0 [] := ⟨[], ⟨rfl, fun h => absurd h (by omega)⟩, avoid_false _ _, rfl, fun j v p hv => by simp at hv⟩
end Go.Proofs.YtkibgdigcgakfabGreat
namespace Go.Proofs.YtkibgdigcgakfabGreat
open Go.RowKit

theorem rd_pre' {w : World} {g n : Nat} {t : TypeId} {vs rest : List Value} (h : Blk w g t (vs ++ rest)) (hn : vs.length = n) : Rd w (some ⟨g, 0, none⟩) n vs :=
  ⟨hn, fun _ => ⟨g, 0, rfl, h.lt, fun j u hu => by rw [Nat.zero_add]; exact h.cellD j (by rw [List.getElem?_append_left (List.getElem?_eq_some_iff.1 hu).1]; exact hu)⟩⟩
/-- The i-th piece, and all pieces up to it. -/
def hkT (key info : List UInt8) : Nat → List UInt8
  | 0 => []
  | i + 1 => macTag key (hkT key info i ++ info ++ [UInt8.ofInt (i : Int) + 1])
def hkO (key info : List UInt8) : Nat → List UInt8
  | 0 => []
  | i + 1 => hkO key info i ++ hkT key info (i + 1)
theorem hkT_length (key info : List UInt8) (i : Nat) : (hkT key info i).length ≤ 32 := by
  cases i with
  | zero => simp [hkT]
  | succ i => rw [hkT, macTag_length]; omega
theorem hkO_length (key info : List UInt8) (i : Nat) : (hkO key info i).length = 32 * i := by
  induction i with
  | zero => rfl
  | succ i ih => rw [hkO, List.length_append, ih, hkT, macTag_length]; omega
def expB (key info : List UInt8) (n : Nat) : List UInt8 := (hkO key info ((n + 31) / 32)).take n
theorem expB_length (key info : List UInt8) (n : Nat) : (expB key info n).length = n := by
  rw [expB, List.length_take, hkO_length]
  omega
theorem hkO_take (key info : List UInt8) (i j : Nat) (h : i ≤ j) : (hkO key info j).take (32 * i) = hkO key info i := by
  induction j with
  | zero => obtain rfl : i = 0 := by omega
            rfl
  | succ j ih =>
    by_cases hij : i = j + 1
    · subst hij
      rw [List.take_of_length_le (by rw [hkO_length]; omega)]
    · rw [hkO, List.take_append_of_le_length (by rw [hkO_length]; omega), ih (by omega)]
theorem expB_prefix (key info : List UInt8) (n m : Nat) (h : n ≤ m) : (expB key info m).take n = expB key info n := by
  rw [expB, expB, List.take_take, Nat.min_eq_left h]
  have h1 : (n + 31) / 32 ≤ (m + 31) / 32 := by omega
  rw [← hkO_take key info _ _ h1, List.take_take, Nat.min_eq_left (by omega)]
set_option maxRecDepth 100000 in
set_option maxHeartbeats 1000000 in
theorem extract_any (A B : Option Addr) (n c m d : Nat) (salt secret : List UInt8) (w : World) (hx : RdB w A n salt) (hc : n ≤ c) (hn : n ≤ 140737488355328) (hy : RdB w B m secret) (hd : m ≤ d) (hm : m ≤ 140737488355328) :
    Calls Tryz.prog 80 #[.slice A n c, .slice B m d] w fun e w' => e = .returned (.agg ((macTag salt secret).map W8).toArray) ∧ Later w w' := by
  have hyl := hy.len
  have hT := macTag_length salt secret
  have hs := fun B w h => tag_any A B n c 1 1 salt [secret] w h hc hn
  rw [flatten_one] at hs
  generalize macTag salt secret = T at *
  have HS := hid hs
  clear hs
  go_enter Tryz.func80, Tryz.ntmps80
  go_wp2_with (first
    | (go_at_call 88; refine (HS.out (some ⟨w.heap.size + 1, 0, none⟩) _ (hx.later ((later_alloc _ _).alloc _)) ?hp (by omega) (by omega)).mono ?_
       (case hp => exact parts_of ((Blk.new' _ 23 [.slice B m d] (by simp)).rd rfl) ⟨part_of (hy.later ((later_alloc _ _).alloc _)) hd, trivial⟩)
       rintro e w1 ⟨rfl, hl1⟩)
    | (refine wpList_store_agg rfl rfl 91 _ _ rfl w.heap.size 0 91 (List.replicate 32 (W8 0)) (T.map W8) ?b ?hx ?hy ?hi ?hf ?h1 ?_; (case hx => rfl); (case hy => rfl); (case hi => rw [List.length_map, hT]; kernel_rfl); (case hf => simp [hT]); (case h1 => exact w8_one _); (case b => exact ((Blk.new w _ _).later (later_alloc _ _)).later hl1); intro w6 hb6 ho6
       rw [spliced_all _ _ (by simp [hT])] at hb6))
  exact bodyPost_ret (results_blk rfl _ _ _ _ (T.map W8) _ hb6 rfl Tryz.underlying91 rfl (by rw [List.length_map, hT]; kernel_rfl)) rfl ⟨rfl, (((later_alloc w _).alloc _).trans hl1).only ho6 (Nat.le_refl _)⟩
set_option maxRecDepth 100000 in
set_option maxHeartbeats 1000000 in
theorem cjoin_any (A : Option Addr) (n c : Nat) (ps : List (List UInt8)) (w : World) (hx : Parts w (fun _ => False) A n ps) (hm : n ≤ 140737488355328) (hp : ps.flatten.length ≤ 140737488355328) :
    Calls Tryz.prog 32 #[.slice A n c] w fun e w' => ∃ A' c', e = .returned (.slice A' ps.flatten.length c') ∧ OwnB w' w.heap.size A' ps.flatten.length c' ps.flatten ∧ Later w w' := by
  have hpl := hx.len
  go_enter Tryz.func32, Tryz.ntmps32
  go_wp2
  go_loopw [3, 11] (fun tot i wr => ∃ k : Nat, k ≤ n ∧ i = .int .i64 k ∧ tot = .int .i64 ((ps.take k).flatten.length : Nat) ∧ Later w wr) (fun _ i _ => n - (intOf i).toNat)
  case atStart => exact ⟨0, by omega, rfl, rfl, Later.refl w⟩
  case round =>
    obtain ⟨k, hk, rfl, rfl, hl⟩ := hrel
    by_cases hlt : k < n
    · obtain ⟨b, o, Ak, nk, ck, rfl, hb, hck, hcap, hrd, _⟩ := (hx.later hl).at_ hlt
      have hle := flatten_take_le ps (k + 1)
      have hql := hrd.len
      have hs' : (ps.take (k + 1)).flatten = (ps.take k).flatten ++ ps.getD k [] := by rw [take_succ_getD ps k (by omega)]; simp
      have hll : (ps.take (k + 1)).flatten.length = (ps.take k).flatten.length + nk := by rw [hs', List.length_append, hql]
      have HL := hid hll
      rw [hll] at hle
      clear hs' hll
      generalize (ps.take k).flatten.length = fl at *
      generalize ps.getD k [] = q at *
      go_wp2
      refine ⟨⟨k + 1, by omega, by go_num, by rw [HL.out]; go_num, hl⟩, by simp only [intOf]; omega⟩
    · have hkn : k = n := by omega
      subst hkn
      have hfe : (ps.take k).flatten.length = ps.flatten.length := by rw [List.take_of_length_le (by omega)]
      rw [hfe]
      have HF := hid hfe
      clear hfe
      generalize hFl : ps.flatten.length = fl at *
      go_wp2_with (first
        | (refine wpList_make_cap rfl _ _ _ rfl 5 _ 1 Tryz.underlying23 info8 rfl _ _ _ _ 0 fl rfl rfl ?hL ?hC (by omega) (by omega) (by omega) ?_; (case hL => rfl); (case hC => rfl); intro w1 hown1 hl1))
      go_loopw [6, 24] (fun out i w2 => ∃ (j : Nat) (A' : Option Addr) (m c' : Nat), j ≤ k ∧ i = .int .i64 j ∧ out = .slice A' m c' ∧ OwnB w2 w.heap.size A' m c' (ps.take j).flatten ∧ Later w w2) (fun _ i _ => k - (intOf i).toNat)
      case atStart => exact ⟨0, _, _, _, by omega, rfl, rfl, own_mono hown1 hl.size, hl.trans hl1⟩
      case round =>
        clear hown1 hl1
        obtain ⟨j, A', m, c', hj, rfl, rfl, hown, hl2⟩ := hrel
        by_cases hlt2 : j < k
        · obtain ⟨b, o, Ak, nk, ck, rfl, hb, hck, hcap, hrd, _⟩ := (hx.later hl2).at_ hlt2
          have hml := hown.len
          have hle := flatten_take_le ps (j + 1)
          have hlen := hrd.len
          have hs' : (ps.take (j + 1)).flatten = (ps.take j).flatten ++ ps.getD j [] := by rw [take_succ_getD ps j (by omega)]; simp
          rw [hs', List.length_append] at hle
          have HS := hid hs'
          clear hs'
          generalize ps.getD j [] = q at *
          generalize (ps.take j).flatten = F at *
          go_wp2_with (first
            | (refine wpList_append_rd rfl _ _ _ rfl 5 _ 1 Tryz.underlying23 info8 rfl w _ m _ hown hl2 Ak nk ck _ hrd (w8_one _) rfl rfl (by omega) (by omega) ?_; intro A2 c2 w2' hown2 hl2' hg2 _))
          refine ⟨⟨j + 1, A2, m + nk, c2, by omega, by go_num, rfl, ?_, hl2'⟩, by simp only [intOf]; omega⟩
          rw [HS.out]
          exact own_cut hown2 rfl rfl
        · have hjk : j = k := by omega
          rw [hjk, List.take_of_length_le (by omega)] at hown
          have hml := hown.len
          rw [hFl] at hml
          subst hml
          go_wp2
          go_ret
          exact ⟨_, _, by rw [hFl]; rfl, by rw [hFl]; exact hown, hl2⟩
end Go.Proofs.YtkibgdigcgakfabGreat
namespace Go.Proofs.YtkibgdigcgakfabGreat
open Go.RowKit

/-- A slice into the front of a block of the call's own that holds nothing else that counts. -/
def Front (w : World) (base : Nat) (A : Option Addr) (n : Nat) (bs : List UInt8) : Prop :=
  bs.length = n ∧ ((A = none ∧ n = 0) ∨ ∃ g rest, A = some ⟨g, 0, none⟩ ∧ base ≤ g ∧ Blk w g 5 (bs.map W8 ++ rest))
theorem Front.rd {w : World} {base : Nat} {A : Option Addr} {n : Nat} {bs : List UInt8} (h : Front w base A n bs) : RdB w A n bs := by
  obtain ⟨h1, h2⟩ := h
  rcases h2 with ⟨rfl, rfl⟩ | ⟨g, rest, rfl, _, hb⟩
  · obtain rfl : bs = [] := List.eq_nil_of_length_eq_zero h1
    exact rdb_none w
  · exact rd_pre' hb (by simpa using h1)
theorem Front.later {w w' : World} {base : Nat} {A : Option Addr} {n : Nat} {bs : List UInt8} (h : Front w base A n bs) (hl : Later w w') : Front w' base A n bs := by
  obtain ⟨h1, h2⟩ := h
  exact ⟨h1, h2.imp id fun ⟨g, rest, e, hb, hk⟩ => ⟨g, rest, e, hb, hk.later hl⟩⟩
theorem front_own {w : World} {base : Nat} {A : Option Addr} {n c m : Nat} {bs : List UInt8} (h : OwnB w base A n c bs) (hm : m ≤ n) : Front w base A m (bs.take m) := by
  have hl := h.len
  refine ⟨by rw [List.length_take]; omega, ?_⟩
  rcases own_blk h with ⟨rfl, rfl⟩ | ⟨g, rest, rfl, hb, hk, _⟩
  · exact .inl ⟨rfl, by omega⟩
  · refine .inr ⟨g, (bs.drop m).map W8 ++ rest, rfl, hb, ?_⟩
    rw [← List.append_assoc, ← List.map_append, List.take_append_drop]
    exact hk
theorem ne_arr : (91 : TypeId) ≠ 5 := by decide
/-- The last piece: none, or in an array of its own. -/
def LastAt (w : World) (v : Value) (k : Nat) (T : List UInt8) : Prop :=
  (k = 0 ∧ v = .slice none 0 0 ∧ T = []) ∨ ∃ g, 0 < k ∧ v = .slice (some ⟨g, 0, none⟩) 32 32 ∧ T.length = 32 ∧ Blk w g 91 (T.map W8)
theorem LastAt.rd {w : World} {v : Value} {k : Nat} {T : List UInt8} (h : LastAt w v k T) : ∃ A n c, v = .slice A n c ∧ n ≤ c ∧ RdB w A n T := by
  rcases h with ⟨_, rfl, rfl⟩ | ⟨g, _, rfl, hl, hb⟩
  · exact ⟨none, 0, 0, rfl, Nat.le_refl _, rdb_none w⟩
  · exact ⟨_, 32, 32, rfl, Nat.le_refl _, hb.rd (by simpa using hl)⟩
theorem three_flat (a b c : List UInt8) : [a, b, c].flatten = a ++ b ++ c := by simp
set_option maxRecDepth 100000 in
set_option maxHeartbeats 2000000 in
theorem expand_ok (A B : Option Addr) (n c m d : Nat) (N : Nat) (key : List UInt8) (ps : List (List UInt8)) (w : World) (hx : RdB w A n key) (hc : n ≤ c) (hn : n ≤ 140737488355328) (hp : Parts w (fun _ => False) B m ps) (hm : m ≤ 140737488355328) (hlen : ps.flatten.length ≤ 70368744177664) (hN : N ≤ 8160) :
    Calls Tryz.prog 81 #[.slice A n c, .int .i64 N, .slice B m d] w fun e w' => ∃ A', e = .returned (.tuple #[.slice A' N N, .int .i64 0]) ∧ Front w' w.heap.size A' N (expB key ps.flatten N) ∧ Later w w' := by
  have hj := hid (cjoin_any B m d ps w hp hm (by omega))
  generalize ps.flatten = F at *
  generalize hFl : F.length = fl at *
  go_enter Tryz.func81, Tryz.ntmps81
  go_wp2_with (first
    | (go_at_call 32; refine hj.out.mono ?_; rintro e w1 ⟨A1, c1, rfl, hown1, hl1⟩)
    | (refine wpList_make_cap rfl _ _ _ rfl 5 _ 1 Tryz.underlying23 info8 rfl _ _ _ _ 0 (N + 32) rfl rfl ?hL ?hC (by omega) (by omega) (by omega) ?_; (case hL => rfl); (case hC => go_num); intro w2 hown2 hl2))
  have hown2' : OwnB w2 w1.heap.size (some ⟨w1.heap.size, 0, none⟩) 0 (N + 32) [] := hown2
  have hlt1 := own_below hown1
  have hcap1 := hown1.cap
  go_loopw [9, 10, 11] (fun out last i wr => ∃ (k : Nat) (A9 : Option Addr) (c9 : Nat), i = .int .i64 ((k : Int) + 1) ∧ (k = 0 ∨ 32 * (k - 1) < N) ∧ out = .slice A9 (32 * k) c9 ∧ LastAt wr last k (hkT key F k) ∧ OwnB wr w1.heap.size A9 (32 * k) c9 (hkO key F k) ∧ Later w1 wr) (fun _ _ i _ => 8200 - 32 * (intOf i).toNat)
  case atStart => exact ⟨0, _, _, rfl, .inl rfl, rfl, .inl ⟨rfl, rfl, rfl⟩, hown2', hl2⟩
  case round =>
    clear hown2 hown2' hl2
    obtain ⟨k, A9, c9, rfl, hkN, rfl, hlast, hown, hl⟩ := hrel
    have hcap9 := hown.cap
    by_cases hlt : 32 * k < N
    · obtain ⟨A10, l10, c10, rfl, hc10, hr10⟩ := hlast.rd
      have hkl := hkT_length key F k
      have hl10 := hr10.len
      have hT : (hkT key F (k + 1)).length = 32 := by rw [hkT, macTag_length]
      have ht := fun B w h1 h2 => tag_any A B n c 3 3 key [hkT key F k, F, [UInt8.ofInt (k : Int) + 1]] w h1 hc hn h2
      have he : macTag key [hkT key F k, F, [UInt8.ofInt (k : Int) + 1]].flatten = hkT key F (k + 1) := by rw [three_flat, hkT]
      rw [he, three_flat] at ht
      have hfl : (hkT key F k ++ F ++ [UInt8.ofInt (k : Int) + 1]).length ≤ 70368744177700 := by simp; omega
      have ho' : hkO key F (k + 1) = hkO key F k ++ hkT key F (k + 1) := rfl
      have HT := hid ht
      have HO := hid ho'
      clear ht he ho'
      generalize hT1 : hkT key F (k + 1) = T at *
      generalize hkT key F k = Tk at *
      generalize hkO key F k = O at *
      have HT1 := hid hT1
      clear hT1
      have hltN : ((32 * k : Nat) : Int) < (N : Int) := by omega
      go_wp2_with (first
        | (go_at_call 88; refine (HT.out (some ⟨wr.heap.size + 1, 0, none⟩) _ (hx.later ((hl1.trans hl).trans ((later_alloc _ _).alloc _))) ?hp (by omega) (by omega)).mono ?_
           (case hp => exact parts_of ((Blk.new' _ 23 [.slice A10 l10 c10, .slice A1 fl c1, .slice (some ⟨wr.heap.size, 0, none⟩) 1 1] (by simp)).rd rfl) ⟨part_of (hr10.later ((later_alloc _ _).alloc _)) hc10, part_of ((hown1.later hl).later ((later_alloc _ _).alloc _)).rd hcap1, part_of (((Blk.new wr 5 [W8 (UInt8.ofInt (k : Int) + 1)]).later (later_alloc _ _)).rd rfl) (by omega), trivial⟩)
           rintro e w3 ⟨rfl, hl3⟩)
        | (refine wpList_store_agg rfl rfl 91 _ _ rfl w3.heap.size 0 91 (List.replicate 32 (W8 0)) (T.map W8) ?bk ?hx ?hy ?hi ?hf ?h1 ?_; (case hx => rfl); (case hy => rfl); (case hi => rw [List.length_map, hT]; kernel_rfl); (case hf => simp [hT]); (case h1 => exact w8_one _); (case bk => exact Blk.new _ _ _); intro w4 hb4 ho4
           rw [spliced_all _ _ (by simp [hT])] at hb4
           have L3 := ((later_alloc wr _).alloc _).trans hl3
           have hown4 := own_only (own_later (own_later hown L3) (later_alloc _ _)) ho4 (fun b hb => by have := own_below hown b hb; have := L3.size; omega)
           have hl4 := ((hl.trans L3).alloc _).only ho4 (by have := (hl.trans L3).size; omega))
        | (refine wpList_append_rd rfl _ _ _ rfl 5 _ 1 Tryz.underlying23 info8 rfl w1 _ (32 * k) _ hown4 hl4 (some ⟨w3.heap.size, 0, none⟩) 32 32 _ (hb4.rd (by simp [hT])) (w8_one _) rfl rfl (by omega) (by omega) ?_; intro A5 c5 w5 hown5 hl5 hg5 _
           have hb5 := blk_grown hb4 hown4 ne_arr hg5
           have hown5' := own_cut hown5 rfl (show 32 * k + 32 = 32 * (k + 1) by omega)))
      refine ⟨⟨k + 1, A5, c5, by go_num, .inr (by omega), by rw [show 32 * k + 32 = 32 * (k + 1) by omega], ?_, ?_, hl5⟩, by simp only [intOf]; omega⟩
      · exact .inr ⟨w3.heap.size, by omega, rfl, by rw [HT1.out]; exact hT, by rw [HT1.out]; exact hb5⟩
      · rw [HO.out]
        exact hown5'
    · have hk : k = (N + 31) / 32 := by omega
      have hltN : ¬ ((32 * k : Nat) : Int) < (N : Int) := by omega
      have hNc : N ≤ c9 := by omega
      go_wp2
      go_ret2
      refine ⟨A9, rfl, ?_, hl1.trans hl⟩
      rw [expB, ← hk]
      have := front_own hown (m := N) (by omega)
      exact ⟨this.1, this.2.imp id fun ⟨g, rest, e, hb, hk⟩ => ⟨g, rest, e, Nat.le_trans hl1.size hb, hk⟩⟩
theorem expand_bad (A B : Option Addr) (n c m d : Nat) (N : Int) (w : World) (hN : N < 0 ∨ 8160 < N) :
    Calls Tryz.prog 81 #[.slice A n c, .int .i64 N, .slice B m d] w fun e w' => e = .returned (.tuple #[.slice none 0 0, .int .i64 1]) ∧ w' = w := by
  by_cases h0 : N < 0
  · go_enter Tryz.func81, Tryz.ntmps81
    go_wp2
    go_ret2
    exact ⟨rfl, rfl⟩
  · have h1 : 8160 < N := by omega
    go_enter Tryz.func81, Tryz.ntmps81
    go_wp2
    go_ret2
    exact ⟨rfl, rfl⟩
end Go.Proofs.YtkibgdigcgakfabGreat
namespace Go.Proofs.YtkibgdigcgakfabGreat
open Go.RowKit

/-- An elder row grows, a younger one stays. -/
theorem own_younger {w w' : World} {b1 B : Nat} {e1 : TypeId} {v1 v2 : Value} {n1 : Nat} {x1 : List Value} (h1 : w.ownsRow b1 e1 1 v1 n1 x1) (hB : B ≤ b1) (h2 : ∀ b, v2.ownBlock = some b → b < B)
    (hg : w.grownBy w' v2.ownBlock) : w'.ownsRow b1 e1 1 v1 n1 x1 := by
  refine h1.kept hg ?_
  cases hb : v1.ownBlock with
  | none => exact .inl rfl
  | some b =>
    refine .inr fun he => ?_
    have := h2 b he.symm
    have := (h1.lt b hb).1
    omega
end Go.Proofs.YtkibgdigcgakfabGreat
namespace Go.Proofs.YtkibgdigcgakfabGreat
open Go.RowKit

theorem expand_is (A B : Option Addr) (n c m d : Nat) (I : Int) (N : Nat) (hI : I = (N : Int)) (key : List UInt8) (ps : List (List UInt8)) (w : World) (hx : RdB w A n key) (hc : n ≤ c) (hn : n ≤ 140737488355328) (hp : Parts w (fun _ => False) B m ps) (hm : m ≤ 140737488355328) (hlen : ps.flatten.length ≤ 70368744177664) (hN : N ≤ 8160) :
    Calls Tryz.prog 81 #[.slice A n c, .int .i64 I, .slice B m d] w fun e w' => ∃ A', e = .returned (.tuple #[.slice A' N N, .int .i64 0]) ∧ Front w' w.heap.size A' N (expB key ps.flatten N) ∧ Later w w' := by
  subst hI
  exact expand_ok A B n c m d N key ps w hx hc hn hp hm hlen hN
end Go.Proofs.YtkibgdigcgakfabGreat
namespace Go.Proofs.YtkibgdigcgakfabGreat
open Go.RowKit

theorem infoS : (Tryz.prog.info? 9).map (fun i => (i.zero, i.size, i.bytes)) = some (some (.string .empty), 1, 16) := by kernel_rfl
theorem infoA32 : (Tryz.prog.info? 91).map (fun i => (i.zero, i.size, i.bytes)) = some (some (.agg (List.replicate 32 (W8 0)).toArray), 32, 32) := by kernel_rfl
theorem made_rep (m n : Nat) (v : Value) (hm : 0 < m) : madeCells (List.replicate m v).toArray n = (List.replicate n v).toArray := by
  apply Array.ext
  · simp [madeCells]
  · intro i h1 h2
    simp only [madeCells, Array.getElem_map, Array.getElem_range, List.getElem_toArray, List.getElem_replicate, List.size_toArray, List.length_replicate]
    have : i % m < m := Nat.mod_lt _ hm
    simp [this]
section
variable {P : Program} {ops : Array Oper} {rest : List Oper} {o : Oper} {a : Act} {w : World} {Q : Exit → Act → World → Prop}
/-- 'make([]T, n)', T of several cells alike. -/
theorem wpList_make_rep (hgd : o.guard = none) (l c : Operand) (t : TypeId) (ho : o.op = Op.makeSlice t l c) (e : TypeId) (v : Value) (m bytes : Nat) (ht : P.underlying t = some (.slice e))
    (hinfo : (P.info? e).map (fun i => (i.zero, i.size, i.bytes)) = some (some (.agg (List.replicate m v).toArray), m, bytes)) (hm : 0 < m) (kl kc : IntKind) (L C : Int) (n : Nat) (hl : a.eval l = .int kl L) (hc : a.eval c = .int kc C) (hL : L = (n : Int)) (hC : C = (n : Int))
    (hby : 0 < bytes) (hsz : n * bytes ≤ 140737488355328) (h : ∀ w', Blk w' w.heap.size e (List.replicate (n * m) v) → Later w w' → wpList P ops Q rest (a.put o.dst (.slice (some ⟨w.heap.size, 0, none⟩) n n)) w') :
    wpList P ops Q (o :: rest) a w := by
  cases hq : P.info? e with
  | none => simp [hq] at hinfo
  | some i =>
    simp only [hq, Option.map_some, Option.some.injEq, Prod.mk.injEq] at hinfo
    obtain ⟨hz, hsize, hbytes⟩ := hinfo
    have hn : n ≤ 140737488355328 := Nat.le_trans (Nat.le_mul_of_pos_right _ hby) hsz
    refine wpList_plain hgd fun K hK => ?_
    have hb : ((i.bytes : Int) * (n : Int)) ≤ 281474976710656 := by
      rw [hbytes, ← Int.natCast_mul, Nat.mul_comm]
      omega
    have hr := run_make (P := P) w t e i _ ht hq hz kl kc n n (by omega) (Int.le_refl _) hb (by omega)
    have hcells : (Value.agg (List.replicate m v).toArray).cells = (List.replicate m v).toArray := rfl
    simp only [Int.toNat_natCast, hsize, hcells, made_rep m _ v hm] at hr
    subst hL
    subst hC
    unfold Oper.wp
    simp only [execOp, ho, hl, hc, Sem.run_bind, hr, Result.andThen_ok, Sem.run_pure]
    exact hK _ _ (h _ (Blk.new w e _) (later_alloc _ _))
end
def shallotB : List UInt8 := [115, 104, 97, 108, 108, 111, 116]
def derB (secret : List UInt8) (s : ByteArray) : List UInt8 := expB (macTag shallotB secret) (strB s) 32
theorem derB_length (secret : List UInt8) (s : ByteArray) : (derB secret s).length = 32 := expB_length _ _ _
/-- Strings in a slice. -/
def Strs (w : World) (A : Option Addr) (n : Nat) (ss : List ByteArray) : Prop := Rd w A n (ss.map Value.string)
theorem Strs.at_ {w : World} {A : Option Addr} {n : Nat} {ss : List ByteArray} (h : Strs w A n ss) {k : Nat} (hk : k < n) :
    ∃ b o, A = some ⟨b, o, none⟩ ∧ b < w.heap.size ∧ w.cell? ⟨b, o + k, none⟩ = some (.string (ss.getD k .empty)) := by
  have hl : ss.length = n := by simpa using h.1
  obtain ⟨b, o, rfl, hb, hc⟩ := h.2 (by omega)
  refine ⟨b, o, rfl, hb, hc k _ ?_⟩
  rw [List.getElem?_map, List.getD_eq_getElem?_getD, List.getElem?_eq_getElem (by omega)]
  rfl
theorem Strs.later {w w' : World} {A : Option Addr} {n : Nat} {ss : List ByteArray} (h : Strs w A n ss) (hl : Later w w') : Strs w' A n ss := Rd.later h hl
/-- The keys of the first k labels, noughts behind. -/
def keysAt (secret : List UInt8) (ss : List ByteArray) (k : Nat) : List UInt8 := ((ss.take k).map (derB secret)).flatten ++ List.replicate (32 * (ss.length - k)) 0
theorem keysAt_front (secret : List UInt8) (ss : List ByteArray) (k : Nat) (h : k ≤ ss.length) : ((ss.take k).map (derB secret)).flatten.length = 32 * k := by
  induction k with
  | zero => simp
  | succ k ih =>
    rw [List.take_succ_eq_append_getElem (by omega), List.map_append, List.flatten_append, List.length_append, ih (by omega)]
    simp [derB_length]
    omega
theorem keysAt_length (secret : List UInt8) (ss : List ByteArray) (k : Nat) (h : k ≤ ss.length) : (keysAt secret ss k).length = 32 * ss.length := by
  rw [keysAt, List.length_append, keysAt_front _ _ _ h, List.length_replicate]
  omega
theorem keysAt_step (secret : List UInt8) (ss : List ByteArray) (k : Nat) (h : k < ss.length) : spliced ((keysAt secret ss k).map W8) (32 * k) (((derB secret (ss.getD k .empty)).map W8).take 32) = (keysAt secret ss (k + 1)).map W8 := by
  have h1 := keysAt_front secret ss k (by omega)
  have h2 := derB_length secret (ss.getD k .empty)
  have hs : ss.getD k .empty = ss[k] := by rw [List.getD_eq_getElem?_getD, List.getElem?_eq_getElem h]; rfl
  rw [List.take_of_length_le (by rw [List.length_map, h2]; omega), spliced, keysAt, List.map_append, List.take_append_of_le_length (by rw [List.length_map, h1]; omega), List.take_of_length_le (by rw [List.length_map, h1]; omega),
    List.drop_append, List.drop_of_length_le (by rw [List.length_map, h1, List.length_map, h2]; omega), List.nil_append, keysAt, List.take_succ_eq_append_getElem h, hs]
  simp only [List.map_append, List.flatten_append, List.map_cons, List.map_nil, List.flatten_cons, List.flatten_nil, List.append_nil, List.append_assoc, List.map_replicate, List.drop_replicate, List.length_map]
  rw [← hs, h2, h1, show 32 * (ss.length - k) - (32 * k + 32 - 32 * k) = 32 * (ss.length - (k + 1)) by omega]
end Go.Proofs.YtkibgdigcgakfabGreat
namespace Go.Proofs.YtkibgdigcgakfabGreat
open Go.RowKit

set_option maxRecDepth 100000 in
theorem derive_none (A B : Option Addr) (n c d : Nat) (w : World) :
    Calls Tryz.prog 68 #[.slice A n c, .slice B 0 d] w fun e w' => e = .returned (.slice none 0 0) ∧ w' = w := by
  go_enter Tryz.func68, Tryz.ntmps68
  go_wp2
  go_ret
  exact ⟨rfl, rfl⟩
set_option maxRecDepth 100000 in
set_option maxHeartbeats 2000000 in
theorem derive_any (A B : Option Addr) (n c m d : Nat) (secret : List UInt8) (ss : List ByteArray) (w : World) (hx : RdB w A n secret) (hc : n ≤ c) (hn : n ≤ 35184372088832) (hb : Strs w B m ss) (hm0 : 0 < m) (hm : m ≤ 1048576) (hs : ∀ s ∈ ss, s.size ≤ 1048576) :
    Calls Tryz.prog 68 #[.slice A n c, .slice B m d] w fun e w' => ∃ g, e = .returned (.slice (some ⟨g, 0, none⟩) m m) ∧ w.heap.size ≤ g ∧ Blk w' g 91 ((keysAt secret ss m).map W8) ∧ Later w w' := by
  have hml : ss.length = m := by simpa using hb.1
  have hT := macTag_length shallotB secret
  have ht := fun B w h1 h2 => extract_any B A 7 7 n c shallotB secret w h1 (by omega) (by omega) h2 hc (by omega)
  have he := fun A B w (s : ByteArray) h1 h2 (h3 : s.size ≤ 1048576) => expand_is A B 32 32 1 1 32 32 rfl (macTag shallotB secret) [strB s] w h1 (by omega) (by omega) h2 (by omega) (by rw [flatten_one, strB_length]; omega) (by omega)
  have hd : ∀ s, expB (macTag shallotB secret) [strB s].flatten 32 = derB secret s := fun s => by rw [flatten_one]; rfl
  simp only [hd] at he
  generalize macTag shallotB secret = T at *
  have HT := hid ht
  have HE := hid he
  have HS := hid hs
  clear ht he hd hs
  go_enter Tryz.func68, Tryz.ntmps68
  go_wp2_with (first
    | (refine wpList_convert_lit rfl _ _ rfl 5 Tryz.underlying23 Tryz.underlying5 w (shallotB.map W8) rfl w.heap.size 7 7 rfl rfl ?_; intro w1 hl1 hr1 hz1)
    | (go_at_call 80; refine (HT.out _ _ hr1 (hx.later hl1)).mono ?_; rintro e w2 ⟨rfl, hl2⟩)
    | (refine wpList_store_agg rfl rfl 91 _ _ rfl w2.heap.size 0 91 (List.replicate 32 (W8 0)) (T.map W8) ?bk ?hx ?hy ?hi ?hf ?h1 ?_; (case hx => rfl); (case hy => rfl); (case hi => rw [List.length_map, hT]; kernel_rfl); (case hf => simp [hT]); (case h1 => exact w8_one _); (case bk => exact Blk.new _ _ _); intro w3 hb3 ho3; rw [spliced_all _ _ (by simp [hT])] at hb3)
    | (refine wpList_make_rep rfl _ _ _ rfl 91 (W8 0) 32 32 Tryz.underlying166 infoA32 (by omega) _ _ _ _ m rfl rfl ?hL ?hC (by omega) (by omega) ?_; (case hL => rfl); (case hC => rfl); intro w4 hb4 hl4))
  have L2 := hl1.trans hl2
  have L3 : Later w w3 := (L2.alloc _).only ho3 L2.size
  have hk4 := hb3.later hl4
  have L4 := L3.trans hl4
  have hk0 : (keysAt secret ss 0).map W8 = List.replicate (m * 32) (W8 0) := by rw [keysAt]; simp only [List.take_zero, List.map_nil, List.flatten_nil, List.nil_append, Nat.sub_zero, List.map_replicate, hml, Nat.mul_comm]
  rw [← hk0] at hb4
  have z2 := L2.size
  have z3 := hb3.lt
  have hgk : w2.heap.size ≠ w3.heap.size := by omega
  have hg3 := L3.size
  clear hk0 hl1 hl2 hl4 hb3 ho3 L2 L3 hr1 hz1
  generalize w2.heap.size = gk at *
  generalize w3.heap.size = go at *
  go_loopw [23] (fun i wr => ∃ k : Nat, k ≤ m ∧ i = .int .i64 k ∧ Blk wr gk 91 (T.map W8) ∧ Blk wr go 91 ((keysAt secret ss k).map W8) ∧ Later w wr) (fun i _ => m - (intOf i).toNat)
  case atStart => exact ⟨0, by omega, rfl, hk4, hb4, L4⟩
  case round =>
    clear hk4 hb4 L4
    obtain ⟨k, hk, rfl, hK, hO, hl⟩ := hrel
    by_cases hlt : k < m
    · obtain ⟨b, o, rfl, hbb, hck⟩ := (hb.later hl).at_ hlt
      have hsz := HS.out (ss.getD k .empty) (by rw [List.getD_eq_getElem?_getD, List.getElem?_eq_getElem (by omega)]; exact List.getElem_mem _)
      have hkl := keysAt_length secret ss k (by omega)
      have hst := hid (keysAt_step secret ss k (by omega))
      have hdl := derB_length secret (ss.getD k .empty)
      have hsl := strB_length (ss.getD k .empty)
      generalize ss.getD k .empty = s at *
      have hE := hid (fun A B w h1 h2 => HE.out A B w s h1 h2 hsz)
      generalize derB secret s = D at *
      go_wp2_with (first
        | (refine wpList_convert_str rfl _ _ _ rfl 5 Tryz.underlying9 Tryz.underlying23 Tryz.underlying5 s rfl ?_; intro c1 w1 hl1 hr1 hc1 hz1)
        | (go_at_call 81; refine (hE.out (some ⟨gk, 0, none⟩) (some ⟨w1.heap.size, 0, none⟩) _ ((hK.later (hl1.alloc _)).rd (by simp [hT])) (parts_of ((Blk.new w1 23 [.slice (some ⟨wr.heap.size, 0, none⟩) s.size c1]).rd rfl) ⟨part_of (hr1.later (later_alloc _ _)) hc1, trivial⟩)).mono ?_; rintro e w2 ⟨A2, rfl, hfr2, hl2⟩; have L2 := (hl1.alloc (.cells #[.slice (some ⟨wr.heap.size, 0, none⟩) s.size c1] 23)).trans hl2)
        | (refine wpList_copy_rd rfl _ _ _ _ rfl 5 Tryz.underlying23 size8 go (k * 32) 32 32 91 ((keysAt secret ss k).map W8) (hO.later L2) A2 32 32 (D.map W8) hfr2.rd (w8_one _) rfl rfl (by rw [List.length_map, hkl, hml]; omega) ?_; intro w6 hb6 ho6; rw [Nat.mul_comm k 32, hst.out] at hb6))
      refine ⟨⟨k + 1, by omega, by go_num, (hK.later L2).only ho6 hgk, hb6, (hl.trans L2).only ho6 hg3⟩, by simp only [intOf]; omega⟩
    · have hkm : k = m := by omega
      rw [hkm] at hO
      go_wp2
      go_ret
      exact ⟨go, rfl, hg3, hO, hl⟩
end Go.Proofs.YtkibgdigcgakfabGreat
