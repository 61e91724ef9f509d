/-
  mac: block, masked, the tagger, Tag, Short, Check; codec.Looks, Same, Join.
  mac: block, masked, first; the tagger.
  mac: first, the tagger, Tag, Short, Check.
  mac: Tag, first, Short, Check, Fits, Extract.
  shallotref03: block, Inside, Tag, Short.
  shallotref03: Inside, Tag, Short.
-/
import Derived.Test.YtallecbmnpcepaaShaL
import Derived.Test.YtallecbmnpcepaaBuilt
namespace Go.Proofs.Ytallecbmnpcepaa
open Go.RowKit

def keyOr (key : List UInt8) : List UInt8 := if 64 < key.length then shaSum key else key
def macKey (key : List UInt8) : List UInt8 := keyOr key ++ List.replicate (64 - (keyOr key).length) 0
theorem keyOr_length (key : List UInt8) : (keyOr key).length ≤ 64 := by
  unfold keyOr
  split
  · rw [shaSum_length]; omega
  · omega
theorem macKey_length (key : List UInt8) : (macKey key).length = 64 := by
  have := keyOr_length key
  simp [macKey]
  omega
def maskB (k : List UInt8) (m : UInt8) : List UInt8 := k.map (· ^^^ m)
theorem maskB_length (k : List UInt8) (m : UInt8) : (maskB k m).length = k.length := by simp [maskB]
def macIn (key bs : List UInt8) : List UInt8 := shaSum (maskB (macKey key) 54 ++ bs)
def macTag (key bs : List UInt8) : List UInt8 := shaSum (maskB (macKey key) 92 ++ macIn key bs)
theorem macTag_length (key bs : List UInt8) : (macTag key bs).length = 32 := shaSum_length _

end Go.Proofs.Ytallecbmnpcepaa
namespace Go.Proofs.Ytallecbmnpcepaa
open Go.RowKit

theorem arr64_sl (b o : Nat) (W : World) : (Instr.sliceAt 120 (.pointer (some ⟨b, o, none⟩)) none none none).run Try.prog W = .ok (.slice (some ⟨b, o, none⟩) 64 64) W := arr64_all b o W
theorem splice_pad (l : List UInt8) (h : l.length ≤ 64) : spliced (List.replicate 64 (W8 0)) 0 ((l.map W8).take 64) = (l ++ List.replicate (64 - l.length) 0).map W8 := by
  rw [List.take_of_length_le (by simpa using h), spliced]
  simp only [List.take_zero, List.nil_append, List.length_map, Nat.zero_add, List.drop_replicate, List.map_append, List.map_replicate]
set_option maxRecDepth 100000 in
set_option maxHeartbeats 1000000 in
theorem block_any (A : Option Addr) (n c : Nat) (key : List UInt8) (w : World) (hx : RdB w A n key) (hc : n ≤ c) (hn : n ≤ 140737488355328) :
    Calls Try.prog 83 #[.slice A n c] w fun e w' => e = .returned (.agg ((macKey key).map W8).toArray) ∧ Later w w' := by
  have hl := hx.len
  have hkl := macKey_length key
  by_cases h64 : 64 < n
  · have hk : macKey key = shaSum key ++ List.replicate (64 - (shaSum key).length) 0 := by rw [macKey, keyOr, if_pos (by omega)]
    have hG := shaSum_length key
    have hs := fun A n c w hx => ssum_any A n c [key] w hx
    rw [flatten_one] at hs
    generalize shaSum key = G at *
    generalize macKey key = K at *
    have HS := hid hs
    have HK := hid hk
    clear hs hk
    go_enter Try.func83, Try.ntmps83
    go_wp2_with (first
      | (go_at_call 87; refine (HS.out (some ⟨w.heap.size + 2, 0, none⟩) 1 1 _ ?hx (by omega) (by omega)).mono ?_
         (case hx => exact parts_of ((Blk.new' _ 33 [.slice A n c] (by simp)).rd rfl) ⟨part_of (hx.later (((later_alloc _ _).alloc _).alloc _)) hc, trivial⟩)
         rintro e w1 ⟨rfl, hl1⟩)
      | (refine wpList_store_agg rfl rfl 43 _ _ rfl w1.heap.size 0 43 (List.replicate 32 (W8 0)) (G.map W8) ?b ?hx ?hy ?hi ?hf ?h1 ?_; (case hx => rfl); (case hy => rfl); (case hi => rw [List.length_map, hG]; kernel_rfl); (case hf => simp [hG]); (case h1 => exact w8_one _); (case b => exact Blk.new _ _ _); intro w2 hb2 ho2
         rw [spliced_all _ _ (by simp [hG])] at hb2))
    have z1 : w.heap.size + 3 ≤ w1.heap.size := by have := hl1.size; simp at this; omega
    have hB2 : Blk w2 w.heap.size 120 (List.replicate 64 (W8 0)) := (((Blk.new w _ _).later (((later_alloc _ _).alloc _).trans hl1)).later (later_alloc _ _)).only ho2 (by omega)
    have hB3 : Blk w2 (w.heap.size + 1) 120 (List.replicate 64 (W8 0)) := (((Blk.new' _ _ (List.replicate 64 (W8 0)) (by simp)).later ((later_alloc _ _).trans hl1)).later (later_alloc _ _)).only ho2 (by omega)
    have hL2 : Later w w2 := (((((later_alloc w _).alloc _).alloc _).trans hl1).alloc _).only ho2 (by omega)
    refine wp_region_parts [] [0, 1] [2] (by as_aux_lemma => kernel_rfl) (by as_aux_lemma => kernel_rfl) (by intro _ _ d _ _ h; cases d <;> exact h) ?_
    simp only [wpParts, pick, List.getElem?_cons_succ, List.getElem?_cons_zero, Option.toList_some, List.cons_append, List.nil_append]
    repeat (go_big_quiet_step (fail))
    refine wpQuiet_nil ?_
    go_wp2_with (first
      | (refine wpList_copy_rd rfl _ _ _ _ rfl 5 Try.underlying33 size8 (w.heap.size + 1) 0 64 64 120 (List.replicate 64 (W8 0)) (hB3.later (later_drew _)) (some ⟨w1.heap.size, 0, none⟩) 32 32 (G.map W8) ((hb2.later (later_drew _)).rd (by simp [hG])) (w8_one _) rfl rfl (by simp) ?_; intro w4 hb4 ho4
         rw [splice_pad G (by omega), ← HK.out] at hb4
         have hB4 := (hB2.later (later_drew _)).only ho4 (by omega)
         have hL4 := (hL2.drew).only ho4 (by omega))
      | (refine wpList_load_agg rfl 120 _ rfl (w.heap.size + 1) 0 (K.map W8) ?hc ?hx _ Try.underlying120 rfl ?hi ?_; (case hx => rfl); (case hi => rw [List.length_map, hkl]; kernel_rfl); (case hc => intro j v hv; rw [Nat.zero_add]; exact hb4.cellD j hv))
      | (refine wpList_store_agg rfl rfl 120 _ _ rfl w.heap.size 0 120 (List.replicate 64 (W8 0)) (K.map W8) ?b ?hx ?hy ?hi ?hf ?h1 ?_; (case hx => rfl); (case hy => rfl); (case hi => rw [List.length_map, hkl]; kernel_rfl); (case hf => simp [hkl]); (case h1 => exact w8_one _); (case b => exact hB4); intro w9 hb9 ho9))
    rw [spliced_all _ _ (by simp [hkl])] at hb9
    exact bodyPost_ret (results_blk rfl _ _ _ _ (K.map W8) _ hb9 rfl Try.underlying120 rfl (by rw [List.length_map, hkl]; kernel_rfl)) rfl ⟨rfl, hL4.only ho9 (Nat.le_refl _)⟩
  · have hk : macKey key = key ++ List.replicate (64 - key.length) 0 := by rw [macKey, keyOr, if_neg (by omega)]
    generalize macKey key = K at *
    have HK := hid hk
    clear hk
    go_enter Try.func83, Try.ntmps83
    go_wp2_with (first
      | (refine wpList_copy_rd rfl _ _ _ _ rfl 5 Try.underlying33 size8 (w.heap.size + 1) 0 64 64 120 (List.replicate 64 (W8 0)) (Blk.new' _ _ _ (by simp)) A n c (key.map W8) (RdB.later hx ((later_alloc _ _).alloc _)) (w8_one _) rfl rfl (by simp) ?_; intro w4 hb4 ho4
         rw [splice_pad key (by omega), ← HK.out] at hb4
         have hB4 : Blk w4 w.heap.size 120 (List.replicate 64 (W8 0)) := ((Blk.new w _ _).later (later_alloc _ _)).only ho4 (by omega)
         have hL4 : Later w w4 := ((later_alloc w _).alloc _).only ho4 (by omega))
      | (refine wpList_load_agg rfl 120 _ rfl (w.heap.size + 1) 0 (K.map W8) ?hc ?hx _ Try.underlying120 rfl ?hi ?_; (case hx => rfl); (case hi => rw [List.length_map, hkl]; kernel_rfl); (case hc => intro j v hv; rw [Nat.zero_add]; exact hb4.cellD j hv))
      | (refine wpList_store_agg rfl rfl 120 _ _ rfl w.heap.size 0 120 (List.replicate 64 (W8 0)) (K.map W8) ?b ?hx ?hy ?hi ?hf ?h1 ?_; (case hx => rfl); (case hy => rfl); (case hi => rw [List.length_map, hkl]; kernel_rfl); (case hf => simp [hkl]); (case h1 => exact w8_one _); (case b => exact hB4); intro w9 hb9 ho9))
    rw [spliced_all _ _ (by simp [hkl])] at hb9
    exact bodyPost_ret (results_blk rfl _ _ _ _ (K.map W8) _ hb9 rfl Try.underlying120 rfl (by rw [List.length_map, hkl]; kernel_rfl)) rfl ⟨rfl, hL4.only ho9 (Nat.le_refl _)⟩
set_option maxRecDepth 100000 in
set_option maxHeartbeats 1000000 in
theorem masked_any (k : List UInt8) (m : UInt8) (w : World) (hk : k.length = 64) :
    Calls Try.prog 84 #[.agg (k.map W8).toArray, W8 m] w fun e w' => ∃ A c, e = .returned (.slice A 64 c) ∧ OwnB w' w.heap.size A 64 c (maskB k m) ∧ Later w w' := by
  have hml := maskB_length k m
  rw [hk] at hml
  have hg : ∀ j (hj : j < 64), (k.map W8)[j]? = some (W8 (k.getD j 0)) ∧ (maskB k m)[j]? = some (k.getD j 0 ^^^ m) := by
    intro j hj
    rw [List.getD_eq_getElem?_getD, List.getElem?_map, maskB, List.getElem?_map, List.getElem?_eq_getElem (by omega)]
    exact ⟨rfl, rfl⟩
  generalize maskB k m = M at *
  have hkm : (k.map W8).length = 64 := by simpa using hk
  have h1 := w8_one k
  have HG := hid hg
  clear hg
  generalize hkv : k.map W8 = kv at *
  clear hkv
  go_enter Try.func84, Try.ntmps84
  go_wp2_with (first
    | (refine wpList_make_n rfl _ _ _ rfl 5 _ 1 Try.underlying33 info8 rfl _ _ _ _ 64 rfl rfl ?hL ?hC (by omega) (by omega) ?_; (case hL => rfl); (case hC => rfl); intro w1 hb1 hl1)
    | (refine wpList_load_agg rfl 120 _ rfl w.heap.size 0 kv ?hc ?hx _ Try.underlying120 rfl ?hi ?_; (case hx => rfl); (case hi => rw [hkm]; kernel_rfl); (case hc => intro j v hv; rw [Nat.zero_add]; exact ((Blk.new w _ _).later hl1).cellD j hv)))
  have hfz : fillB M 64 0 = List.replicate 64 0 := rfl
  have hb1' : Blk w1 (w.heap.size + 1) 5 ((fillB M 64 0).map W8) := by
    rw [hfz, List.map_replicate]
    have hb := hb1
    simp only [World.size_alloc] at hb
    exact hb
  have hl1' : Later w w1 := (later_alloc _ _).trans hl1
  clear hb1 hl1 hfz
  go_loopw [10] (fun i wr => ∃ j : Nat, j ≤ 64 ∧ i = .int .i64 j ∧ Later w wr ∧ Blk wr (w.heap.size + 1) 5 ((fillB M 64 j).map W8)) (fun i _ => 64 - (intOf i).toNat)
  case atStart => exact ⟨0, by omega, rfl, hl1', hb1'⟩
  case round =>
    clear hb1' hl1'
    obtain ⟨j, hj, rfl, hl, hb⟩ := hrel
    by_cases hlt : j < 64
    · obtain ⟨e1, e2⟩ := HG.out j hlt
      have hfl := fillB_length M 64 j hml hj
      have HST := hid (fillB_step M 64 j _ hml hlt e2)
      clear e2
      generalize k.getD j 0 = x at *
      have hix : ∀ W', (Instr.index 120 (.agg kv.toArray) (.int .i64 (j : Int))).run Try.prog W' = .ok (W8 x) W' := fun W' => run_index_one Try.underlying120 size8 Try.underlying5 rfl kv .i64 j (W8 x) hlt e1 W'
      go_wp2_with (first
        | (refine wpList_store_in rfl rfl _ _ _ rfl _ _ _ _ hb rfl ?hl rfl (by kernel_rfl) ?_; (case hl => rw [List.length_map, hfl]; omega); intro v' w5 hv' hb5 ho5; simp [go_sem] at hv'; subst hv'))
      go_roundw
      case rel =>
        refine ⟨j + 1, by omega, by go_num, hl.only ho5 (by omega), ?_⟩
        rw [← HST.out, ← map_set8]
        exact hb5
      case measure => simp only [intOf]; omega
    · have hj' : j = 64 := by omega
      rw [hj', fillB_all M 64 hml] at hb
      go_wp2
      go_ret
      refine ⟨_, _, rfl, ?_, hl⟩
      have := own_of_blk hb (show w.heap.size ≤ w.heap.size + 1 by omega) (by simp [hml])
      rwa [List.length_map, hml] at this
end Go.Proofs.Ytallecbmnpcepaa
namespace Go.Proofs.Ytallecbmnpcepaa
open Go.RowKit

theorem zero72 : Try.zeroCells124 = (hCells zeroS8 (List.replicate 64 0) 0 ++ List.replicate 64 (W8 0)).toArray := by kernel_rfl
theorem splice_end (l z v : List Value) (n : Nat) (hl : l.length = n) (hz : z.length = v.length) : spliced (l ++ z) n v = l ++ v := by
  subst hl
  rw [spliced, List.take_left', List.drop_of_length_le (by simp [hz]), List.append_nil]
  rfl
theorem builtTag (K : List UInt8) (hK : K.length = 64) : List.foldl (fun (cs : Array Value) (x : Value × Nat) => cs.setIfInBounds (73 + x.snd) x.fst) Try.zeroCells124 (K.map W8).zipIdx = (hCells zeroS8 (List.replicate 64 0) 0 ++ K.map W8).toArray := by
  have hl := hCells_length zeroS8 (List.replicate 64 0) 0 (by simp)
  have hk : (K.map W8).length = 64 := by simpa using hK
  rw [zero72]
  have h := foldl_splice (K.map W8) 0 73 (hCells zeroS8 (List.replicate 64 0) 0 ++ List.replicate 64 (W8 0)) (by rw [List.length_append, hl, hk]; simp)
  rcases h with h | h
  · rw [splice_end _ _ _ 73 hl (by rw [hk]; simp)] at h
    exact h
  · omega
/-- A tagger of this key, into which these bytes were written behind the key. -/
def TagAt (w : World) (g : Nat) (key bs : List UInt8) : Prop := HashAt w g 124 ((macKey key).map W8) (maskB (macKey key) 54 ++ bs)
theorem HashAt.restD {w : World} {g : Nat} {t : TypeId} {rest : List Value} {bs : List UInt8} (h : HashAt w g t rest bs) : ∀ (j : Nat) v, rest[j]? = some v → w.cell? ⟨g, 73 + j, none⟩ = some v := by
  obtain ⟨st, op, h1, h2⟩ := h
  intro j v hv
  refine h2.cellD (73 + j) ?_
  have hl := hCells_length st op bs.length h1.len
  rw [List.getElem?_append_right (by omega), hl, Nat.add_sub_cancel_left]
  exact hv
set_option maxRecDepth 100000 in
set_option maxHeartbeats 1000000 in
theorem newTagger_any (A : Option Addr) (n c : Nat) (key : List UInt8) (w : World) (hx : RdB w A n key) (hc : n ≤ c) (hn : n ≤ 140737488355328) :
    Calls Try.prog 65 #[.slice A n c] w fun e w' => ∃ g, e = .returned (.pointer (some ⟨g, 0, none⟩)) ∧ w.heap.size ≤ g ∧ TagAt w' g key [] ∧ Later w w' := by
  have hb := block_any A n c key w hx hc hn
  have hkl := macKey_length key
  unfold TagAt
  rw [List.append_nil]
  generalize macKey key = K at *
  have HB := hid hb
  clear hb
  have hkm : (K.map W8).length = 64 := by simpa using hkl
  go_enter Try.func65, Try.ntmps65
  go_wp2_with (first
    | (go_at_call 83; refine HB.out.mono ?_; rintro e w1 ⟨rfl, hl1⟩))
  rw [builtTag K hkl]
  have hH0 : HashAt (w1.alloc (.cells (hCells zeroS8 (List.replicate 64 0) 0 ++ K.map W8).toArray 124)) w1.heap.size 124 (K.map W8) [] := ⟨zeroS8, List.replicate 64 0, hok_nil, Blk.new _ _ _⟩
  generalize hC : hCells zeroS8 (List.replicate 64 0) 0 ++ K.map W8 = C at *
  clear hC
  have L0 := hl1.alloc (.cells C.toArray 124)
  have hz := hl1.size
  have hlt0 := hH0.lt
  generalize hW : w1.alloc (.cells C.toArray 124) = W at *
  clear hW
  generalize w1.heap.size = g at *
  have hH1 := hH0.later (later_drew _)
  refine wp_region_parts [([0, 1, 2, 3, 4, 5, 6], 7), ([], 8)] [] [9] (by as_aux_lemma => kernel_rfl) (by as_aux_lemma => kernel_rfl) (by intro _ _ d _ _ h; cases d <;> exact h) ?_
  simp only [wpParts, pick, List.getElem?_cons_succ, List.getElem?_cons_zero, Option.toList_some, List.cons_append, List.nil_append]
  repeat (first | go_big_quiet_skip | (go_big_quiet_want; refine quiet_load_agg 120 _ rfl g 73 (K.map W8) ?hc ?hx _ Try.underlying120 rfl ?hi ?_; (case hx => rfl); (case hi => rw [hkm]; kernel_rfl); (case hc => rintro w' ⟨x, rfl⟩; exact (hH1.later ⟨x, rfl⟩).restD); simp only [Act.put, List.setIfInBounds_toArray, List.set_cons_succ, List.set_cons_zero]; go_big_quiet_on) | (go_big_quiet_step (fail)))
  refine wpQuiet_nil ?_
  go_wp2_with (go_at_call 84; refine (masked_any K 54 _ hkl).mono ?_; rintro e w2 ⟨A2, c2, rfl, hown2, hl2⟩)
  try refine ⟨by first | assumption | exact later_drew _ | exact later_alloc _ _ | exact Later.refl _, ?_⟩
  try simp only [wpParts, pick, List.getElem?_cons_succ, List.getElem?_cons_zero, Option.toList_some, List.cons_append, List.nil_append]
  repeat (go_big_quiet_step (fail))
  refine wpQuiet_nil ?_
  go_wp2
  try refine ⟨by first | assumption | exact later_drew _ | exact later_alloc _ _ | exact Later.refl _, ?_⟩
  try simp only [wpParts, pick, List.getElem?_cons_succ, List.getElem?_cons_zero, Option.toList_some, List.cons_append, List.nil_append]
  repeat (go_big_quiet_step (fail))
  refine wpQuiet_nil ?_
  have hone : [maskB K 54].flatten = maskB K 54 := by simp
  have hml := maskB_length K 54
  have HO := hid hone
  clear hone
  generalize hM : maskB K 54 = M at *
  have HM := hid hM
  clear hM
  go_wp2_with (first
    | (go_at_call 66; refine (write_any g 124 (K.map W8) [] (some ⟨w2.heap.size, 0, none⟩) 1 1 [M] _ ?hh ?hx (by omega) (by rw [HO.out]; simp; omega)).mono ?_
       (case hh => exact (hH1.later hl2).later (later_alloc _ _))
       (case hx => exact parts_bad ((Blk.new w2 33 [.slice A2 64 c2]).rd rfl) (avoid_lt (by have := hl2.size; simp at this; omega)) ⟨part_own (hown2.later (later_alloc _ _)) (by simpa using hlt0), trivial⟩)
       rintro e w3 ⟨rfl, hh3, ho3⟩
       rw [HO.out, List.nil_append] at hh3))
  go_ret
  exact ⟨g, rfl, hz, by rw [HM.out]; exact hh3, (((L0.trans (later_drew _)).trans hl2).alloc _).only ho3 hz⟩

theorem macTag_eq (key bs : List UInt8) : macTag key bs = shaSum [maskB (macKey key) 92, macIn key bs].flatten := by simp [macTag]
set_option maxRecDepth 100000 in
set_option maxHeartbeats 1000000 in
theorem tagSum_any (g : Nat) (key bs : List UInt8) (w : World) (hh : TagAt w g key bs) (hlen : bs.length ≤ 2305843009213693000) :
    Calls Try.prog 67 #[.pointer (some ⟨g, 0, none⟩)] w fun e w' => e = .returned (.agg ((macTag key bs).map W8).toArray) ∧ Later w w' := by
  have hkl := macKey_length key
  have hml := maskB_length (macKey key) 54
  unfold TagAt at hh
  have hs := fun g t rest w hh => hsum_any g t rest (maskB (macKey key) 54 ++ bs) w hh (by rw [List.length_append, hml, hkl]; omega)
  have hin := shaSum_length (maskB (macKey key) 54 ++ bs)
  have hT := macTag_length key bs
  have hsum := fun A n c w hx => ssum_any A n c [maskB (macKey key) 92, macIn key bs] w hx
  rw [← macTag_eq] at hsum
  generalize macTag key bs = T at *
  have hmk : (maskB (macKey key) 92).length = 64 := by rw [maskB_length, hkl]
  have hmi := macKey_length key
  have hf : [maskB (macKey key) 92, macIn key bs].flatten.length = 96 := by simp [hmk, macIn, shaSum_length]
  unfold macIn at *
  generalize shaSum (maskB (macKey key) 54 ++ bs) = I at *
  generalize maskB (macKey key) 54 ++ bs = X at *
  have hmm := fun w => masked_any (macKey key) 92 w hkl
  generalize maskB (macKey key) 92 = M at *
  generalize macKey key = K at *
  have HS := hid hs
  have HSUM := hid hsum
  have HF := hid hf
  have HMM := hid hmm
  clear hs hsum hf hmm
  have hkm : (K.map W8).length = 64 := by simpa using hkl
  go_enter Try.func67, Try.ntmps67
  go_wp2_with (first
    | (go_at_call 86; refine (HS.out g 124 (K.map W8) _ (hh.later (later_alloc _ _))).mono ?_; rintro e w1 ⟨rfl, hl1⟩)
    | (refine wpList_store_agg rfl rfl 43 _ _ rfl w1.heap.size 0 43 (List.replicate 32 (W8 0)) (I.map W8) ?b ?hx ?hy ?hi ?hf ?h1 ?_; (case hx => rfl); (case hy => rfl); (case hi => rw [List.length_map, hin]; kernel_rfl); (case hf => simp [hin]); (case h1 => exact w8_one _); (case b => exact Blk.new _ _ _); intro w2 hb2 ho2
       rw [spliced_all _ _ (by simp [hin])] at hb2))
  have z1 : w.heap.size + 1 ≤ w1.heap.size := by have := hl1.size; simpa using this
  have hh2 := (((hh.later (later_alloc _ _)).later hl1).later (later_alloc _ _)).only ho2 (by have := hh.lt; omega)
  have hR2 : Blk w2 w.heap.size 43 (List.replicate 32 (W8 0)) := (((Blk.new w _ _).later hl1).later (later_alloc _ _)).only ho2 (by omega)
  have hL2 : Later w w2 := (((later_alloc w _).trans hl1).alloc _).only ho2 (by omega)
  clear hl1 ho2 hh
  generalize w1.heap.size = g1 at *
  have hh3 := hh2.later (later_drew _)
  refine wp_region_parts [([0, 1, 2, 3, 5], 4)] [] [6, 7, 8] (by as_aux_lemma => kernel_rfl) (by as_aux_lemma => kernel_rfl) (by intro _ _ d _ _ h; cases d <;> exact h) ?_
  simp only [wpParts, pick, List.getElem?_cons_succ, List.getElem?_cons_zero, Option.toList_some, List.cons_append, List.nil_append]
  repeat (first | go_big_quiet_skip | (go_big_quiet_want; refine quiet_load_agg 120 _ rfl g 73 (K.map W8) ?hc ?hx _ Try.underlying120 rfl ?hi ?_; (case hx => rfl); (case hi => rw [hkm]; kernel_rfl); (case hc => rintro w' ⟨x, rfl⟩; exact (hh3.later ⟨x, rfl⟩).restD); simp only [Act.put, List.setIfInBounds_toArray, List.set_cons_succ, List.set_cons_zero]; go_big_quiet_on) | (go_big_quiet_step (fail)))
  refine wpQuiet_nil ?_
  go_wp2_with (go_at_call 84; refine (HMM.out _).mono ?_; rintro e w3 ⟨A3, c3, rfl, hown3, hl3⟩)
  try refine ⟨by first | assumption | exact later_drew _ | exact later_alloc _ _ | exact Later.refl _, ?_⟩
  try simp only [wpParts, pick, List.getElem?_cons_succ, List.getElem?_cons_zero, Option.toList_some, List.cons_append, List.nil_append]
  repeat (go_big_quiet_step (fail))
  refine wpQuiet_nil ?_
  have hb3 := (hb2.later (later_drew _)).later hl3
  have hR3 := (hR2.later (later_drew _)).later hl3
  have hL3 := (hL2.drew).trans hl3
  go_wp2_with (first
    | (go_at_call 87; refine (HSUM.out (some ⟨w3.heap.size, 0, none⟩) 2 2 _ ?hx (by omega) (by rw [HF.out]; omega)).mono ?_
       (case hx => exact parts_of ((Blk.new w3 33 [.slice A3 64 c3, .slice (some ⟨g1, 0, none⟩) 32 32]).rd rfl) ⟨part_of (RdB.later hown3.rd (later_alloc _ _)) hown3.cap, part_of ((hb3.later (later_alloc _ _)).rd (by simp [hin])) (by omega), trivial⟩)
       rintro e w4 ⟨rfl, hl4⟩)
    | (refine wpList_store_agg rfl rfl 43 _ _ rfl w.heap.size 0 43 (List.replicate 32 (W8 0)) (T.map W8) ?b ?hx ?hy ?hi ?hf ?h1 ?_; (case hx => rfl); (case hy => rfl); (case hi => rw [List.length_map, hT]; kernel_rfl); (case hf => simp [hT]); (case h1 => exact w8_one _); (case b => exact (hR3.later (later_alloc _ _)).later hl4); intro w5 hb5 ho5
       rw [spliced_all _ _ (by simp [hT])] at hb5))
  exact bodyPost_ret (results_blk rfl _ _ _ _ (T.map W8) _ hb5 rfl Try.underlying43 rfl (by rw [List.length_map, hT]; kernel_rfl)) rfl ⟨rfl, (((hL3.alloc _).trans hl4)).only ho5 (Nat.le_refl _)⟩
end Go.Proofs.Ytallecbmnpcepaa
namespace Go.Proofs.Ytallecbmnpcepaa
open Go.RowKit

theorem TagAt.write {w : World} {g : Nat} {key bs x : List UInt8} (h : HashAt w g 124 ((macKey key).map W8) ((maskB (macKey key) 54 ++ bs) ++ x)) : TagAt w g key (bs ++ x) := by
  unfold TagAt
  rw [← List.append_assoc]
  exact h
set_option maxRecDepth 100000 in
set_option maxHeartbeats 1000000 in
theorem tag_any (A B : Option Addr) (n c m d : Nat) (key : List UInt8) (ps : List (List UInt8)) (w : World) (hx : RdB w A n key) (hc : n ≤ c) (hn : n ≤ 140737488355328) (hp : Parts w (fun _ => False) B m ps) (hm : m ≤ 140737488355328) (hlen : ps.flatten.length ≤ 2305843009213690000) :
    Calls Try.prog 47 #[.slice A n c, .slice B m d] w fun e w' => e = .returned (.agg ((macTag key ps.flatten).map W8).toArray) ∧ Later w w' := by
  have hT := macTag_length key ps.flatten
  have hs := fun g w hh => tagSum_any g key ps.flatten w hh (by omega)
  have hw := fun g bs n c w hh hx hm => write_any g 124 ((macKey key).map W8) bs B n c ps w hh hx hm
  generalize macTag key ps.flatten = T at *
  have hml : (maskB (macKey key) 54).length = 64 := by rw [maskB_length, macKey_length]
  have HS := hid hs
  have HW := hid hw
  clear hs hw
  go_enter Try.func47, Try.ntmps47
  go_wp2_with (first
    | (go_at_call 65; refine (newTagger_any A n c key _ (hx.later (later_alloc _ _)) hc hn).mono ?_; rintro e w1 ⟨g, rfl, hg, hh1, hl1⟩)
    | (go_at_call 66; refine (HW.out g _ m d _ hh1 ?hx hm ?hl).mono ?_
       (case hx => exact (hp.more (fun b hb => .inr (by subst hb; simp at hg; omega))).later ((later_alloc _ _).trans hl1))
       (case hl => rw [List.append_nil, hml]; omega)
       rintro e w2 ⟨rfl, hh2, ho2⟩
       have ht2 := TagAt.write hh2
       rw [List.nil_append] at ht2)
    | (go_at_call 67; refine (HS.out g _ ht2).mono ?_; rintro e w3 ⟨rfl, hl3⟩)
    | (refine wpList_store_agg rfl rfl 43 _ _ rfl w.heap.size 0 43 (List.replicate 32 (W8 0)) (T.map W8) ?b ?hx ?hy ?hi ?hf ?h1 ?_; (case hx => rfl); (case hy => rfl); (case hi => rw [List.length_map, hT]; kernel_rfl); (case hf => simp [hT]); (case h1 => exact w8_one _); (case b => exact (((Blk.new w _ _).later hl1).only ho2 (by simp at hg; omega)).later hl3); intro w5 hb5 ho5
       rw [spliced_all _ _ (by simp [hT])] at hb5))
  exact bodyPost_ret (results_blk rfl _ _ _ _ (T.map W8) _ hb5 rfl Try.underlying43 rfl (by rw [List.length_map, hT]; kernel_rfl)) rfl
    ⟨rfl, ((((later_alloc w _).trans hl1).only ho2 (by simp at hg; omega)).trans hl3).only ho5 (Nat.le_refl _)⟩
theorem take16 (G : List UInt8) (h : G.length = 32) : spliced (List.replicate 16 (W8 0)) 0 ((G.map W8).take 16) = (G.take 16).map W8 := by
  rw [spliced_all _ _ (by simp [h]), List.map_take]
end Go.Proofs.Ytallecbmnpcepaa
namespace Go.Proofs.Ytallecbmnpcepaa
open Go.RowKit

/-- A key's block, turned as far as k. -/
def maskAt (l : List UInt8) (m : UInt8) (k : Nat) : List UInt8 := maskB (l.take k) m ++ l.drop k
theorem maskAt_step (l : List UInt8) (m : UInt8) (k : Nat) (h : k < l.length) : (maskAt l m k)[k]? = some (l.getD k 0) ∧ (maskAt l m k).set k (l.getD k 0 ^^^ m) = maskAt l m (k + 1) := by
  have h1 : (maskB (l.take k) m).length = k := by simp [maskB]; omega
  have h2 : l.drop k = l[k] :: l.drop (k + 1) := List.drop_eq_getElem_cons h
  have h3 : l.getD k 0 = l[k] := by rw [List.getD_eq_getElem?_getD, List.getElem?_eq_getElem h]; rfl
  constructor
  · rw [maskAt, List.getElem?_append_right (by omega), h1, h2, h3]
    simp
  · rw [maskAt, maskAt, List.set_append_right _ _ (by omega), h1, h2, h3, List.take_succ_eq_append_getElem h, Nat.sub_self, List.set_cons_zero]
    simp only [maskB, List.map_append, List.append_assoc, List.map_cons, List.map_nil, List.cons_append, List.nil_append]
theorem maskAt_length (l : List UInt8) (m : UInt8) (k : Nat) (h : k ≤ l.length) : (maskAt l m k).length = l.length := by
  simp [maskAt, maskB]
  omega
theorem maskAt_all (l : List UInt8) (m : UInt8) (n : Nat) (h : l.length = n) : maskAt l m n = maskB l m := by
  simp [maskAt, ← h]
theorem maskAt_none (l : List UInt8) (m : UInt8) : maskAt l m 0 = l := by simp [maskAt, maskB]
set_option maxRecDepth 100000 in
set_option maxHeartbeats 1000000 in
theorem refBlock_any (A : Option Addr) (n c : Nat) (key : List UInt8) (m : UInt8) (w : World) (hx : RdB w A n key) (hn : n ≤ 70368744177664) :
    Calls Try.prog 51 #[.slice A n c, W8 m] w fun e w' => ∃ A' c', e = .returned (.slice A' 64 c') ∧ OwnB w' w.heap.size A' 64 c' (maskB (macKey key) m) ∧ Later w w' := by
  have hl := hx.len
  have hkl := macKey_length key
  have hml := maskB_length (macKey key) m
  have hks : ∀ k, k < 64 → (maskAt (macKey key) m k)[k]? = some ((macKey key).getD k 0) ∧ (maskAt (macKey key) m k).set k ((macKey key).getD k 0 ^^^ m) = maskAt (macKey key) m (k + 1) := fun k h => maskAt_step _ m k (by omega)
  have hkm : ∀ k, k ≤ 64 → (maskAt (macKey key) m k).length = 64 := fun k h => by rw [maskAt_length _ m k (by omega), hkl]
  have hka := maskAt_all (macKey key) m 64 hkl
  have hk0 := maskAt_none (macKey key) m
  by_cases h64 : 64 < n
  all_goals
    first
      | have hk : macKey key = shaSum key ++ List.replicate (64 - (shaSum key).length) 0 := by rw [macKey, keyOr, if_pos (by omega)]
      | have hk : macKey key = key ++ List.replicate (64 - key.length) 0 := by rw [macKey, keyOr, if_neg (by omega)]
    have HK := hid hk
    have HKS := hid hks
    have HKM := hid hkm
    clear hk hks hkm
    have hs := hid (ref_sum A n c key)
    have hG := shaSum_length key
    generalize shaSum key = G at *
    generalize macKey key = K at *
    go_enter Try.func51, Try.ntmps51
    go_wp2_with (first
      | (refine wpList_make_n rfl _ _ _ rfl 5 _ 1 Try.underlying33 info8 rfl _ _ _ _ 64 rfl rfl ?hL ?hC (by omega) (by omega) ?_; (case hL => rfl); (case hC => rfl); intro w1 hb1 hl1)
      | (go_at_call 50; refine (hs.out _ (hx.later hl1) (by omega)).mono ?_; rintro e w2 ⟨rfl, hl2⟩)
      | (refine wpList_store_agg rfl rfl 43 _ _ rfl w2.heap.size 0 43 (List.replicate 32 (W8 0)) (G.map W8) ?b ?hx ?hy ?hi ?hf ?h1 ?_; (case hx => rfl); (case hy => rfl); (case hi => rw [List.length_map, hG]; kernel_rfl); (case hf => simp [hG]); (case h1 => exact w8_one _); (case b => exact Blk.new _ _ _); intro w3 hb3 ho3
         rw [spliced_all _ _ (by simp [hG])] at hb3
         have z2 := hl2.size
         have hb13 := ((hb1.later hl2).later (later_alloc _ _)).only ho3 (by have := hb1.lt; omega)
         have hl3 := (((hl1.trans hl2).alloc _).only ho3 (by have := hl1.size; omega)))
      | (refine wpList_copy_rd rfl _ _ _ _ rfl 5 Try.underlying33 size8 w.heap.size 0 64 64 5 (List.replicate 64 (W8 0)) hb13 (some ⟨w2.heap.size, 0, none⟩) 32 32 (G.map W8) (hb3.rd (by simp [hG])) (w8_one _) rfl rfl (by simp) ?_; intro w4 hb4 ho4
         rw [splice_pad G (by omega), ← HK.out, ← hk0] at hb4
         have hl4 := hl3.only ho4 (Nat.le_refl _))
      | (refine wpList_copy_rd rfl _ _ _ _ rfl 5 Try.underlying33 size8 w.heap.size 0 64 64 5 (List.replicate 64 (W8 0)) hb1 A n c (key.map W8) (RdB.later hx hl1) (w8_one _) rfl rfl (by simp) ?_; intro w4 hb4 ho4
         rw [splice_pad key (by omega), ← HK.out, ← hk0] at hb4
         have hl4 := hl1.only ho4 (Nat.le_refl _)))
    go_loopw [7] (fun i wr => ∃ j : Nat, j ≤ 64 ∧ i = .int .i64 j ∧ Later w wr ∧ Blk wr w.heap.size 5 ((maskAt K m j).map W8)) (fun i _ => 64 - (intOf i).toNat)
    case atStart => exact ⟨0, by omega, rfl, hl4, hb4⟩
    case round =>
      clear hb4 hl4
      obtain ⟨j, hj, rfl, hl, hb⟩ := hrel
      by_cases hlt : j < 64
      · obtain ⟨e1, e2⟩ := HKS.out j hlt
        have hfl := HKM.out j hj
        have d0 := hb.cellD j (w8_get e1)
        have HST := hid e2
        clear e1 e2
        generalize K.getD j 0 = x at *
        go_wp2_with (first
          | (refine wpList_store_in rfl rfl _ _ _ rfl _ _ _ _ hb rfl ?hl rfl (by kernel_rfl) ?_; (case hl => rw [List.length_map, hfl]; omega); intro v' w5 hv' hb5 ho5; simp [go_sem] at hv'; subst hv'))
        go_roundw
        case rel =>
          refine ⟨j + 1, by omega, by go_num, hl.only ho5 (by omega), ?_⟩
          rw [← HST.out, ← map_set8]
          exact hb5
        case measure => simp only [intOf]; omega
      · have hj' : j = 64 := by omega
        rw [hj', hka] at hb
        go_wp2
        go_ret
        refine ⟨_, _, rfl, ?_, hl⟩
        have := own_of_blk hb (Nat.le_refl _) (by simp [hml, hkl])
        rwa [List.length_map, hml, hkl] at this
end Go.Proofs.Ytallecbmnpcepaa
namespace Go.Proofs.Ytallecbmnpcepaa
open Go.RowKit

set_option maxRecDepth 100000 in
set_option maxHeartbeats 1000000 in
theorem refInside_any (A B : Option Addr) (n c m d : Nat) (key bs : List UInt8) (w : World) (hx : RdB w A n key) (hn : n ≤ 70368744177664) (hb : RdB w B m bs) (hm : m ≤ 35184372088832) :
    Calls Try.prog 49 #[.slice A n c, .slice B m d] w fun e w' => e = .returned (.agg ((macIn key bs).map W8).toArray) ∧ Later w w' := by
  have hbl := hb.len
  have hml : (maskB (macKey key) 54).length = 64 := by rw [maskB_length, macKey_length]
  have hI := shaSum_length (maskB (macKey key) 54 ++ bs)
  have hs := hid (fun A n c w h => ref_sum A n c (maskB (macKey key) 54 ++ bs) w h)
  have hk := hid (fun w h => refBlock_any A n c key 54 w h hn)
  unfold macIn
  generalize shaSum (maskB (macKey key) 54 ++ bs) = I at *
  generalize maskB (macKey key) 54 = M at *
  go_enter Try.func49, Try.ntmps49
  go_wp2_with (first
    | (go_at_call 51; refine (hk.out _ (hx.later (later_alloc _ _))).mono ?_; rintro e w1 ⟨A1, c1, rfl, hown1, hl1⟩)
    | (refine wpList_append_rd rfl _ _ _ rfl 5 _ 1 Try.underlying33 info8 rfl _ _ 64 _ hown1 hl1 B m d _ (hb.later ((later_alloc _ _).trans hl1)) (w8_one _) rfl rfl (by omega) (by omega) ?_; intro A2 c2 w2 hown2 hl2 _ _
       have hown2' := own_cut hown2 rfl rfl)
    | (go_at_call 50; refine (hs.out A2 (64 + m) c2 _ (OwnB.rd hown2') (by omega)).mono ?_; rintro e w3 ⟨rfl, hl3⟩)
    | (refine wpList_store_agg rfl rfl 43 _ _ rfl w.heap.size 0 43 (List.replicate 32 (W8 0)) (I.map W8) ?b ?hx ?hy ?hi ?hf ?h1 ?_; (case hx => rfl); (case hy => rfl); (case hi => rw [List.length_map, hI]; kernel_rfl); (case hf => simp [hI]); (case h1 => exact w8_one _); (case b => exact ((Blk.new w _ _).later hl2).later hl3); intro w5 hb5 ho5
       rw [spliced_all _ _ (by simp [hI])] at hb5))
  exact bodyPost_ret (results_blk rfl _ _ _ _ (I.map W8) _ hb5 rfl Try.underlying43 rfl (by rw [List.length_map, hI]; kernel_rfl)) rfl ⟨rfl, ((later_alloc w _).trans (hl2.trans hl3)).only ho5 (Nat.le_refl _)⟩
set_option maxRecDepth 100000 in
set_option maxHeartbeats 1000000 in
theorem refTag_any (A B : Option Addr) (n c m d : Nat) (key bs : List UInt8) (w : World) (hx : RdB w A n key) (hn : n ≤ 70368744177664) (hb : RdB w B m bs) (hm : m ≤ 35184372088832) :
    Calls Try.prog 38 #[.slice A n c, .slice B m d] w fun e w' => e = .returned (.agg ((macTag key bs).map W8).toArray) ∧ Later w w' := by
  have hml : (maskB (macKey key) 92).length = 64 := by rw [maskB_length, macKey_length]
  have hI : (macIn key bs).length = 32 := shaSum_length _
  have hT := macTag_length key bs
  have hi := hid (fun w h1 h2 => refInside_any A B n c m d key bs w h1 hn h2 hm)
  have hk := hid (fun w h => refBlock_any A n c key 92 w h hn)
  have hs := fun A n c w h => ref_sum A n c (maskB (macKey key) 92 ++ macIn key bs) w h
  have he : shaSum (maskB (macKey key) 92 ++ macIn key bs) = macTag key bs := rfl
  rw [he] at hs
  have HS := hid hs
  clear hs he
  generalize macTag key bs = T at *
  generalize macIn key bs = I at *
  generalize maskB (macKey key) 92 = M at *
  go_enter Try.func38, Try.ntmps38
  go_wp2_with (first
    | (go_at_call 49; refine (hi.out _ (hx.later (later_alloc _ _)) (hb.later (later_alloc _ _))).mono ?_; rintro e w1 ⟨rfl, hl1⟩)
    | (refine wpList_store_agg rfl rfl 43 _ _ rfl w1.heap.size 0 43 (List.replicate 32 (W8 0)) (I.map W8) ?b ?hx ?hy ?hi ?hf ?h1 ?_; (case hx => rfl); (case hy => rfl); (case hi => rw [List.length_map, hI]; kernel_rfl); (case hf => simp [hI]); (case h1 => exact w8_one _); (case b => exact Blk.new _ _ _); intro w2 hb2 ho2
       rw [spliced_all _ _ (by simp [hI])] at hb2))
  have z1 : w.heap.size + 1 ≤ w1.heap.size := by have := hl1.size; simpa using this
  have hR2 : Blk w2 w.heap.size 43 (List.replicate 32 (W8 0)) := (((Blk.new w _ _).later hl1).later (later_alloc _ _)).only ho2 (by omega)
  have hL2 : Later w w2 := (((later_alloc w _).trans hl1).alloc _).only ho2 (by omega)
  clear hl1 ho2
  generalize w1.heap.size = g1 at *
  refine wp_region_parts [([0, 2], 1)] [] [3, 4, 5] (by as_aux_lemma => kernel_rfl) (by as_aux_lemma => kernel_rfl) (by intro _ _ d _ _ h; cases d <;> exact h) ?_
  simp only [wpParts, pick, List.getElem?_cons_succ, List.getElem?_cons_zero, Option.toList_some, List.cons_append, List.nil_append]
  repeat (go_big_quiet_step (fail))
  refine wpQuiet_nil ?_
  go_wp2_with (go_at_call 51; refine (hk.out _ (hx.later hL2.drew)).mono ?_; rintro e w3 ⟨A3, c3, rfl, hown3, hl3⟩)
  try refine ⟨by first | assumption | exact later_drew _ | exact later_alloc _ _ | exact Later.refl _, ?_⟩
  try simp only [wpParts, pick, List.getElem?_cons_succ, List.getElem?_cons_zero, Option.toList_some, List.cons_append, List.nil_append]
  repeat (go_big_quiet_step (fail))
  refine wpQuiet_nil ?_
  go_wp2_with (first
    | (refine wpList_append_rd rfl _ _ _ rfl 5 _ 1 Try.underlying33 info8 rfl _ _ 64 _ hown3 hl3 (some ⟨g1, 0, none⟩) 32 32 _ (((hb2.later (later_drew _)).later hl3).rd (by simp [hI])) (w8_one _) rfl rfl (by omega) (by omega) ?_; intro A4 c4 w4 hown4 hl4 _ _
       have hown4' := own_cut hown4 rfl rfl)
    | (go_at_call 50; refine (HS.out A4 96 c4 _ (OwnB.rd hown4') (by omega)).mono ?_; rintro e w5 ⟨rfl, hl5⟩)
    | (refine wpList_store_agg rfl rfl 43 _ _ rfl w.heap.size 0 43 (List.replicate 32 (W8 0)) (T.map W8) ?b ?hx ?hy ?hi ?hf ?h1 ?_; (case hx => rfl); (case hy => rfl); (case hi => rw [List.length_map, hT]; kernel_rfl); (case hf => simp [hT]); (case h1 => exact w8_one _); (case b => exact ((hR2.later (later_drew _)).later hl4).later hl5); intro w6 hb6 ho6
       rw [spliced_all _ _ (by simp [hT])] at hb6))
  exact bodyPost_ret (results_blk rfl _ _ _ _ (T.map W8) _ hb6 rfl Try.underlying43 rfl (by rw [List.length_map, hT]; kernel_rfl)) rfl ⟨rfl, ((hL2.drew.trans (hl4.trans hl5))).only ho6 (Nat.le_refl _)⟩
end Go.Proofs.Ytallecbmnpcepaa
