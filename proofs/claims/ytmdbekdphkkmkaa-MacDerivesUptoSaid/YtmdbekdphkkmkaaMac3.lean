/-
  mac: first, the tagger, Tag, Short, Check.
-/
import Derived.Test.YtmdbekdphkkmkaaMac2
import Derived.Test.YtmdbekdphkkmkaaBuilt
namespace Go.Proofs.Ytmdbekdphkkmkaa
open Go.RowKit

theorem zero72 : Try.zeroCells72 = (hCells zeroS8 (List.replicate 64 0) 0 ++ List.replicate 64 (W8 0)).toArray := by kernel_rfl
theorem splice_end (l z v : List Value) (n : Nat) (hl : l.length = n) (hz : z.length = v.length) : spliced (l ++ z) n v = l ++ v := by
  subst hl
  rw [spliced, List.take_left', List.drop_of_length_le (by simp [hz]), List.append_nil]
  rfl
theorem builtTag (K : List UInt8) (hK : K.length = 64) : List.foldl (fun (cs : Array Value) (x : Value × Nat) => cs.setIfInBounds (73 + x.snd) x.fst) Try.zeroCells72 (K.map W8).zipIdx = (hCells zeroS8 (List.replicate 64 0) 0 ++ K.map W8).toArray := by
  have hl := hCells_length zeroS8 (List.replicate 64 0) 0 (by simp)
  have hk : (K.map W8).length = 64 := by simpa using hK
  rw [zero72]
  have h := foldl_splice (K.map W8) 0 73 (hCells zeroS8 (List.replicate 64 0) 0 ++ List.replicate 64 (W8 0)) (by rw [List.length_append, hl, hk]; simp)
  rcases h with h | h
  · rw [splice_end _ _ _ 73 hl (by rw [hk]; simp)] at h
    exact h
  · omega
/-- A tagger of this key, into which these bytes were written behind the key. -/
def TagAt (w : World) (g : Nat) (key bs : List UInt8) : Prop := HashAt w g 72 ((macKey key).map W8) (maskB (macKey key) 54 ++ bs)
theorem HashAt.restD {w : World} {g : Nat} {t : TypeId} {rest : List Value} {bs : List UInt8} (h : HashAt w g t rest bs) : ∀ (j : Nat) v, rest[j]? = some v → w.cell? ⟨g, 73 + j, none⟩ = some v := by
  obtain ⟨st, op, h1, h2⟩ := h
  intro j v hv
  refine h2.cellD (73 + j) ?_
  have hl := hCells_length st op bs.length h1.len
  rw [List.getElem?_append_right (by omega), hl, Nat.add_sub_cancel_left]
  exact hv
set_option maxRecDepth 100000 in
set_option maxHeartbeats 1000000 in
theorem newTagger_any (A : Option Addr) (n c : Nat) (key : List UInt8) (w : World) (hx : RdB w A n key) (hc : n ≤ c) (hn : n ≤ 140737488355328) :
    Calls Try.prog 43 #[.slice A n c] w fun e w' => ∃ g, e = .returned (.pointer (some ⟨g, 0, none⟩)) ∧ w.heap.size ≤ g ∧ TagAt w' g key [] ∧ Later w w' := by
  have hb := block_any A n c key w hx hc hn
  have hkl := macKey_length key
  unfold TagAt
  rw [List.append_nil]
  generalize macKey key = K at *
  have HB := hid hb
  clear hb
  have hkm : (K.map W8).length = 64 := by simpa using hkl
  go_enter Try.func43, Try.ntmps43
  go_wp2_with (first
    | (go_at_call 69; refine HB.out.mono ?_; rintro e w1 ⟨rfl, hl1⟩))
  rw [builtTag K hkl]
  have hH0 : HashAt (w1.alloc (.cells (hCells zeroS8 (List.replicate 64 0) 0 ++ K.map W8).toArray 72)) w1.heap.size 72 (K.map W8) [] := ⟨zeroS8, List.replicate 64 0, hok_nil, Blk.new _ _ _⟩
  generalize hC : hCells zeroS8 (List.replicate 64 0) 0 ++ K.map W8 = C at *
  clear hC
  have L0 := hl1.alloc (.cells C.toArray 72)
  have hz := hl1.size
  have hlt0 := hH0.lt
  generalize hW : w1.alloc (.cells C.toArray 72) = W at *
  clear hW
  generalize w1.heap.size = g at *
  have hH1 := hH0.later (later_drew _)
  refine wp_region_parts [([0, 1, 2, 3, 4, 5, 6], 7), ([], 8)] [] [9] (by as_aux_lemma => kernel_rfl) (by as_aux_lemma => kernel_rfl) (by intro _ _ d _ _ h; cases d <;> exact h) ?_
  simp only [wpParts, pick, List.getElem?_cons_succ, List.getElem?_cons_zero, Option.toList_some, List.cons_append, List.nil_append]
  repeat (first | go_big_quiet_skip | (go_big_quiet_want; refine quiet_load_agg 50 _ rfl g 73 (K.map W8) ?hc ?hx _ Try.underlying50 rfl ?hi ?_; (case hx => rfl); (case hi => rw [hkm]; kernel_rfl); (case hc => rintro w' ⟨x, rfl⟩; exact (hH1.later ⟨x, rfl⟩).restD); simp only [Act.put, List.setIfInBounds_toArray, List.set_cons_succ, List.set_cons_zero]; go_big_quiet_on) | (go_big_quiet_step (fail)))
  refine wpQuiet_nil ?_
  go_wp2_with (go_at_call 70; refine (masked_any K 54 _ hkl).mono ?_; rintro e w2 ⟨A2, c2, rfl, hown2, hl2⟩)
  try refine ⟨by first | assumption | exact later_drew _ | exact later_alloc _ _ | exact Later.refl _, ?_⟩
  try simp only [wpParts, pick, List.getElem?_cons_succ, List.getElem?_cons_zero, Option.toList_some, List.cons_append, List.nil_append]
  repeat (go_big_quiet_step (fail))
  refine wpQuiet_nil ?_
  go_wp2
  try refine ⟨by first | assumption | exact later_drew _ | exact later_alloc _ _ | exact Later.refl _, ?_⟩
  try simp only [wpParts, pick, List.getElem?_cons_succ, List.getElem?_cons_zero, Option.toList_some, List.cons_append, List.nil_append]
  repeat (go_big_quiet_step (fail))
  refine wpQuiet_nil ?_
  have hone : [maskB K 54].flatten = maskB K 54 := by simp
  have hml := maskB_length K 54
  have HO := hid hone
  clear hone
  generalize hM : maskB K 54 = M at *
  have HM := hid hM
  clear hM
  go_wp2_with (first
    | (go_at_call 34; refine (write_any g 72 (K.map W8) [] (some ⟨w2.heap.size, 0, none⟩) 1 1 [M] _ ?hh ?hx (by omega) (by rw [HO.out]; simp; omega)).mono ?_
       (case hh => exact (hH1.later hl2).later (later_alloc _ _))
       (case hx => exact parts_bad ((Blk.new w2 22 [.slice A2 64 c2]).rd rfl) (avoid_lt (by have := hl2.size; simp at this; omega)) ⟨part_own (hown2.later (later_alloc _ _)) (by simpa using hlt0), trivial⟩)
       rintro e w3 ⟨rfl, hh3, ho3⟩
       rw [HO.out, List.nil_append] at hh3))
  go_ret
  exact ⟨g, rfl, hz, by rw [HM.out]; exact hh3, (((L0.trans (later_drew _)).trans hl2).alloc _).only ho3 hz⟩

theorem macTag_eq (key bs : List UInt8) : macTag key bs = shaSum [maskB (macKey key) 92, macIn key bs].flatten := by simp [macTag]
set_option maxRecDepth 100000 in
set_option maxHeartbeats 1000000 in
theorem tagSum_any (g : Nat) (key bs : List UInt8) (w : World) (hh : TagAt w g key bs) (hlen : bs.length ≤ 2305843009213693000) :
    Calls Try.prog 44 #[.pointer (some ⟨g, 0, none⟩)] w fun e w' => e = .returned (.agg ((macTag key bs).map W8).toArray) ∧ Later w w' := by
  have hkl := macKey_length key
  have hml := maskB_length (macKey key) 54
  unfold TagAt at hh
  have hs := fun g t rest w hh => hsum_any g t rest (maskB (macKey key) 54 ++ bs) w hh (by rw [List.length_append, hml, hkl]; omega)
  have hin := shaSum_length (maskB (macKey key) 54 ++ bs)
  have hT := macTag_length key bs
  have hsum := fun A n c w hx => sum_any A n c [maskB (macKey key) 92, macIn key bs] w hx
  rw [← macTag_eq] at hsum
  generalize macTag key bs = T at *
  have hmk : (maskB (macKey key) 92).length = 64 := by rw [maskB_length, hkl]
  have hmi := macKey_length key
  have hf : [maskB (macKey key) 92, macIn key bs].flatten.length = 96 := by simp [hmk, macIn, shaSum_length]
  unfold macIn at *
  generalize shaSum (maskB (macKey key) 54 ++ bs) = I at *
  generalize maskB (macKey key) 54 ++ bs = X at *
  have hmm := fun w => masked_any (macKey key) 92 w hkl
  generalize maskB (macKey key) 92 = M at *
  generalize macKey key = K at *
  have HS := hid hs
  have HSUM := hid hsum
  have HF := hid hf
  have HMM := hid hmm
  clear hs hsum hf hmm
  have hkm : (K.map W8).length = 64 := by simpa using hkl
  go_enter Try.func44, Try.ntmps44
  go_wp2_with (first
    | (go_at_call 32; refine (HS.out g 72 (K.map W8) _ (hh.later (later_alloc _ _))).mono ?_; rintro e w1 ⟨rfl, hl1⟩)
    | (refine wpList_store_agg rfl rfl 39 _ _ rfl w1.heap.size 0 39 (List.replicate 32 (W8 0)) (I.map W8) ?b ?hx ?hy ?hi ?hf ?h1 ?_; (case hx => rfl); (case hy => rfl); (case hi => rw [List.length_map, hin]; kernel_rfl); (case hf => simp [hin]); (case h1 => exact w8_one _); (case b => exact Blk.new _ _ _); intro w2 hb2 ho2
       rw [spliced_all _ _ (by simp [hin])] at hb2))
  have z1 : w.heap.size + 1 ≤ w1.heap.size := by have := hl1.size; simpa using this
  have hh2 := (((hh.later (later_alloc _ _)).later hl1).later (later_alloc _ _)).only ho2 (by have := hh.lt; omega)
  have hR2 : Blk w2 w.heap.size 39 (List.replicate 32 (W8 0)) := (((Blk.new w _ _).later hl1).later (later_alloc _ _)).only ho2 (by omega)
  have hL2 : Later w w2 := (((later_alloc w _).trans hl1).alloc _).only ho2 (by omega)
  clear hl1 ho2 hh
  generalize w1.heap.size = g1 at *
  have hh3 := hh2.later (later_drew _)
  refine wp_region_parts [([0, 1, 2, 3, 5], 4)] [] [6, 7, 8] (by as_aux_lemma => kernel_rfl) (by as_aux_lemma => kernel_rfl) (by intro _ _ d _ _ h; cases d <;> exact h) ?_
  simp only [wpParts, pick, List.getElem?_cons_succ, List.getElem?_cons_zero, Option.toList_some, List.cons_append, List.nil_append]
  repeat (first | go_big_quiet_skip | (go_big_quiet_want; refine quiet_load_agg 50 _ rfl g 73 (K.map W8) ?hc ?hx _ Try.underlying50 rfl ?hi ?_; (case hx => rfl); (case hi => rw [hkm]; kernel_rfl); (case hc => rintro w' ⟨x, rfl⟩; exact (hh3.later ⟨x, rfl⟩).restD); simp only [Act.put, List.setIfInBounds_toArray, List.set_cons_succ, List.set_cons_zero]; go_big_quiet_on) | (go_big_quiet_step (fail)))
  refine wpQuiet_nil ?_
  go_wp2_with (go_at_call 70; refine (HMM.out _).mono ?_; rintro e w3 ⟨A3, c3, rfl, hown3, hl3⟩)
  try refine ⟨by first | assumption | exact later_drew _ | exact later_alloc _ _ | exact Later.refl _, ?_⟩
  try simp only [wpParts, pick, List.getElem?_cons_succ, List.getElem?_cons_zero, Option.toList_some, List.cons_append, List.nil_append]
  repeat (go_big_quiet_step (fail))
  refine wpQuiet_nil ?_
  have hb3 := (hb2.later (later_drew _)).later hl3
  have hR3 := (hR2.later (later_drew _)).later hl3
  have hL3 := (hL2.drew).trans hl3
  go_wp2_with (first
    | (go_at_call 24; refine (HSUM.out (some ⟨w3.heap.size, 0, none⟩) 2 2 _ ?hx (by omega) (by rw [HF.out]; omega)).mono ?_
       (case hx => exact parts_of ((Blk.new w3 22 [.slice A3 64 c3, .slice (some ⟨g1, 0, none⟩) 32 32]).rd rfl) ⟨part_of (RdB.later hown3.rd (later_alloc _ _)) hown3.cap, part_of ((hb3.later (later_alloc _ _)).rd (by simp [hin])) (by omega), trivial⟩)
       rintro e w4 ⟨rfl, hl4⟩)
    | (refine wpList_store_agg rfl rfl 39 _ _ rfl w.heap.size 0 39 (List.replicate 32 (W8 0)) (T.map W8) ?b ?hx ?hy ?hi ?hf ?h1 ?_; (case hx => rfl); (case hy => rfl); (case hi => rw [List.length_map, hT]; kernel_rfl); (case hf => simp [hT]); (case h1 => exact w8_one _); (case b => exact (hR3.later (later_alloc _ _)).later hl4); intro w5 hb5 ho5
       rw [spliced_all _ _ (by simp [hT])] at hb5))
  exact bodyPost_ret (results_blk rfl _ _ _ _ (T.map W8) _ hb5 rfl Try.underlying39 rfl (by rw [List.length_map, hT]; kernel_rfl)) rfl ⟨rfl, (((hL3.alloc _).trans hl4)).only ho5 (Nat.le_refl _)⟩
end Go.Proofs.Ytmdbekdphkkmkaa
