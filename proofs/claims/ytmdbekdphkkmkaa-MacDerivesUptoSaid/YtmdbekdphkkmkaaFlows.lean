/-
  The law ShaFlows, walked.
-/
import Derived.Test.YtmdbekdphkkmkaaHelp
import Derived.Test.YtmdbekdphkkmkaaLaw1
namespace Go.Proofs.Ytmdbekdphkkmkaa
open Go.RowKit

theorem ne_hash : (52 : TypeId) ≠ 5 := by decide
theorem HashAt.grown {w w' : World} {g base : Nat} {rest : List Value} {bs : List UInt8} {v : Value} {n : Nat} {vs : List Value} (h : HashAt w g 52 rest bs) (hown : w.ownsRow base 5 1 v n vs) (hg : w.grownBy w' v.ownBlock) : HashAt w' g 52 rest bs := by
  obtain ⟨st, op, h1, h2⟩ := h
  exact ⟨st, op, h1, blk_grown h2 hown ne_hash hg⟩
theorem own_hash {w : World} {g base : Nat} {rest : List Value} {bs : List UInt8} {v : Value} {n : Nat} {vs : List Value} (hown : w.ownsRow base 5 1 v n vs) (h : HashAt w g 52 rest bs) : ∀ b, v.ownBlock = some b → b ≠ g := by
  intro b hb
  obtain ⟨st, op, h1, h2⟩ := h
  rcases hown.2 with ⟨rfl, _⟩ | ⟨g2, c2, cur2, rfl, _, hh2, _⟩
  · simp [Value.ownBlock] at hb
  · simp only [Value.ownBlock, Option.some.injEq] at hb
    subst hb
    exact fun e => (Blk.ne_type (l := cur2.toList) (t := 5) hh2 h2 (fun e => ne_hash e.symm)) e
theorem len_is (g : Nat) (t : TypeId) (rest : List Value) (bs : List UInt8) (N : Nat) (w : World) (hh : HashAt w g t rest bs) (hN : bs.length = N) :
    Calls Try.prog 31 #[.pointer (some ⟨g, 0, none⟩)] w fun e w' => e = .returned (.int .i64 N) ∧ w' = w := by
  subst hN
  exact len_any g t rest bs w hh
theorem flatten_one (q : List UInt8) : [q].flatten = q := by simp
theorem own_cut {w : World} {base : Nat} {A : Option Addr} {n m c : Nat} {bs xs ys : List UInt8} (h : w.ownsRow base 5 1 (.slice A n c) n (xs.map W8 ++ ys.map W8)) (hb : xs ++ ys = bs) (hn : n = m) : OwnB w base A m c bs := by
  subst hb
  subst hn
  rw [← List.map_append] at h
  exact h

set_option maxRecDepth 100000 in
set_option maxHeartbeats 4000000 in
theorem shaFlows_walk (A A2 : Option Addr) (n c n2 c2 : Nat) (ps : List (List UInt8)) (tw : List UInt8) (w : World) (hx : Parts w (fun _ => False) A n ps) (ht : RdB w A2 n2 tw)
    (hm : ps.flatten.length + n + tw.length ≤ 1048576) (hp : ∀ p ∈ ps, p.length ≤ 1048576) :
    Calls Try.prog 7 #[.slice A n c, .slice A2 n2 c2] w fun e w' => e = .returned (.bool true) ∧ Later w w' := by
  have htl := ht.len
  have hpl := hx.len
  have hG0 := shaSum_length []
  have hS0 := fun g t rest w hh => hsum_any g t rest [] w hh (by simp)
  have hR0 := fun w => ref_sum none 0 0 [] w (rdb_none w) (by omega)
  generalize shaSum [] = G0 at *
  have HS0 := hid hS0
  have HR0 := hid hR0
  have HP := hid hp
  clear hS0 hR0 hp
  go_enter Try.func7, Try.ntmps7
  go_wp2_with (first
    | (go_at_call 23; refine (awake02 _).mono ?_; rintro e w1 ⟨rfl, hl1⟩)
    | (go_at_call 31; refine (len_is w1.heap.size 52 [] [] 0 _ (hashAt_new w1) rfl).mono ?_; rintro e w2 ⟨rfl, rfl⟩)
    | (go_at_call 32; refine (HS0.out w1.heap.size 52 [] _ (hashAt_new w1)).mono ?_; rintro e w2 ⟨rfl, hl2⟩)
    | (go_at_call 26; refine (HR0.out _).mono ?_; rintro e w3 ⟨rfl, hl3⟩)
    | (go_at_call 33; refine (new_any none 0 0 [] _ ⟨[], ⟨rfl, fun h => absurd h (by omega)⟩, avoid_false _ _, rfl, fun j v p hv => by simp at hv⟩ (by omega) (by simp)).mono ?_; rintro e w4 ⟨rfl, hh4, hl4⟩))
  have hl : Later w w4 := (((hl1.alloc _).trans hl2).trans hl3).trans hl4
  have hgh : w.heap.size ≤ w3.heap.size := by have := hl1.size; have := hl2.size; have := hl3.size; simp at *; omega
  generalize hg : w3.heap.size = gh at *
  clear hg hl1 hl2 hl3 hl4
  go_loopw [7, 27] (fun v7 v27 wr => ∃ (k : Nat) (A7 : Option Addr) (m c7 : Nat), k ≤ n ∧ v27 = .int .i64 k ∧ v7 = .slice A7 m c7 ∧ OwnB wr w.heap.size A7 m c7 (ps.take k).flatten ∧ HashAt wr gh 52 [] (ps.take k).flatten ∧ Later w wr) (fun _ i _ => n - (intOf i).toNat)
  case atStart => exact ⟨0, _, _, _, by omega, rfl, rfl, own_nil _ _ _, hh4, hl⟩
  case round =>
    clear hh4 hl
    obtain ⟨k, A7, m, c7, hk, rfl, rfl, hown, hh, hl⟩ := hrel
    have hlt7 := own_below hown
    have hghw := hh.lt
    have hml := hown.len
    by_cases hlt : k < n
    · as_aux_lemma =>
      obtain ⟨b, o, Ak, nk, ck, rfl, hb, hck, hcap, hrd, _⟩ := hx.at_ hlt
      have hck' := (hl.below.cell (p := ⟨b, o + k, none⟩) hb).trans hck
      have hql := hrd.len
      have hs := take_succ_getD ps k (by omega)
      have hs' : (ps.take (k + 1)).flatten = (ps.take k).flatten ++ ps.getD k [] := by rw [hs]; simp
      have hle := flatten_take_le ps (k + 1)
      rw [hs', List.length_append] at hle
      have HS := hid hs'
      clear hs hs' hck
      generalize ps.getD k [] = q at *
      generalize (ps.take k).flatten = F at *
      have hFq : (F ++ q).length = m + nk := by rw [List.length_append]; omega
      have hG := shaSum_length (F ++ q)
      have hSq := fun g t rest w hh => hsum_any g t rest (F ++ q) w hh (by omega)
      have hRq := fun A n c w hr => ref_sum A n c (F ++ q) w hr
      generalize shaSum (F ++ q) = G at *
      have HSq := hid hSq
      have HRq := hid hRq
      clear hSq hRq
      by_cases hr4 : (k : Int) % 4 = 0
      all_goals
        go_wp2_with (first
          | (go_at_call 29; refine (copy_any Ak nk ck q _ (hrd.later hl) (by omega)).mono ?_; rintro e w3 ⟨A3, c3, rfl, hown3, hl3⟩)
          | (go_at_call 34; refine (write_any gh 52 [] F (some ⟨w3.heap.size, 0, none⟩) 1 1 [q] _ (hh.later (hl3.alloc _)) (parts_bad ((Blk.new w3 22 [.slice A3 nk c3]).rd rfl) (avoid_lt (by have := hl3.size; omega)) ⟨part_own (hown3.later (later_alloc _ _)) hghw, trivial⟩) (by omega) (by rw [flatten_one]; omega)).mono ?_; rintro e w4 ⟨rfl, hh4, ho4⟩
             rw [flatten_one] at hh4
             have hown4 := own_only (hown3.later (later_alloc _ _)) ho4 (fun b hb => by have := (hown3.lt b hb).1; omega)
             have hown74 := own_only (hown.later (hl3.alloc _)) ho4 (own_hash hown hh)
             have hl4 := (hl.trans (hl3.alloc _)).only ho4 hgh)
          | (go_at_call 35; refine (over_own wr.heap.size A3 nk c3 q w4 hown4 (by omega)).mono ?_; rintro e w5 ⟨rfl, hown5, hg5⟩
             have hh5 := hh4.grown hown4 hg5
             have hown75 := own_apart hown74 hlt7 hown4 (Nat.le_refl _) hg5
             have hl5 := hl4.grownBy hg5 (fun b hb => by have := (hown4.lt b hb).1; have := hl.size; omega))
          | (refine wpList_append_rd rfl _ _ _ rfl 5 _ 1 Try.underlying22 info8 rfl w _ m _ hown75 hl5 Ak nk ck _ (hrd.later hl5) (w8_one _) rfl rfl (by omega) (by omega) ?_; intro A6 c6 w6 hown6 hl6 hg6 _
             have hh6 := hh5.grown hown75 hg6
             have hown6' := own_cut hown6 rfl rfl)
          | (go_at_call 31; refine (len_is gh 52 [] (F ++ q) (m + nk) _ hh6 hFq).mono ?_; rintro e w7 ⟨rfl, rfl⟩)
          | (go_at_call 32; refine (HSq.out gh 52 [] _ hh6).mono ?_; rintro e w8 ⟨rfl, hl8⟩)
          | (go_at_call 26; refine (HRq.out _ _ _ _ (hown6'.later hl8).rd (by omega)).mono ?_; rintro e w9 ⟨rfl, hl9⟩))
      · refine ⟨⟨k + 1, A6, m + nk, c6, by omega, by go_num, rfl, ?_, ?_, hl6.trans (hl8.trans hl9)⟩, by simp only [intOf]; omega⟩
        · rw [HS.out]
          exact hown6'.later (hl8.trans hl9)
        · rw [HS.out]
          exact hh6.later (hl8.trans hl9)
      · refine ⟨⟨k + 1, A6, m + nk, c6, by omega, by go_num, rfl, ?_, ?_, hl6⟩, by simp only [intOf]; omega⟩
        · rw [HS.out]
          exact hown6'
        · rw [HS.out]
          exact hh6
    · as_aux_lemma =>
      have hkn : k = n := by omega
      rw [hkn, List.take_of_length_le (by omega)] at hown hh hml
      clear hkn
      have hSq := fun g t rest w hh => hsum_any g t rest ps.flatten w hh (by omega)
      have hRq := fun A n c w hr => ref_sum A n c ps.flatten w hr
      have hNq := fun A n c w hx => new_any A n c ps w hx
      have hG := shaSum_length ps.flatten
      generalize shaSum ps.flatten = G at *
      obtain ⟨G, rfl⟩ := sub32 hG
      generalize ps.flatten = F at *
      have hFt : (F ++ (tw ++ [1])).length = m + n2 + 1 := by simp; omega
      have hSt := fun g t rest w hh => hsum_any g t rest (F ++ (tw ++ [1])) w hh (by omega)
      have hRt := fun A n c w hr => ref_sum A n c (F ++ (tw ++ [1])) w hr
      have hG2 := shaSum_length (F ++ (tw ++ [1]))
      generalize shaSum (F ++ (tw ++ [1])) = G2 at *
      have HSq := hid hSq
      have HRq := hid hRq
      have HNq := hid hNq
      have HSt := hid hSt
      have HRt := hid hRt
      clear hSq hRq hNq hSt hRt
      have hft : [tw, [1]].flatten = tw ++ [1] := by simp
      have HFT := hid hft
      clear hft
      go_wp2_with (first
        | (go_at_call 36; refine (twin_any gh 52 [] F _ hh).mono ?_; rintro e w2 ⟨rfl, hh2, hl2⟩)
        | (go_at_call 29; refine (copy_any A2 n2 c2 tw _ (ht.later (hl.trans hl2)) (by omega)).mono ?_; rintro e w3 ⟨A3, c3, rfl, hown3, hl3⟩)
        | (go_at_call 34; refine (write_any wr.heap.size 52 [] F (some ⟨w3.heap.size + 1, 0, none⟩) 2 2 [tw, [1]] _ ?hh ?hx (by omega) ?hlen).mono ?_
           (case hh => exact (hh2.later hl3).later ((later_alloc _ _).trans (later_alloc _ _)))
           (case hx => exact parts_bad ((Blk.new' _ 22 [.slice A3 n2 c3, .slice (some ⟨w3.heap.size, 0, none⟩) 1 1] (by simp)).rd rfl) (avoid_lt (by have := hl2.size; have := hl3.size; omega)) ⟨part_own (hown3.later ((later_alloc _ _).trans (later_alloc _ _))) (by have := hh2.lt; omega), ⟨_, 1, 1, rfl, Nat.le_refl _, ((Blk.new w3 5 [W8 1]).later (later_alloc _ _)).rd rfl, avoid_lt (by have := hl2.size; have := hl3.size; have := hh2.lt; omega)⟩, trivial⟩)
           (case hlen => rw [HFT.out]; simp; omega)
           rintro e w4 ⟨rfl, hh4, ho4⟩
           rw [HFT.out] at hh4
           have L3 := hl2.trans ((hl3.alloc (.cells #[W8 1] 5)).alloc (.cells #[.slice A3 n2 c3, .slice (some ⟨w3.heap.size, 0, none⟩) 1 1] 22))
           have hL4 := (hl.trans L3).only ho4 hl.size
           have hown4 := own_only (hown.later L3) ho4 (fun b hb => by have := hlt7 b hb; omega)
           have hhg4 := (hh.later L3).only ho4 (by omega))
        | (go_at_call 26; refine (HRq.out A7 m c7 _ (OwnB.rd hown4) (by omega)).mono ?_; rintro e w5 ⟨rfl, hl5⟩)
        | (refine wpList_store_agg rfl rfl 39 _ _ rfl w5.heap.size 0 39 (List.replicate 32 (W8 0)) (G.val.map W8) ?b ?hx ?hy ?hi ?hf ?h1 ?_; (case hx => rfl); (case hy => rfl); (case hi => rw [List.length_map, hG]; kernel_rfl); (case hf => simp [hG]); (case h1 => exact w8_one _); (case b => exact Blk.new _ _ _); intro w6 hb6 ho6
           rw [spliced_all _ _ (by simp [hG])] at hb6))
      have hz4 := hl5.size
      have hL6 := (((hL4.trans hl5).alloc _).only ho6 (by have := hL4.size; omega))
      have hlt4 := own_below hown4
      have hown6 := own_only (own_later (own_later hown4 hl5) (later_alloc _ _)) ho6 (fun b hb => by have := hlt4 b hb; omega)
      have hhg6 := ((hhg4.later hl5).later (later_alloc _ _)).only ho6 (by have := hhg4.lt; omega)
      have hht6 := ((hh4.later hl5).later (later_alloc _ _)).only ho6 (by have := hh4.lt; omega)
      clear hL4 hown4 hhg4 hh4 hl5 ho6 ho4 hl2 hl3 hown hh hlt4 hlt7 hown3 L3 hh2
      generalize w5.heap.size = g13 at *
      generalize wr.heap.size = gt at *
      have hbx := hb6.later (later_drew _)
      refine wp_region_parts [([0, 2], 1), ([3, 4, 5, 7], 6), ([8, 9, 10, 11, 13, 14], 12), ([15, 16, 17, 18, 22], 19), ([], 20), ([], 21)] [23, 24] [] (by as_aux_lemma => kernel_rfl) (by as_aux_lemma => kernel_rfl) (by intro _ _ d _ _ h; cases d <;> exact h) ?_
      simp only [wpParts, pick, List.getElem?_cons_succ, List.getElem?_cons_zero, Option.toList_some, List.cons_append, List.nil_append]
      repeat (first | go_big_quiet_skip | (go_big_quiet_want; refine quiet_load_agg 39 _ rfl g13 0 (G.val.map W8) ?hc ?hx _ Try.underlying39 rfl ?hi ?_; (case hx => rfl); (case hi => rw [List.length_map, hG]; kernel_rfl); (case hc => rintro w' ⟨x, rfl⟩ j v hv; rw [Nat.zero_add]; exact (hbx.later ⟨x, rfl⟩).cellD j hv); simp only [Act.put, List.setIfInBounds_toArray, List.set_cons_succ, List.set_cons_zero]; go_big_quiet_on) | (go_big_quiet_step (fail)))
      refine wpQuiet_nil ?_
      go_wp2_with (go_at_call 32; refine (HSq.out gh 52 [] _ (hhg6.later (later_drew _))).mono ?_; rintro e wa ⟨rfl, hla⟩)
      have L := (later_drew _).trans hla
      have hbx := hb6.later L
      try refine ⟨by first | assumption | exact later_drew _ | exact Later.refl _, ?_⟩
      try simp only [wpParts, pick, List.getElem?_cons_succ, List.getElem?_cons_zero, Option.toList_some, List.cons_append, List.nil_append]
      repeat (first | go_big_quiet_skip | (go_big_quiet_want; refine quiet_load_agg 39 _ rfl g13 0 (G.val.map W8) ?hc ?hx _ Try.underlying39 rfl ?hi ?_; (case hx => rfl); (case hi => rw [List.length_map, hG]; kernel_rfl); (case hc => rintro w' ⟨x, rfl⟩ j v hv; rw [Nat.zero_add]; exact (hbx.later ⟨x, rfl⟩).cellD j hv); simp only [Act.put, List.setIfInBounds_toArray, List.set_cons_succ, List.set_cons_zero]; go_big_quiet_on) | (go_big_quiet_step (fail)))
      refine wpQuiet_nil ?_
      go_wp2_with (go_at_call 32; refine (HSq.out gh 52 [] _ (hhg6.later L)).mono ?_; rintro e wb ⟨rfl, hlb⟩)
      have L := L.trans hlb
      have hbx := hb6.later L
      try refine ⟨by first | assumption | exact later_drew _ | exact Later.refl _, ?_⟩
      try simp only [wpParts, pick, List.getElem?_cons_succ, List.getElem?_cons_zero, Option.toList_some, List.cons_append, List.nil_append]
      repeat (first | go_big_quiet_skip | (go_big_quiet_want; refine quiet_load_agg 39 _ rfl g13 0 (G.val.map W8) ?hc ?hx _ Try.underlying39 rfl ?hi ?_; (case hx => rfl); (case hi => rw [List.length_map, hG]; kernel_rfl); (case hc => rintro w' ⟨x, rfl⟩ j v hv; rw [Nat.zero_add]; exact (hbx.later ⟨x, rfl⟩).cellD j hv); simp only [Act.put, List.setIfInBounds_toArray, List.set_cons_succ, List.set_cons_zero]; go_big_quiet_on) | (go_big_quiet_step (fail)))
      refine wpQuiet_nil ?_
      go_wp2_with (go_at_call 31; refine (len_is gh 52 [] F m _ (hhg6.later L) hml).mono ?_; rintro e wc ⟨rfl, rfl⟩)
      try refine ⟨by first | assumption | exact later_drew _ | exact Later.refl _, ?_⟩
      try simp only [wpParts, pick, List.getElem?_cons_succ, List.getElem?_cons_zero, Option.toList_some, List.cons_append, List.nil_append]
      repeat (first | go_big_quiet_skip | (go_big_quiet_want; refine quiet_load_agg 39 _ rfl g13 0 (G.val.map W8) ?hc ?hx _ Try.underlying39 rfl ?hi ?_; (case hx => rfl); (case hi => rw [List.length_map, hG]; kernel_rfl); (case hc => rintro w' ⟨x, rfl⟩ j v hv; rw [Nat.zero_add]; exact (hbx.later ⟨x, rfl⟩).cellD j hv); simp only [Act.put, List.setIfInBounds_toArray, List.set_cons_succ, List.set_cons_zero]; go_big_quiet_on) | (go_big_quiet_step (fail)))
      refine wpQuiet_nil ?_
      go_wp2_with (go_at_call 25; refine (copies_any A n c ps _ (hx.later (hL6.trans L)) (by omega) (fun p h => by have := HP.out p h; omega)).mono ?_; rintro e wd ⟨Ad, cd, rfl, hopd, hld⟩)
      have L := L.trans hld
      have hbx := hb6.later L
      try refine ⟨by first | assumption | exact later_drew _ | exact Later.refl _, ?_⟩
      try simp only [wpParts, pick, List.getElem?_cons_succ, List.getElem?_cons_zero, Option.toList_some, List.cons_append, List.nil_append]
      repeat (first | go_big_quiet_skip | (go_big_quiet_want; refine quiet_load_agg 39 _ rfl g13 0 (G.val.map W8) ?hc ?hx _ Try.underlying39 rfl ?hi ?_; (case hx => rfl); (case hi => rw [List.length_map, hG]; kernel_rfl); (case hc => rintro w' ⟨x, rfl⟩ j v hv; rw [Nat.zero_add]; exact (hbx.later ⟨x, rfl⟩).cellD j hv); simp only [Act.put, List.setIfInBounds_toArray, List.set_cons_succ, List.set_cons_zero]; go_big_quiet_on) | (go_big_quiet_step (fail)))
      refine wpQuiet_nil ?_
      go_wp2_with (go_at_call 33; refine (HNq.out Ad n cd _ hopd.parts (by omega) (by omega)).mono ?_; rintro e we ⟨rfl, hhe, hle⟩)
      have L := L.trans hle
      have hbx := hb6.later L
      try refine ⟨by first | assumption | exact later_drew _ | exact Later.refl _, ?_⟩
      try simp only [wpParts, pick, List.getElem?_cons_succ, List.getElem?_cons_zero, Option.toList_some, List.cons_append, List.nil_append]
      repeat (first | go_big_quiet_skip | (go_big_quiet_want; refine quiet_load_agg 39 _ rfl g13 0 (G.val.map W8) ?hc ?hx _ Try.underlying39 rfl ?hi ?_; (case hx => rfl); (case hi => rw [List.length_map, hG]; kernel_rfl); (case hc => rintro w' ⟨x, rfl⟩ j v hv; rw [Nat.zero_add]; exact (hbx.later ⟨x, rfl⟩).cellD j hv); simp only [Act.put, List.setIfInBounds_toArray, List.set_cons_succ, List.set_cons_zero]; go_big_quiet_on) | (go_big_quiet_step (fail)))
      refine wpQuiet_nil ?_
      go_wp2_with (go_at_call 32; refine (HSq.out wd.heap.size 52 [] _ hhe).mono ?_; rintro e wf ⟨rfl, hlf⟩)
      have L := L.trans hlf
      have hbx := hb6.later L
      try refine ⟨by first | assumption | exact later_drew _ | exact Later.refl _, ?_⟩
      try simp only [wpParts, pick, List.getElem?_cons_succ, List.getElem?_cons_zero, Option.toList_some, List.cons_append, List.nil_append]
      repeat (first | go_big_quiet_skip | (go_big_quiet_want; refine quiet_load_agg 39 _ rfl g13 0 (G.val.map W8) ?hc ?hx _ Try.underlying39 rfl ?hi ?_; (case hx => rfl); (case hi => rw [List.length_map, hG]; kernel_rfl); (case hc => rintro w' ⟨x, rfl⟩ j v hv; rw [Nat.zero_add]; exact (hbx.later ⟨x, rfl⟩).cellD j hv); simp only [Act.put, List.setIfInBounds_toArray, List.set_cons_succ, List.set_cons_zero]; go_big_quiet_on) | (go_big_quiet_step (fail)))
      refine wpQuiet_nil ?_
      go_wp2_with (first
        | (go_at_call 29; refine (copy_any A7 m c7 F _ ((OwnB.later hown6 L).rd) (by omega)).mono ?_; rintro e w8 ⟨A8, c8, rfl, hown8, hl8⟩)
        | (refine wpList_append_rd rfl _ _ _ rfl 5 _ 1 Try.underlying22 info8 rfl wf _ m _ hown8 hl8 A2 n2 c2 _ (ht.later (hL6.trans (L.trans hl8))) (w8_one _) rfl rfl (by omega) (by omega) ?_; intro A9 c9 w9 hown9 hl9 _ _)
        | (refine wpList_append_rd rfl _ _ _ rfl 5 _ 1 Try.underlying22 info8 rfl wf _ (m + n2) _ (own_later hown9 (later_alloc _ _)) (hl9.alloc _) _ 1 1 [W8 1] (own_rd (own_new w9 _ [W8 1] (by simp))) (w8_one [1]) rfl rfl (by omega) (by omega) ?_; intro A10 c10 w10 hown10 hl10 _ _
           have hown10' : OwnB w10 wf.heap.size A10 (m + n2 + 1) c10 (F ++ (tw ++ [1])) := own_eq hown10 rfl (by simp))
        | (go_at_call 32; refine (HSt.out gt 52 [] _ (hht6.later (L.trans hl10))).mono ?_; rintro e w11 ⟨rfl, hl11⟩)
        | (go_at_call 26; refine (HRt.out A10 (m + n2 + 1) c10 _ (hown10'.later hl11).rd (by omega)).mono ?_; rintro e w12 ⟨rfl, hl12⟩)
        | (go_at_call 31; refine (len_is gt 52 [] (F ++ (tw ++ [1])) (m + n2 + 1) _ (hht6.later ((L.trans hl10).trans (hl11.trans hl12))) hFt).mono ?_; rintro e w13 ⟨rfl, rfl⟩))
      go_ret
      exact ⟨by simp, hL6.trans ((L.trans hl10).trans (hl11.trans hl12))⟩
end Go.Proofs.Ytmdbekdphkkmkaa
