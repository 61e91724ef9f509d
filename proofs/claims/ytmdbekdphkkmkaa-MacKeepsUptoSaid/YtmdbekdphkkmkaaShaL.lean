/-
  shallotlaw02: awake, ShaSums.
  The law ShaFlows, walked.
  Strings as bytes: '[]byte(s)', 'append(b, s...)'.
  sha.Label, Name; the law ShaLabels, walked.
  The law ShaLabels, walked.
-/
import Derived.Test.YtmdbekdphkkmkaaShaA
import Derived.Test.YtmdbekdphkkmkaaHelp
import Derived.Lib.AppendStr
import Derived.Laws.IdiomStrings
namespace Go.Proofs.Ytmdbekdphkkmkaa
open Go.RowKit

set_option maxRecDepth 100000 in
theorem abc_sum : (shaSum ([[97], [], [98, 99]] : List (List UInt8)).flatten)[0]? = some 186 ∧ (shaSum ([[97], [], [98, 99]] : List (List UInt8)).flatten)[1]? = some 120 ∧
    (shaSum ([[97], [], [98, 99]] : List (List UInt8)).flatten)[2]? = some 22 ∧ (shaSum ([[97], [], [98, 99]] : List (List UInt8)).flatten)[31]? = some 173 := by decide +kernel
theorem w8_get {l : List UInt8} {i : Nat} {x : UInt8} (h : l[i]? = some x) : (l.map W8)[i]? = some (W8 x) := by rw [List.getElem?_map, h]; rfl

set_option maxRecDepth 100000 in
set_option maxHeartbeats 1000000 in
theorem awake02 (w : World) : Calls Try.prog 23 #[] w fun e w' => e = .returned (.bool true) ∧ Later w w' := by
  obtain ⟨h0, h1, h2, h31⟩ := abc_sum
  have hG := shaSum_length ([[97], [], [98, 99]] : List (List UInt8)).flatten
  have hs := fun A n c w hx => ssum_any A n c ([[97], [], [98, 99]] : List (List UInt8)) w hx
  generalize shaSum ([[97], [], [98, 99]] : List (List UInt8)).flatten = G at *
  have HS := hid hs
  clear hs
  go_enter Try.func23, Try.ntmps23
  go_wp2_with (first
    | (refine wpList_convert_lit rfl _ _ rfl 5 Try.underlying22 Try.underlying5 w [W8 97] rfl w.heap.size 1 1 rfl rfl ?_; intro w1 hl1 hr1 hz1)
    | (refine wpList_convert_lit rfl _ _ rfl 5 Try.underlying22 Try.underlying5 w1 [W8 98, W8 99] rfl w1.heap.size 2 2 rfl rfl ?_; intro w2 hl2 hr2 hz2)
    | (go_at_call 24; go_loud (refine (HS.out _ _ _ _ ?hparts (by omega) (by simp)).mono ?_; (case hparts => exact parts_of (vs := [.slice (some ⟨w.heap.size, 0, none⟩) 1 1, .slice none 0 0, .slice (some ⟨w1.heap.size, 0, none⟩) 2 2]) ((Blk.new w2 _ _).rd rfl) ⟨part_of ((Rd.later hr1 hl2).later (later_alloc _ _)) (by omega), part_of (rdb_none _) (by omega), part_of (Rd.later hr2 (later_alloc _ _)) (by omega), trivial⟩); rintro e w3 ⟨rfl, hl3⟩))
    | (refine wpList_store_agg rfl rfl 39 _ _ rfl w3.heap.size 0 39 (List.replicate 32 (W8 0)) (G.map W8) ?b ?hx ?hy ?hi ?hf ?h1 ?_; (case hx => rfl); (case hy => rfl); (case hi => rw [List.length_map, hG]; kernel_rfl); (case hf => simp [hG]); (case h1 => exact w8_one _); (case b => exact Blk.new _ _ _); intro w9 hb9 ho9
       rw [spliced_all _ _ (by simp [hG])] at hb9
       have c0 := hb9.cellD 0 (w8_get h0)
       have c1 := hb9.cellD 1 (w8_get h1)
       have c2 := hb9.cellD 2 (w8_get h2)
       have c31 := hb9.cellD 31 (w8_get h31)))
  go_ret
  exact ⟨rfl, ((((hl1.trans hl2).alloc _).trans hl3).alloc _).only ho9 (by have := hl1.size; have := hl2.size; have := hl3.size; simp at this; omega)⟩
set_option maxHeartbeats 1000000 in
theorem shaSums_walk (A : Option Addr) (n c : Nat) (ps : List (List UInt8)) (w : World) (hx : Parts w (fun _ => False) A n ps) (hm : ps.flatten.length + n ≤ 1048576) (hp : ∀ p ∈ ps, p.length ≤ 1048576) :
    Calls Try.prog 5 #[.slice A n c] w fun e w' => e = .returned (.bool true) ∧ Later w w' := by
  have hp' : ∀ p ∈ ps, p.length ≤ 140737488355328 := fun p h => by have := hp p h; omega
  have hG := shaSum_length ps.flatten
  have hs := fun A n c w hx => ssum_any A n c ps w hx
  have hr := fun A n c w hx => ref_sum A n c ps.flatten w hx
  have hj := fun A n c w hx => join_any A n c ps w hx
  generalize shaSum ps.flatten = G at *
  generalize ps.flatten = F at *
  have HJ := hid hj
  have HS := hid hs
  have HR := hid hr
  have HP := hid hp'
  clear hs hr hp hp' hj
  go_enter Try.func5, Try.ntmps5
  go_wp2_with (first
    | (go_at_call 23; refine (awake02 _).mono ?_; rintro e w1 ⟨rfl, hl1⟩)
    | (go_at_call 25; refine (copies_any A n c ps _ (hx.later hl1) (by omega) HP.out).mono ?_; rintro e w2 ⟨A2, c2, rfl, hop2, hl2⟩)
    | (go_at_call 24; refine (HS.out A2 n c2 _ hop2.parts (by omega) (by omega)).mono ?_; rintro e w3 ⟨rfl, hl3⟩)
    | (go_at_call 27; refine (HJ.out A n c _ (((hx.later hl1).later hl2).later hl3) (by omega) (by omega)).mono ?_; rintro e w4 ⟨A4, c4, rfl, hop4, hl4⟩)
    | (go_at_call 26; refine (HR.out A4 _ c4 _ hop4.rd (by omega)).mono ?_; rintro e w5 ⟨rfl, hl5⟩))
  go_ret
  exact ⟨by simp, (((hl1.trans hl2).trans hl3).trans hl4).trans hl5⟩
end Go.Proofs.Ytmdbekdphkkmkaa
namespace Go.Proofs.Ytmdbekdphkkmkaa
open Go.RowKit

theorem ne_hash : (52 : TypeId) ≠ 5 := by decide
theorem HashAt.grown {w w' : World} {g base : Nat} {rest : List Value} {bs : List UInt8} {v : Value} {n : Nat} {vs : List Value} (h : HashAt w g 52 rest bs) (hown : w.ownsRow base 5 1 v n vs) (hg : w.grownBy w' v.ownBlock) : HashAt w' g 52 rest bs := by
  obtain ⟨st, op, h1, h2⟩ := h
  exact ⟨st, op, h1, blk_grown h2 hown ne_hash hg⟩
theorem own_hash {w : World} {g base : Nat} {rest : List Value} {bs : List UInt8} {v : Value} {n : Nat} {vs : List Value} (hown : w.ownsRow base 5 1 v n vs) (h : HashAt w g 52 rest bs) : ∀ b, v.ownBlock = some b → b ≠ g := by
  intro b hb
  obtain ⟨st, op, h1, h2⟩ := h
  rcases hown.2 with ⟨rfl, _⟩ | ⟨g2, c2, cur2, rfl, _, hh2, _⟩
  · simp [Value.ownBlock] at hb
  · simp only [Value.ownBlock, Option.some.injEq] at hb
    subst hb
    exact fun e => (Blk.ne_type (l := cur2.toList) (t := 5) hh2 h2 (fun e => ne_hash e.symm)) e
theorem len_is (g : Nat) (t : TypeId) (rest : List Value) (bs : List UInt8) (N : Nat) (w : World) (hh : HashAt w g t rest bs) (hN : bs.length = N) :
    Calls Try.prog 31 #[.pointer (some ⟨g, 0, none⟩)] w fun e w' => e = .returned (.int .i64 N) ∧ w' = w := by
  subst hN
  exact len_any g t rest bs w hh
theorem flatten_one (q : List UInt8) : [q].flatten = q := by simp
theorem own_cut {w : World} {base : Nat} {A : Option Addr} {n m c : Nat} {bs xs ys : List UInt8} (h : w.ownsRow base 5 1 (.slice A n c) n (xs.map W8 ++ ys.map W8)) (hb : xs ++ ys = bs) (hn : n = m) : OwnB w base A m c bs := by
  subst hb
  subst hn
  rw [← List.map_append] at h
  exact h

set_option maxRecDepth 100000 in
set_option maxHeartbeats 4000000 in
theorem shaFlows_walk (A A2 : Option Addr) (n c n2 c2 : Nat) (ps : List (List UInt8)) (tw : List UInt8) (w : World) (hx : Parts w (fun _ => False) A n ps) (ht : RdB w A2 n2 tw)
    (hm : ps.flatten.length + n + tw.length ≤ 1048576) (hp : ∀ p ∈ ps, p.length ≤ 1048576) :
    Calls Try.prog 7 #[.slice A n c, .slice A2 n2 c2] w fun e w' => e = .returned (.bool true) ∧ Later w w' := by
  have htl := ht.len
  have hpl := hx.len
  have hG0 := shaSum_length []
  have hS0 := fun g t rest w hh => hsum_any g t rest [] w hh (by simp)
  have hR0 := fun w => ref_sum none 0 0 [] w (rdb_none w) (by omega)
  generalize shaSum [] = G0 at *
  have HS0 := hid hS0
  have HR0 := hid hR0
  have HP := hid hp
  clear hS0 hR0 hp
  go_enter Try.func7, Try.ntmps7
  go_wp2_with (first
    | (go_at_call 23; refine (awake02 _).mono ?_; rintro e w1 ⟨rfl, hl1⟩)
    | (go_at_call 31; refine (len_is w1.heap.size 52 [] [] 0 _ (hashAt_new w1) rfl).mono ?_; rintro e w2 ⟨rfl, rfl⟩)
    | (go_at_call 32; refine (HS0.out w1.heap.size 52 [] _ (hashAt_new w1)).mono ?_; rintro e w2 ⟨rfl, hl2⟩)
    | (go_at_call 26; refine (HR0.out _).mono ?_; rintro e w3 ⟨rfl, hl3⟩)
    | (go_at_call 33; refine (new_any none 0 0 [] _ ⟨[], ⟨rfl, fun h => absurd h (by omega)⟩, avoid_false _ _, rfl, fun j v p hv => by simp at hv⟩ (by omega) (by simp)).mono ?_; rintro e w4 ⟨rfl, hh4, hl4⟩))
  have hl : Later w w4 := (((hl1.alloc _).trans hl2).trans hl3).trans hl4
  have hgh : w.heap.size ≤ w3.heap.size := by have := hl1.size; have := hl2.size; have := hl3.size; simp at *; omega
  generalize hg : w3.heap.size = gh at *
  clear hg hl1 hl2 hl3 hl4
  go_loopw [7, 27] (fun v7 v27 wr => ∃ (k : Nat) (A7 : Option Addr) (m c7 : Nat), k ≤ n ∧ v27 = .int .i64 k ∧ v7 = .slice A7 m c7 ∧ OwnB wr w.heap.size A7 m c7 (ps.take k).flatten ∧ HashAt wr gh 52 [] (ps.take k).flatten ∧ Later w wr) (fun _ i _ => n - (intOf i).toNat)
  case atStart => exact ⟨0, _, _, _, by omega, rfl, rfl, own_nil _ _ _, hh4, hl⟩
  case round =>
    clear hh4 hl
    obtain ⟨k, A7, m, c7, hk, rfl, rfl, hown, hh, hl⟩ := hrel
    have hlt7 := own_below hown
    have hghw := hh.lt
    have hml := hown.len
    by_cases hlt : k < n
    · as_aux_lemma =>
      obtain ⟨b, o, Ak, nk, ck, rfl, hb, hck, hcap, hrd, _⟩ := hx.at_ hlt
      have hck' := (hl.below.cell (p := ⟨b, o + k, none⟩) hb).trans hck
      have hql := hrd.len
      have hs := take_succ_getD ps k (by omega)
      have hs' : (ps.take (k + 1)).flatten = (ps.take k).flatten ++ ps.getD k [] := by rw [hs]; simp
      have hle := flatten_take_le ps (k + 1)
      rw [hs', List.length_append] at hle
      have HS := hid hs'
      clear hs hs' hck
      generalize ps.getD k [] = q at *
      generalize (ps.take k).flatten = F at *
      have hFq : (F ++ q).length = m + nk := by rw [List.length_append]; omega
      have hG := shaSum_length (F ++ q)
      have hSq := fun g t rest w hh => hsum_any g t rest (F ++ q) w hh (by omega)
      have hRq := fun A n c w hr => ref_sum A n c (F ++ q) w hr
      generalize shaSum (F ++ q) = G at *
      have HSq := hid hSq
      have HRq := hid hRq
      clear hSq hRq
      by_cases hr4 : (k : Int) % 4 = 0
      all_goals
        go_wp2_with (first
          | (go_at_call 29; refine (copy_any Ak nk ck q _ (hrd.later hl) (by omega)).mono ?_; rintro e w3 ⟨A3, c3, rfl, hown3, hl3⟩)
          | (go_at_call 34; refine (write_any gh 52 [] F (some ⟨w3.heap.size, 0, none⟩) 1 1 [q] _ (hh.later (hl3.alloc _)) (parts_bad ((Blk.new w3 22 [.slice A3 nk c3]).rd rfl) (avoid_lt (by have := hl3.size; omega)) ⟨part_own (hown3.later (later_alloc _ _)) hghw, trivial⟩) (by omega) (by rw [flatten_one]; omega)).mono ?_; rintro e w4 ⟨rfl, hh4, ho4⟩
             rw [flatten_one] at hh4
             have hown4 := own_only (hown3.later (later_alloc _ _)) ho4 (fun b hb => by have := (hown3.lt b hb).1; omega)
             have hown74 := own_only (hown.later (hl3.alloc _)) ho4 (own_hash hown hh)
             have hl4 := (hl.trans (hl3.alloc _)).only ho4 hgh)
          | (go_at_call 35; refine (over_own wr.heap.size A3 nk c3 q w4 hown4 (by omega)).mono ?_; rintro e w5 ⟨rfl, hown5, hg5⟩
             have hh5 := hh4.grown hown4 hg5
             have hown75 := own_apart hown74 hlt7 hown4 (Nat.le_refl _) hg5
             have hl5 := hl4.grownBy hg5 (fun b hb => by have := (hown4.lt b hb).1; have := hl.size; omega))
          | (refine wpList_append_rd rfl _ _ _ rfl 5 _ 1 Try.underlying22 info8 rfl w _ m _ hown75 hl5 Ak nk ck _ (hrd.later hl5) (w8_one _) rfl rfl (by omega) (by omega) ?_; intro A6 c6 w6 hown6 hl6 hg6 _
             have hh6 := hh5.grown hown75 hg6
             have hown6' := own_cut hown6 rfl rfl)
          | (go_at_call 31; refine (len_is gh 52 [] (F ++ q) (m + nk) _ hh6 hFq).mono ?_; rintro e w7 ⟨rfl, rfl⟩)
          | (go_at_call 32; refine (HSq.out gh 52 [] _ hh6).mono ?_; rintro e w8 ⟨rfl, hl8⟩)
          | (go_at_call 26; refine (HRq.out _ _ _ _ (hown6'.later hl8).rd (by omega)).mono ?_; rintro e w9 ⟨rfl, hl9⟩))
      · refine ⟨⟨k + 1, A6, m + nk, c6, by omega, by go_num, rfl, ?_, ?_, hl6.trans (hl8.trans hl9)⟩, by simp only [intOf]; omega⟩
        · rw [HS.out]
          exact hown6'.later (hl8.trans hl9)
        · rw [HS.out]
          exact hh6.later (hl8.trans hl9)
      · refine ⟨⟨k + 1, A6, m + nk, c6, by omega, by go_num, rfl, ?_, ?_, hl6⟩, by simp only [intOf]; omega⟩
        · rw [HS.out]
          exact hown6'
        · rw [HS.out]
          exact hh6
    · as_aux_lemma =>
      have hkn : k = n := by omega
      rw [hkn, List.take_of_length_le (by omega)] at hown hh hml
      clear hkn
      have hSq := fun g t rest w hh => hsum_any g t rest ps.flatten w hh (by omega)
      have hRq := fun A n c w hr => ref_sum A n c ps.flatten w hr
      have hNq := fun A n c w hx => new_any A n c ps w hx
      have hG := shaSum_length ps.flatten
      generalize shaSum ps.flatten = G at *
      obtain ⟨G, rfl⟩ := sub32 hG
      generalize ps.flatten = F at *
      have hFt : (F ++ (tw ++ [1])).length = m + n2 + 1 := by simp; omega
      have hSt := fun g t rest w hh => hsum_any g t rest (F ++ (tw ++ [1])) w hh (by omega)
      have hRt := fun A n c w hr => ref_sum A n c (F ++ (tw ++ [1])) w hr
      have hG2 := shaSum_length (F ++ (tw ++ [1]))
      generalize shaSum (F ++ (tw ++ [1])) = G2 at *
      have HSq := hid hSq
      have HRq := hid hRq
      have HNq := hid hNq
      have HSt := hid hSt
      have HRt := hid hRt
      clear hSq hRq hNq hSt hRt
      have hft : [tw, [1]].flatten = tw ++ [1] := by simp
      have HFT := hid hft
      clear hft
      go_wp2_with (first
        | (go_at_call 36; refine (twin_any gh 52 [] F _ hh).mono ?_; rintro e w2 ⟨rfl, hh2, hl2⟩)
        | (go_at_call 29; refine (copy_any A2 n2 c2 tw _ (ht.later (hl.trans hl2)) (by omega)).mono ?_; rintro e w3 ⟨A3, c3, rfl, hown3, hl3⟩)
        | (go_at_call 34; refine (write_any wr.heap.size 52 [] F (some ⟨w3.heap.size + 1, 0, none⟩) 2 2 [tw, [1]] _ ?hh ?hx (by omega) ?hlen).mono ?_
           (case hh => exact (hh2.later hl3).later ((later_alloc _ _).trans (later_alloc _ _)))
           (case hx => exact parts_bad ((Blk.new' _ 22 [.slice A3 n2 c3, .slice (some ⟨w3.heap.size, 0, none⟩) 1 1] (by simp)).rd rfl) (avoid_lt (by have := hl2.size; have := hl3.size; omega)) ⟨part_own (hown3.later ((later_alloc _ _).trans (later_alloc _ _))) (by have := hh2.lt; omega), ⟨_, 1, 1, rfl, Nat.le_refl _, ((Blk.new w3 5 [W8 1]).later (later_alloc _ _)).rd rfl, avoid_lt (by have := hl2.size; have := hl3.size; have := hh2.lt; omega)⟩, trivial⟩)
           (case hlen => rw [HFT.out]; simp; omega)
           rintro e w4 ⟨rfl, hh4, ho4⟩
           rw [HFT.out] at hh4
           have L3 := hl2.trans ((hl3.alloc (.cells #[W8 1] 5)).alloc (.cells #[.slice A3 n2 c3, .slice (some ⟨w3.heap.size, 0, none⟩) 1 1] 22))
           have hL4 := (hl.trans L3).only ho4 hl.size
           have hown4 := own_only (hown.later L3) ho4 (fun b hb => by have := hlt7 b hb; omega)
           have hhg4 := (hh.later L3).only ho4 (by omega))
        | (go_at_call 26; refine (HRq.out A7 m c7 _ (OwnB.rd hown4) (by omega)).mono ?_; rintro e w5 ⟨rfl, hl5⟩)
        | (refine wpList_store_agg rfl rfl 39 _ _ rfl w5.heap.size 0 39 (List.replicate 32 (W8 0)) (G.val.map W8) ?b ?hx ?hy ?hi ?hf ?h1 ?_; (case hx => rfl); (case hy => rfl); (case hi => rw [List.length_map, hG]; kernel_rfl); (case hf => simp [hG]); (case h1 => exact w8_one _); (case b => exact Blk.new _ _ _); intro w6 hb6 ho6
           rw [spliced_all _ _ (by simp [hG])] at hb6))
      have hz4 := hl5.size
      have hL6 := (((hL4.trans hl5).alloc _).only ho6 (by have := hL4.size; omega))
      have hlt4 := own_below hown4
      have hown6 := own_only (own_later (own_later hown4 hl5) (later_alloc _ _)) ho6 (fun b hb => by have := hlt4 b hb; omega)
      have hhg6 := ((hhg4.later hl5).later (later_alloc _ _)).only ho6 (by have := hhg4.lt; omega)
      have hht6 := ((hh4.later hl5).later (later_alloc _ _)).only ho6 (by have := hh4.lt; omega)
      clear hL4 hown4 hhg4 hh4 hl5 ho6 ho4 hl2 hl3 hown hh hlt4 hlt7 hown3 L3 hh2
      generalize w5.heap.size = g13 at *
      generalize wr.heap.size = gt at *
      have hbx := hb6.later (later_drew _)
      refine wp_region_parts [([0, 2], 1), ([3, 4, 5, 7], 6), ([8, 9, 10, 11, 13, 14], 12), ([15, 16, 17, 18, 22], 19), ([], 20), ([], 21)] [23, 24] [] (by as_aux_lemma => kernel_rfl) (by as_aux_lemma => kernel_rfl) (by intro _ _ d _ _ h; cases d <;> exact h) ?_
      simp only [wpParts, pick, List.getElem?_cons_succ, List.getElem?_cons_zero, Option.toList_some, List.cons_append, List.nil_append]
      repeat (first | go_big_quiet_skip | (go_big_quiet_want; refine quiet_load_agg 39 _ rfl g13 0 (G.val.map W8) ?hc ?hx _ Try.underlying39 rfl ?hi ?_; (case hx => rfl); (case hi => rw [List.length_map, hG]; kernel_rfl); (case hc => rintro w' ⟨x, rfl⟩ j v hv; rw [Nat.zero_add]; exact (hbx.later ⟨x, rfl⟩).cellD j hv); simp only [Act.put, List.setIfInBounds_toArray, List.set_cons_succ, List.set_cons_zero]; go_big_quiet_on) | (go_big_quiet_step (fail)))
      refine wpQuiet_nil ?_
      go_wp2_with (go_at_call 32; refine (HSq.out gh 52 [] _ (hhg6.later (later_drew _))).mono ?_; rintro e wa ⟨rfl, hla⟩)
      have L := (later_drew _).trans hla
      have hbx := hb6.later L
      try refine ⟨by first | assumption | exact later_drew _ | exact later_alloc _ _ | exact Later.refl _, ?_⟩
      try simp only [wpParts, pick, List.getElem?_cons_succ, List.getElem?_cons_zero, Option.toList_some, List.cons_append, List.nil_append]
      repeat (first | go_big_quiet_skip | (go_big_quiet_want; refine quiet_load_agg 39 _ rfl g13 0 (G.val.map W8) ?hc ?hx _ Try.underlying39 rfl ?hi ?_; (case hx => rfl); (case hi => rw [List.length_map, hG]; kernel_rfl); (case hc => rintro w' ⟨x, rfl⟩ j v hv; rw [Nat.zero_add]; exact (hbx.later ⟨x, rfl⟩).cellD j hv); simp only [Act.put, List.setIfInBounds_toArray, List.set_cons_succ, List.set_cons_zero]; go_big_quiet_on) | (go_big_quiet_step (fail)))
      refine wpQuiet_nil ?_
      go_wp2_with (go_at_call 32; refine (HSq.out gh 52 [] _ (hhg6.later L)).mono ?_; rintro e wb ⟨rfl, hlb⟩)
      have L := L.trans hlb
      have hbx := hb6.later L
      try refine ⟨by first | assumption | exact later_drew _ | exact later_alloc _ _ | exact Later.refl _, ?_⟩
      try simp only [wpParts, pick, List.getElem?_cons_succ, List.getElem?_cons_zero, Option.toList_some, List.cons_append, List.nil_append]
      repeat (first | go_big_quiet_skip | (go_big_quiet_want; refine quiet_load_agg 39 _ rfl g13 0 (G.val.map W8) ?hc ?hx _ Try.underlying39 rfl ?hi ?_; (case hx => rfl); (case hi => rw [List.length_map, hG]; kernel_rfl); (case hc => rintro w' ⟨x, rfl⟩ j v hv; rw [Nat.zero_add]; exact (hbx.later ⟨x, rfl⟩).cellD j hv); simp only [Act.put, List.setIfInBounds_toArray, List.set_cons_succ, List.set_cons_zero]; go_big_quiet_on) | (go_big_quiet_step (fail)))
      refine wpQuiet_nil ?_
      go_wp2_with (go_at_call 31; refine (len_is gh 52 [] F m _ (hhg6.later L) hml).mono ?_; rintro e wc ⟨rfl, rfl⟩)
      try refine ⟨by first | assumption | exact later_drew _ | exact later_alloc _ _ | exact Later.refl _, ?_⟩
      try simp only [wpParts, pick, List.getElem?_cons_succ, List.getElem?_cons_zero, Option.toList_some, List.cons_append, List.nil_append]
      repeat (first | go_big_quiet_skip | (go_big_quiet_want; refine quiet_load_agg 39 _ rfl g13 0 (G.val.map W8) ?hc ?hx _ Try.underlying39 rfl ?hi ?_; (case hx => rfl); (case hi => rw [List.length_map, hG]; kernel_rfl); (case hc => rintro w' ⟨x, rfl⟩ j v hv; rw [Nat.zero_add]; exact (hbx.later ⟨x, rfl⟩).cellD j hv); simp only [Act.put, List.setIfInBounds_toArray, List.set_cons_succ, List.set_cons_zero]; go_big_quiet_on) | (go_big_quiet_step (fail)))
      refine wpQuiet_nil ?_
      go_wp2_with (go_at_call 25; refine (copies_any A n c ps _ (hx.later (hL6.trans L)) (by omega) (fun p h => by have := HP.out p h; omega)).mono ?_; rintro e wd ⟨Ad, cd, rfl, hopd, hld⟩)
      have L := L.trans hld
      have hbx := hb6.later L
      try refine ⟨by first | assumption | exact later_drew _ | exact later_alloc _ _ | exact Later.refl _, ?_⟩
      try simp only [wpParts, pick, List.getElem?_cons_succ, List.getElem?_cons_zero, Option.toList_some, List.cons_append, List.nil_append]
      repeat (first | go_big_quiet_skip | (go_big_quiet_want; refine quiet_load_agg 39 _ rfl g13 0 (G.val.map W8) ?hc ?hx _ Try.underlying39 rfl ?hi ?_; (case hx => rfl); (case hi => rw [List.length_map, hG]; kernel_rfl); (case hc => rintro w' ⟨x, rfl⟩ j v hv; rw [Nat.zero_add]; exact (hbx.later ⟨x, rfl⟩).cellD j hv); simp only [Act.put, List.setIfInBounds_toArray, List.set_cons_succ, List.set_cons_zero]; go_big_quiet_on) | (go_big_quiet_step (fail)))
      refine wpQuiet_nil ?_
      go_wp2_with (go_at_call 33; refine (HNq.out Ad n cd _ hopd.parts (by omega) (by omega)).mono ?_; rintro e we ⟨rfl, hhe, hle⟩)
      have L := L.trans hle
      have hbx := hb6.later L
      try refine ⟨by first | assumption | exact later_drew _ | exact later_alloc _ _ | exact Later.refl _, ?_⟩
      try simp only [wpParts, pick, List.getElem?_cons_succ, List.getElem?_cons_zero, Option.toList_some, List.cons_append, List.nil_append]
      repeat (first | go_big_quiet_skip | (go_big_quiet_want; refine quiet_load_agg 39 _ rfl g13 0 (G.val.map W8) ?hc ?hx _ Try.underlying39 rfl ?hi ?_; (case hx => rfl); (case hi => rw [List.length_map, hG]; kernel_rfl); (case hc => rintro w' ⟨x, rfl⟩ j v hv; rw [Nat.zero_add]; exact (hbx.later ⟨x, rfl⟩).cellD j hv); simp only [Act.put, List.setIfInBounds_toArray, List.set_cons_succ, List.set_cons_zero]; go_big_quiet_on) | (go_big_quiet_step (fail)))
      refine wpQuiet_nil ?_
      go_wp2_with (go_at_call 32; refine (HSq.out wd.heap.size 52 [] _ hhe).mono ?_; rintro e wf ⟨rfl, hlf⟩)
      have L := L.trans hlf
      have hbx := hb6.later L
      try refine ⟨by first | assumption | exact later_drew _ | exact later_alloc _ _ | exact Later.refl _, ?_⟩
      try simp only [wpParts, pick, List.getElem?_cons_succ, List.getElem?_cons_zero, Option.toList_some, List.cons_append, List.nil_append]
      repeat (first | go_big_quiet_skip | (go_big_quiet_want; refine quiet_load_agg 39 _ rfl g13 0 (G.val.map W8) ?hc ?hx _ Try.underlying39 rfl ?hi ?_; (case hx => rfl); (case hi => rw [List.length_map, hG]; kernel_rfl); (case hc => rintro w' ⟨x, rfl⟩ j v hv; rw [Nat.zero_add]; exact (hbx.later ⟨x, rfl⟩).cellD j hv); simp only [Act.put, List.setIfInBounds_toArray, List.set_cons_succ, List.set_cons_zero]; go_big_quiet_on) | (go_big_quiet_step (fail)))
      refine wpQuiet_nil ?_
      go_wp2_with (first
        | (go_at_call 29; refine (copy_any A7 m c7 F _ ((OwnB.later hown6 L).rd) (by omega)).mono ?_; rintro e w8 ⟨A8, c8, rfl, hown8, hl8⟩)
        | (refine wpList_append_rd rfl _ _ _ rfl 5 _ 1 Try.underlying22 info8 rfl wf _ m _ hown8 hl8 A2 n2 c2 _ (ht.later (hL6.trans (L.trans hl8))) (w8_one _) rfl rfl (by omega) (by omega) ?_; intro A9 c9 w9 hown9 hl9 _ _)
        | (refine wpList_append_rd rfl _ _ _ rfl 5 _ 1 Try.underlying22 info8 rfl wf _ (m + n2) _ (own_later hown9 (later_alloc _ _)) (hl9.alloc _) _ 1 1 [W8 1] (own_rd (own_new w9 _ [W8 1] (by simp))) (w8_one [1]) rfl rfl (by omega) (by omega) ?_; intro A10 c10 w10 hown10 hl10 _ _
           have hown10' : OwnB w10 wf.heap.size A10 (m + n2 + 1) c10 (F ++ (tw ++ [1])) := own_eq hown10 rfl (by simp))
        | (go_at_call 32; refine (HSt.out gt 52 [] _ (hht6.later (L.trans hl10))).mono ?_; rintro e w11 ⟨rfl, hl11⟩)
        | (go_at_call 26; refine (HRt.out A10 (m + n2 + 1) c10 _ (hown10'.later hl11).rd (by omega)).mono ?_; rintro e w12 ⟨rfl, hl12⟩)
        | (go_at_call 31; refine (len_is gt 52 [] (F ++ (tw ++ [1])) (m + n2 + 1) _ (hht6.later ((L.trans hl10).trans (hl11.trans hl12))) hFt).mono ?_; rintro e w13 ⟨rfl, rfl⟩))
      go_ret
      exact ⟨by simp, hL6.trans ((L.trans hl10).trans (hl11.trans hl12))⟩
end Go.Proofs.Ytmdbekdphkkmkaa
namespace Go.Proofs.Ytmdbekdphkkmkaa
open Go.RowKit

def strB (s : ByteArray) : List UInt8 := s.data.toList
theorem strB_length (s : ByteArray) : (strB s).length = s.size := by simp [strB]
theorem strCells_w8 (s : ByteArray) : Lib.strCells s = (strB s).map W8 := rfl
section
variable {P : Program} {ops : Array Oper} {rest : List Oper} {o : Oper} {a : Act} {w : World} {Q : Exit → Act → World → Prop}
/-- '[]byte(s)'. -/
theorem wpList_convert_str (hgd : o.guard = none) (src dst : TypeId) (x : Operand) (ho : o.op = .convert src dst x) (e : TypeId) (hs : P.underlying src = some .string) (hd : P.underlying dst = some (.slice e)) (he : P.underlying e = some (.int .u8))
    (s : ByteArray) (hx : a.eval x = .string s)
    (h : ∀ c w', Later w w' → RdB w' (some ⟨w.heap.size, 0, none⟩) s.size (strB s) → s.size ≤ c → w.heap.size < w'.heap.size → wpList P ops Q rest (a.put o.dst (.slice (some ⟨w.heap.size, 0, none⟩) s.size c)) w') : wpList P ops Q (o :: rest) a w :=
  wpList_plain hgd fun K hK => by
    have hr := run_bytes_of_string (P := P) w src dst e s hs hd he
    unfold Oper.wp execOp
    simp only [ho, hx, Sem.run_bind, hr, Result.andThen_ok, Sem.run_pure]
    refine hK _ _ (h _ _ ((later_drew w).alloc _) ⟨by simp [strB], fun _ => ⟨_, _, rfl, by simp, fun j u hu => ?_⟩⟩ (grownCap_ge w s.size 0 e) (by simp))
    rw [Nat.zero_add]
    have hu' : (s.data.toList.map W8)[j]? = some u := hu
    have hj : j < s.data.size := by have := (List.getElem?_eq_some_iff.1 hu').1; simpa using this
    have hc : (bytesRow s (grownCap w s.size 0 e))[j]? = some u := by
      unfold bytesRow
      rw [Array.getElem?_append_left (by simpa using hj), Array.getElem?_map]
      rw [List.getElem?_map, Array.getElem?_toList] at hu'
      exact hu'
    generalize bytesRow s (grownCap w s.size 0 e) = C at *
    unfold World.cell?
    have hb : (w.drew.alloc (.cells C e (C.size, C.size + 1))).heap[w.heap.size]? = some (.cells C e (C.size, C.size + 1)) := by
      show (w.heap.push _)[w.heap.size]? = _
      simp
    rw [hb]
    exact hc
theorem wpList_append_str (hgd : o.guard = none) (s x : Operand) (t u : TypeId) (ho : o.op = .call { callee := .builtin .append, args := #[s, x], argTypes := #[t, u] })
    (e : TypeId) (ht : P.underlying t = some (.slice e)) (hu : P.underlying u = some .string) (hinfo : (P.info? e).map (fun i => (i.zero, i.size, i.bytes)) = some (some (.int .u8 0), 1, 1))
    (w0 : World) (v : Value) (n : Nat) (vs : List Value) (hown : w.ownsRow w0.heap.size e 1 v n vs) (hl : Later w0 w) (st : ByteArray) (hs : a.eval s = v) (hx : a.eval x = .string st) (hsz : n + st.size ≤ 140737488355328)
    (h : ∀ A' c' w', w'.ownsRow w0.heap.size e 1 (.slice A' (n + st.size) c') (n + st.size) (vs ++ (strB st).map W8) → Later w0 w' → w.grownBy w' v.ownBlock → wpList P ops Q rest (a.put o.dst (.slice A' (n + st.size) c')) w') :
    wpList P ops Q (o :: rest) a w := by
  obtain ⟨i, hi, hz, hsize, hbytes⟩ := info_parts hinfo
  refine wpList_plain hgd fun K hK => ?_
  obtain ⟨v', w', hrun, hown', hg, _⟩ := Lib.run_append_own_string (P := P) w w0.heap.size t u o.type e i ht hu hi hz hsize hbytes v n vs hown st (by unfold maxLen; omega) hsz hl.size
  obtain ⟨A', c', rfl⟩ := own_shape hown'
  unfold Oper.wp execOp
  simp only [ho, resolve, invoke, builtin, Sem.run_bind, Sem.run_pure, Result.andThen_ok, List.map_toArray, List.map_cons, List.map_nil, hs, hx, hrun]
  exact hK _ _ (h A' c' w' hown' (hl.grownBy hg (fun k hk => (hown.lt k hk).1)) hg)
end
end Go.Proofs.Ytmdbekdphkkmkaa
namespace Go.Proofs.Ytmdbekdphkkmkaa
open Go.RowKit

/-- The label's bytes behind its length. -/
def labB (s : ByteArray) : List UInt8 := UInt8.ofInt s.size :: strB s
theorem labB_length (s : ByteArray) : (labB s).length = s.size + 1 := by simp [labB, strB_length]
theorem zeroLab (s : ByteArray) : Try.zeroCells66.setIfInBounds 73 (Value.string s) = (hCells zeroS8 (List.replicate 64 0) 0 ++ [Value.string s]).toArray := by kernel_rfl
theorem hashAt_lab (w : World) (s : ByteArray) : HashAt (w.alloc (.cells (Try.zeroCells66.setIfInBounds 73 (Value.string s)) 66)) w.heap.size 66 [Value.string s] [] :=
  ⟨zeroS8, List.replicate 64 0, hok_nil, by rw [zeroLab]; exact Blk.new _ _ _⟩
theorem label_flat (x : UInt8) (l : List UInt8) : [[x], l].flatten = x :: l := by simp
set_option maxRecDepth 100000 in
set_option maxHeartbeats 1000000 in
theorem label_ok (s : ByteArray) (hs : s.size ≤ 255) (w : World) : Calls Try.prog 40 #[.string s] w fun e w' =>
    e = .returned (.tuple #[.pointer (some ⟨w.heap.size, 0, none⟩), .int .i64 0]) ∧ HashAt w' w.heap.size 66 [.string s] (labB s) ∧ Later w w' := by
  have hsl := strB_length s
  have hf := hid (label_flat (UInt8.ofInt s.size) (strB s))
  go_enter Try.func40, Try.ntmps40
  go_wp2_with (first
    | (refine wpList_convert_str rfl _ _ _ rfl 5 Try.underlying9 Try.underlying22 Try.underlying5 s rfl ?_; intro c1 w1 hl1 hr1 hc1 hz1; simp only [World.size_alloc] at hr1 hz1)
    | (go_at_call 34; refine (write_any w.heap.size 66 [Value.string s] [] (some ⟨w1.heap.size, 0, none⟩) 2 2 [[UInt8.ofInt s.size], strB s] _ ?hh ?hx (by omega) ?hlen).mono ?_
       (case hh => exact (((hashAt_lab w s).later (later_alloc _ _)).later hl1).later (later_alloc _ _))
       (case hx => exact parts_bad ((Blk.new w1 22 _).rd rfl) (avoid_lt (by omega)) ⟨⟨_, 1, 1, rfl, Nat.le_refl _, (((Blk.new' _ 5 [W8 (UInt8.ofInt s.size)] (by simp)).later hl1).later (later_alloc _ _)).rd rfl, avoid_lt (by omega)⟩, ⟨_, s.size, c1, rfl, hc1, hr1.later (later_alloc _ _), avoid_lt (by omega)⟩, trivial⟩)
       (case hlen => rw [hf.out]; simp [hsl]; omega)
       rintro e w4 ⟨rfl, hh4, ho4⟩
       rw [hf.out, List.nil_append] at hh4))
  go_ret2
  exact ⟨rfl, hh4, ((((Later.refl w).alloc _).alloc _).trans hl1 |>.alloc _).only ho4 (Nat.le_refl _)⟩
theorem label_bad (s : ByteArray) (hs : 255 < s.size) (w : World) : Calls Try.prog 40 #[.string s] w fun e w' => e = .returned (.tuple #[.pointer none, .int .i64 2]) ∧ w' = w := by
  go_enter Try.func40, Try.ntmps40
  go_wp2
  go_ret2
  exact ⟨rfl, rfl⟩
theorem name_any (g : Nat) (t : TypeId) (s : ByteArray) (bs : List UInt8) (w : World) (hh : HashAt w g t [Value.string s] bs) :
    Calls Try.prog 41 #[.pointer (some ⟨g, 0, none⟩)] w fun e w' => e = .returned (.string s) ∧ w' = w := by
  obtain ⟨st, op, h1, h2⟩ := hh
  have d0 := h2.cellD 73 (u := Value.string s) (by rw [List.getElem?_append_right (by rw [hCells_length _ _ _ h1.len]; omega), hCells_length _ _ _ h1.len]; rfl)
  go_enter Try.func41, Try.ntmps41
  go_wp2
  go_ret
  exact ⟨rfl, rfl⟩
end Go.Proofs.Ytmdbekdphkkmkaa
namespace Go.Proofs.Ytmdbekdphkkmkaa
open Go.RowKit

theorem OwnParts.partsBad {w : World} {base g : Nat} {A : Option Addr} {n c : Nat} {ps : List (List UInt8)} (h : OwnParts w base A n c ps) (hg : g < base) : Parts w (· = g) A n ps := by
  obtain ⟨vs, h1, h2, h3⟩ := h
  exact ⟨vs, own_rd h1, fun _ ad hA hb => by subst hA; have := (h1.lt ad.block rfl).1; omega, h2, fun j v p hv hp => by obtain ⟨A', n', c', e1, e2⟩ := h3 j v p hv hp; subst e1; exact part_own e2 hg⟩
theorem lab_ab : labB ⟨#[97, 98]⟩ = [2, 97, 98] := by decide +kernel
set_option maxRecDepth 100000 in
set_option maxHeartbeats 4000000 in
theorem shaLabels_bad (s : ByteArray) (hs : 255 < s.size) (A : Option Addr) (n c : Nat) (w : World) :
    Calls Try.prog 9 #[.string s, .slice A n c] w fun e w' => e = .returned (.bool true) ∧ Later w w' := by
  go_enter Try.func9, Try.ntmps9
  go_wp2_with fail
  refine (label_ok ⟨#[97, 98]⟩ (by decide) w).mono ?_
  rintro e w1 ⟨rfl, hh1, hl1⟩
  rw [lab_ab] at hh1
  go_wp2_with (first
    | (go_at_call 31; refine (len_is w.heap.size 66 [Value.string ⟨#[97, 98]⟩] [2, 97, 98] 3 _ hh1 rfl).mono ?_; rintro e w2 ⟨rfl, rfl⟩)
    | (go_at_call 41; refine (name_any w.heap.size 66 ⟨#[97, 98]⟩ [2, 97, 98] _ hh1).mono ?_; rintro e w2 ⟨rfl, rfl⟩)
    | (go_at_call 40; refine (label_bad s hs _).mono ?_; rintro e w2 ⟨rfl, rfl⟩))
  go_ret
  exact ⟨rfl, hl1⟩
set_option maxRecDepth 100000 in
set_option maxHeartbeats 4000000 in
theorem shaLabels_ok (s : ByteArray) (hs : s.size ≤ 255) (A : Option Addr) (n c : Nat) (ps : List (List UInt8)) (w : World) (hx : Parts w (fun _ => False) A n ps) (hm : ps.flatten.length + n ≤ 1048576) (hp : ∀ p ∈ ps, p.length ≤ 1048576) :
    Calls Try.prog 9 #[.string s, .slice A n c] w fun e w' => e = .returned (.bool true) ∧ Later w w' := by
  have hpl := hx.len
  have hlb := labB_length s
  have hsl := strB_length s
  have HP := hid hp
  clear hp
  have hj := fun A n c w hx => join_any A n c ps w hx
  generalize hF : ps.flatten = F at *
  have HF := hid hF
  clear hF
  have hAll : (labB s ++ F).length = s.size + 1 + F.length := by rw [List.length_append, hlb]
  have hSa := fun g t rest w hh => hsum_any g t rest (labB s ++ F) w hh (by omega)
  have hRa := fun A n c w hr => ref_sum A n c (labB s ++ F) w hr
  have hG := shaSum_length (labB s ++ F)
  generalize shaSum (labB s ++ F) = G at *
  obtain ⟨G, rfl⟩ := sub32 hG
  have HSa := hid hSa
  have HRa := hid hRa
  have HJ := hid hj
  clear hSa hRa hj
  go_enter Try.func9, Try.ntmps9
  go_wp2_with fail
  refine (label_ok ⟨#[97, 98]⟩ (by decide) w).mono ?_
  rintro e w1 ⟨rfl, hh1, hl1⟩
  rw [lab_ab] at hh1
  go_wp2_with (first
    | (go_at_call 31; refine (len_is w.heap.size 66 [Value.string ⟨#[97, 98]⟩] [2, 97, 98] 3 _ hh1 rfl).mono ?_; rintro e w2 ⟨rfl, rfl⟩)
    | (go_at_call 41; refine (name_any w.heap.size 66 ⟨#[97, 98]⟩ [2, 97, 98] _ hh1).mono ?_; rintro e w2 ⟨rfl, rfl⟩)
    | (go_at_call 40; refine (label_ok s hs _).mono ?_; rintro e w3 ⟨rfl, hh3, hl3⟩))
  have L3 := hl1.trans hl3
  have hlt3 := hh3.lt
  have hgw := hl1.size
  generalize hgl : w2.heap.size = gl at *
  clear hgl
  refine wp_region_parts [([0, 1, 2, 3], 4)] [] [5] (by as_aux_lemma => kernel_rfl) (by as_aux_lemma => kernel_rfl) (by intro _ _ d _ _ h; cases d <;> exact h) ?_
  simp only [wpParts, pick, List.getElem?_cons_succ, List.getElem?_cons_zero, Option.toList_some, List.cons_append, List.nil_append]
  repeat (go_big_quiet_step (fail))
  refine wpQuiet_nil ?_
  go_wp2_with (go_at_call 25; refine (copies_any A n c ps _ (hx.later L3.drew) (by omega) (fun p h => by have := HP.out p h; omega)).mono ?_; rintro e w4 ⟨A4, c4, rfl, hop4, hl4⟩)
  try refine ⟨by first | assumption | exact later_drew _ | exact later_alloc _ _ | exact Later.refl _, ?_⟩
  try simp only [wpParts, pick, List.getElem?_cons_succ, List.getElem?_cons_zero, Option.toList_some, List.cons_append, List.nil_append]
  repeat (go_big_quiet_step (fail))
  refine wpQuiet_nil ?_
  go_wp2_with (first
    | (go_at_call 34; refine (write_any gl 66 [Value.string s] (labB s) A4 n c4 ps _ (hh3.later ((later_drew _).trans hl4)) (hop4.partsBad hlt3) (by omega) (by rw [HF.out]; omega)).mono ?_; rintro e w5 ⟨rfl, hh5, ho5⟩
       rw [HF.out] at hh5
       have L5 := (L3.drew.trans hl4).only ho5 hgw)
    | (refine wpList_append_str rfl _ _ _ _ rfl 5 Try.underlying22 Try.underlying9 info8 w5 _ 1 _ (own_new w5 _ [W8 (UInt8.ofInt s.size)] (by simp)) (later_alloc _ _) s rfl rfl (by omega) ?_; intro A6 c6 w6 hown6 hl6 hg6)
    | (go_at_call 27; refine (HJ.out A n c _ (hx.later (L5.trans hl6)) (by omega) (by omega)).mono ?_; rintro e w7 ⟨A7, c7, rfl, hown7, hl7⟩)
    | (refine wpList_append_rd rfl _ _ _ rfl 5 _ 1 Try.underlying22 info8 rfl w5 _ (1 + s.size) _ (own_later hown6 hl7) (hl6.trans hl7) A7 F.length c7 _ hown7.rd (w8_one _) rfl rfl (by omega) (by omega) ?_; intro A8 c8 w8 hown8 hl8 _ _
       have hown8' : OwnB w8 w5.heap.size A8 (1 + s.size + F.length) c8 (labB s ++ F) := own_eq hown8 rfl (by simp [labB]))
    | (go_at_call 33; refine (new_any (some ⟨w8.heap.size, 0, none⟩) 1 1 [labB s ++ F] _ ?hx (by omega) (by rw [flatten_one]; omega)).mono ?_
       (case hx => exact parts_of ((Blk.new w8 22 _).rd rfl) ⟨part_of (hown8'.rd.later (later_alloc _ _)) hown8'.cap, trivial⟩)
       rintro e w9 ⟨rfl, hh9, hl9⟩
       rw [flatten_one] at hh9))
  have L9 := (hl8.alloc (.cells #[.slice A8 (1 + s.size + F.length) c8] 22)).trans hl9
  have hhl := hh5.later L9
  have hown9 := (hown8'.later (later_alloc _ _)).later hl9
  have LW := L5.trans L9
  simp only [World.size_alloc] at hh9
  generalize w8.heap.size + 1 = gp at *
  clear hh5 hown8' hown8 hh3 hop4 hl4 ho5
  refine wp_region_parts [([0, 1, 2, 4], 3), ([], 5), ([6, 7, 8, 9, 10, 12, 13, 14], 11), ([], 15), ([16, 17, 18, 19, 20, 21, 23, 24], 22), ([25, 26, 27, 28, 30], 29), ([31, 32, 33, 34, 35, 36, 39], 37), ([], 38), ([], 40)] [41, 42, 43] [] (by as_aux_lemma => kernel_rfl) (by as_aux_lemma => kernel_rfl) (by intro _ _ d _ _ h; cases d <;> exact h) ?_
  simp only [wpParts, pick, List.getElem?_cons_succ, List.getElem?_cons_zero, Option.toList_some, List.cons_append, List.nil_append]
  repeat (go_big_quiet_step (fail))
  refine wpQuiet_nil ?_
  go_wp2_with (go_at_call 32; refine (HSa.out gl 66 [Value.string s] _ (hhl.later (later_drew _))).mono ?_; rintro e wa ⟨rfl, hla⟩)
  have L := (later_drew w9).trans hla
  try refine ⟨by first | assumption | exact later_drew _ | exact later_alloc _ _ | exact Later.refl _, ?_⟩
  try simp only [wpParts, pick, List.getElem?_cons_succ, List.getElem?_cons_zero, Option.toList_some, List.cons_append, List.nil_append]
  repeat (go_big_quiet_step (fail))
  refine wpQuiet_nil ?_
  go_wp2_with (go_at_call 26; refine (HRa.out A8 _ c8 _ (hown9.later L).rd (by omega)).mono ?_; rintro e wb ⟨rfl, hlb⟩)
  have L := L.trans hlb
  try refine ⟨by first | assumption | exact later_drew _ | exact later_alloc _ _ | exact Later.refl _, ?_⟩
  try simp only [wpParts, pick, List.getElem?_cons_succ, List.getElem?_cons_zero, Option.toList_some, List.cons_append, List.nil_append]
  repeat (go_big_quiet_step (fail))
  refine wpQuiet_nil ?_
  go_wp2_with (go_at_call 32; refine (HSa.out gl 66 [Value.string s] _ (hhl.later L)).mono ?_; rintro e wc ⟨rfl, hlc⟩)
  have L := L.trans hlc
  try refine ⟨by first | assumption | exact later_drew _ | exact later_alloc _ _ | exact Later.refl _, ?_⟩
  try simp only [wpParts, pick, List.getElem?_cons_succ, List.getElem?_cons_zero, Option.toList_some, List.cons_append, List.nil_append]
  repeat (go_big_quiet_step (fail))
  refine wpQuiet_nil ?_
  go_wp2_with (go_at_call 32; refine (HSa.out gl 66 [Value.string s] _ (hhl.later L)).mono ?_; rintro e wd ⟨rfl, hld⟩)
  have L := L.trans hld
  try refine ⟨by first | assumption | exact later_drew _ | exact later_alloc _ _ | exact Later.refl _, ?_⟩
  try simp only [wpParts, pick, List.getElem?_cons_succ, List.getElem?_cons_zero, Option.toList_some, List.cons_append, List.nil_append]
  repeat (go_big_quiet_step (fail))
  refine wpQuiet_nil ?_
  go_wp2_with (go_at_call 31; refine (len_is gl 66 [Value.string s] (labB s ++ F) (1 + s.size + F.length) _ (hhl.later L) (by omega)).mono ?_; rintro e we ⟨rfl, rfl⟩)
  try refine ⟨by first | assumption | exact later_drew _ | exact later_alloc _ _ | exact Later.refl _, ?_⟩
  try simp only [wpParts, pick, List.getElem?_cons_succ, List.getElem?_cons_zero, Option.toList_some, List.cons_append, List.nil_append]
  repeat (go_big_quiet_step (fail))
  refine wpQuiet_nil ?_
  go_wp2_with (go_at_call 41; refine (name_any gl 66 s (labB s ++ F) _ (hhl.later L)).mono ?_; rintro e wf ⟨rfl, rfl⟩)
  try refine ⟨by first | assumption | exact later_drew _ | exact later_alloc _ _ | exact Later.refl _, ?_⟩
  try simp only [wpParts, pick, List.getElem?_cons_succ, List.getElem?_cons_zero, Option.toList_some, List.cons_append, List.nil_append]
  repeat (go_big_quiet_step (fail))
  refine wpQuiet_nil ?_
  go_wp2_with (go_at_call 36; refine (twin_any gl 66 [Value.string s] (labB s ++ F) _ (hhl.later L)).mono ?_; rintro e wg ⟨rfl, hhg, hlg⟩)
  try refine ⟨by first | assumption | exact later_drew _ | exact later_alloc _ _ | exact Later.refl _, ?_⟩
  try simp only [wpParts, pick, List.getElem?_cons_succ, List.getElem?_cons_zero, Option.toList_some, List.cons_append, List.nil_append]
  repeat (go_big_quiet_step (fail))
  refine wpQuiet_nil ?_
  go_wp2_with (go_at_call 32; refine (HSa.out _ 52 [] _ hhg).mono ?_; rintro e wh ⟨rfl, hlh⟩)
  have L := (L.trans hlg).trans hlh
  try refine ⟨by first | assumption | exact later_drew _ | exact later_alloc _ _ | exact Later.refl _, ?_⟩
  try simp only [wpParts, pick, List.getElem?_cons_succ, List.getElem?_cons_zero, Option.toList_some, List.cons_append, List.nil_append]
  repeat (go_big_quiet_step (fail))
  refine wpQuiet_nil ?_
  go_wp2_with (go_at_call 32; refine (HSa.out gp 52 [] _ (hh9.later L)).mono ?_; rintro e wi ⟨rfl, hli⟩)
  have L := L.trans hli
  try refine ⟨by first | assumption | exact later_drew _ | exact later_alloc _ _ | exact Later.refl _, ?_⟩
  try simp only [wpParts, pick, List.getElem?_cons_succ, List.getElem?_cons_zero, Option.toList_some, List.cons_append, List.nil_append]
  repeat (go_big_quiet_step (fail))
  refine wpQuiet_nil ?_
  go_wp2
  go_ret
  exact ⟨rfl, LW.trans L⟩
theorem shaLabels_walk (s : ByteArray) (A : Option Addr) (n c : Nat) (ps : List (List UInt8)) (w : World) (hx : Parts w (fun _ => False) A n ps) (hm : ps.flatten.length + n ≤ 1048576) (hp : ∀ p ∈ ps, p.length ≤ 1048576) :
    Calls Try.prog 9 #[.string s, .slice A n c] w fun e w' => e = .returned (.bool true) ∧ Later w w' := by
  by_cases hs : s.size ≤ 255
  · exact shaLabels_ok s hs A n c ps w hx hm hp
  · exact shaLabels_bad s (by omega) A n c w
end Go.Proofs.Ytmdbekdphkkmkaa
