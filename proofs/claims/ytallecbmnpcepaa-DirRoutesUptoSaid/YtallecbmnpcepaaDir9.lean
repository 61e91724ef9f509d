/-
  shallotref09: Same, Make.
-/
import Derived.Test.YtallecbmnpcepaaDir7
namespace Go.Proofs.Ytallecbmnpcepaa
open Go.RowKit
open Go.BigFrame

/-! ### Rows with room behind -/
theorem spliced_app (l rest : List Value) (off : Nat) (vs : List Value) (h : off + vs.length ≤ l.length) : spliced (l ++ rest) off vs = spliced l off vs ++ rest := by
  simp only [spliced]
  rw [List.take_append_of_le_length (by omega), List.drop_append_of_le_length h]
  simp only [List.append_assoc]
theorem own_blkF {w : World} {base sz n c : Nat} {e : TypeId} {A : Option Addr} {vs : List Value} (h : w.ownsRow base e sz (.slice A n c) n vs) (hn : 0 < n) : ∃ g rest, A = some ⟨g, 0, none⟩ ∧ base ≤ g ∧ Blk w g e (vs ++ rest) := by
  rcases h.2 with ⟨hv, h0⟩ | ⟨g, cap, cur, hv, hb, hh, hnc, hm, hs, ht⟩
  · omega
  · cases hv
    refine ⟨g, cur.toList.drop (n * sz), rfl, hb, ?_⟩
    rw [show vs = cur.toList.take (n * sz) by simpa using ht.symm, List.take_append_drop]
    exact hh
theorem blk_rdF_app {α : Type} {F : α → List Value} {sz : Nat} {d : α} {w : World} {n : Nat} {xs : List α} {rest : List Value} (hF : ∀ x, (F x).length = sz) {g : Nat} {t : TypeId} (h : Blk w g t (xs.flatMap F ++ rest)) (hn : xs.length = n) : RdF F sz d w (some ⟨g, 0, none⟩) n xs := by
  refine ⟨hn, fun _ => ⟨g, 0, rfl, h.lt, fun j i v hj hv => ?_⟩⟩
  rw [Nat.zero_add]
  have e := flatF_get hF d xs j (by omega) hv
  refine h.cellD _ ?_
  rw [List.getElem?_append_left (List.getElem?_eq_some_iff.1 e).1]
  exact e
theorem size66 : (Try.prog.info? 45).map (·.size) = some 66 := by kernel_rfl
section
variable {ops : Array Oper} {rest : List Oper} {o : Oper} {a : Act} {w : World} {Q : Exit → Act → World → Prop}
/-- A whole node is loaded. -/
theorem load_nod (hgd : Region.wanted o (yielded ops a.tmps) = true) (x : Operand) (ho : o.op = .load 45 x) {g off : Nat} {y : Nod} (hc : ∀ i v, (NC y)[i]? = some v → w.cell? ⟨g, off + i, none⟩ = some v) (hx : a.eval x = .pointer (some ⟨g, off, none⟩))
    (h : wpList Try.prog ops Q rest (a.put o.dst (.agg (NC y).toArray)) w) : wpList Try.prog ops Q (o :: rest) a w :=
  wpList_load_at hgd _ x ho g off _ hc hx _ Try.underlying45 rfl (by rw [NC_length]; exact size66) h
theorem quiet_nod {J : Act → Prop} (x : Operand) (ho : o.op = .load 45 x) {w0 : World} {g off : Nat} {y : Nod} (hc : ∀ i v, (NC y)[i]? = some v → w0.cell? ⟨g, off + i, none⟩ = some v) (hg : g < w0.heap.size) (hx : a.eval x = .pointer (some ⟨g, off, none⟩)) (h : J (a.put o.dst (.agg (NC y).toArray))) :
    o.quiet Try.prog a (fun w' => ∃ x, w' = grow w0 x) J :=
  quiet_load_agg _ x ho g off (NC y) (fun w' hw j v hv => by obtain ⟨y, rfl⟩ := hw; exact ((Later.below ⟨y, rfl⟩).cell (p := ⟨g, off + j, none⟩) hg).trans (hc j v hv)) hx _ Try.underlying45 rfl (by rw [NC_length]; exact size66) h
end
theorem blk_oneN (w : World) (t : TypeId) (x : Nod) : Blk (w.alloc (.cells (NC x).toArray t)) w.heap.size t ([x].flatMap NC) := by
  rw [List.flatMap_cons, List.flatMap_nil, List.append_nil]
  exact Blk.new w t _
set_option maxRecDepth 100000 in
theorem same_ok (A B : Option Addr) (n c d : Nat) (xs : List Nod) (w : World) (hx : RdN w A n xs) (hy : RdN w B n xs) (hn : n ≤ 1099511627776) :
    Calls Try.prog 17 #[.slice A n c, .slice B n d] w fun e w' => e = .returned (.bool true) ∧ Later w w' := by
  have hl0 := hx.1
  go_enter Try.func17, Try.ntmps17
  go_wp2
  go_loopw [5] (fun i wr => ∃ k : Nat, i = .int .i64 k ∧ k ≤ n ∧ Later w wr) (fun i _ => n - (intOf i).toNat)
  case atStart => exact ⟨0, rfl, by omega, Later.refl w⟩
  case round =>
    obtain ⟨k, rfl, hk, L⟩ := hrel
    by_cases hlt : k < n
    · obtain ⟨b, o, rfl, hb, hc⟩ := (hx.later L.drew).at_ hlt
      obtain ⟨b', o', rfl, hb', hc'⟩ := (hy.later L.drew).at_ hlt
      generalize xs.getD k nod0 = x at *
      have hself := eqNod_self x
      go_wp2_with fail
      refine wp_region_parts [] [0, 1, 2, 3, 4, 5, 6, 7, 8] [] (by as_aux_lemma => kernel_rfl) (by as_aux_lemma => kernel_rfl) (by intro _ _ d _ _ h; cases d <;> exact h) ?_
      simp only [wpParts, pick, List.getElem?_cons_succ, List.getElem?_cons_zero, Option.toList_some, List.cons_append, List.nil_append]
      repeat (first | go_big_quiet_skip | (go_big_quiet_want; (first | refine quiet_nod _ rfl hc hb rfl ?_ | refine quiet_nod _ rfl hc' hb' rfl ?_); simp only [Act.put, List.setIfInBounds_toArray, List.set_cons_succ, List.set_cons_zero]; go_big_quiet_on) | (go_big_quiet_step (fail)))
      refine wpQuiet_nil ?_
      go_wp2
      exact ⟨⟨k + 1, by go_num, by omega, L.drew⟩, by simp [intOf]; omega⟩
    · obtain rfl : k = n := by omega
      go_wp2
      go_ret
      exact ⟨rfl, L⟩
set_option maxRecDepth 100000 in
set_option maxHeartbeats 4000000 in
theorem dmake_ref (A B : Option Addr) (n c m d : Nat) (seed : List UInt8) (ss : List ByteArray) (w : World) (hx : RdB w A n seed) (hn : n ≤ 35184372088832) (hb : Strs w B m ss) (hm : m ≤ 1099511627776) (hs : ∀ s ∈ ss, s.size ≤ 140737488355328) :
    Calls Try.prog 16 #[.slice A n c, .slice B m d] w fun e w' => ∃ v, e = .returned (.tuple #[v, .int .i64 (makeE ss : Nat)]) ∧ (makeE ss ≠ 0 → v = .slice none 0 0) ∧ (makeE ss = 0 → ∃ A' c', v = .slice A' m c' ∧ RdN w' A' m (makeL seed ss)) ∧ Later w w' := by
  have hml : ss.length = m := by simpa using hb.1
  have hnl : (nodsOf ss).length = m := by rw [nodsOf, tabN_length, hml]
  go_enter Try.func16, Try.ntmps16
  go_wp2
  go_loopw [6, 7] (fun v i wr => ∃ (k c : Nat) (A : Option Addr), k ≤ m ∧ i = .int .i64 k ∧ v = .slice A k c ∧ wr.ownsRow w.heap.size 45 66 (.slice A k c) k (((nodsOf ss).take k).flatMap NC) ∧ Later w wr) (fun _ i _ => m - (intOf i).toNat)
  case atStart => exact ⟨0, 0, none, by omega, rfl, rfl, World.ownsRow_nil w _ _ 66, Later.refl w⟩
  case round =>
    obtain ⟨k, c2, A2, hk, rfl, rfl, hown, L⟩ := hrel
    by_cases hlt : k < m
    · obtain ⟨b, o, rfl, hbb, hck⟩ := (hb.later L).at_ hlt
      have hst := hid (show (nodsOf ss).take (k + 1) = (nodsOf ss).take k ++ [nodeOf k (ss.getD k .empty)] by rw [List.take_add_one, nodsOf, tabN_get _ (by omega)]; rfl)
      generalize ss.getD k .empty = s at *
      have hxk := hid (show (⟨s, UInt64.ofInt (k : Int) + 1, zero32, zero32⟩ : Nod) = nodeOf k s by rw [nodeOf, ofIntNat_w64, UInt64.ofNat_add]; rfl)
      go_wp2_with (first
        | (refine wpList_build_w rfl _ _ rfl (NC ⟨s, UInt64.ofInt (k : Int) + 1, zero32, zero32⟩) (by simp only [List.map_toArray, List.map_cons, List.map_nil]; exact built_nod2 _ _) ?_)
        | (refine build_oneC rfl 22 _ rfl 45 66 _ (NC ⟨s, UInt64.ofInt (k : Int) + 1, zero32, zero32⟩) Try.underlying22 infoN2 (by omega) (by omega) (NC_length _) rfl ?_)
        | (refine wpList_append_f NC_length NC_one (by omega) rfl _ _ _ rfl 45 _ 88 Try.underlying22 infoN rfl w _ k _ (own_laterF hown (later_alloc _ _)) (L.alloc _) _ 1 1 [⟨s, UInt64.ofInt (k : Int) + 1, zero32, zero32⟩] (blk_rdF (d := nod0) NC_length (blk_oneN wr _ _) rfl) rfl rfl (by omega) (by omega) ?_; intro A3 c3 w3 hown3 hl3 hg3)
        | fail)
      rw [hxk.out, ← List.flatMap_append, ← hst.out] at hown3
      exact ⟨⟨k + 1, c3, A3, by omega, by go_num, rfl, hown3, hl3⟩, by simp [intOf]; omega⟩
    · obtain rfl : k = m := by omega
      rw [List.take_of_length_le (by omega)] at hown
      have hns : ∀ x ∈ nodsOf ss, x.nm.size ≤ 140737488355328 := by
        intro x hx
        obtain ⟨j, hj, rfl⟩ := List.mem_map.1 hx
        exact hs _ (by rw [List.getD_eq_getElem?_getD, List.getElem?_eq_getElem (List.mem_range.1 hj)]; exact List.getElem_mem _)
      have hC := hid (dcheck_ref A2 k c2 (nodsOf ss) wr (own_rdF NC_length hown hnl) (by omega) hns)
      have hE : checkN (nodsOf ss) = makeE ss := rfl
      rw [hE] at hC
      clear hE hns hs
      go_wp2_with fail
      refine (hC.out).mono ?_
      rintro e w2 ⟨rfl, l2⟩
      replace hown := own_laterF hown l2
      replace L := L.trans l2
      clear l2 hC
      by_cases hE0 : makeE ss = 0
      · have hEE := hid hE0
        have hok := hid (makeE_ok hE0)
        rw [hE0]
        clear hE0
        have hT := macTag_length nodeB seed
        have ht := fun B d w h1 h2 => refTag_any B A 4 d n c nodeB seed w h1 (by omega) h2 (by omega)
        have he := fun A B c d w (s : ByteArray) h1 h2 (h3 : s.size ≤ 1048576) => refExpand_ok A B 32 c s.size d 32 (macTag nodeB seed) (strB s) w h1 (by omega) h2 (by omega) (by omega)
        have hd : ∀ s, expB (macTag nodeB seed) (strB s) 32 = keyK seed s := fun s => rfl
        simp only [hd] at he
        generalize macTag nodeB seed = T at *
        have HT := hid ht
        have HE := hid he
        clear ht he hd
        rw [← keyAt_zero seed] at hown
        obtain ⟨g, rest, hgr⟩ : ∃ g rest, 0 < k → A2 = some ⟨g, 0, none⟩ ∧ w.heap.size ≤ g ∧ Blk w2 g 45 ((keyAt seed ss 0).flatMap NC ++ rest) := by
          by_cases h0 : 0 < k
          · obtain ⟨g, rest, h1, h2, h3⟩ := own_blkF hown h0
            exact ⟨g, rest, fun _ => ⟨h1, h2, h3⟩⟩
          · exact ⟨0, [], fun h => absurd h h0⟩
        clear hown
        have hgr1 := hid (fun h => (hgr h).1)
        have hgr2 := hid (fun h => (hgr h).2.1)
        have hgr3 := fun h => (hgr h).2.2
        clear hgr
        go_wp2_with (first
          | (refine wpList_convert_lit rfl _ _ rfl 5 Try.underlying33 Try.underlying5 w2 (nodeB.map W8) rfl w2.heap.size 4 4 rfl rfl ?_; intro w3 hl3 hr3 hz3)
          | (go_at_call 38; refine (HT.out _ 4 _ hr3 ((hx.later L).later hl3)).mono ?_; rintro e w4 ⟨rfl, hl4⟩)
          | (refine store_B rfl rfl _ _ rfl (Blk.new w4 _ (List.replicate 32 (.int .u8 0))) rfl rfl hT rfl ?_; intro w5 hb5 ho5)
          | fail)
        have j4 := hl3.trans hl4
        have j5 : Later w2 w5 := (j4.trans (later_alloc _ _)).only ho5 j4.size
        have hgk0 : w.heap.size ≤ w4.heap.size := (L.trans j4).size
        have hgk : 0 < k → w4.heap.size ≠ g := fun h => by have := (hgr3 h).lt; have := j4.size; omega
        replace hgr3 := fun h => (hgr3 h).later j5
        replace L := L.trans j5
        clear j4 j5 hl3 hr3 hz3 hl4 ho5
        generalize w4.heap.size = gk at *
        go_loopw [10] (fun i wr => ∃ j : Nat, i = .int .i64 j ∧ j ≤ k ∧ Blk wr gk 43 (T.map W8) ∧ Hid (0 < k → Blk wr g 45 ((keyAt seed ss j).flatMap NC ++ rest)) ∧ Later w wr) (fun i _ => k - (intOf i).toNat)
        case atStart => exact ⟨0, rfl, by omega, hb5, hid hgr3, L⟩
        case round =>
          clear hb5 hgr3 L
          obtain ⟨j, rfl, hj, hK, hN', L⟩ := hrel
          by_cases hlt : j < k
          · have h0k : 0 < k := by omega
            obtain rfl := hgr1.out h0k
            have hgl := hgr2.out h0k
            have hne := hgk h0k
            have hN := hN'.out h0k
            clear hN'
            obtain ⟨b, o, rfl, hbb, hck⟩ := (hb.later L).at_ hlt
            have hkl := keyAt_length seed ss j
            have hsz := (hok.out).2 j (by omega)
            have hst := hid (key_step seed ss j (by omega))
            have hKl := keyK_length seed (ss.getD j .empty)
            have hfl : ((keyAt seed ss j).flatMap NC).length = k * 66 := by rw [flatF_length NC_length, hkl, hml]
            have hsl := strB_length (ss.getD j .empty)
            generalize ss.getD j .empty = s at *
            have hE := hid (fun A B c d w h1 h2 => HE.out A B c d w s h1 h2 (by omega))
            generalize keyK seed s = D at *
            generalize (keyAt seed ss j).flatMap NC = l at *
            go_wp2_with fail
            refine wp_region_parts [([0, 1, 2, 3, 4], 5), ([], 6)] [7, 8, 9, 10, 11] [] (by as_aux_lemma => kernel_rfl) (by as_aux_lemma => kernel_rfl) (by intro _ _ d _ _ h; cases d <;> exact h) ?_
            simp only [wpParts, pick, List.getElem?_cons_succ, List.getElem?_cons_zero, Option.toList_some, List.cons_append, List.nil_append]
            repeat (go_big_quiet_step (fail))
            refine wpQuiet_nil ?_
            go_wp2_with (first
              | (refine wpList_convert_str rfl _ _ _ rfl 5 Try.underlying9 Try.underlying33 Try.underlying5 s rfl ?_; intro c1 w1 hl1 hr1 hc1 hz1)
              | fail)
            simp only [Act.put, List.setIfInBounds_toArray, List.set_cons_succ, List.set_cons_zero]
            try refine ⟨by first | assumption | exact later_drew _ | exact later_alloc _ _ | exact Later.refl _, ?_⟩
            try simp only [wpParts, pick, List.getElem?_cons_succ, List.getElem?_cons_zero, Option.toList_some, List.cons_append, List.nil_append]
            repeat (go_big_quiet_step (fail))
            refine wpQuiet_nil ?_
            go_wp2_with fail
            have hK1 := hK.drew.later hl1
            have hN1 := hN.drew.later hl1
            have L1 := L.drew.trans hl1
            refine (hE.out (some ⟨gk, 0, none⟩) _ 32 c1 _ (hK1.rd (by rw [List.length_map, hT])) hr1).mono ?_
            rintro e w2 ⟨A2, c2, rfl, hown2, hl2⟩
            replace hK1 := hK1.later hl2
            replace hN1 := hN1.later hl2
            replace L1 := L1.trans hl2
            go_wp2_with fail
            try refine ⟨by first | assumption | exact later_drew _ | exact later_alloc _ _ | exact Later.refl _, ?_⟩
            try simp only [wpParts, pick, List.getElem?_cons_succ, List.getElem?_cons_zero, Option.toList_some, List.cons_append, List.nil_append]
            repeat (go_big_quiet_step (fail))
            refine wpQuiet_nil ?_
            have hpk := pub_ok D hKl
            have hpl : (pubK D).length = 32 := pubK_length D
            have hpd : multB D (nb 9) = pubK D := rfl
            have hP := hid (fun w h => public_ref A2 32 c2 D w h (by omega))
            rw [hpk, hpd] at hP
            clear hpk hpd
            generalize pubK D = PD at *
            have hgz : g < w1.heap.size := Nat.lt_of_lt_of_le hN.drew.lt hl1.size
            have hrdb : ∀ w3, Only g w2 w3 → RdB w3 A2 32 D := fun w3 ho => OwnB.rd (own_only hown2 ho fun b hb => by have := (hown2.lt b hb).1; omega)
            go_wp2_with (first
              | (refine wpList_copy_rd rfl _ _ _ _ rfl 5 Try.underlying33 size8 g (j * 66 + 2) 32 32 45 (l ++ rest) hN1 A2 32 c2 (D.map W8) hown2.rd (w8_one _) rfl rfl (by rw [List.length_append, hfl]; omega) ?_; intro w3 hb3 ho3; rw [List.take_of_length_le (by rw [List.length_map, hKl]; omega), spliced_app _ _ _ _ (by rw [hfl, List.length_map, hKl]; omega)] at hb3)
              | fail)
            replace hK1 := hK1.only ho3 hne
            replace L1 := L1.only ho3 hgl
            (with_reducible refine (hP.out _ (hrdb _ ho3)).mono ?_); rintro e w4 ⟨rfl, hl4⟩
            replace hb3 := hb3.later hl4
            replace hK1 := hK1.later hl4
            replace L1 := L1.trans hl4
            go_wp2_with (first
              | (refine wpList_store_agg rfl rfl 43 _ _ rfl g (j * 66 + 34) 45 (spliced l (j * 66 + 2) (D.map W8) ++ rest) (PD.map W8) hb3 rfl rfl (by rw [List.length_map, hpl]; exact size32b) ?hf (w8_one _) ?_; (case hf => rw [List.length_append, spliced_length _ _ _ (by rw [hfl, List.length_map, hKl]; omega), hfl, List.length_map, hpl]; omega); intro w6 hb6 ho6; rw [spliced_app _ _ _ _ (by rw [spliced_length _ _ _ (by rw [hfl, List.length_map, hKl]; omega), hfl, List.length_map, hpl]; omega), hst.out] at hb6)
              | fail)
            exact ⟨⟨j + 1, by go_num, by omega, hK1.only ho6 hne, hid (fun _ => hb6), L1.only ho6 hgl⟩, by simp [intOf]; omega⟩
          · obtain rfl : j = k := by omega
            have hfin : RdN wr A2 j (makeL seed ss) := by
              by_cases h0 : 0 < j
              · obtain rfl := hgr1.out h0
                have := hN'.out h0
                rw [← hml, keyAt_all] at this
                exact blk_rdF_app NC_length this (by rw [makeL, tabN_length, hml])
              · exact ⟨by rw [makeL, tabN_length, hml], fun h => absurd h h0⟩
            go_wp2
            go_ret2
            exact ⟨.slice A2 j c2, by rw [hEE.out]; rfl, fun h => absurd hEE.out h, fun _ => ⟨A2, c2, rfl, hfin⟩, L⟩
      · have hne : ((makeE ss : Int) != 0) = true := by simpa using hE0
        have hEE := hid hE0
        clear hE0
        go_wp2
        go_ret2
        exact ⟨.slice none 0 0, rfl, fun _ => rfl, fun h => absurd h hEE.out, L⟩
end Go.Proofs.Ytallecbmnpcepaa
