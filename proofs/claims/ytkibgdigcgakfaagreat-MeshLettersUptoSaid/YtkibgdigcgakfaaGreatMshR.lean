/-
  shallotref11.Take.
-/
import Derived.Test.YtkibgdigcgakfaaGreatFrmA
import Derived.Test.YtkibgdigcgakfaaGreatMshP
import Derived.Test.YtkibgdigcgakfaaGreatBldC
namespace Go.Proofs.YtkibgdigcgakfaaGreat
open Go.RowKit
open Go.BigFrame

/-- A part in memory; va, vn, vc: its data. -/
structure Pv where
  p : Prt
  va : Option Addr
  vn : Nat
  vc : Nat
def PvC (x : Pv) : List Value := PaC x.p (.slice x.va x.vn x.vc)
def pvz : Pv := ⟨prt0, none, 0, 0⟩
theorem PvC_length (x : Pv) : (PvC x).length = 5 := rfl
theorem PvC_one (x : Pv) : ∀ u ∈ PvC x, u.oneCell' = true := PaC_one _ rfl
theorem infoPv : (Tryz.prog.info? 28).map (fun i => (i.zero, i.size, i.bytes)) = some (some (.agg (PvC pvz).toArray), 5, 56) := by kernel_rfl
theorem infoPv2 : (Tryz.prog.info? 28).map (fun i => (i.zero, i.size)) = some (some (.agg (PvC pvz).toArray), 5) := by kernel_rfl
set_option maxRecDepth 100000 in
set_option maxHeartbeats 4000000 in
theorem rtake11_ref (A B : Option Addr) (n c m d : Nat) (id : UInt64) (ks xs : List Pv) (w : World) (hk : RdF PvC 5 pvz w A n ks) (hx : RdF PvC 5 pvz w B m xs) (hl : ∀ x ∈ xs, x.p.da.length = x.vn) (hn : n ≤ 1048576) (hm : m ≤ 1048576) :
    Calls Tryz.prog 15 #[.slice A n c, W64 id, .slice B m d] w fun e w' => ∃ A' c' L E, e = .returned (.tuple #[.slice A' L.length c', .int .i64 (E : Nat)]) ∧ L = tksK Pv.p id ks xs ∧ E = tksE Pv.p id ks xs ∧ w'.ownsRow w.heap.size 28 5 (.slice A' L.length c') L.length (L.flatMap PvC) ∧ Later w w' := by
  have hkl := hk.1
  have hxl := hx.1
  go_enter Tryz.func15, Tryz.ntmps15
  go_wp2_with (first
    | (refine wpList_append_f (F := PvC) (d := pvz) PvC_length PvC_one (by omega) rfl _ _ _ rfl 28 _ 56 Tryz.underlying66 infoPv rfl w _ 0 [] (own_capK (N := 0) (Blk.new w 28 []) (Nat.le_refl _) rfl (by decide)) (later_alloc w _) A n c ks (hk.later (later_alloc w _)) rfl rfl (by omega) (by omega) ?_; intro A1 c1 w1 hown1 hl1 hg1)
    | fail)
  go_loopw [0, 8, 9] (fun kv f i wr => ∃ (k : Nat) (A' : Option Addr) (c' : Nat) (L : List Pv) (E : Nat), k ≤ m ∧ i = .int .i64 k ∧ f = .int .i64 (E : Nat) ∧ E = tksE Pv.p id ks (xs.take k) ∧ L = tksK Pv.p id ks (xs.take k) ∧ L.length ≤ n + k ∧ kv = .slice A' L.length c' ∧ wr.ownsRow w.heap.size 28 5 (.slice A' L.length c') L.length (L.flatMap PvC) ∧ Later w wr) (fun _ _ i _ => m - (intOf i).toNat)
  case atStart =>
    refine ⟨0, A1, c1, ks, 0, by omega, rfl, rfl, rfl, rfl, by omega, by rw [hkl], ?_, hl1⟩
    rw [Nat.zero_add, List.nil_append, ← hkl] at hown1
    exact hown1
  case round =>
    clear hown1 hl1 hg1
    obtain ⟨k, A2, c2, L, E, hkm, rfl, rfl, hE, hL, hLl, rfl, hown, L1⟩ := hrel
    by_cases hlt : k < m
    · obtain ⟨b, o, rfl, hb, hc⟩ := (hx.later L1).at_ hlt
      have hmem : xs.getD k pvz ∈ xs := by
        rw [List.getD_eq_getElem?_getD, List.getElem?_eq_getElem (by omega)]
        exact List.getElem_mem _
      have htk : xs.take (k + 1) = xs.take k ++ [xs.getD k pvz] := by
        rw [List.take_add_one, List.getD_eq_getElem?_getD, List.getElem?_eq_getElem (by omega)]
        rfl
      have hEs := tksE_snoc Pv.p id (xs.getD k pvz) (xs.take k) ks
      have hLs := tksK_snoc Pv.p id ks (xs.take k) (xs.getD k pvz)
      rw [← htk, ← hE, ← hL] at hEs
      rw [← htk, ← hL] at hLs
      have hpl := hl _ hmem
      generalize xs.getD k pvz = x at *
      obtain ⟨p, va, vn, vc⟩ := x
      have HES := hid hEs
      have HLS := hid hLs
      have hE' := hid hE
      have hL' := hid hL
      clear hEs hLs htk hmem hE hL
      have hck := hid (fun w => pcheck_ref p va vn vc hpl w)
      have hA : Hid (tkA id p = if p.kd ≠ 1 ∨ prtE p ≠ 0 then 3 else if p.id ≠ id then 4 else 0) := hid rfl
      have hcases : (p.kd ≠ 1 ∧ tkA id p = 3) ∨ (p.kd = 1 ∧ ((prtE p ≠ 0 ∧ tkA id p = 3) ∨ (prtE p = 0 ∧ ((p.id ≠ id ∧ tkA id p = 4) ∨ (p.id = id ∧ tkA id p = 0))))) := by
        unfold tkA
        by_cases h1 : p.kd = 1
        · by_cases h2 : prtE p = 0
          · by_cases h3 : p.id = id
            · exact .inr ⟨h1, .inr ⟨h2, .inr ⟨h3, by rw [if_neg (by rintro (h | h) <;> first | exact h h1 | exact h h2), if_neg (fun h => h h3)]⟩⟩⟩
            · exact .inr ⟨h1, .inr ⟨h2, .inl ⟨h3, by rw [if_neg (by rintro (h | h) <;> first | exact h h1 | exact h h2), if_pos h3]⟩⟩⟩
          · exact .inr ⟨h1, .inl ⟨h2, if_pos (.inr h2)⟩⟩
        · exact .inl ⟨h1, if_pos (.inl h1)⟩
      clear hA
      rcases hcases with ⟨hkd, hA⟩ | ⟨hkd, ⟨hpe, hA⟩ | ⟨hpe, ⟨hid1, hA⟩ | ⟨hid1, hA⟩⟩⟩
      case' inl =>
        have hb1 : (p.kd != 1) = true := by simpa using hkd
        replace hA := hid hA
        go_wp2_with (first
          | (refine wpList_load_at ?hw _ _ rfl b (o + k * 5) (PvC ⟨p, va, vn, vc⟩) hc rfl _ Tryz.underlying28 rfl (by rw [PvC_length]; exact size5p) ?_; (case hw => rfl))
          | (refine store_Pa (p := p) (v := .slice va vn vc) rfl rfl _ _ rfl (Blk.new wr 28 pz0) rfl rfl rfl rfl ?_; intro w2 hb2 ho2
             have l2 : Later wr w2 := (later_alloc wr _).only ho2 (Nat.le_refl _)
             obtain ⟨d0, d1, d2, d3, d4⟩ := prt_cells hb2)
          | (refine load_Pa ?hw _ rfl hb2 rfl ?_; (case hw => rfl))
          | fail)
      case' inr.inl =>
        have hb1 : (p.kd != 1) = false := by simp [hkd]
        have hz : ((prtE p : Nat) : Int) ≠ 0 := by omega
        replace hA := hid hA
        go_wp2_with (first
          | (refine wpList_load_at ?hw _ _ rfl b (o + k * 5) (PvC ⟨p, va, vn, vc⟩) hc rfl _ Tryz.underlying28 rfl (by rw [PvC_length]; exact size5p) ?_; (case hw => rfl))
          | (refine store_Pa (p := p) (v := .slice va vn vc) rfl rfl _ _ rfl (Blk.new wr 28 pz0) rfl rfl rfl rfl ?_; intro w2 hb2 ho2
             have l2 : Later wr w2 := (later_alloc wr _).only ho2 (Nat.le_refl _)
             obtain ⟨d0, d1, d2, d3, d4⟩ := prt_cells hb2)
          | (refine load_Pa ?hw _ rfl hb2 rfl ?_; (case hw => rfl))
          | fail)
        (refine (hck.out _).mono ?_); rintro e w3 ⟨rfl, j3⟩
        generalize prtE p = PE at *
        have hz2 : ((PE : Int) != 0) = true := by rw [bne_iff_ne]; exact hz
        replace hb2 := hb2.later j3
        replace l2 := l2.trans j3
        clear d0 d1 d2 d3 d4 ho2 j3
        obtain ⟨d0, d1, d2, d3, d4⟩ := prt_cells hb2
        go_wp2_with fail
      case' inr.inr.inl =>
        have hb1 : (p.kd != 1) = false := by simp [hkd]
        have hb3 : (p.id != id) = true := by simpa using hid1
        replace hA := hid hA
        go_wp2_with (first
          | (refine wpList_load_at ?hw _ _ rfl b (o + k * 5) (PvC ⟨p, va, vn, vc⟩) hc rfl _ Tryz.underlying28 rfl (by rw [PvC_length]; exact size5p) ?_; (case hw => rfl))
          | (refine store_Pa (p := p) (v := .slice va vn vc) rfl rfl _ _ rfl (Blk.new wr 28 pz0) rfl rfl rfl rfl ?_; intro w2 hb2 ho2
             have l2 : Later wr w2 := (later_alloc wr _).only ho2 (Nat.le_refl _)
             obtain ⟨d0, d1, d2, d3, d4⟩ := prt_cells hb2)
          | (refine load_Pa ?hw _ rfl hb2 rfl ?_; (case hw => rfl))
          | fail)
        (refine (hck.out _).mono ?_); rintro e w3 ⟨rfl, j3⟩
        rw [hpe]
        replace hb2 := hb2.later j3
        replace l2 := l2.trans j3
        clear d0 d1 d2 d3 d4 ho2 j3
        obtain ⟨d0, d1, d2, d3, d4⟩ := prt_cells hb2
        go_wp2_with fail
      case' inr.inr.inr =>
        have hb1 : (p.kd != 1) = false := by simp [hkd]
        have hb3 : (p.id != id) = false := by simp [hid1]
        replace hA := hid hA
        go_wp2_with (first
          | (refine wpList_load_at ?hw _ _ rfl b (o + k * 5) (PvC ⟨p, va, vn, vc⟩) hc rfl _ Tryz.underlying28 rfl (by rw [PvC_length]; exact size5p) ?_; (case hw => rfl))
          | (refine store_Pa (p := p) (v := .slice va vn vc) rfl rfl _ _ rfl (Blk.new wr 28 pz0) rfl rfl rfl rfl ?_; intro w2 hb2 ho2
             have l2 : Later wr w2 := (later_alloc wr _).only ho2 (Nat.le_refl _)
             obtain ⟨d0, d1, d2, d3, d4⟩ := prt_cells hb2)
          | (refine load_Pa ?hw _ rfl hb2 rfl ?_; (case hw => rfl))
          | fail)
        (refine (hck.out _).mono ?_); rintro e w3 ⟨rfl, j3⟩
        rw [hpe]
        replace hb2 := hb2.later j3
        replace l2 := l2.trans j3
        clear d0 d1 d2 d3 d4 ho2 j3
        obtain ⟨d0, d1, d2, d3, d4⟩ := prt_cells hb2
        go_wp2_with fail
      all_goals
        clear d0 d1 d2 d3 d4 hck hkd
        try clear ho2
        have hJ0 := tkJ_zero Pv.p id L p
        rw [hA.out] at hJ0
        have HJ0 := hid hJ0
        clear hJ0
        go_loopw [11, 12] (fun ev jv w' => ∃ j : Nat, j ≤ L.length ∧ jv = .int .i64 j ∧ ev = .int .i64 (tkJ Pv.p id L p j : Nat) ∧ Later wr w' ∧ Blk w' wr.heap.size 28 (PaC p (.slice va vn vc))) (fun _ jv _ => L.length - (intOf jv).toNat)
        case atStart => exact ⟨0, by omega, rfl, by rw [HJ0.out]; rfl, l2, hb2⟩
        case round =>
          clear hb2 l2 HJ0
          obtain ⟨j, hj, rfl, rfl, l2, hb2⟩ := hrel
          obtain ⟨d0, d1, d2, d3, d4⟩ := prt_cells hb2
          by_cases hjl : j < L.length ∧ tkJ Pv.p id L p j = 0
          · obtain ⟨hjl, hz⟩ := hjl
            have hq := List.getElem?_eq_getElem hjl
            have hqd : L.getD j pvz = L[j] := by rw [List.getD_eq_getElem?_getD, hq]; rfl
            have hs := tkJ_succ Pv.p id L p hq hz
            obtain ⟨b2, o2, rfl, hbb, hcc⟩ := (own_rdF (d := pvz) PvC_length (own_laterF hown l2) rfl).at_ hjl
            rw [hqd] at hcc
            have q2 := hcc 2 _ rfl
            have q3 := hcc 3 _ rfl
            generalize L[j] = q at *
            rw [hz]
            have HS := hid hs
            clear hs hq hqd hcc hz
            by_cases hct : q.p.ct = p.ct
            · have hb5 : (q.p.ct != p.ct) = false := by simp [hct]
              by_cases hxx : q.p.ix = p.ix
              · have hb6 : (q.p.ix == p.ix) = true := by simp [hxx]
                have h3 := hid (HS.out.trans (if_pos (by rw [hb5, hb6]; rfl)))
                go_wp2_with fail
                refine wp_region_parts [] [0, 1, 2, 3, 4, 5, 6, 7, 8, 9, 10, 11, 12, 13, 14, 15, 16, 17] [] (by as_aux_lemma => kernel_rfl) (by as_aux_lemma => kernel_rfl) (by intro _ _ d _ _ h; cases d <;> exact h) ?_
                simp only [wpParts, pick, List.getElem?_cons_succ, List.getElem?_cons_zero, Option.toList_some, List.cons_append, List.nil_append]
                repeat (go_big_quiet_step (fail))
                refine wpQuiet_nil ?_
                go_wp2_with fail
                exact ⟨⟨j + 1, by omega, by go_num, by rw [h3.out] <;> rfl, l2.drew, hb2.drew⟩, by simp [intOf]; omega⟩
              · have hb6 : (q.p.ix == p.ix) = false := by simpa using hxx
                have h3 := hid (HS.out.trans (if_neg (by rw [hb5, hb6]; decide)))
                go_wp2_with fail
                refine wp_region_parts [] [0, 1, 2, 3, 4, 5, 6, 7, 8, 9, 10, 11, 12, 13, 14, 15, 16, 17] [] (by as_aux_lemma => kernel_rfl) (by as_aux_lemma => kernel_rfl) (by intro _ _ d _ _ h; cases d <;> exact h) ?_
                simp only [wpParts, pick, List.getElem?_cons_succ, List.getElem?_cons_zero, Option.toList_some, List.cons_append, List.nil_append]
                repeat (go_big_quiet_step (fail))
                refine wpQuiet_nil ?_
                go_wp2_with fail
                exact ⟨⟨j + 1, by omega, by go_num, by rw [h3.out] <;> rfl, l2.drew, hb2.drew⟩, by simp [intOf]; omega⟩
            · have hb5 : (q.p.ct != p.ct) = true := by simpa using hct
              have h3 := hid (HS.out.trans (if_pos (by rw [hb5]; rfl)))
              go_wp2_with fail
              refine wp_region_parts [] [0, 1, 2, 3, 4, 5, 6, 7, 8, 9, 10, 11, 12, 13, 14, 15, 16, 17] [] (by as_aux_lemma => kernel_rfl) (by as_aux_lemma => kernel_rfl) (by intro _ _ d _ _ h; cases d <;> exact h) ?_
              simp only [wpParts, pick, List.getElem?_cons_succ, List.getElem?_cons_zero, Option.toList_some, List.cons_append, List.nil_append]
              repeat (go_big_quiet_step (fail))
              refine wpQuiet_nil ?_
              go_wp2_with fail
              exact ⟨⟨j + 1, by omega, by go_num, by rw [h3.out] <;> rfl, l2.drew, hb2.drew⟩, by simp [intOf]; omega⟩
          · have hfin : tkJ Pv.p id L p j = tkE Pv.p id L p := by
              by_cases hjz : tkJ Pv.p id L p j = 0
              · exact tkJ_all Pv.p id L p (by omega)
              · exact tkJ_stop Pv.p id L p hjz
            have hex : decide (j < L.length) = false ∨ (decide (j < L.length) = true ∧ tkE Pv.p id L p ≠ 0) := by
              by_cases hj2 : j < L.length
              · refine .inr ⟨decide_eq_true (by omega), ?_⟩
                have : tkJ Pv.p id L p j ≠ 0 := fun h => hjl ⟨hj2, h⟩
                rw [hfin] at this
                exact this
              · exact .inl (decide_eq_false (by omega))
            rw [hfin]
            clear hfin hjl hA
            have HLS2 : Hid (tksK Pv.p id ks (xs.take (k + 1)) = if tkE Pv.p id L p = 0 then L ++ [⟨p, va, vn, vc⟩] else L) := hid HLS.out
            have HES2 : Hid (tksE Pv.p id ks (xs.take (k + 1)) = if E ≠ 0 then E else tkE Pv.p id L p) := hid HES.out
            clear HLS HES
            generalize tkE Pv.p id L p = E1 at *
            by_cases h10 : E1 = 0
            · subst h10
              have hd : decide (j < L.length) = false := by
                rcases hex with h | h
                · exact h
                · exact absurd rfl h.2
              have HLS3 := hid (HLS2.out.trans (if_pos rfl))
              have HES3 : Hid (tksE Pv.p id ks (xs.take (k + 1)) = E) := hid (by
                rw [HES2.out]
                split
                · rfl
                · omega)
              clear HLS2 HES2 hex
              go_wp2_with (first
                | (refine load_Pa ?hw _ rfl hb2 rfl ?_; (case hw => rfl))
                | (refine build_oneC ?hw 66 _ rfl 28 5 _ (PaC p (.slice va vn vc)) Tryz.underlying66 infoPv2 (by omega) (by omega) (PaC_length _ _) rfl ?_; (case hw => rfl))
                | (refine wpList_append_f (F := PvC) (d := pvz) PvC_length PvC_one (by omega) rfl _ _ _ rfl 28 _ 56 Tryz.underlying66 infoPv rfl w _ _ _ (own_laterF hown (l2.trans (later_alloc _ _))) (L1.trans (l2.trans (later_alloc _ _))) (some ⟨wr.heap.size, 0, none⟩) 1 1 [⟨p, va, vn, vc⟩] (blk_rdF PvC_length (show Blk (wr.alloc (.cells (PaC p (.slice va vn vc)).toArray 28)) wr.heap.size 28 ([(⟨p, va, vn, vc⟩ : Pv)].flatMap PvC) from Blk.new wr _ _) rfl) rfl rfl (by omega) (by omega) ?_; intro A4 c4 w4 hown4 hl4 hg4)
                | fail)
              exact ⟨⟨k + 1, A4, c4, L ++ [⟨p, va, vn, vc⟩], E, by omega, by go_num, rfl, HES3.out.symm, HLS3.out.symm, by simp; omega, by simp, by simpa using hown4, hl4⟩, by simp [intOf]; omega⟩
            · have hz1 : ((E1 : Int) == 0) = false := by rw [beq_eq_false_iff_ne]; omega
              have hz2 : decide ((E1 : Int) = 0) = false := decide_eq_false (by omega)
              have HLS3 := hid (HLS2.out.trans (if_neg h10))
              clear HLS2
              have hex2 : decide (j < L.length) = false ∨ decide (j < L.length) = true := hex.imp (fun h => h) And.left
              clear hex
              by_cases hE0 : E = 0
              · subst hE0
                have HES3 : Hid (tksE Pv.p id ks (xs.take (k + 1)) = E1) := hid (by rw [HES2.out]; rfl)
                clear HES2
                rcases hex2 with hd | hd
                all_goals
                  go_wp2_with fail
                  exact ⟨⟨k + 1, A2, c2, L, E1, by omega, by go_num, rfl, HES3.out.symm, HLS3.out.symm, by omega, rfl, own_laterF hown l2, L1.trans l2⟩, by simp [intOf]; omega⟩
              · have hz3 : ((E : Int) == 0) = false := by rw [beq_eq_false_iff_ne]; omega
                have hz4 : decide ((E : Int) = 0) = false := decide_eq_false (by omega)
                have HES3 : Hid (tksE Pv.p id ks (xs.take (k + 1)) = E) := hid (by rw [HES2.out, if_pos hE0])
                clear HES2
                rcases hex2 with hd | hd
                all_goals
                  go_wp2_with fail
                  exact ⟨⟨k + 1, A2, c2, L, E, by omega, by go_num, rfl, HES3.out.symm, HLS3.out.symm, by omega, rfl, own_laterF hown l2, L1.trans l2⟩, by simp [intOf]; omega⟩
    · obtain rfl : k = m := by omega
      rw [List.take_of_length_le (by omega)] at hE hL
      have hE' := hid hE
      have hL' := hid hL
      clear hE hL
      go_wp2_with fail
      go_ret2
      exact ⟨A2, c2, L, E, rfl, hL'.out, hE'.out, hown, L1⟩
end Go.Proofs.YtkibgdigcgakfaaGreat
