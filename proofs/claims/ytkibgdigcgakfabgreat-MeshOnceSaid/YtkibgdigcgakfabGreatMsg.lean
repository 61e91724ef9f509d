/-
  frame.Message: a part is taken; how many are missing; the bytes.
-/
import Derived.Test.YtkibgdigcgakfabGreatFrmA
import Derived.Test.YtkibgdigcgakfabGreatLetP
import Derived.Test.YtkibgdigcgakfabGreatMacP
namespace Go.Proofs.YtkibgdigcgakfabGreat
open Go.RowKit
open Go.BigFrame

def ctOf (ks : List Prt) : Int := (ks.getLast?.map (·.ct)).getD 0
def hvOf (ks : List Prt) : List Bool := (List.range 16).map fun (i : Nat) => ks.any (fun q => q.ix == (i : Int))
/-- A message's cells; pv: its pieces. -/
def MsC (id : UInt64) (ks : List Prt) (pv : List Value) : List Value := W64 id :: .int .i64 (ctOf ks) :: .int .i64 (ks.length : Nat) :: ((hvOf ks).map Value.bool ++ pv)
theorem MsC_length (id : UInt64) (ks : List Prt) (pv : List Value) (h : pv.length = 16) : (MsC id ks pv).length = 35 := by simp [MsC, hvOf, h]
theorem any_kept {ks : List Prt} (h : KeptOk ks) (hne : ks ≠ []) (p : Prt) : ks.any (fun q => (pid q).ct != p.ct || (pid q).ix == p.ix) = ((p.ct != ctOf ks) || ks.any (fun q => q.ix == p.ix)) := by
  have hl : ks.getLast? = some (ks.getLast hne) := List.getLast?_eq_some_getLast hne
  have hm := List.getLast_mem hne
  generalize ks.getLast hne = l at hl hm
  have hc : ctOf ks = l.ct := by rw [ctOf, hl]; rfl
  rw [hc]
  have hs := fun q hq => h.same q hq l hm
  by_cases hp : p.ct = l.ct
  · have e : (p.ct != l.ct) = false := by simp [hp]
    rw [e, Bool.false_or]
    apply Bool.eq_iff_iff.2
    rw [List.any_eq_true, List.any_eq_true]
    constructor
    · rintro ⟨q, hq, hb⟩
      refine ⟨q, hq, ?_⟩
      have : (q.ct != p.ct) = false := by simp [hs q hq, hp]
      simpa [this] using hb
    · rintro ⟨q, hq, hb⟩
      exact ⟨q, hq, by simp [hb]⟩
  · have e : (p.ct != l.ct) = true := by simp [hp]
    rw [e, Bool.true_or, List.any_eq_true]
    exact ⟨l, hm, by simp only [Bool.or_eq_true, bne_iff_ne]; exact .inl (fun e => hp (Eq.symm e))⟩
theorem hvOf_get (ks : List Prt) {i : Nat} (h : i < 16) : ((hvOf ks).map Value.bool)[i]? = some (.bool (ks.any (fun q => q.ix == (i : Int)))) := by
  simp [hvOf, h]
theorem hvOf_snoc (ks : List Prt) (p : Prt) {i : Nat} (h : i < 16) (hp : p.ix = (i : Int)) : ((hvOf ks).map Value.bool).set i (.bool true) = (hvOf (ks ++ [p])).map Value.bool := by
  apply List.ext_getElem?
  intro j
  rw [List.getElem?_set]
  by_cases hij : i = j
  · subst hij
    rw [if_pos rfl, if_pos (by simp [hvOf, h]), hvOf_get _ h]
    simp [hp]
  · rw [if_neg hij]
    by_cases hj : j < 16
    · have hne : (p.ix == (j : Int)) = false := by
        rw [hp, beq_eq_false_iff_ne]
        omega
      rw [hvOf_get _ hj, hvOf_get _ hj, List.any_append]
      simp [hne]
    · rw [List.getElem?_eq_none (by simp [hvOf]; omega), List.getElem?_eq_none (by simp [hvOf]; omega)]
theorem ctOf_snoc (ks : List Prt) (p : Prt) : ctOf (ks ++ [p]) = p.ct := by simp [ctOf]
theorem MsC_snoc (id : UInt64) (ks : List Prt) (pv : List Value) (p : Prt) {i : Nat} (h : i < 16) (hp : p.ix = (i : Int)) (v : Value) :
    (((((MsC id ks pv).set 1 (.int .i64 p.ct)).set 2 (.int .i64 ((ks.length : Int) + 1))).set (3 + i) (.bool true)).set (19 + i) v) = MsC id (ks ++ [p]) (pv.set i v) := by
  have hl : ((hvOf ks).map Value.bool).length = 16 := by simp [hvOf]
  have e1 : 3 + i = i + 1 + 1 + 1 := by omega
  have e2 : 19 + i = (i + 16) + 1 + 1 + 1 := by omega
  rw [MsC, MsC, e1, e2]
  simp only [List.set_cons_succ, List.set_cons_zero]
  rw [List.set_append_left _ _ (by omega), List.set_append_right _ _ (by rw [List.length_set]; omega), List.length_set, hl, hvOf_snoc ks p h hp, ctOf_snoc, List.length_append, List.length_singleton]
  simp
theorem daAt_snoc {ks : List Prt} {p : Prt} {i : Nat} (hp : p.ix = (i : Int)) (hn : ∀ q ∈ ks, q.ix ≠ p.ix) (j : Nat) : daAt (ks ++ [p]) j = if j = i then p.da else daAt ks j := by
  unfold daAt
  rw [List.find?_append]
  by_cases hij : j = i
  · subst hij
    rw [if_pos rfl]
    have h1 : ks.find? (fun q => q.ix == (j : Int)) = none := by
      rw [List.find?_eq_none]
      intro q hq
      have := hn q hq
      rw [hp] at this
      simpa using this
    rw [h1]
    simp [hp]
  · rw [if_neg hij]
    have h1 : [p].find? (fun q => q.ix == (j : Int)) = none := by
      rw [List.find?_eq_none]
      intro q hq
      obtain rfl : q = p := by simpa using hq
      simp [hp]
      omega
    rw [h1]
    cases ks.find? (fun q => q.ix == (j : Int)) <;> rfl
/-- A piece in a block of its own, or nil. -/
def PieceAt (w : World) (base : Nat) (v : Value) (da : List UInt8) : Prop := (v = .slice none 0 0 ∧ da = []) ∨ ∃ gp, v = .slice (some ⟨gp, 0, none⟩) da.length da.length ∧ base ≤ gp ∧ Blk w gp 5 (da.map W8)
/-- Block g is the message that has kept these parts. -/
structure MsgAt (w : World) (base g : Nat) (id : UInt64) (ks : List Prt) (pv : List Value) : Prop where
  blk : Blk w g 71 (MsC id ks pv)
  low : base ≤ g
  len : pv.length = 16
  pcs : ∀ i v, pv[i]? = some v → PieceAt w base v (daAt ks i)
section
variable {w w' : World} {base g : Nat} {id : UInt64} {ks : List Prt} {pv : List Value}
theorem PieceAt.later {v : Value} {da : List UInt8} (h : PieceAt w base v da) (hl : Later w w') : PieceAt w' base v da :=
  h.imp (fun h => h) fun ⟨gp, h1, h2, h3⟩ => ⟨gp, h1, h2, h3.later hl⟩
theorem PieceAt.only {v : Value} {da : List UInt8} {t : TypeId} {l : List Value} (h : PieceAt w base v da) (hg : Blk w g t l) (hne : t ≠ 5) (ho : Only g w w') : PieceAt w' base v da :=
  h.imp (fun h => h) fun ⟨gp, h1, h2, h3⟩ => ⟨gp, h1, h2, h3.only ho (fun e => by
    subst e
    have := hg.symm.trans h3
    simp only [Option.some.injEq, Obj.cells.injEq] at this
    exact hne this.2.1)⟩
theorem MsgAt.later (h : MsgAt w base g id ks pv) (hl : Later w w') : MsgAt w' base g id ks pv := ⟨h.blk.later hl, h.low, h.len, fun i v hv => (h.pcs i v hv).later hl⟩
theorem MsgAt.cells (h : MsgAt w base g id ks pv) : w.cell? ⟨g, 0, none⟩ = some (W64 id) ∧ w.cell? ⟨g, 1, none⟩ = some (.int .i64 (ctOf ks)) ∧ w.cell? ⟨g, 2, none⟩ = some (.int .i64 (ks.length : Nat)) :=
  ⟨h.blk.cellD 0 rfl, h.blk.cellD 1 rfl, h.blk.cellD 2 rfl⟩
theorem MsgAt.have_ (h : MsgAt w base g id ks pv) {i : Nat} (hi : i < 16) : w.cell? ⟨g, 3 + i, none⟩ = some (.bool (ks.any (fun q => q.ix == (i : Int)))) := by
  refine h.blk.cellD (3 + i) ?_
  rw [MsC, show 3 + i = i + 1 + 1 + 1 by omega, List.getElem?_cons_succ, List.getElem?_cons_succ, List.getElem?_cons_succ, List.getElem?_append_left (by simp [hvOf, hi])]
  exact hvOf_get ks hi
end
set_option maxRecDepth 100000 in
set_option maxHeartbeats 4000000 in
theorem takeOne_any (base g : Nat) (id : UInt64) (ks : List Prt) (pv : List Value) (p : Prt) (A : Option Addr) (n c : Nat) (w : World) (hm : MsgAt w base g id ks pv) (hk : KeptOk ks) (hr : RdB w A n p.da) (hav : Avoid (· = g) A n) (hb : base ≤ w.heap.size) (hkl : ks.length ≤ 1048576) :
    Calls Tryz.prog 31 #[.pointer (some ⟨g, 0, none⟩), .agg (PaC p (.slice A n c)).toArray] w fun e w' => e = .returned (.int .i64 (tkE pid id ks p : Nat)) ∧ (∃ pv', MsgAt w' base g id (tkK pid id ks p) pv') ∧ Only g w w' := by
  have hlen := hr.len
  have hck := hid (fun w => fcheck_any p A n c hlen w)
  have hE : Hid (tkE pid id ks p = if p.kd ≠ 1 ∨ prtE p ≠ 0 then 3 else if p.id ≠ id then 4 else if ks.any (fun q => (pid q).ct != p.ct || (pid q).ix == p.ix) then 3 else 0) := hid rfl
  have hok := hid (fun h => prtE_ok (p := p) h)
  obtain ⟨c0, c1, c2⟩ := hm.cells
  have hgl := hm.blk.lt
  obtain ⟨kd, id', ix, ct, da⟩ := p
  have HM := hid hm
  have B1 := bag_new w 32 (PaC ⟨kd, id', ix, ct, da⟩ (.slice A n c))
  obtain ⟨d0, d1, d2, d3, d4⟩ := prt_cells (B1.nth 0 rfl)
  have c0' := HM.out.later B1.lat |>.cells
  clear hm
  go_enter Tryz.func31, Tryz.ntmps31
  have fin : ∀ (w' : World) (E : Nat), Bag w w' [(w.heap.size, 32, PaC ⟨kd, id', ix, ct, da⟩ (.slice A n c))] → tkE pid id ks ⟨kd, id', ix, ct, da⟩ = E → E ≠ 0 → tkE pid id ks ⟨kd, id', ix, ct, da⟩ = E ∧ (∃ pv', MsgAt w' base g id (tkK pid id ks ⟨kd, id', ix, ct, da⟩) pv') ∧ Only g w w' := by
    intro w' E B hE h0
    refine ⟨hE, ⟨pv, ?_⟩, B.lat.onlyAny g⟩
    rw [tkK, if_neg (by rw [show pid _ = (_ : Prt) from rfl, hE]; exact h0)]
    exact HM.out.later B.lat
  have FIN := hid fin
  clear fin
  by_cases hkd : kd = 1
  · subst hkd
    go_wp2_with (first
      | (refine load_Pa rfl _ rfl (B1.nth 0 rfl) rfl ?_)
      | fail)
    (refine (hck.out _).mono ?_); rintro e w2 ⟨rfl, j2⟩
    have B2 := B1.later j2
    clear d0 d1 d2 d3 d4 c0' c0 c1 c2 hck j2 B1
    by_cases hpe : prtE ⟨1, id', ix, ct, da⟩ = 0
    · rw [hpe]
      obtain ⟨k1, k2, k3, k4, k5⟩ := hok.out hpe
      obtain ⟨i, rfl⟩ : ∃ i : Nat, ix = i := ⟨ix.toNat, by omega⟩
      have M2 := HM.out.later B2.lat
      obtain ⟨m0, m1, m2⟩ := M2.cells
      obtain ⟨d0, d1, d2, d3, d4⟩ := prt_cells (B2.nth 0 rfl)
      have mh := M2.have_ (i := i) (by omega)
      go_wp2_with fail
      refine wp_region_parts [] [0, 1, 2, 3, 4, 5, 6] [] (by as_aux_lemma => kernel_rfl) (by as_aux_lemma => kernel_rfl) (by intro _ _ d _ _ h; cases d <;> exact h) ?_
      simp only [wpParts, pick, List.getElem?_cons_succ, List.getElem?_cons_zero, Option.toList_some, List.cons_append, List.nil_append]
      repeat (go_big_quiet_step (fail))
      refine wpQuiet_nil ?_
      by_cases hid1 : id' = id
      · have hb0 : (id' != id) = false := by simpa using hid1
        rw [hb0]
        go_wp2_with fail
        have hi16 : (i : Int) < 16 := by omega
        by_cases hacc : ks.any (fun q => (pid q).ct != ct || (pid q).ix == (i : Int)) = true
        · have h3 : tkE pid id ks ⟨1, id', i, ct, da⟩ = 3 := by rw [hE.out, if_neg (by rintro (h | h) <;> first | exact h rfl | exact h hpe), if_neg (fun h => h hid1), if_pos hacc]
          have hne : ks ≠ [] := by
            rintro rfl
            simp at hacc
          have hpos : decide (0 < ks.length) = true := decide_eq_true (List.length_pos_iff.2 hne)
          have hor := any_kept hk hne ⟨1, id', i, ct, da⟩
          rw [hacc] at hor
          have H3 := hid (FIN.out _ 3 (B2.later ((later_drew _).trans (later_drew _))) h3 (by omega))
          clear FIN HM hE hok h3 hacc
          generalize ks.any (fun q => q.ix == (i : Int)) = HV at *
          generalize ctOf ks = CT at *
          by_cases hct : ct = CT
          · have hb1 : (ct != CT) = false := by simp [hct]
            have hHV : HV = true := by
              rw [hb1, Bool.false_or] at hor
              exact hor.symm
            subst hHV
            clear hor
            refine wp_region_parts [] [0, 1, 2, 3, 4, 5, 6, 7, 8, 9, 10, 11, 12, 13, 14, 15, 16, 17, 18, 19, 20, 21, 22] [] (by as_aux_lemma => kernel_rfl) (by as_aux_lemma => kernel_rfl) (by intro _ _ d _ _ h; cases d <;> exact h) ?_
            simp only [wpParts, pick, List.getElem?_cons_succ, List.getElem?_cons_zero, Option.toList_some, List.cons_append, List.nil_append]
            repeat (go_big_quiet_step (fail))
            refine wpQuiet_nil ?_
            go_wp2_with fail
            go_ret
            exact ⟨by rw [H3.out.1]; rfl, H3.out.2⟩
          · have hb1 : (ct != CT) = true := by simp [hct]
            clear hor
            refine wp_region_parts [] [0, 1, 2, 3, 4, 5, 6, 7, 8, 9, 10, 11, 12, 13, 14, 15, 16, 17, 18, 19, 20, 21, 22] [] (by as_aux_lemma => kernel_rfl) (by as_aux_lemma => kernel_rfl) (by intro _ _ d _ _ h; cases d <;> exact h) ?_
            simp only [wpParts, pick, List.getElem?_cons_succ, List.getElem?_cons_zero, Option.toList_some, List.cons_append, List.nil_append]
            repeat (go_big_quiet_step (fail))
            refine wpQuiet_nil ?_
            go_wp2_with fail
            go_ret
            exact ⟨by rw [H3.out.1]; rfl, H3.out.2⟩
        · have h0 : tkE pid id ks ⟨1, id', i, ct, da⟩ = 0 := by rw [hE.out, if_neg (by rintro (h | h) <;> first | exact h rfl | exact h hpe), if_neg (fun h => h hid1), if_neg hacc]
          obtain ⟨_, _, _, hz⟩ := tkE_zero h0
          have HZ := hid hz
          have H0 := hid h0
          clear hz h0 FIN hE hok
          have hP := B2.nth 0 rfl
          have hglt : w.heap.size ≠ g := by omega
          have hML := hid (MsC_length id ks pv M2.len)
          have hM := M2.blk
          have CP := hid (fun (w : World) => copied_any A n c da w)
          have FIN : Hid (∀ (w6 : World) (gp : Nat), Blk w6 g 71 (((((MsC id ks pv).set 1 (.int .i64 ct)).set 2 (.int .i64 ((ks.length : Int) + 1))).set (3 + i) (.bool true)).set (19 + i) (.slice (some ⟨gp, 0, none⟩) n n)) → base ≤ gp → Blk w6 gp 5 (da.map W8) → Only g w w6 →
              (∃ pv', MsgAt w6 base g id (tkK pid id ks ⟨1, id', i, ct, da⟩) pv') ∧ Only g w w6) := by
            refine hid fun w6 gp hB hgp hD ho => ⟨⟨pv.set i (.slice (some ⟨gp, 0, none⟩) n n), ?_⟩, ho⟩
            have hp : (⟨1, id', i, ct, da⟩ : Prt).ix = (i : Int) := rfl
            have hq : ∀ q ∈ ks, q.ix ≠ (⟨1, id', i, ct, da⟩ : Prt).ix := fun q hq => (HZ.out q hq).2
            rw [tkK, if_pos H0.out]
            refine ⟨?_, HM.out.low, by rw [List.length_set]; exact HM.out.len, fun j v hv => ?_⟩
            · rw [← MsC_snoc id ks pv ⟨1, id', i, ct, da⟩ (by omega) hp]
              exact hB
            · rw [daAt_snoc hp hq]
              rw [List.getElem?_set] at hv
              by_cases hij : i = j
              · subst hij
                rw [if_pos rfl, if_pos (by rw [HM.out.len]; omega)] at hv
                rw [if_pos rfl, ← Option.some.inj hv, ← hlen]
                exact .inr ⟨gp, rfl, hgp, hD⟩
              · rw [if_neg hij] at hv
                rw [if_neg (fun e => hij e.symm)]
                exact (HM.out.pcs j v hv).only HM.out.blk (by decide) ho
          have hac2 : (decide (0 < ks.length) = true ∧ (ct != ctOf ks) = false ∧ ks.any (fun q => q.ix == (i : Int)) = false) ∨ decide (0 < ks.length) = false := by
            by_cases hne : ks = []
            · exact .inr (by simp [hne])
            · have hor := any_kept hk hne ⟨1, id', i, ct, da⟩
              have hf : ks.any (fun q => (pid q).ct != ct || (pid q).ix == (i : Int)) = false := by simpa using hacc
              rw [hf] at hor
              have hor' := hor.symm
              rw [Bool.or_eq_false_iff] at hor'
              exact .inl ⟨decide_eq_true (List.length_pos_iff.2 hne), hor'.1, hor'.2⟩
          generalize ks.any (fun q => q.ix == (i : Int)) = HV at *
          have kl := hkl
          clear hacc
          have HC2 := hid (show ∀ v : Value, ((MsC id ks pv).set 1 v)[2]? = some (.int .i64 (ks.length : Nat)) from fun v => rfl)
          generalize hMC : MsC id ks pv = MC at *
          generalize ks.length = KL at *
          generalize ctOf ks = CT at *
          rcases hac2 with ⟨hpos, h2, h3⟩ | hpos
          case' inl => subst h3
          all_goals
            refine wp_region_parts [] [0, 1, 2, 3, 4, 5, 6, 7, 8, 9, 10, 11, 12, 13, 14, 15, 16, 17, 18, 19, 20, 21, 22] [] (by as_aux_lemma => kernel_rfl) (by as_aux_lemma => kernel_rfl) (by intro _ _ d _ _ h; cases d <;> exact h) ?_
            simp only [wpParts, pick, List.getElem?_cons_succ, List.getElem?_cons_zero, Option.toList_some, List.cons_append, List.nil_append]
            repeat (go_big_quiet_step (fail))
            refine wpQuiet_nil ?_
            go_wp2_with (first
              | (refine wpList_store_in rfl rfl _ _ _ rfl g 1 _ _ hM.drew.drew rfl ?hl rfl (by kernel_rfl) ?_; (case hl => rw [hML.out]; omega); intro v3 w3 hv3 hb3 ho3; simp [go_sem] at hv3; subst hv3
                 have q3 := hP.drew.drew.only ho3 hglt
                 obtain ⟨e0, e1, e2, e3, e4⟩ := prt_cells q3
                 have f2 : w3.cell? ⟨g, 2, none⟩ = some (.int .i64 (KL : Nat)) := hb3.cellD 2 (HC2.out _))
              | (refine wpList_store_in rfl rfl _ _ _ rfl g 2 _ _ hb3 rfl ?hl rfl (by kernel_rfl) ?_; (case hl => rw [List.length_set, hML.out]; omega); intro v4 w4 hv4 hb4 ho4; simp [go_sem] at hv4; subst hv4
                 have q4 := q3.only ho4 hglt
                 obtain ⟨g0, g1, g2, g3, g4⟩ := prt_cells q4)
              | fail)
            clear e0 e1 e2 e3 e4 f2
            refine wp_region_parts [] [0, 1, 2, 3, 4, 5] [6] (by as_aux_lemma => kernel_rfl) (by as_aux_lemma => kernel_rfl) (by intro _ _ d _ _ h; cases d <;> exact h) ?_
            simp only [wpParts, pick, List.getElem?_cons_succ, List.getElem?_cons_zero, Option.toList_some, List.cons_append, List.nil_append]
            repeat (go_big_quiet_step (fail))
            refine wpQuiet_nil ?_
            clear g0 g1 g2 g3 g4
            go_wp2_with (first
              | (refine wpList_store_in rfl rfl _ _ _ rfl g (3 + i) _ _ hb4.drew rfl ?hl rfl (by kernel_rfl) ?_; (case hl => rw [List.length_set, List.length_set, hML.out]; omega); intro v6 w6 hv6 hb6 ho6; simp [go_sem] at hv6; subst hv6
                 have q6 := q4.drew.only ho6 hglt
                 obtain ⟨d0, d1, d2, d3, d4⟩ := prt_cells q6)
              | fail)
            have O6 : Only g w w6 := (((((B2.lat.trans ((later_drew _).trans (later_drew _))).thenOnly ho3).trans ho4).later (later_drew _)).trans ho6)
            have hr6 : RdB w6 A n da := Rd.onlyAvoid (Rd.later (Rd.onlyAvoid (Rd.onlyAvoid (hr.later (B2.lat.trans ((later_drew _).trans (later_drew _)))) hav ho3 rfl) hav ho4 rfl) (later_drew _)) hav ho6 rfl
            clear ho3 ho4 ho6 hb3 hb4 q3 q4 q6 hM hP
            refine wp_region_parts [([0, 1, 2, 3, 4, 6, 7], 5)] [8] [9] (by as_aux_lemma => kernel_rfl) (by as_aux_lemma => kernel_rfl) (by intro _ _ d _ _ h; cases d <;> exact h) ?_
            simp only [wpParts, pick, List.getElem?_cons_succ, List.getElem?_cons_zero, Option.toList_some, List.cons_append, List.nil_append]
            repeat (go_big_quiet_step (fail))
            refine wpQuiet_nil ?_
            go_wp2_with fail
            (refine (CP.out _ (hr6.later (later_drew _)) (by omega)).mono ?_); rintro e w8 ⟨rfl, hD8, j8⟩
            go_wp2_with fail
            try refine ⟨by first | assumption | exact later_drew _ | exact later_alloc _ _ | exact Later.refl _, ?_⟩
            try simp only [wpParts, pick, List.getElem?_cons_succ, List.getElem?_cons_zero, Option.toList_some, List.cons_append, List.nil_append]
            repeat (go_big_quiet_step (fail))
            refine wpQuiet_nil ?_
            have j68 := (later_drew _).trans j8
            have hb8 := hb6.later j68
            have O8w : w.heap.size ≤ w6.drew.heap.size := O6.size
            have O8 : Only g w w8 := O6.later j68
            have hg8 : base ≤ w6.drew.heap.size := by
              have := O6.size
              have e : w6.drew.heap.size = w6.heap.size := rfl
              omega
            clear d0 d1 d2 d3 d4 O6 hb6
            go_wp2_with (first
              | (refine wpList_store_in rfl rfl _ _ _ rfl g (19 + i) _ _ hb8 rfl ?hl rfl (by kernel_rfl) ?_; (case hl => rw [List.length_set, List.length_set, List.length_set, hML.out]; omega); intro v9 w9 hv9 hb9 ho9; simp [go_sem] at hv9; subst hv9)
              | fail)
            have hD9 := hD8.only ho9 (fun e => by
              have : w.heap.size ≤ w6.drew.heap.size := O8w
              omega)
            have FF := FIN.out w9 w6.drew.heap.size hb9 hg8 hD9 (O8.trans ho9)
            clear FIN
            go_ret
            exact ⟨by rw [H0.out]; rfl, FF⟩
      · have hb0 : (id' != id) = true := by simpa using hid1
        have h4 : tkE pid id ks ⟨1, id', i, ct, da⟩ = 4 := by rw [hE.out, if_neg (by rintro (h | h) <;> first | exact h rfl | exact h hpe), if_pos hid1]
        have H4 := hid (FIN.out _ 4 (B2.later (later_drew _)) h4 (by omega))
        clear FIN HM hE hok h4
        rw [hb0]
        go_wp2_with fail
        go_ret
        exact ⟨by rw [H4.out.1]; rfl, H4.out.2⟩
    · have hb1 : ((prtE ⟨1, id', ix, ct, da⟩ : Nat) : Int) ≠ 0 := by omega
      have h3 : tkE pid id ks ⟨1, id', ix, ct, da⟩ = 3 := by rw [hE.out, if_pos (.inr hpe)]
      generalize prtE ⟨1, id', ix, ct, da⟩ = E0 at *
      have hb2 : ((E0 : Int) != 0) = true := by simpa using hb1
      have H3 := hid (FIN.out w2 3 B2 h3 (by omega))
      clear FIN HM hE hok h3
      go_wp2_with fail
      go_ret
      exact ⟨by rw [H3.out.1]; rfl, H3.out.2⟩
  · have hb1 : (kd != 1) = true := by simpa using hkd
    have h3 : tkE pid id ks ⟨kd, id', ix, ct, da⟩ = 3 := by rw [hE.out, if_pos (.inl hkd)]
    have H3 := hid (FIN.out _ 3 B1 h3 (by omega))
    clear FIN HM hE hok hck h3
    go_wp2_with fail
    go_ret
    exact ⟨by rw [H3.out.1]; rfl, H3.out.2⟩
end Go.Proofs.YtkibgdigcgakfabGreat
