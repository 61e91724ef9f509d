/-
  Lemmas for the last text of this claim (part 12 of 20).
-/
import Derived.BigQuiet
import Derived.BigRegion
import Derived.ChangeOld
import Derived.Deep.RegionWith
import Derived.DeepKeys4
import Derived.JoinedCond
import Derived.LaidMore
import Derived.Laws.CopyOwn
import Derived.Laws.Externs
import Derived.Laws.IdiomStrings
import Derived.Laws.Tables
import Derived.Lib.AppendStr
import Derived.Lib.AppendZerosOnto
import Derived.Lib.Mul64
import Derived.Lib.SlBytesConst
import Derived.LoopN
import Derived.Maps.OwnSet
import Derived.OpenShut
import Derived.OrdersHeld
import Derived.ProofKit
import Derived.Shelf.Spec.BitsCarry
import Derived.ShutString
import Derived.Test.YtkibgdigcgakfabGreatProg
import Derived.Test.YtkibgdigcgakfabGreatRows
import Derived.WalkKit
import Derived.WalkLawsBesides
import Derived.WalkSpells
import Derived.Test.YtkibgdigcgakfabGreatPH
import Derived.Test.YtkibgdigcgakfabGreatPI
import Derived.Test.YtkibgdigcgakfabGreatPJ
open Bool renaming eq_iff_iff → QmY
open List renaming getElem?_cons_succ → Qmz, length_map → QmD, getElem?_cons_zero → QmE, map_nil → QmG, cons_append → QmK, nil_append → QmN, length_append → QmP, map_cons → QmQ, getElem?_map → QmR, getElem?_append_left → QmS, length_take → QmW, getElem?_append_right → QmX, length_set → Qm1, getElem?_take → Qm4, range → Qnf, getElem?_eq_none → Qnh, set_append_right → Qnj, getElem?_range → Qns, map_append → Qnx
open Nat renaming le_refl → Qmx, le_trans → Qm8
open Option renaming toList_some → QmI
namespace Go.Proofs.YtkibgdigcgakfabGreat
open Go.RowKit
open Go.BigFrame
def ctOf (ks : List Prt) : Int := (ks.getLast?.map (·.ct)).getD 0
def hvOf (ks : List Prt) : List Bool := (Qnf 16).map fun (i : Nat) => ks.any (fun q => q.ix == (i : Int))
def MsC (id : UInt64) (ks : List Prt) (pv : List Value) : List Value := W64 id :: .int .i64 (ctOf ks) :: .int .i64 (ks.length : Nat) :: ((hvOf ks).map Value.bool ++ pv)
theorem Qc1 (id : UInt64) (ks : List Prt) (pv : List Value) (h : pv.length = 16) : (MsC id ks pv).length = 35 := by simp [MsC, hvOf, h]
theorem Qe6 {ks : List Prt} (h : KeptOk ks) (hne : ks ≠ []) (p : Prt) : ks.any (fun q => (pid q).ct != p.ct || (pid q).ix == p.ix) = ((p.ct != ctOf ks) || ks.any (fun q => q.ix == p.ix)) := by
 have hl : ks.getLast? = some (ks.getLast hne) := List.getLast?_eq_some_getLast hne
 have hm := List.getLast_mem hne
 generalize ks.getLast hne = l at hl hm
 have hc : ctOf ks = l.ct := by rw [ctOf, hl]; rfl
 rw [hc]
 have hs := fun q hq => h.same q hq l hm
 by_cases hp : p.ct = l.ct
 · have e : (p.ct != l.ct) = false := by simp [hp]
   rw [e, Bool.false_or]
   apply QmY.2
   rw [List.any_eq_true, List.any_eq_true]
   constructor
   · rintro ⟨q, hq, hb⟩
     refine ⟨q, hq, ?_⟩
     have : (q.ct != p.ct) = false := by simp [hs q hq, hp]
     simpa [this] using hb
   · rintro ⟨q, hq, hb⟩
     exact ⟨q, hq, by simp [hb]⟩
 · have e : (p.ct != l.ct) = true := by simp [hp]
   rw [e, Bool.true_or, List.any_eq_true]
   exact ⟨l, hm, by simp only [Bool.or_eq_true, bne_iff_ne]; exact .inl (fun e => hp (Eq.symm e))⟩
theorem Qck (ks : List Prt) {i : Nat} (h : i < 16) : ((hvOf ks).map Value.bool)[i]? = some (.bool (ks.any (fun q => q.ix == (i : Int)))) := by
 simp [hvOf, h]
theorem Qgn (ks : List Prt) (p : Prt) {i : Nat} (h : i < 16) (hp : p.ix = (i : Int)) : ((hvOf ks).map Value.bool).set i (.bool true) = (hvOf (ks ++ [p])).map Value.bool := by
 apply List.ext_getElem?
 intro j
 rw [List.getElem?_set]
 by_cases hij : i = j
 · subst hij
   rw [if_pos rfl, if_pos (by simp [hvOf, h]), Qck _ h]
   simp [hp]
 · rw [if_neg hij]
   by_cases hj : j < 16
   · have hne : (p.ix == (j : Int)) = false := by
      rw [hp, beq_eq_false_iff_ne]
      omega
     rw [Qck _ hj, Qck _ hj, List.any_append]
     simp [hne]
   · rw [Qnh (by simp [hvOf]; omega), Qnh (by simp [hvOf]; omega)]
theorem QdQ (ks : List Prt) (p : Prt) : ctOf (ks ++ [p]) = p.ct := by simp [ctOf]
theorem QhB (id : UInt64) (ks : List Prt) (pv : List Value) (p : Prt) {i : Nat} (h : i < 16) (hp : p.ix = (i : Int)) (v : Value) :
 (((((MsC id ks pv).set 1 (.int .i64 p.ct)).set 2 (.int .i64 ((ks.length : Int) + 1))).set (3 + i) (.bool true)).set (19 + i) v) = MsC id (ks ++ [p]) (pv.set i v) := by
 have hl : ((hvOf ks).map Value.bool).length = 16 := by simp [hvOf]
 have e1 : 3 + i = i + 1 + 1 + 1 := by omega
 have e2 : 19 + i = (i + 16) + 1 + 1 + 1 := by omega
 rw [MsC, MsC, e1, e2]
 simp only [List.set_cons_succ, List.set_cons_zero]
 rw [List.set_append_left _ _ (by omega), Qnj _ _ (by rw [Qm1]; omega), Qm1, hl, Qgn ks p h hp, QdQ, QmP, List.length_singleton]
 simp
theorem Qge {ks : List Prt} {p : Prt} {i : Nat} (hp : p.ix = (i : Int)) (hn : ∀ q ∈ ks, q.ix ≠ p.ix) (j : Nat) : daAt (ks ++ [p]) j = if j = i then p.da else daAt ks j := by
 unfold daAt
 rw [List.find?_append]
 by_cases hij : j = i
 · subst hij
   rw [if_pos rfl]
   have h1 : ks.find? (fun q => q.ix == (j : Int)) = none := by
    rw [List.find?_eq_none]
    intro q hq
    have := hn q hq
    rw [hp] at this
    simpa using this
   rw [h1]
   simp [hp]
 · rw [if_neg hij]
   have h1 : [p].find? (fun q => q.ix == (j : Int)) = none := by
    rw [List.find?_eq_none]
    intro q hq
    obtain rfl : q = p := by simpa using hq
    simp [hp]
    omega
   rw [h1]
   cases ks.find? (fun q => q.ix == (j : Int)) <;> rfl
def PieceAt (w : World) (base : Nat) (v : Value) (da : List UInt8) : Prop := (v = .slice none 0 0 ∧ da = []) ∨ ∃ gp, v = .slice (some ⟨gp, 0, none⟩) da.length da.length ∧ base ≤ gp ∧ Blk w gp 5 (da.map W8)
structure MsgAt (w : World) (base g : Nat) (id : UInt64) (ks : List Prt) (pv : List Value) : Prop where
 blk : Blk w g 71 (MsC id ks pv)
 low : base ≤ g
 len : pv.length = 16
 pcs : ∀ i v, pv[i]? = some v → PieceAt w base v (daAt ks i)
section
variable {w w' : World} {base g : Nat} {id : UInt64} {ks : List Prt} {pv : List Value}
theorem PieceAt.later {v : Value} {da : List UInt8} (h : PieceAt w base v da) (hl : Later w w') : PieceAt w' base v da :=
 h.imp (fun h => h) fun ⟨gp, h1, h2, h3⟩ => ⟨gp, h1, h2, h3.later hl⟩
theorem PieceAt.only {v : Value} {da : List UInt8} {t : TypeId} {l : List Value} (h : PieceAt w base v da) (hg : Blk w g t l) (hne : t ≠ 5) (ho : Only g w w') : PieceAt w' base v da :=
 h.imp (fun h => h) fun ⟨gp, h1, h2, h3⟩ => ⟨gp, h1, h2, h3.only ho (fun e => by
  subst e
  have := hg.symm.trans h3
  simp only [Option.some.injEq, Obj.cells.injEq] at this
  exact hne this.2.1)⟩
theorem MsgAt.later (h : MsgAt w base g id ks pv) (hl : Later w w') : MsgAt w' base g id ks pv := ⟨h.blk.later hl, h.low, h.len, fun i v hv => (h.pcs i v hv).later hl⟩
theorem MsgAt.cells (h : MsgAt w base g id ks pv) : w.cell? ⟨g, 0, none⟩ = some (W64 id) ∧ w.cell? ⟨g, 1, none⟩ = some (.int .i64 (ctOf ks)) ∧ w.cell? ⟨g, 2, none⟩ = some (.int .i64 (ks.length : Nat)) :=
 ⟨h.blk.cellD 0 rfl, h.blk.cellD 1 rfl, h.blk.cellD 2 rfl⟩
theorem MsgAt.have_ (h : MsgAt w base g id ks pv) {i : Nat} (hi : i < 16) : w.cell? ⟨g, 3 + i, none⟩ = some (.bool (ks.any (fun q => q.ix == (i : Int)))) := by
 refine h.blk.cellD (3 + i) ?_
 rw [MsC, show 3 + i = i + 1 + 1 + 1 by omega, Qmz, Qmz, Qmz, QmS (by simp [hvOf, hi])]
 exact Qck ks hi
end
set_option maxRecDepth 100000 in
set_option maxHeartbeats 4000000 in
theorem QeD (base g : Nat) (id : UInt64) (ks : List Prt) (pv : List Value) (p : Prt) (A : Option Addr) (n c : Nat) (w : World) (hm : MsgAt w base g id ks pv) (hk : KeptOk ks) (hr : RdB w A n p.da) (hav : Avoid (· = g) A n) (hb : base ≤ w.heap.size) (hkl : ks.length ≤ 1048576) :
 Calls Tryz.prog 31 #[.pointer (some ⟨g, 0, none⟩), .agg (PaC p (.slice A n c)).toArray] w fun e w' => e = .returned (.int .i64 (tkE pid id ks p : Nat)) ∧ (∃ pv', MsgAt w' base g id (tkK pid id ks p) pv') ∧ Only g w w' := by
 have hlen := hr.len
 have hck := hid (fun w => Qdc p A n c hlen w)
 have hE : Hid (tkE pid id ks p = if p.kd ≠ 1 ∨ prtE p ≠ 0 then 3 else if p.id ≠ id then 4 else if ks.any (fun q => (pid q).ct != p.ct || (pid q).ix == p.ix) then 3 else 0) := hid rfl
 have hok := hid (fun h => Qcs (p := p) h)
 obtain ⟨c0, c1, c2⟩ := hm.cells
 have hgl := hm.blk.lt
 obtain ⟨kd, id', ix, ct, da⟩ := p
 have HM := hid hm
 have B1 := QaU w 32 (PaC ⟨kd, id', ix, ct, da⟩ (.slice A n c))
 obtain ⟨d0, d1, d2, d3, d4⟩ := Qaq (B1.nth 0 rfl)
 have c0' := HM.out.later B1.lat |>.cells
 clear hm
 go_enter Tryz.func31, Tryz.ntmps31
 have fin : ∀ (w' : World) (E : Nat), Bag w w' [(w.heap.size, 32, PaC ⟨kd, id', ix, ct, da⟩ (.slice A n c))] → tkE pid id ks ⟨kd, id', ix, ct, da⟩ = E → E ≠ 0 → tkE pid id ks ⟨kd, id', ix, ct, da⟩ = E ∧ (∃ pv', MsgAt w' base g id (tkK pid id ks ⟨kd, id', ix, ct, da⟩) pv') ∧ Only g w w' := by
  intro w' E B hE h0
  refine ⟨hE, ⟨pv, ?_⟩, B.lat.onlyAny g⟩
  rw [tkK, if_neg (by rw [show pid _ = (_ : Prt) from rfl, hE]; exact h0)]
  exact HM.out.later B.lat
 have FIN := hid fin
 clear fin
 by_cases hkd : kd = 1
 · subst hkd
   go_wp2_with (first
    | (refine QaV rfl _ rfl (B1.nth 0 rfl) rfl ?_)
    | fail)
   (refine (hck.out _).mono ?_); rintro e w2 ⟨rfl, j2⟩
   have B2 := B1.later j2
   clear d0 d1 d2 d3 d4 c0' c0 c1 c2 hck j2 B1
   by_cases hpe : prtE ⟨1, id', ix, ct, da⟩ = 0
   · rw [hpe]
     obtain ⟨k1, k2, k3, k4, k5⟩ := hok.out hpe
     obtain ⟨i, rfl⟩ : ∃ i : Nat, ix = i := ⟨ix.toNat, by omega⟩
     have M2 := HM.out.later B2.lat
     obtain ⟨m0, m1, m2⟩ := M2.cells
     obtain ⟨d0, d1, d2, d3, d4⟩ := Qaq (B2.nth 0 rfl)
     have mh := M2.have_ (i := i) (by omega)
     go_wp2_with fail
     refine Qaj [] [0, 1, 2, 3, 4, 5, 6] [] (by as_aux_lemma => kernel_rfl) (by as_aux_lemma => kernel_rfl) (by intro _ _ d _ _ h; cases d <;> exact h) ?_
     simp only [QaF, pick, Qmz, QmE, QmI, QmK, QmN]
     repeat (go_big_quiet_step (fail))
     refine wpQuiet_nil ?_
     by_cases hid1 : id' = id
     · have hb0 : (id' != id) = false := by simpa using hid1
       rw [hb0]
       go_wp2_with fail
       have hi16 : (i : Int) < 16 := by omega
       by_cases hacc : ks.any (fun q => (pid q).ct != ct || (pid q).ix == (i : Int)) = true
       · have h3 : tkE pid id ks ⟨1, id', i, ct, da⟩ = 3 := by rw [hE.out, if_neg (by rintro (h | h) <;> first | exact h rfl | exact h hpe), if_neg (fun h => h hid1), if_pos hacc]
         have hne : ks ≠ [] := by
          rintro rfl
          simp at hacc
         have hpos : decide (0 < ks.length) = true := decide_eq_true (List.length_pos_iff.2 hne)
         have hor := Qe6 hk hne ⟨1, id', i, ct, da⟩
         rw [hacc] at hor
         have H3 := hid (FIN.out _ 3 (B2.later ((Qak _).trans (Qak _))) h3 (by omega))
         clear FIN HM hE hok h3 hacc
         generalize ks.any (fun q => q.ix == (i : Int)) = HV at *
         generalize ctOf ks = CT at *
         by_cases hct : ct = CT
         · have hb1 : (ct != CT) = false := by simp [hct]
           have hHV : HV = true := by
            rw [hb1, Bool.false_or] at hor
            exact hor.symm
           subst hHV
           clear hor
           refine Qaj [] [0, 1, 2, 3, 4, 5, 6, 7, 8, 9, 10, 11, 12, 13, 14, 15, 16, 17, 18, 19, 20, 21, 22] [] (by as_aux_lemma => kernel_rfl) (by as_aux_lemma => kernel_rfl) (by intro _ _ d _ _ h; cases d <;> exact h) ?_
           simp only [QaF, pick, Qmz, QmE, QmI, QmK, QmN]
           repeat (go_big_quiet_step (fail))
           refine wpQuiet_nil ?_
           go_wp2_with fail
           go_ret
           exact ⟨by rw [H3.out.1]; rfl, H3.out.2⟩
         · have hb1 : (ct != CT) = true := by simp [hct]
           clear hor
           refine Qaj [] [0, 1, 2, 3, 4, 5, 6, 7, 8, 9, 10, 11, 12, 13, 14, 15, 16, 17, 18, 19, 20, 21, 22] [] (by as_aux_lemma => kernel_rfl) (by as_aux_lemma => kernel_rfl) (by intro _ _ d _ _ h; cases d <;> exact h) ?_
           simp only [QaF, pick, Qmz, QmE, QmI, QmK, QmN]
           repeat (go_big_quiet_step (fail))
           refine wpQuiet_nil ?_
           go_wp2_with fail
           go_ret
           exact ⟨by rw [H3.out.1]; rfl, H3.out.2⟩
       · have h0 : tkE pid id ks ⟨1, id', i, ct, da⟩ = 0 := by rw [hE.out, if_neg (by rintro (h | h) <;> first | exact h rfl | exact h hpe), if_neg (fun h => h hid1), if_neg hacc]
         obtain ⟨_, _, _, hz⟩ := Qdg h0
         have HZ := hid hz
         have H0 := hid h0
         clear hz h0 FIN hE hok
         have hP := B2.nth 0 rfl
         have hglt : w.heap.size ≠ g := by omega
         have hML := hid (Qc1 id ks pv M2.len)
         have hM := M2.blk
         have CP := hid (fun (w : World) => QcR A n c da w)
         have FIN : Hid (∀ (w6 : World) (gp : Nat), Blk w6 g 71 (((((MsC id ks pv).set 1 (.int .i64 ct)).set 2 (.int .i64 ((ks.length : Int) + 1))).set (3 + i) (.bool true)).set (19 + i) (.slice (some ⟨gp, 0, none⟩) n n)) → base ≤ gp → Blk w6 gp 5 (da.map W8) → Only g w w6 →
          (∃ pv', MsgAt w6 base g id (tkK pid id ks ⟨1, id', i, ct, da⟩) pv') ∧ Only g w w6) := by
          refine hid fun w6 gp hB hgp hD ho => ⟨⟨pv.set i (.slice (some ⟨gp, 0, none⟩) n n), ?_⟩, ho⟩
          have hp : (⟨1, id', i, ct, da⟩ : Prt).ix = (i : Int) := rfl
          have hq : ∀ q ∈ ks, q.ix ≠ (⟨1, id', i, ct, da⟩ : Prt).ix := fun q hq => (HZ.out q hq).2
          rw [tkK, if_pos H0.out]
          refine ⟨?_, HM.out.low, by rw [Qm1]; exact HM.out.len, fun j v hv => ?_⟩
          · rw [← QhB id ks pv ⟨1, id', i, ct, da⟩ (by omega) hp]
            exact hB
          · rw [Qge hp hq]
            rw [List.getElem?_set] at hv
            by_cases hij : i = j
            · subst hij
              rw [if_pos rfl, if_pos (by rw [HM.out.len]; omega)] at hv
              rw [if_pos rfl, ← Option.some.inj hv, ← hlen]
              exact .inr ⟨gp, rfl, hgp, hD⟩
            · rw [if_neg hij] at hv
              rw [if_neg (fun e => hij e.symm)]
              exact (HM.out.pcs j v hv).only HM.out.blk (by decide) ho
         have hac2 : (decide (0 < ks.length) = true ∧ (ct != ctOf ks) = false ∧ ks.any (fun q => q.ix == (i : Int)) = false) ∨ decide (0 < ks.length) = false := by
          by_cases hne : ks = []
          · exact .inr (by simp [hne])
          · have hor := Qe6 hk hne ⟨1, id', i, ct, da⟩
            have hf : ks.any (fun q => (pid q).ct != ct || (pid q).ix == (i : Int)) = false := by simpa using hacc
            rw [hf] at hor
            have hor' := hor.symm
            rw [Bool.or_eq_false_iff] at hor'
            exact .inl ⟨decide_eq_true (List.length_pos_iff.2 hne), hor'.1, hor'.2⟩
         generalize ks.any (fun q => q.ix == (i : Int)) = HV at *
         have kl := hkl
         clear hacc
         have HC2 := hid (show ∀ v : Value, ((MsC id ks pv).set 1 v)[2]? = some (.int .i64 (ks.length : Nat)) from fun v => rfl)
         generalize hMC : MsC id ks pv = MC at *
         generalize ks.length = KL at *
         generalize ctOf ks = CT at *
         rcases hac2 with ⟨hpos, h2, h3⟩ | hpos
         case' inl => subst h3
         all_goals
          refine Qaj [] [0, 1, 2, 3, 4, 5, 6, 7, 8, 9, 10, 11, 12, 13, 14, 15, 16, 17, 18, 19, 20, 21, 22] [] (by as_aux_lemma => kernel_rfl) (by as_aux_lemma => kernel_rfl) (by intro _ _ d _ _ h; cases d <;> exact h) ?_
          simp only [QaF, pick, Qmz, QmE, QmI, QmK, QmN]
          repeat (go_big_quiet_step (fail))
          refine wpQuiet_nil ?_
          go_wp2_with (first
           | (refine Qai rfl rfl _ _ _ rfl g 1 _ _ hM.drew.drew rfl ?hl rfl (by kernel_rfl) ?_; (case hl => rw [hML.out]; omega); intro v3 w3 hv3 hb3 ho3; simp [go_sem] at hv3; subst hv3
              have q3 := hP.drew.drew.only ho3 hglt
              obtain ⟨e0, e1, e2, e3, e4⟩ := Qaq q3
              have f2 : w3.cell? ⟨g, 2, none⟩ = some (.int .i64 (KL : Nat)) := hb3.cellD 2 (HC2.out _))
           | (refine Qai rfl rfl _ _ _ rfl g 2 _ _ hb3 rfl ?hl rfl (by kernel_rfl) ?_; (case hl => rw [Qm1, hML.out]; omega); intro v4 w4 hv4 hb4 ho4; simp [go_sem] at hv4; subst hv4
              have q4 := q3.only ho4 hglt
              obtain ⟨g0, g1, g2, g3, g4⟩ := Qaq q4)
           | fail)
          clear e0 e1 e2 e3 e4 f2
          refine Qaj [] [0, 1, 2, 3, 4, 5] [6] (by as_aux_lemma => kernel_rfl) (by as_aux_lemma => kernel_rfl) (by intro _ _ d _ _ h; cases d <;> exact h) ?_
          simp only [QaF, pick, Qmz, QmE, QmI, QmK, QmN]
          repeat (go_big_quiet_step (fail))
          refine wpQuiet_nil ?_
          clear g0 g1 g2 g3 g4
          go_wp2_with (first
           | (refine Qai rfl rfl _ _ _ rfl g (3 + i) _ _ hb4.drew rfl ?hl rfl (by kernel_rfl) ?_; (case hl => rw [Qm1, Qm1, hML.out]; omega); intro v6 w6 hv6 hb6 ho6; simp [go_sem] at hv6; subst hv6
              have q6 := q4.drew.only ho6 hglt
              obtain ⟨d0, d1, d2, d3, d4⟩ := Qaq q6)
           | fail)
          have O6 : Only g w w6 := (((((B2.lat.trans ((Qak _).trans (Qak _))).thenOnly ho3).trans ho4).later (Qak _)).trans ho6)
          have hr6 : RdB w6 A n da := Rd.onlyAvoid (Rd.later (Rd.onlyAvoid (Rd.onlyAvoid (hr.later (B2.lat.trans ((Qak _).trans (Qak _)))) hav ho3 rfl) hav ho4 rfl) (Qak _)) hav ho6 rfl
          clear ho3 ho4 ho6 hb3 hb4 q3 q4 q6 hM hP
          refine Qaj [([0, 1, 2, 3, 4, 6, 7], 5)] [8] [9] (by as_aux_lemma => kernel_rfl) (by as_aux_lemma => kernel_rfl) (by intro _ _ d _ _ h; cases d <;> exact h) ?_
          simp only [QaF, pick, Qmz, QmE, QmI, QmK, QmN]
          repeat (go_big_quiet_step (fail))
          refine wpQuiet_nil ?_
          go_wp2_with fail
          (refine (CP.out _ (hr6.later (Qak _)) (by omega)).mono ?_); rintro e w8 ⟨rfl, hD8, j8⟩
          go_wp2_with fail
          try refine ⟨by first | assumption | exact Qak _ | exact Qaa _ _ | exact Later.refl _, ?_⟩
          try simp only [QaF, pick, Qmz, QmE, QmI, QmK, QmN]
          repeat (go_big_quiet_step (fail))
          refine wpQuiet_nil ?_
          have j68 := (Qak _).trans j8
          have hb8 := hb6.later j68
          have O8w : w.heap.size ≤ w6.drew.heap.size := O6.size
          have O8 : Only g w w8 := O6.later j68
          have hg8 : base ≤ w6.drew.heap.size := by
           have := O6.size
           have e : w6.drew.heap.size = w6.heap.size := rfl
           omega
          clear d0 d1 d2 d3 d4 O6 hb6
          go_wp2_with (first
           | (refine Qai rfl rfl _ _ _ rfl g (19 + i) _ _ hb8 rfl ?hl rfl (by kernel_rfl) ?_; (case hl => rw [Qm1, Qm1, Qm1, hML.out]; omega); intro v9 w9 hv9 hb9 ho9; simp [go_sem] at hv9; subst hv9)
           | fail)
          have hD9 := hD8.only ho9 (fun e => by
           have : w.heap.size ≤ w6.drew.heap.size := O8w
           omega)
          have FF := FIN.out w9 w6.drew.heap.size hb9 hg8 hD9 (O8.trans ho9)
          clear FIN
          go_ret
          exact ⟨by rw [H0.out]; rfl, FF⟩
     · have hb0 : (id' != id) = true := by simpa using hid1
       have h4 : tkE pid id ks ⟨1, id', i, ct, da⟩ = 4 := by rw [hE.out, if_neg (by rintro (h | h) <;> first | exact h rfl | exact h hpe), if_pos hid1]
       have H4 := hid (FIN.out _ 4 (B2.later (Qak _)) h4 (by omega))
       clear FIN HM hE hok h4
       rw [hb0]
       go_wp2_with fail
       go_ret
       exact ⟨by rw [H4.out.1]; rfl, H4.out.2⟩
   · have hb1 : ((prtE ⟨1, id', ix, ct, da⟩ : Nat) : Int) ≠ 0 := by omega
     have h3 : tkE pid id ks ⟨1, id', ix, ct, da⟩ = 3 := by rw [hE.out, if_pos (.inr hpe)]
     generalize prtE ⟨1, id', ix, ct, da⟩ = E0 at *
     have hb2 : ((E0 : Int) != 0) = true := by simpa using hb1
     have H3 := hid (FIN.out w2 3 B2 h3 (by omega))
     clear FIN HM hE hok h3
     go_wp2_with fail
     go_ret
     exact ⟨by rw [H3.out.1]; rfl, H3.out.2⟩
 · have hb1 : (kd != 1) = true := by simpa using hkd
   have h3 : tkE pid id ks ⟨kd, id', ix, ct, da⟩ = 3 := by rw [hE.out, if_pos (.inl hkd)]
   have H3 := hid (FIN.out _ 3 B1 h3 (by omega))
   clear FIN HM hE hok hck h3
   go_wp2_with fail
   go_ret
   exact ⟨by rw [H3.out.1]; rfl, H3.out.2⟩
end Go.Proofs.YtkibgdigcgakfabGreat
namespace Go.Proofs.YtkibgdigcgakfabGreat
open Go.RowKit
open Go.BigFrame
theorem KeptOk.ct {ks : List Prt} (h : KeptOk ks) (hne : ks ≠ []) : 1 ≤ ctOf ks ∧ ctOf ks ≤ 16 ∧ (ks.length : Int) ≤ ctOf ks ∧ ∀ q ∈ ks, q.ct = ctOf ks := by
 have hl : ks.getLast? = some (ks.getLast hne) := List.getLast?_eq_some_getLast hne
 have hm := List.getLast_mem hne
 generalize ks.getLast hne = l at hl hm
 have hc : ctOf ks = l.ct := by rw [ctOf, hl]; rfl
 obtain ⟨h1, h2, _⟩ := Qcs (h.good l hm).2
 have hs : ∀ q ∈ ks, q.ct = l.ct := fun q hq => h.same q hq l hm
 rw [hc]
 exact ⟨h1, h2, h.le hs (by omega), hs⟩
theorem Qjf {ks : List Prt} (h : KeptOk ks) (i : Nat) : (daAt ks i).length ≤ 450 := by
 unfold daAt
 cases hf : ks.find? (fun q => q.ix == (i : Int)) with
 | none => simp
 | some r => exact (Qcs (h.good r (List.mem_of_find?_eq_some hf)).2).2.2.2.2
theorem QgJ {f : Nat → List UInt8} {c : Nat} (h : ∀ i, (f i).length ≤ c) : ∀ n, ((Qnf n).map f).flatten.length ≤ n * c
 | 0 => by simp
 | n + 1 => by
   have := QgJ h n
   have := h n
   rw [List.range_succ, Qnx, List.flatten_append, QmP, Nat.add_mul]
   simp only [QmQ, QmG, List.flatten_cons, List.flatten_nil, List.append_nil]
   omega
set_option maxRecDepth 100000 in
set_option maxHeartbeats 4000000 in
theorem Qgm (base g : Nat) (id : UInt64) (ks : List Prt) (pv : List Value) (p : Prt) (A : Option Addr) (n c : Nat) (bt : Nat) (t : TypeId) (w : World) (hm : MsgAt w base g id ks pv) (hk : KeptOk ks) (hr : RdB w A n p.da) (hav : Avoid (· = g) A n) (hb : base ≤ w.heap.size) (hkl : ks.length ≤ 1048576)
 (hbt : Blk w bt t (PaC p (.slice A n c))) :
 Calls Tryz.prog 17 #[.pointer (some ⟨g, 0, none⟩), .slice (some ⟨bt, 0, none⟩) 1 1] w fun e w' => e = .returned (.int .i64 (tkE pid id ks p : Nat)) ∧ (∃ pv', MsgAt w' base g id (tkK pid id ks p) pv') ∧ Only g w w' := by
 have H := hid (fun (w' : World) (l : Later w w') => QeD base g id ks pv p A n c w' (hm.later l) hk (hr.later l) hav (Qm8 hb l.size) hkl)
 generalize tkE pid id ks p = E at *
 generalize tkK pid id ks p = K at *
 clear hm hk hr hav
 go_enter Tryz.func17, Tryz.ntmps17
 go_wp2
 go_loopw [5, 11] (fun f i wr => (i = .int .i64 0 ∧ f = .int .i64 0 ∧ Later w wr) ∨ (i = .int .i64 1 ∧ f = .int .i64 (E : Nat) ∧ (∃ pv', MsgAt wr base g id K pv') ∧ Only g w wr)) (fun _ i _ => 1 - (intOf i).toNat)
 case atStart => exact .inl ⟨rfl, rfl, Later.refl w⟩
 case round =>
  rcases hrel with ⟨rfl, rfl, L⟩ | ⟨rfl, rfl, h2, h3⟩
  · have hbt' := hbt.later L
    have hbl := hbt'.lt
    have B1 := QaU wr 32 pz0
    go_wp2_with (first
     | (refine QaV rfl _ rfl hbt' rfl ?_)
     | (refine Qam rfl rfl _ _ rfl (B1.nth 0 rfl) rfl rfl rfl rfl ?_; intro w2 hb2 ho2
        have l2 : Later wr w2 := B1.lat.only ho2 (Qmx _))
     | (refine QaV rfl _ rfl hb2 rfl ?_)
     | fail)
    (refine (H.out _ (L.trans l2)).mono ?_); rintro e w3 ⟨rfl, hM3, o3⟩
    have O3 : Only g w w3 := (L.trans l2).thenOnly o3
    clear H hbt' B1 hb2 ho2 l2 o3 L
    by_cases hE : E = 0
    · subst hE
      go_wp2_with fail
      exact ⟨.inr ⟨by go_num, rfl, hM3, O3⟩, by simp [intOf]⟩
    · have hE1 : ((E : Int) != 0) = true := by
       rw [bne_iff_ne]
       omega
      go_wp2_with fail
      exact ⟨.inr ⟨by go_num, rfl, hM3, O3⟩, by simp [intOf]⟩
  · go_wp2_with fail
    go_ret
    exact ⟨rfl, h2, h3⟩
set_option maxRecDepth 100000 in
theorem QcE (base g : Nat) (id : UInt64) (ks : List Prt) (pv : List Value) (w : World) (hm : MsgAt w base g id ks pv) (hk : KeptOk ks) (hne : ks ≠ []) :
 Calls Tryz.prog 18 #[.pointer (some ⟨g, 0, none⟩)] w fun e w' => e = .returned (.int .i64 (ctOf ks - (ks.length : Int))) ∧ Later w w' := by
 obtain ⟨c0, c1, c2⟩ := hm.cells
 obtain ⟨h1, h2, h3, _⟩ := hk.ct hne
 have hpos := List.length_pos_iff.2 hne
 generalize ctOf ks = CT at *
 generalize ks.length = KL at *
 have h0 : decide ((KL : Int) = 0) = false := decide_eq_false (by omega)
 go_enter Tryz.func18, Tryz.ntmps18
 go_wp2_with fail
 refine Qaj [] [0, 1, 2, 3, 4, 5, 6, 7, 8, 9] [] (by as_aux_lemma => kernel_rfl) (by as_aux_lemma => kernel_rfl) (by intro _ _ d _ _ h; cases d <;> exact h) ?_
 simp only [QaF, pick, Qmz, QmE, QmI, QmK, QmN]
 repeat (go_big_quiet_step (fail))
 refine wpQuiet_nil ?_
 go_wp2_with fail
 go_ret
 exact ⟨rfl, Qak w⟩
set_option maxRecDepth 100000 in
set_option maxHeartbeats 1000000 in
theorem QfE (base g : Nat) (id : UInt64) (ks : List Prt) (pv : List Value) (w : World) (hm : MsgAt w base g id ks pv) (hk : KeptOk ks) (hne : ks ≠ []) (hf : (ks.length : Int) = ctOf ks) :
 Calls Tryz.prog 19 #[.pointer (some ⟨g, 0, none⟩)] w fun e w' => ∃ A n c, e = .returned (.tuple #[.slice A n c, .int .i64 0]) ∧ OwnB w' w.heap.size A n c (Qel ks) ∧ Later w w' := by
 have HM := hid (fun (w' : World) (l : Later w w') => QcE base g id ks pv w' (hm.later l) hk hne)
 obtain ⟨h1, h2, h3, _⟩ := hk.ct hne
 have hw := Qhs hk
 have hfl : (Qnf ks.length).flatMap (daAt ks) = ((Qnf ks.length).map (daAt ks)).flatten := by rw [List.flatMap_def]
 rw [hfl] at hw
 have hle := QgJ (Qjf hk) ks.length
 have hP : Hid (∀ w', Later w w' → Parts w' (fun _ => False) (some ⟨g, 19, none⟩) ks.length ((Qnf ks.length).map (daAt ks))) := by
  refine hid fun w' l => ⟨pv.take ks.length, ?_, fun _ _ _ h => h, by rw [QmW, hm.len, QmD, List.length_range]; omega, fun j v p hv hp => ?_⟩
  · refine ⟨by rw [QmW, hm.len]; omega, fun _ => ⟨g, 19, rfl, (hm.blk.later l).lt, fun j u hu => ?_⟩⟩
    rw [Qm4] at hu
    split at hu
    · refine (hm.blk.later l).cellD (19 + j) ?_
      have hl : ((hvOf ks).map Value.bool).length = 16 := by simp [hvOf]
      rw [MsC, show 19 + j = (16 + j) + 1 + 1 + 1 by omega, Qmz, Qmz, Qmz, QmX (by omega), hl, show 16 + j - 16 = j by omega]
      exact hu
    · cases hu
  · rw [Qm4] at hv
    split at hv
    · rename_i hj
      rw [QmR, Qns hj] at hp
      obtain rfl : daAt ks j = p := Option.some.inj hp
      rcases (hm.later l).pcs j v hv with ⟨rfl, e⟩ | ⟨gp, rfl, _, hb⟩
      · exact ⟨none, 0, 0, rfl, Qmx _, by rw [e]; exact Qdn w', fun _ _ h => by cases h⟩
      · exact ⟨_, _, _, rfl, Qmx _, hb.rd (by simp), fun _ _ _ h => h⟩
    · cases hv
 obtain ⟨c0, c1, c2⟩ := hm.cells
 have HJ := hid (fun (w' : World) (l : Later w w') => QgP (some ⟨g, 19, none⟩) ks.length 16 _ w' (hP.out w' l) (by omega) (by omega))
 rw [← hf] at h2 HM c1
 rw [Int.sub_self] at HM
 rw [← hw] at HJ
 generalize Qel ks = W at *
 generalize ks.length = KL at *
 clear hP hw hfl hle hf
 go_enter Tryz.func19, Tryz.ntmps19
 go_wp2_with fail
 (refine (HM.out _ (Later.refl w)).mono ?_); rintro e w2 ⟨rfl, j2⟩
 have hb2 := hm.blk.later j2
 have d1 : w2.cell? ⟨g, 1, none⟩ = some (.int .i64 (KL : Nat)) := (j2.below.cell (p := ⟨g, 1, none⟩) hm.blk.lt).trans c1
 go_wp2_with fail
 refine Qaj [([0, 1, 2, 3, 4, 5, 6, 7], 8)] [9, 10] [] (by as_aux_lemma => kernel_rfl) (by as_aux_lemma => kernel_rfl) (by intro _ _ d _ _ h; cases d <;> exact h) ?_
 simp only [QaF, pick, Qmz, QmE, QmI, QmK, QmN]
 repeat (go_big_quiet_step (fail))
 refine wpQuiet_nil ?_
 go_wp2_with fail
 (refine (HJ.out _ (j2.trans (Qak _))).mono ?_); rintro e w3 ⟨A', c', rfl, hown, j3⟩
 go_wp2_with fail
 try refine ⟨by first | assumption | exact Qak _ | exact Qaa _ _ | exact Later.refl _, ?_⟩
 try simp only [QaF, pick, Qmz, QmE, QmI, QmK, QmN]
 repeat (go_big_quiet_step (fail))
 refine wpQuiet_nil ?_
 go_wp2_with fail
 go_ret2
 exact ⟨_, _, _, rfl, QaY hown (j2.trans (Qak _)).size, (j2.trans (Qak _)).trans j3⟩
end Go.Proofs.YtkibgdigcgakfabGreat
