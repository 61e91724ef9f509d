/-
  Lemmas for the last text of this claim (part 14 of 20).
-/
import Derived.BigQuiet
import Derived.BigRegion
import Derived.ChangeOld
import Derived.Deep.RegionWith
import Derived.DeepKeys4
import Derived.JoinedCond
import Derived.LaidMore
import Derived.Laws.CopyOwn
import Derived.Laws.Externs
import Derived.Laws.IdiomStrings
import Derived.Laws.Tables
import Derived.Lib.AppendStr
import Derived.Lib.AppendZerosOnto
import Derived.Lib.Mul64
import Derived.Lib.SlBytesConst
import Derived.LoopN
import Derived.Maps.OwnSet
import Derived.OpenShut
import Derived.OrdersHeld
import Derived.ProofKit
import Derived.Shelf.Spec.BitsCarry
import Derived.ShutString
import Derived.Test.YtkibgdigcgakfabGreatProg
import Derived.Test.YtkibgdigcgakfabGreatRows
import Derived.WalkKit
import Derived.WalkLawsBesides
import Derived.WalkSpells
import Derived.Test.YtkibgdigcgakfabGreatPM
open Bool renaming and_eq_true → QmH, eq_iff_iff → QmY
open List renaming getElem?_eq_getElem → Qmw, map_toArray → Qmy, getD_eq_getElem?_getD → QmA, replicate → QmC, map_nil → QmG, getElem?_eq_some_iff → QmO, map_cons → QmQ, getElem?_map → QmR, getElem?_append_left → QmS, mem_cons → QmV, mem_map → Qm5, mem_append → Qnr, map_append → Qnx
open Nat renaming le_refl → Qmx, zero_add → QmU
namespace Go.Proofs.YtkibgdigcgakfabGreat
open Go.RowKit
open Go.BigFrame
theorem Qee (x : Arv) (h : x.va.oneCell' = true) : ∀ u ∈ AvC x, u.oneCell' = true := by
 intro u hu
 rcases Qnr.1 hu with hu | hu
 · exact QbL _ h u hu
 · simp only [QmV, Qm5] at hu
   rcases hu with rfl | rfl | rfl | ⟨b, _, rfl⟩ <;> rfl
theorem Qb3 : (Tryz.prog.info? 36).map (·.size) = some 24 := by kernel_rfl
theorem Qj2 {w : World} {g g' : Nat} {t t' : TypeId} {l l' : List Value} (h : Blk w g t l) (h' : Blk w g' t' l') (hne : t ≠ t') : g ≠ g' := by
 rintro rfl
 have := h.symm.trans h'
 simp only [Option.some.injEq, Obj.cells.injEq] at this
 exact hne this.2.1
def pv0 : List Value := QmC 16 (.slice none 0 0)
theorem Qkk : (Tryz.prog.info? 71).bind (·.zero) = some (.agg (MsC 0 [] pv0).toArray) := by kernel_rfl
theorem Qg2 (a : UInt64) : Tryz.prog.built 71 [(0, W64 a)] = some (MsC a [] pv0).toArray := by
 rw [QaN (pl := [(0, 1), (1, 1), (2, 1), (3, 16), (19, 16)]) Tryz.underlying71 Qkk (by kernel_rfl), Qaw (vs := [W64 a]) (off := 0) rfl rfl (by rw [Qc1 _ _ _ (by simp [pv0])]; simp), Qbf]
 rfl
theorem QjL : (Tryz.prog.info? 40).map (fun i => (i.zero, i.size, i.bytes)) = some (some (.agg (LtC lv0).toArray), 4, 48) := by kernel_rfl
theorem QiS : (Tryz.prog.info? 40).map (fun i => (i.zero, i.size)) = some (some (.agg (LtC lv0).toArray), 4) := by kernel_rfl
theorem QfP : (Tryz.prog.info? 32).map (fun i => (i.zero, i.size)) = some (some (.agg (PaC prt0 (.slice none 0 0)).toArray), 5) := by kernel_rfl
theorem QjK : (Tryz.prog.info? 40).bind (·.zero) = some (.agg (LtC lv0).toArray) := by kernel_rfl
theorem Qhn (y : Ltv) : Tryz.prog.built 40 [(0, W64 y.lt.to), (1, W64 y.lt.id), (2, .int .i64 y.lt.tk), (3, .slice y.va y.vn y.vc)] = some (LtC y).toArray := by
 rw [QaN (pl := [(0, 1), (1, 1), (2, 1), (3, 1)]) Tryz.underlying40 QjK (by kernel_rfl), Qaw (vs := [W64 y.lt.to]) (off := 0) rfl rfl (by simp [LtC]), Qaw (vs := [W64 y.lt.id]) (off := 1) rfl rfl (by simp [LtC, Qan]),
  Qaw (vs := [.int .i64 y.lt.tk]) (off := 2) rfl rfl (by simp [LtC, Qan]), Qaw (vs := [.slice y.va y.vn y.vc]) (off := 3) rfl rfl (by simp [LtC, Qan]), Qbf]
 rfl
theorem Qbh {w : World} {g : Nat} {t : TypeId} {ar : Arr} {v : Value} (h : Blk w g t (AvC ⟨ar, v⟩)) : w.cell? ⟨g, 5, none⟩ = some (W8 ar.kd) ∧ w.cell? ⟨g, 6, none⟩ = some (W64 ar.to) ∧ w.cell? ⟨g, 7, none⟩ = some (.int .i64 ar.tk) ∧ w.cell? ⟨g, 0, none⟩ = some (W8 ar.pt.kd) ∧ w.cell? ⟨g, 1, none⟩ = some (W64 ar.pt.id) :=
 ⟨h.cellD 5 rfl, h.cellD 6 rfl, h.cellD 7 rfl, h.cellD 0 rfl, h.cellD 1 rfl⟩
theorem QcY {w : World} {g : Nat} {t : TypeId} {ar : Arr} {v : Value} (h : Blk w g t (AvC ⟨ar, v⟩)) : ∀ (j : Nat) u, (PaC ar.pt v)[j]? = some u → w.cell? ⟨g, 0 + j, none⟩ = some u := by
 intro j u hu
 rw [QmU]
 refine h.cellD j ?_
 have hl := (QmO.1 hu).1
 rw [AvC, QmS hl]
 exact hu
theorem Qi4 (w : World) (base : Nat) (id : UInt64) (hb : base ≤ w.heap.size) : MsgAt (w.alloc (.cells (MsC id [] pv0).toArray 71)) base w.heap.size id [] pv0 := by
 refine ⟨Blk.new w _ _, hb, by simp [pv0], fun i v hv => .inl ⟨?_, rfl⟩⟩
 rw [pv0, List.getElem?_replicate] at hv
 split at hv
 · exact (Option.some.inj hv).symm
 · cases hv
theorem Qe1 (w : World) : (zeroValue 67).run Tryz.prog w = .ok (.pointer none) w := by kernel_rfl
set_option maxRecDepth 100000 in
set_option maxHeartbeats 4000000 in
theorem Qd9 (A : Option Addr) (n c : Nat) (xs : List Arv) (w : World) (hx : RdF AvC 24 av0 w A n xs) (hok : ∀ x ∈ xs, AvOk w x) (hn : n ≤ 1048576) :
 Calls Tryz.prog 8 #[.slice A n c] w fun e w' => ∃ v ys, e = .returned v ∧ (∃ bm k f K, LSt w w' bm k f K v ys) ∧ ys.map (·.lt) = ltrs (xs.map (·.ar)) n := by
 have hxl := hx.1
 go_enter Tryz.func8, Tryz.ntmps8
 have hmm := @run_makeMap Tryz.prog
 go_wp2
 go_loopw [3, 14] (fun v3 i wr => ∃ (k m : Nat) (f : UInt64 × UInt64 → Option Nat) (ys : List Ltv), k ≤ n ∧ i = .int .i64 k ∧ m ≤ k ∧ ys.length ≤ k ∧ LSt w wr w.heap.size m f (Qba ((xs.map (·.ar)).take k)) v3 ys ∧ ys.map (·.lt) = ltrs (xs.map (·.ar)) k) (fun _ i _ => n - (intOf i).toNat)
 case atStart =>
  refine ⟨0, 0, fun _ => none, [], by omega, rfl, by omega, by simp, ⟨QbA w _, PMap.made w Qjl, Qmx _, by simp, fun _ _ => rfl, by simp, ?_, by simp⟩, rfl⟩
  exact ⟨by simp, .inl ⟨rfl, rfl⟩⟩
 case round =>
  clear hmm
  obtain ⟨k, m, f, ys, hk, rfl, hm, hyl, S, hys⟩ := hrel
  by_cases hlt : k < n
  · obtain ⟨b, o, rfl, hb, hc⟩ := (hx.later S.lat).at_ hlt
    have hmem : xs.getD k av0 ∈ xs := by
     rw [QmA, Qmw (by omega)]
     exact List.getElem_mem _
    have har : (xs.map (·.ar))[k]? = some (xs.getD k av0).ar := by
     rw [QmR, QmA, Qmw (by omega)]
     rfl
    have htk : (xs.map (·.ar)).take (k + 1) = (xs.map (·.ar)).take k ++ [(xs.getD k av0).ar] := by
     rw [List.take_add_one, har]
     rfl
    have hls := QgE (xs.map (·.ar)) k _ har
    have hks := fun y => QeC ((xs.map (·.ar)).take k) y (xs.getD k av0).ar
    have hkok := QfT ((xs.map (·.ar)).take k)
    rw [← htk] at hks
    obtain ⟨A5, n5, c5, hva, hnc5, hrd5⟩ := hok _ hmem
    generalize xs.getD k av0 = x at *
    obtain ⟨ar, va⟩ := x
    simp only at har htk hls hks hva hrd5
    subst hva
    generalize (xs.map (·.ar)).take k = T at *
    generalize hK' : Qba ((xs.map (·.ar)).take (k + 1)) = K' at *
    have hKs : (fun y => if mine y ar then tkK pid y.2 (Qba T y) ar.pt else Qba T y) = K' := by
     funext y
     exact (hks y).symm
    have HKs := hid hKs
    have HLs := hid hls
    have HY := hid hys
    clear hks hls hys hKs har htk hmem
    generalize hK : Qba T = K at *
    by_cases hsk : ar.kd = 2 ∧ ar.pt.kd = 1
    · obtain ⟨hkd, hpk⟩ := hsk
      have hb1 : (ar.kd != 2) = false := by simp [hkd]
      have hb3 : (ar.pt.kd != 1) = false := by simp [hpk]
      have hxm : ∀ y, mine y ar = decide (y = (ar.to, ar.pt.id)) := by
       intro y
       unfold mine
       rw [hkd, hpk]
       apply QmY.2
       simp only [QmH, beq_iff_eq, decide_eq_true_eq]
       constructor
       · rintro ⟨⟨_, h1⟩, h2⟩
         exact Prod.ext h1.symm h2.symm
       · rintro rfl
         simp
      have hKn : (fun y => if y = (ar.to, ar.pt.id) then tkK pid ar.pt.id (K (ar.to, ar.pt.id)) ar.pt else K y) = K' := by
       rw [← HKs.out]
       funext y
       rw [hxm y]
       by_cases hy : y = (ar.to, ar.pt.id)
       · subst hy
         simp
       · simp [hy]
      have HKn := hid hKn
      clear hKn hxm HKs
      have hfc : f (ar.to, ar.pt.id) = none ∨ ∃ g, f (ar.to, ar.pt.id) = some g := by
       cases f (ar.to, ar.pt.id)
       · exact .inl rfl
       · exact .inr ⟨_, rfl⟩
      have hfc2 : (f (ar.to, ar.pt.id) = none) ∨ ∃ G, f (ar.to, ar.pt.id) = some G := hfc
      clear hfc
      rcases hfc2 with hfx | ⟨G, hfx⟩
      case' inl =>
       go_wp2_with (first
        | (refine Qaf ?hw _ _ rfl b (o + k * 24) (AvC ⟨ar, .slice A5 n5 c5⟩) hc rfl _ Tryz.underlying36 rfl (by rw [Qac]; exact Qb3) ?_; (case hw => rfl))
        | (refine Qab rfl rfl _ _ _ rfl wr.heap.size _ _ (AvC ⟨ar, .slice A5 n5 c5⟩) (Blk.new wr _ (AvC av0)) rfl rfl 24 Qb3 (Qac ⟨ar, .slice A5 n5 c5⟩) (Qac av0) (Qee ⟨ar, .slice A5 n5 c5⟩ rfl) ?_; intro w2 hb2 ho2
           obtain ⟨e5, e6, e7, e0, e1⟩ := Qbh hb2
           have hlt2 : wr.heap.size < w2.heap.size := hb2.lt
           have l2 : Later wr w2 := (Qaa wr _).only ho2 (Qmx _))
        | (refine QcI rfl _ _ rfl Tryz.underlying64 (Qe1 _) rfl (S.later (l2.trans (Qaa _ _))).map (ar.to, ar.pt.id) rfl ?_; rw [hfx]; simp only [ptrV])
        | (refine Qad ?hw 71 _ rfl (MsC ar.pt.id [] pv0) (by simp only [Qmy, QmQ, QmG]; exact Qg2 _) ?_; (case hw => rfl))
        | (refine Qfw rfl _ _ _ rfl Tryz.underlying64 rfl (S.later (l2.trans ((Qaa _ _).trans (Qaa _ _)))).map (by unfold maxLen; omega) (ar.to, ar.pt.id) (w2.heap.size + 1) rfl rfl ?_; intro w5 hp5 ho5
           have S4 := S.later (l2.trans ((Qaa w2 (.cells #[W64 ar.to, W64 ar.pt.id] 66)).trans (Qaa _ (.cells (MsC ar.pt.id [] pv0).toArray 71))))
           have hb5 := Qcu (hb2.later ((Qaa w2 (.cells #[W64 ar.to, W64 ar.pt.id] 66)).trans (Qaa _ (.cells (MsC ar.pt.id [] pv0).toArray 71)))) S4.map.obj.choose_spec.choose_spec ho5)
        | (refine Qaf ?hw _ _ rfl wr.heap.size 0 (PaC ar.pt (.slice A5 n5 c5)) (QcY hb5) rfl _ Tryz.underlying32 rfl (by rw [Qah]; exact QaM) ?_; (case hw => rfl))
        | (refine QbD ?hw 26 _ rfl 32 5 _ (PaC ar.pt (.slice A5 n5 c5)) Tryz.underlying26 QfP (by omega) (by omega) (Qah _ _) rfl ?_; (case hw => rfl))
        | fail)
       have em : (w2.alloc (.cells #[W64 ar.to, W64 ar.pt.id] 66)).heap.size = w2.heap.size + 1 := by simp
       have hmn := Qi4 (w2.alloc (.cells #[W64 ar.to, W64 ar.pt.id] 66)) w.heap.size ar.pt.id (by have := S.lat.size; omega)
       rw [em] at hmn
       have S5a := S4.put (x0 := (ar.to, ar.pt.id)) (g := w2.heap.size + 1) hfx hmn (fun y hy => by
        obtain ⟨_, hm⟩ := S.msg y _ hy
        have := hm.blk.lt
        omega) hp5 ho5
       obtain ⟨m5, hm5, f5, hG, S5⟩ : ∃ m5, m5 ≤ k + 1 ∧ ∃ f5 : UInt64 × UInt64 → Option Nat, f5 (ar.to, ar.pt.id) = some (w2.heap.size + 1) ∧ LSt w w5 w.heap.size m5 f5 K u3 ys := ⟨m + 1, by omega, _, by simp, S5a⟩
       clear S5a hmn em S4 hp5 ho5
       generalize w2.heap.size + 1 = G at *
      case' inr =>
       go_wp2_with (first
        | (refine Qaf ?hw _ _ rfl b (o + k * 24) (AvC ⟨ar, .slice A5 n5 c5⟩) hc rfl _ Tryz.underlying36 rfl (by rw [Qac]; exact Qb3) ?_; (case hw => rfl))
        | (refine Qab rfl rfl _ _ _ rfl wr.heap.size _ _ (AvC ⟨ar, .slice A5 n5 c5⟩) (Blk.new wr _ (AvC av0)) rfl rfl 24 Qb3 (Qac ⟨ar, .slice A5 n5 c5⟩) (Qac av0) (Qee ⟨ar, .slice A5 n5 c5⟩ rfl) ?_; intro w2 hb2 ho2
           obtain ⟨e5, e6, e7, e0, e1⟩ := Qbh hb2
           have hlt2 : wr.heap.size < w2.heap.size := hb2.lt
           have l2 : Later wr w2 := (Qaa wr _).only ho2 (Qmx _)
           have hb5 := hb2.later (Qaa w2 (.cells #[W64 ar.to, W64 ar.pt.id] 66)))
        | (refine QcI rfl _ _ rfl Tryz.underlying64 (Qe1 _) rfl (S.later (l2.trans (Qaa _ _))).map (ar.to, ar.pt.id) rfl ?_; rw [hfx]; simp only [ptrV])
        | (refine Qaf ?hw _ _ rfl wr.heap.size 0 (PaC ar.pt (.slice A5 n5 c5)) (QcY hb5) rfl _ Tryz.underlying32 rfl (by rw [Qah]; exact QaM) ?_; (case hw => rfl))
        | (refine QbD ?hw 26 _ rfl 32 5 _ (PaC ar.pt (.slice A5 n5 c5)) Tryz.underlying26 QfP (by omega) (by omega) (Qah _ _) rfl ?_; (case hw => rfl))
        | fail)
       have S5a := S.later (l2.trans (Qaa w2 (.cells #[W64 ar.to, W64 ar.pt.id] 66)))
       obtain ⟨m5, hm5, f5, hG, S5⟩ : ∃ m5, m5 ≤ k + 1 ∧ ∃ f5 : UInt64 × UInt64 → Option Nat, f5 (ar.to, ar.pt.id) = some G ∧ LSt w (w2.alloc (.cells #[W64 ar.to, W64 ar.pt.id] 66)) w.heap.size m5 f5 K u3 ys := ⟨m, by omega, f, hfx, S5a⟩
       clear S5a
       have em : (w2.alloc (.cells #[W64 ar.to, W64 ar.pt.id] 66)).heap.size = w2.heap.size + 1 := by simp
       rw [← em]
       clear em
       generalize w2.alloc (.cells #[W64 ar.to, W64 ar.pt.id] 66) = w5 at *
      all_goals
       clear S ho2 e5 e6 e7 e0 e1 hlt2 l2 hb2 hfx
       have T6 := S5.later (Qaa w5 (.cells (PaC ar.pt (.slice A5 n5 c5)).toArray 32))
       obtain ⟨pv6, M6⟩ := T6.msg (ar.to, ar.pt.id) G hG
       have hb6 := hb5.later (Qaa w5 (.cells (PaC ar.pt (.slice A5 n5 c5)).toArray 32))
       have hav : Avoid (· = G) A5 n5 := fun h0 ad had e => by
        obtain ⟨b', o', hA, hlt', _⟩ := hrd5.2 h0
        rw [hA] at had
        cases had
        have := M6.low
        simp only at e
        omega
       have hkx := hkok (ar.to, ar.pt.id)
       have hks := hkx.small
       refine (Qgm w.heap.size G ar.pt.id (K (ar.to, ar.pt.id)) pv6 ar.pt A5 n5 c5 w5.heap.size 32 _ M6 hkx (hrd5.later T6.lat) hav T6.lat.size (by omega) (Blk.new w5 _ _)).mono ?_
       rintro e w7 ⟨rfl, ⟨pv7, M7⟩, O7⟩
       have S7 := T6.took hG M7 O7
       have hb7 := hb6.only O7 (Qj2 hb6 M6.blk (by decide))
       clear T6 M6 hb6 hav O7 S5 hb5
       rw [HKn.out] at S7
       have hKT : Hid (Qba T (ar.to, ar.pt.id) = K (ar.to, ar.pt.id)) := hid (by rw [hK])
       have hcell := Qbh hb7
       have hok1 := hid (fun h : tkE pid ar.pt.id (K (ar.to, ar.pt.id)) ar.pt = 0 => (show tkK pid ar.pt.id (K (ar.to, ar.pt.id)) ar.pt = K (ar.to, ar.pt.id) ++ [ar.pt] by rw [tkK, if_pos h]))
       have hkn : KeptOk (tkK pid ar.pt.id (K (ar.to, ar.pt.id)) ar.pt) := hkx.snoc
       have HSk := hid (fun h : Qey T ar = [] => (show ys.map (·.lt) = ltrs (xs.map (·.ar)) (k + 1) by rw [HY.out, HLs.out, h, List.append_nil]))
       have HLt : Hid (Qey T ar = if ar.kd = 2 ∧ ar.pt.kd = 1 ∧ tkE pid ar.pt.id (K (ar.to, ar.pt.id)) ar.pt = 0 ∧ ((K (ar.to, ar.pt.id)).length : Int) + 1 = ar.pt.ct then [⟨ar.to, ar.pt.id, ar.tk, Qel (K (ar.to, ar.pt.id) ++ [ar.pt])⟩] else []) := hid (by rw [Qey, hKT.out])
       by_cases hE : tkE pid ar.pt.id (K (ar.to, ar.pt.id)) ar.pt = 0
       · rw [hE]
         have hap := hok1.out hE
         rw [hap] at M7 hkn
         have hct : ctOf (K (ar.to, ar.pt.id) ++ [ar.pt]) = ar.pt.ct := QdQ _ _
         have hlen : ((K (ar.to, ar.pt.id) ++ [ar.pt]).length : Int) = ((K (ar.to, ar.pt.id)).length : Nat) + 1 := by simp
         have hMi := QcE w.heap.size G ar.pt.id _ pv7 w7 M7 hkn (by simp)
         have hMb : Hid (∀ (_ : ((K (ar.to, ar.pt.id)).length : Int) + 1 = ar.pt.ct) (w' : World) (l : Later w7 w'), _) := hid (fun hf w' l => QfE w.heap.size G ar.pt.id _ pv7 w' (M7.later l) hkn (by simp) (by rw [hlen, hct]; exact hf))
         have hle := (hkn.ct (by simp)).2.2.1
         rw [hct, hlen] at hMi hle
         have hc16 := (Qcs (Qdg hE).2.1).2.1
         have HE := hid hE
         clear hct hlen hap hE hok1 M7 hkn hkx hKT
         generalize Qel (K (ar.to, ar.pt.id) ++ [ar.pt]) = WH at *
         generalize (K (ar.to, ar.pt.id)).length = KL at *
         go_wp2_with fail
         refine hMi.mono ?_
         rintro e w8 ⟨rfl, j8⟩
         have S8 := S7.later j8
         have hb8 := hb7.later j8
         obtain ⟨e5, e6, e7, e0, e1⟩ := Qbh hb8
         clear hMi S7 hb7 hcell
         by_cases hfull : (KL : Int) + 1 = ar.pt.ct
         · have hd : decide ((KL : Int) + 1 < ar.pt.ct) = false := decide_eq_false (by omega)
           have hB := hMb.out hfull w8 j8
           have hl1 := hid (HLt.out.trans (if_pos ⟨hkd, hpk, HE.out, hfull⟩))
           clear hMb HSk HLt hfull
           go_wp2_with fail
           refine hB.mono ?_
           rintro e w9 ⟨A9, n9, c9, rfl, hown9, j9⟩
           have S9 := S8.later j9
           have hb9 := hb8.later j9
           have hw9 : w.heap.size ≤ w8.heap.size := S8.lat.size
           clear S8 hb8 hB e5 e6 e7 e0 e1 hd
           obtain ⟨e5, e6, e7, e0, e1⟩ := Qbh hb9
           obtain ⟨y, hy⟩ : ∃ y : Ltv, y = ⟨⟨ar.to, ar.pt.id, ar.tk, WH⟩, A9, n9, c9⟩ := ⟨_, rfl⟩
           have hyb := hid (Qhn y)
           go_wp2_with (first
            | (refine Qad ?hw 40 _ rfl (LtC y) (by simp only [Qmy, QmQ, QmG]; rw [← hyb.out, hy]; rfl) ?_; (case hw => rfl))
            | (refine QbD ?hw 37 _ rfl 40 4 _ (LtC y) Tryz.underlying37 QiS (by omega) (by omega) rfl rfl ?_; (case hw => rfl))
            | (refine Qbq (F := LtC) (d := lv0) QcT QiK (by omega) rfl _ _ _ rfl 40 _ 48 Tryz.underlying37 QjL rfl w _ _ _ (Qbi S9.own (Qaa _ _)) (S9.lat.trans (Qaa _ _)) (some ⟨w9.heap.size, 0, none⟩) 1 1 [y] (Qd4 QcT (by rw [show [y].flatMap LtC = LtC y by simp]; exact Blk.new w9 _ _) rfl) rfl rfl (by omega) (by omega) ?_; intro A10 c10 w10 hown10 hl10 hg10)
            | fail)
           have hown9' := QaK (QaY hown9 hw9) (Qaa w9 (.cells (LtC y).toArray 40))
           have hys2 : (ys ++ [y]).map (·.lt) = ltrs (xs.map (·.ar)) (k + 1) := by
            rw [Qnx, HY.out, HLs.out, hl1.out, hy]
            rfl
           have S10 := (S9.later (Qaa w9 (.cells (LtC y).toArray 40))).wrote (y := y) (by simpa using hown10) hg10 hl10 (by rw [hy]; rw [hy] at hown9'; exact hown9')
           exact ⟨⟨k + 1, m5, f5, ys ++ [y], by omega, by go_num, by omega, by simp; omega, by rw [hK']; exact S10, hys2⟩, by simp [intOf]; omega⟩
         · have hd : decide ((KL : Int) + 1 < ar.pt.ct) = true := decide_eq_true (by omega)
           have hsk := hid (HSk.out (by rw [HLt.out, if_neg (fun h => hfull h.2.2.2)]))
           clear HSk HLt hMb hfull
           go_wp2_with fail
           exact ⟨⟨k + 1, m5, f5, ys, by omega, by go_num, by omega, by omega, by rw [hK']; exact S8, hsk.out⟩, by simp [intOf]; omega⟩
       · have hsk := hid (HSk.out (by rw [HLt.out, if_neg (fun h => hE h.2.2.1)]))
         have hE1 : ((tkE pid ar.pt.id (K (ar.to, ar.pt.id)) ar.pt : Nat) : Int) ≠ 0 := by omega
         clear HSk HLt hok1 hkn M7 hKT
         generalize tkE pid ar.pt.id (K (ar.to, ar.pt.id)) ar.pt = E at *
         have hE2 : ((E : Int) != 0) = true := by rw [bne_iff_ne]; exact hE1
         go_wp2_with fail
         exact ⟨⟨k + 1, m5, f5, ys, by omega, by go_num, by omega, by omega, by rw [hK']; exact S7, hsk.out⟩, by simp [intOf]; omega⟩
    · have hno : ∀ y, mine y ar = false := by
       intro y
       unfold mine
       by_cases h1 : ar.kd = 2
       · have h2 : (ar.pt.kd == 1) = false := by
          rw [beq_eq_false_iff_ne]
          exact fun h => hsk ⟨h1, h⟩
         rw [h2]
         simp
       · have h2 : (ar.kd == 2) = false := by simpa using h1
         rw [h2]
         simp
      have hKK : K = K' := by
       rw [← HKs.out]
       funext y
       rw [hno y]
       rfl
      have hl0 : Qey T ar = [] := by
       unfold Qey
       rw [if_neg (fun h => hsk ⟨h.1, h.2.1⟩)]
      have HLx := hid (show ys.map (·.lt) = ltrs (xs.map (·.ar)) (k + 1) by rw [HY.out, HLs.out, hl0, List.append_nil])
      subst hKK
      have FIN := hid (fun (w' : World) (l : Later wr w') => S.later l)
      clear HKs HLs HY hl0 hno S
      have hb1 : (ar.kd != 2) = true ∨ ((ar.kd != 2) = false ∧ (ar.pt.kd != 1) = true) := by
       by_cases h1 : ar.kd = 2
       · exact .inr ⟨by simp [h1], by rw [bne_iff_ne]; exact fun h => hsk ⟨h1, h⟩⟩
       · exact .inl (by simpa using h1)
      clear hsk
      rcases hb1 with hb1 | ⟨hb1, hb3⟩
      all_goals
       go_wp2_with (first
        | (refine Qaf ?hw _ _ rfl b (o + k * 24) (AvC ⟨ar, .slice A5 n5 c5⟩) hc rfl _ Tryz.underlying36 rfl (by rw [Qac]; exact Qb3) ?_; (case hw => rfl))
        | (refine Qab rfl rfl _ _ _ rfl wr.heap.size _ _ (AvC ⟨ar, .slice A5 n5 c5⟩) (Blk.new wr _ (AvC av0)) rfl rfl 24 Qb3 (Qac ⟨ar, .slice A5 n5 c5⟩) (Qac av0) (Qee ⟨ar, .slice A5 n5 c5⟩ rfl) ?_; intro w2 hb2 ho2
           obtain ⟨e5, e6, e7, e0, e1⟩ := Qbh hb2
           have hlt2 : wr.heap.size < w2.heap.size := hb2.lt
           have l2 : Later wr w2 := (Qaa wr _).only ho2 (Qmx _))
        | fail)
       exact ⟨⟨k + 1, m, f, ys, by omega, by go_num, by omega, by omega, by rw [hK']; exact FIN.out _ l2, HLx.out⟩, by simp [intOf]; omega⟩
  · obtain rfl : k = n := by omega
    go_wp2_with fail
    go_ret
    exact ⟨_, ys, rfl, ⟨_, _, _, _, S⟩, hys⟩
end Go.Proofs.YtkibgdigcgakfabGreat
