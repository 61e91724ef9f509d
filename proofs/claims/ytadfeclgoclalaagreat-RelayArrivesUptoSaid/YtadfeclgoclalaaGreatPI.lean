/-
  Lemmas for the last text of this claim (part 9 of 20).
-/
import Derived.BigQuiet
import Derived.BigRegion
import Derived.ChangeOld
import Derived.Deep.RegionWith
import Derived.JoinedCond
import Derived.LaidMore
import Derived.Laws.CopyOwn
import Derived.Laws.Externs
import Derived.Laws.IdiomStrings
import Derived.Laws.Tables
import Derived.Lib.AppendStr
import Derived.Lib.AppendZerosOnto
import Derived.Lib.Mul64
import Derived.Lib.SlBytesConst
import Derived.LoopN
import Derived.OpenShut
import Derived.OrdersHeld
import Derived.ProofKit
import Derived.Shelf.Spec.BitsCarry
import Derived.ShutString
import Derived.Test.YtadfeclgoclalaaGreatProg
import Derived.Test.YtadfeclgoclalaaGreatRows
import Derived.WalkKit
import Derived.WalkLawsBesides
import Derived.WalkSpells
import Derived.Test.YtadfeclgoclalaaGreatPB
import Derived.Test.YtadfeclgoclalaaGreatPE
open Bool renaming eq_iff_iff → QDF
open Int renaming natCast_mul → QEI, toNat_natCast → QER
open List renaming replicate → QCK, getElem?_cons_succ → QCL, getElem?_cons_zero → QCM, cons_append → QCO, length_map → QCP, nil_append → QCQ, getElem?_eq_getElem → QCR, getD_eq_getElem?_getD → QCS, setIfInBounds_toArray → QCT, length_append → QCU, set_cons_zero → QCV, set_cons_succ → QCW, length_replicate → QCY, take_of_length_le → QCZ, append_assoc → QC3, getElem?_append_right → QC4, getElem?_map → QC6, getElem?_append_left → QC8, map_nil → QC9, getElem?_eq_some_iff → QDa, length_take → QDe, map_cons → QDh, take_append_drop → QDi, take_succ_eq_append_getElem → QDl, map_append → QDm, set_append_right → QDp, eq_nil_of_length_eq_zero → QDq, append_nil → QDr, map_replicate → QDs, drop_eq_getElem_cons → QDE, take_append_of_le_length → QDK, take_left' → QDR, drop_of_length_le → QDZ, getElem_mem → QD6, flatten_cons → QEa, map_take → QEd, ext_getElem → QEM, take_zero → QEO
open Nat renaming le_refl → QCX, zero_add → QDf, mod_lt → QDg, le_trans → QDy, mul_comm → QDQ, le_mul_of_pos_right → QEp
open Option renaming toList_some → QCN, map_some → QEt
open UInt8 renaming ofInt → QDj
namespace Go.Proofs.YtadfeclgoclalaaGreat
open Go.RowKit
def Ql9 (key : List UInt8) : List UInt8 := if 64 < key.length then Qcl key else key
def QaM (key : List UInt8) : List UInt8 := Ql9 key ++ QCK (64 - (Ql9 key).length) 0
theorem Qmx (key : List UInt8) : (Ql9 key).length ≤ 64 := by
 unfold Ql9
 split
 · rw [Qbw]; omega
 · omega
theorem QbS (key : List UInt8) : (QaM key).length = 64 := by
 have := Qmx key
 simp [QaM]
 omega
def Qb4 (k : List UInt8) (m : UInt8) : List UInt8 := k.map (· ^^^ m)
theorem Qb7 (k : List UInt8) (m : UInt8) : (Qb4 k m).length = k.length := by simp [Qb4]
def QhS (key bs : List UInt8) : List UInt8 := Qcl (Qb4 (QaM key) 54 ++ bs)
def Qbm (key bs : List UInt8) : List UInt8 := Qcl (Qb4 (QaM key) 92 ++ QhS key bs)
theorem QaD (key bs : List UInt8) : (Qbm key bs).length = 32 := Qbw _
theorem Qsp (A B : Option Addr) (n m c d : Nat) (xs ys : List UInt8) (w : World) (hx : RdB w A n xs) (hy : RdB w B m ys) (hn : n ≤ 140737488355328) (hm : m ≤ 140737488355328) :
 Calls Tryz.prog 132 #[.slice A n c, .slice B m d] w fun e w' => ∃ k, e = .returned (.tuple #[.bool (decide (xs = ys)), .int .i64 k]) ∧ Later w w' := by
 have lx := hx.len
 have ly := hy.len
 by_cases hnm : n = m
 · subst hnm
   have hr : ∀ x : UInt8, (x = 0 ↔ xs = ys) → decide (xs = ys) = (x == 0) := by
    intro x hb
    rw [QDF, decide_eq_true_iff, beq_iff_eq]
    exact hb.symm
   have HR := hid hr
   clear hr
   generalize decide (xs = ys) = R at *
   go_enter Tryz.func132, Tryz.ntmps132
   go_wp2
   go_loopw [6, 7, 16] (fun v6 v7 i wr => ∃ (k : Nat) (x : UInt8), k ≤ n ∧ i = .int .i64 k ∧ v7 = .int .i64 k ∧ v6 = W8 x ∧ Later w wr ∧ Hid (x = 0 ↔ ∀ j, j < k → xs.getD j 0 = ys.getD j 0)) (fun _ _ i _ => n - (intOf i).toNat)
   case atStart => exact ⟨0, 0, by omega, rfl, rfl, rfl, Later.refl w, hid ⟨fun _ j hj => absurd hj (by omega), fun _ => rfl⟩⟩
   case round =>
    obtain ⟨k, x, hk, rfl, rfl, rfl, hl, he⟩ := hrel
    by_cases hlt : k < n
    · obtain ⟨b1, o1, rfl, hb1, hc1⟩ := hx.at_ (by omega)
      obtain ⟨b2, o2, rfl, hb2, hc2⟩ := hy.at_ (by omega)
      have c1 : wr.cell? ⟨b1, o1 + k, none⟩ = some (W8 (xs.getD k 0)) := (hl.below.cell (p := ⟨b1, o1 + k, none⟩) hb1).trans (hc1 k hlt)
      have c2 : wr.cell? ⟨b2, o2 + k, none⟩ = some (W8 (ys.getD k 0)) := (hl.below.cell (p := ⟨b2, o2 + k, none⟩) hb2).trans (hc2 k hlt)
      clear hc1 hc2 hx hy
      generalize hX : xs.getD k 0 = X at *
      generalize hY : ys.getD k 0 = Y at *
      have HX := hid hX
      have HY := hid hY
      clear hX hY
      go_wp2
      refine Qad [] [0, 1, 2, 3, 4, 5, 6, 7, 8, 9, 10, 11] [] (by as_aux_lemma => kernel_rfl) (by as_aux_lemma => kernel_rfl) (by intro _ _ d _ _ h; cases d <;> exact h) ?_
      simp only [Qag, pick, QCL, QCM, QCN, QCO, QCQ]
      repeat (go_big_quiet_step (fail))
      refine wpQuiet_nil ?_
      go_wp2
      refine ⟨⟨k + 1, x ||| (X ^^^ Y), by omega, by go_num, by go_num, rfl, hl.drew, hid ?_⟩, by simp only [intOf]; omega⟩
      have e : ∀ a b c : UInt8, (a ||| (b ^^^ c)) = 0 ↔ a = 0 ∧ b = c := by
       intro a b c
       rw [UInt8.or_eq_zero_iff, UInt8.xor_eq_zero_iff]
      rw [e, he.out]
      constructor
      · rintro ⟨h1, h2⟩ j hj
        by_cases hjk : j = k
        · subst hjk
          rw [HX.out, HY.out, h2]
        · exact h1 j (by omega)
      · intro h
        exact ⟨fun j hj => h j (by omega), by rw [← HX.out, ← HY.out]; exact h k (by omega)⟩
    · go_wp2
      go_ret2
      have hR : R = (x == 0) := by
       refine HR.out x (he.out.trans ⟨fun h => ?_, fun h => ?_⟩)
       · apply QEM (by omega)
         intro j h1 h2
         have := h j (by omega)
         rw [QCS, QCS, QCR h1, QCR h2] at this
         exact this
       · intro j _
         rw [h]
      refine ⟨k, ?_, hl⟩
      rw [hR]
      rfl
 · have hne : ((n : Int) != (m : Int)) = true := by simp; omega
   have hf : decide (xs = ys) = false := decide_eq_false (fun h => hnm (by rw [← lx, ← ly, h]))
   have HF := hid hf
   clear hf
   generalize decide (xs = ys) = R at *
   go_enter Tryz.func132, Tryz.ntmps132
   go_wp2
   go_ret2
   exact ⟨0, by rw [HF.out]; rfl, Later.refl w⟩
theorem Qud (A B : Option Addr) (n m c d : Nat) (xs ys : List UInt8) (w : World) (hx : RdB w A n xs) (hy : RdB w B m ys) (hn : n ≤ 140737488355328) (hm : m ≤ 140737488355328) :
 Calls Tryz.prog 115 #[.slice A n c, .slice B m d] w fun e w' => e = .returned (.bool (decide (xs = ys))) ∧ Later w w' := by
 have h := hid (Qsp A B n m c d xs ys w hx hy hn hm)
 generalize decide (xs = ys) = R at *
 go_enter Tryz.func115, Tryz.ntmps115
 go_wp2_with (first | (go_at_call 132; refine h.out.mono ?_; rintro e w1 ⟨k, rfl, hl⟩))
 go_ret
 exact ⟨rfl, hl⟩
end Go.Proofs.YtadfeclgoclalaaGreat
namespace Go.Proofs.YtadfeclgoclalaaGreat
open Go.RowKit
theorem Qf2 (l : List UInt8) (h : l.length ≤ 64) : QaB (QCK 64 (W8 0)) 0 ((l.map W8).take 64) = (l ++ QCK (64 - l.length) 0).map W8 := by
 rw [QCZ (by simpa using h), QaB]
 simp only [QEO, QCQ, QCP, QDf, List.drop_replicate, QDm, QDs]
set_option maxRecDepth 100000 in
set_option maxHeartbeats 1000000 in
theorem QrO (A : Option Addr) (n c : Nat) (key : List UInt8) (w : World) (hx : RdB w A n key) (hc : n ≤ c) (hn : n ≤ 140737488355328) :
 Calls Tryz.prog 142 #[.slice A n c] w fun e w' => e = .returned (.agg ((QaM key).map W8).toArray) ∧ Later w w' := by
 have hl := hx.len
 have hkl := QbS key
 by_cases h64 : 64 < n
 · have hk : QaM key = Qcl key ++ QCK (64 - (Qcl key).length) 0 := by rw [QaM, Ql9, if_pos (by omega)]
   have hG := Qbw key
   have hs := fun A n c w hx => Qoz A n c [key] w hx
   rw [Qcp] at hs
   generalize Qcl key = G at *
   generalize QaM key = K at *
   have HS := hid hs
   have HK := hid hk
   clear hs hk
   go_enter Tryz.func142, Tryz.ntmps142
   go_wp2_with (first
    | (go_at_call 146; refine (HS.out (some ⟨w.heap.size + 2, 0, none⟩) 1 1 _ ?hx (by omega) (by omega)).mono ?_
       (case hx => exact Qg1 ((Blk.new' _ 22 [.slice A n c] (by simp)).rd rfl) ⟨QbN (hx.later (((Qaa _ _).alloc _).alloc _)) hc, trivial⟩)
       rintro e w1 ⟨rfl, hl1⟩)
    | (refine Qah rfl rfl 31 _ _ rfl w1.heap.size 0 31 (QCK 32 (W8 0)) (G.map W8) ?b ?hx ?hy ?hi ?hf ?h1 ?_; (case hx => rfl); (case hy => rfl); (case hi => rw [QCP, hG]; kernel_rfl); (case hf => simp [hG]); (case h1 => exact QaA _); (case b => exact Blk.new _ _ _); intro w2 hb2 ho2
       rw [Qam _ _ (by simp [hG])] at hb2))
   have z1 : w.heap.size + 3 ≤ w1.heap.size := by have := hl1.size; simp at this; omega
   have hB2 : Blk w2 w.heap.size 224 (QCK 64 (W8 0)) := (((Blk.new w _ _).later (((Qaa _ _).alloc _).trans hl1)).later (Qaa _ _)).only ho2 (by omega)
   have hB3 : Blk w2 (w.heap.size + 1) 224 (QCK 64 (W8 0)) := (((Blk.new' _ _ (QCK 64 (W8 0)) (by simp)).later ((Qaa _ _).trans hl1)).later (Qaa _ _)).only ho2 (by omega)
   have hL2 : Later w w2 := (((((Qaa w _).alloc _).alloc _).trans hl1).alloc _).only ho2 (by omega)
   refine Qad [] [0, 1] [2] (by as_aux_lemma => kernel_rfl) (by as_aux_lemma => kernel_rfl) (by intro _ _ d _ _ h; cases d <;> exact h) ?_
   simp only [Qag, pick, QCL, QCM, QCN, QCO, QCQ]
   repeat (go_big_quiet_step (fail))
   refine wpQuiet_nil ?_
   go_wp2_with (first
    | (refine Qat rfl _ _ _ _ rfl 5 Tryz.underlying22 QbZ (w.heap.size + 1) 0 64 64 224 (QCK 64 (W8 0)) (hB3.later (Qab _)) (some ⟨w1.heap.size, 0, none⟩) 32 32 (G.map W8) ((hb2.later (Qab _)).rd (by simp [hG])) (QaA _) rfl rfl (by simp) ?_; intro w4 hb4 ho4
       rw [Qf2 G (by omega), ← HK.out] at hb4
       have hB4 := (hB2.later (Qab _)).only ho4 (by omega)
       have hL4 := (hL2.drew).only ho4 (by omega))
    | (refine Qaw rfl 224 _ rfl (w.heap.size + 1) 0 (K.map W8) ?hc ?hx _ Tryz.underlying224 rfl ?hi ?_; (case hx => rfl); (case hi => rw [QCP, hkl]; kernel_rfl); (case hc => intro j v hv; rw [QDf]; exact hb4.cellD j hv))
    | (refine Qah rfl rfl 224 _ _ rfl w.heap.size 0 224 (QCK 64 (W8 0)) (K.map W8) ?b ?hx ?hy ?hi ?hf ?h1 ?_; (case hx => rfl); (case hy => rfl); (case hi => rw [QCP, hkl]; kernel_rfl); (case hf => simp [hkl]); (case h1 => exact QaA _); (case b => exact hB4); intro w9 hb9 ho9))
   rw [Qam _ _ (by simp [hkl])] at hb9
   exact bodyPost_ret (QaE rfl _ _ _ _ (K.map W8) _ hb9 rfl Tryz.underlying224 rfl (by rw [QCP, hkl]; kernel_rfl)) rfl ⟨rfl, hL4.only ho9 (QCX _)⟩
 · have hk : QaM key = key ++ QCK (64 - key.length) 0 := by rw [QaM, Ql9, if_neg (by omega)]
   generalize QaM key = K at *
   have HK := hid hk
   clear hk
   go_enter Tryz.func142, Tryz.ntmps142
   go_wp2_with (first
    | (refine Qat rfl _ _ _ _ rfl 5 Tryz.underlying22 QbZ (w.heap.size + 1) 0 64 64 224 (QCK 64 (W8 0)) (Blk.new' _ _ _ (by simp)) A n c (key.map W8) (RdB.later hx ((Qaa _ _).alloc _)) (QaA _) rfl rfl (by simp) ?_; intro w4 hb4 ho4
       rw [Qf2 key (by omega), ← HK.out] at hb4
       have hB4 : Blk w4 w.heap.size 224 (QCK 64 (W8 0)) := ((Blk.new w _ _).later (Qaa _ _)).only ho4 (by omega)
       have hL4 : Later w w4 := ((Qaa w _).alloc _).only ho4 (by omega))
    | (refine Qaw rfl 224 _ rfl (w.heap.size + 1) 0 (K.map W8) ?hc ?hx _ Tryz.underlying224 rfl ?hi ?_; (case hx => rfl); (case hi => rw [QCP, hkl]; kernel_rfl); (case hc => intro j v hv; rw [QDf]; exact hb4.cellD j hv))
    | (refine Qah rfl rfl 224 _ _ rfl w.heap.size 0 224 (QCK 64 (W8 0)) (K.map W8) ?b ?hx ?hy ?hi ?hf ?h1 ?_; (case hx => rfl); (case hy => rfl); (case hi => rw [QCP, hkl]; kernel_rfl); (case hf => simp [hkl]); (case h1 => exact QaA _); (case b => exact hB4); intro w9 hb9 ho9))
   rw [Qam _ _ (by simp [hkl])] at hb9
   exact bodyPost_ret (QaE rfl _ _ _ _ (K.map W8) _ hb9 rfl Tryz.underlying224 rfl (by rw [QCP, hkl]; kernel_rfl)) rfl ⟨rfl, hL4.only ho9 (QCX _)⟩
set_option maxRecDepth 100000 in
set_option maxHeartbeats 1000000 in
theorem Qjt (k : List UInt8) (m : UInt8) (w : World) (hk : k.length = 64) :
 Calls Tryz.prog 143 #[.agg (k.map W8).toArray, W8 m] w fun e w' => ∃ A c, e = .returned (.slice A 64 c) ∧ OwnB w' w.heap.size A 64 c (Qb4 k m) ∧ Later w w' := by
 have hml := Qb7 k m
 rw [hk] at hml
 have hg : ∀ j (hj : j < 64), (k.map W8)[j]? = some (W8 (k.getD j 0)) ∧ (Qb4 k m)[j]? = some (k.getD j 0 ^^^ m) := by
  intro j hj
  rw [QCS, QC6, Qb4, QC6, QCR (by omega)]
  exact ⟨rfl, rfl⟩
 generalize Qb4 k m = M at *
 have hkm : (k.map W8).length = 64 := by simpa using hk
 have h1 := QaA k
 have HG := hid hg
 clear hg
 generalize hkv : k.map W8 = kv at *
 clear hkv
 go_enter Tryz.func143, Tryz.ntmps143
 go_wp2_with (first
  | (refine Qax rfl _ _ _ rfl 5 _ 1 Tryz.underlying22 Qbl rfl _ _ _ _ 64 rfl rfl ?hL ?hC (by omega) (by omega) ?_; (case hL => rfl); (case hC => rfl); intro w1 hb1 hl1)
  | (refine Qaw rfl 224 _ rfl w.heap.size 0 kv ?hc ?hx _ Tryz.underlying224 rfl ?hi ?_; (case hx => rfl); (case hi => rw [hkm]; kernel_rfl); (case hc => intro j v hv; rw [QDf]; exact ((Blk.new w _ _).later hl1).cellD j hv)))
 have hfz : Qfm M 64 0 = QCK 64 0 := rfl
 have hb1' : Blk w1 (w.heap.size + 1) 5 ((Qfm M 64 0).map W8) := by
  rw [hfz, QDs]
  have hb := hb1
  simp only [World.size_alloc] at hb
  exact hb
 have hl1' : Later w w1 := (Qaa _ _).trans hl1
 clear hb1 hl1 hfz
 go_loopw [10] (fun i wr => ∃ j : Nat, j ≤ 64 ∧ i = .int .i64 j ∧ Later w wr ∧ Blk wr (w.heap.size + 1) 5 ((Qfm M 64 j).map W8)) (fun i _ => 64 - (intOf i).toNat)
 case atStart => exact ⟨0, by omega, rfl, hl1', hb1'⟩
 case round =>
  clear hb1' hl1'
  obtain ⟨j, hj, rfl, hl, hb⟩ := hrel
  by_cases hlt : j < 64
  · obtain ⟨e1, e2⟩ := HG.out j hlt
    have hfl := QhH M 64 j hml hj
    have HST := hid (Qj6 M 64 j _ hml hlt e2)
    clear e2
    generalize k.getD j 0 = x at *
    have hix : ∀ W', (Instr.index 224 (.agg kv.toArray) (.int .i64 (j : Int))).run Tryz.prog W' = .ok (W8 x) W' := fun W' => Qe4 Tryz.underlying224 QbZ Tryz.underlying5 rfl kv .i64 j (W8 x) hlt e1 W'
    go_wp2_with (first
     | (refine Qac rfl rfl _ _ _ rfl _ _ _ _ hb rfl ?hl rfl (by kernel_rfl) ?_; (case hl => rw [QCP, hfl]; omega); intro v' w5 hv' hb5 ho5; simp [go_sem] at hv'; subst hv'))
    go_roundw
    case rel =>
     refine ⟨j + 1, by omega, by go_num, hl.only ho5 (by omega), ?_⟩
     rw [← HST.out, ← QbB]
     exact hb5
    case measure => simp only [intOf]; omega
  · have hj' : j = 64 := by omega
    rw [hj', Qlj M 64 hml] at hb
    go_wp2
    go_ret
    refine ⟨_, _, rfl, ?_, hl⟩
    have := Qch hb (show w.heap.size ≤ w.heap.size + 1 by omega) (by simp [hml])
    rwa [QCP, hml] at this
end Go.Proofs.YtadfeclgoclalaaGreat
namespace Go.Proofs.YtadfeclgoclalaaGreat
open Go.RowKit
theorem QAn : Tryz.zeroCells228 = (Qby Qgc (QCK 64 0) 0 ++ QCK 64 (W8 0)).toArray := by kernel_rfl
theorem Qqy (l z v : List Value) (n : Nat) (hl : l.length = n) (hz : z.length = v.length) : QaB (l ++ z) n v = l ++ v := by
 subst hl
 rw [QaB, QDR, QDZ (by simp [hz]), QDr]
 rfl
theorem QuR (K : List UInt8) (hK : K.length = 64) : List.foldl (fun (cs : Array Value) (x : Value × Nat) => cs.setIfInBounds (73 + x.snd) x.fst) Tryz.zeroCells228 (K.map W8).zipIdx = (Qby Qgc (QCK 64 0) 0 ++ K.map W8).toArray := by
 have hl := Qcu Qgc (QCK 64 0) 0 (by simp)
 have hk : (K.map W8).length = 64 := by simpa using hK
 rw [QAn]
 have h := QfN (K.map W8) 0 73 (Qby Qgc (QCK 64 0) 0 ++ QCK 64 (W8 0)) (by rw [QCU, hl, hk]; simp)
 rcases h with h | h
 · rw [Qqy _ _ _ 73 hl (by rw [hk]; simp)] at h
   exact h
 · omega
def TagAt (w : World) (g : Nat) (key bs : List UInt8) : Prop := HashAt w g 228 ((QaM key).map W8) (Qb4 (QaM key) 54 ++ bs)
theorem HashAt.restD {w : World} {g : Nat} {t : TypeId} {rest : List Value} {bs : List UInt8} (h : HashAt w g t rest bs) : ∀ (j : Nat) v, rest[j]? = some v → w.cell? ⟨g, 73 + j, none⟩ = some v := by
 obtain ⟨st, op, h1, h2⟩ := h
 intro j v hv
 refine h2.cellD (73 + j) ?_
 have hl := Qcu st op bs.length h1.len
 rw [QC4 (by omega), hl, Nat.add_sub_cancel_left]
 exact hv
set_option maxRecDepth 100000 in
set_option maxHeartbeats 1000000 in
theorem Qkr (A : Option Addr) (n c : Nat) (key : List UInt8) (w : World) (hx : RdB w A n key) (hc : n ≤ c) (hn : n ≤ 140737488355328) :
 Calls Tryz.prog 135 #[.slice A n c] w fun e w' => ∃ g, e = .returned (.pointer (some ⟨g, 0, none⟩)) ∧ w.heap.size ≤ g ∧ TagAt w' g key [] ∧ Later w w' := by
 have hb := QrO A n c key w hx hc hn
 have hkl := QbS key
 unfold TagAt
 rw [QDr]
 generalize QaM key = K at *
 have HB := hid hb
 clear hb
 have hkm : (K.map W8).length = 64 := by simpa using hkl
 go_enter Tryz.func135, Tryz.ntmps135
 go_wp2_with (first
  | (go_at_call 142; refine HB.out.mono ?_; rintro e w1 ⟨rfl, hl1⟩))
 rw [QuR K hkl]
 have hH0 : HashAt (w1.alloc (.cells (Qby Qgc (QCK 64 0) 0 ++ K.map W8).toArray 228)) w1.heap.size 228 (K.map W8) [] := ⟨Qgc, QCK 64 0, Qs2, Blk.new _ _ _⟩
 generalize hC : Qby Qgc (QCK 64 0) 0 ++ K.map W8 = C at *
 clear hC
 have L0 := hl1.alloc (.cells C.toArray 228)
 have hz := hl1.size
 have hlt0 := hH0.lt
 generalize hW : w1.alloc (.cells C.toArray 228) = W at *
 clear hW
 generalize w1.heap.size = g at *
 have hH1 := hH0.later (Qab _)
 refine Qad [([0, 1, 2, 3, 4, 5, 6], 7), ([], 8)] [] [9] (by as_aux_lemma => kernel_rfl) (by as_aux_lemma => kernel_rfl) (by intro _ _ d _ _ h; cases d <;> exact h) ?_
 simp only [Qag, pick, QCL, QCM, QCN, QCO, QCQ]
 repeat (first | go_big_quiet_skip | (go_big_quiet_want; refine Qa0 224 _ rfl g 73 (K.map W8) ?hc ?hx _ Tryz.underlying224 rfl ?hi ?_; (case hx => rfl); (case hi => rw [hkm]; kernel_rfl); (case hc => rintro w' ⟨x, rfl⟩; exact (hH1.later ⟨x, rfl⟩).restD); simp only [Act.put, QCT, QCW, QCV]; go_big_quiet_on) | (go_big_quiet_step (fail)))
 refine wpQuiet_nil ?_
 go_wp2_with (go_at_call 143; refine (Qjt K 54 _ hkl).mono ?_; rintro e w2 ⟨A2, c2, rfl, hown2, hl2⟩)
 try refine ⟨by first | assumption | exact Qab _ | exact Qaa _ _ | exact Later.refl _, ?_⟩
 try simp only [Qag, pick, QCL, QCM, QCN, QCO, QCQ]
 repeat (go_big_quiet_step (fail))
 refine wpQuiet_nil ?_
 go_wp2
 try refine ⟨by first | assumption | exact Qab _ | exact Qaa _ _ | exact Later.refl _, ?_⟩
 try simp only [Qag, pick, QCL, QCM, QCN, QCO, QCQ]
 repeat (go_big_quiet_step (fail))
 refine wpQuiet_nil ?_
 have hone : [Qb4 K 54].flatten = Qb4 K 54 := by simp
 have hml := Qb7 K 54
 have HO := hid hone
 clear hone
 generalize hM : Qb4 K 54 = M at *
 have HM := hid hM
 clear hM
 go_wp2_with (first
  | (go_at_call 136; refine (Qjc g 228 (K.map W8) [] (some ⟨w2.heap.size, 0, none⟩) 1 1 [M] _ ?hh ?hx (by omega) (by rw [HO.out]; simp; omega)).mono ?_
     (case hh => exact (hH1.later hl2).later (Qaa _ _))
     (case hx => exact Qft ((Blk.new w2 22 [.slice A2 64 c2]).rd rfl) (QtX (by have := hl2.size; simp at this; omega)) ⟨Qu2 (hown2.later (Qaa _ _)) (by simpa using hlt0), trivial⟩)
     rintro e w3 ⟨rfl, hh3, ho3⟩
     rw [HO.out, QCQ] at hh3))
 go_ret
 exact ⟨g, rfl, hz, by rw [HM.out]; exact hh3, (((L0.trans (Qab _)).trans hl2).alloc _).only ho3 hz⟩
theorem Qtk (key bs : List UInt8) : Qbm key bs = Qcl [Qb4 (QaM key) 92, QhS key bs].flatten := by simp [Qbm]
set_option maxRecDepth 100000 in
set_option maxHeartbeats 1000000 in
theorem Qqk (g : Nat) (key bs : List UInt8) (w : World) (hh : TagAt w g key bs) (hlen : bs.length ≤ 2305843009213693000) :
 Calls Tryz.prog 137 #[.pointer (some ⟨g, 0, none⟩)] w fun e w' => e = .returned (.agg ((Qbm key bs).map W8).toArray) ∧ Later w w' := by
 have hkl := QbS key
 have hml := Qb7 (QaM key) 54
 unfold TagAt at hh
 have hs := fun g t rest w hh => Qo4 g t rest (Qb4 (QaM key) 54 ++ bs) w hh (by rw [QCU, hml, hkl]; omega)
 have hin := Qbw (Qb4 (QaM key) 54 ++ bs)
 have hT := QaD key bs
 have hsum := fun A n c w hx => Qoz A n c [Qb4 (QaM key) 92, QhS key bs] w hx
 rw [← Qtk] at hsum
 generalize Qbm key bs = T at *
 have hmk : (Qb4 (QaM key) 92).length = 64 := by rw [Qb7, hkl]
 have hmi := QbS key
 have hf : [Qb4 (QaM key) 92, QhS key bs].flatten.length = 96 := by simp [hmk, QhS, Qbw]
 unfold QhS at *
 generalize Qcl (Qb4 (QaM key) 54 ++ bs) = I at *
 generalize Qb4 (QaM key) 54 ++ bs = X at *
 have hmm := fun w => Qjt (QaM key) 92 w hkl
 generalize Qb4 (QaM key) 92 = M at *
 generalize QaM key = K at *
 have HS := hid hs
 have HSUM := hid hsum
 have HF := hid hf
 have HMM := hid hmm
 clear hs hsum hf hmm
 have hkm : (K.map W8).length = 64 := by simpa using hkl
 go_enter Tryz.func137, Tryz.ntmps137
 go_wp2_with (first
  | (go_at_call 145; refine (HS.out g 228 (K.map W8) _ (hh.later (Qaa _ _))).mono ?_; rintro e w1 ⟨rfl, hl1⟩)
  | (refine Qah rfl rfl 31 _ _ rfl w1.heap.size 0 31 (QCK 32 (W8 0)) (I.map W8) ?b ?hx ?hy ?hi ?hf ?h1 ?_; (case hx => rfl); (case hy => rfl); (case hi => rw [QCP, hin]; kernel_rfl); (case hf => simp [hin]); (case h1 => exact QaA _); (case b => exact Blk.new _ _ _); intro w2 hb2 ho2
     rw [Qam _ _ (by simp [hin])] at hb2))
 have z1 : w.heap.size + 1 ≤ w1.heap.size := by have := hl1.size; simpa using this
 have hh2 := (((hh.later (Qaa _ _)).later hl1).later (Qaa _ _)).only ho2 (by have := hh.lt; omega)
 have hR2 : Blk w2 w.heap.size 31 (QCK 32 (W8 0)) := (((Blk.new w _ _).later hl1).later (Qaa _ _)).only ho2 (by omega)
 have hL2 : Later w w2 := (((Qaa w _).trans hl1).alloc _).only ho2 (by omega)
 clear hl1 ho2 hh
 generalize w1.heap.size = g1 at *
 have hh3 := hh2.later (Qab _)
 refine Qad [([0, 1, 2, 3, 5], 4)] [] [6, 7, 8] (by as_aux_lemma => kernel_rfl) (by as_aux_lemma => kernel_rfl) (by intro _ _ d _ _ h; cases d <;> exact h) ?_
 simp only [Qag, pick, QCL, QCM, QCN, QCO, QCQ]
 repeat (first | go_big_quiet_skip | (go_big_quiet_want; refine Qa0 224 _ rfl g 73 (K.map W8) ?hc ?hx _ Tryz.underlying224 rfl ?hi ?_; (case hx => rfl); (case hi => rw [hkm]; kernel_rfl); (case hc => rintro w' ⟨x, rfl⟩; exact (hh3.later ⟨x, rfl⟩).restD); simp only [Act.put, QCT, QCW, QCV]; go_big_quiet_on) | (go_big_quiet_step (fail)))
 refine wpQuiet_nil ?_
 go_wp2_with (go_at_call 143; refine (HMM.out _).mono ?_; rintro e w3 ⟨A3, c3, rfl, hown3, hl3⟩)
 try refine ⟨by first | assumption | exact Qab _ | exact Qaa _ _ | exact Later.refl _, ?_⟩
 try simp only [Qag, pick, QCL, QCM, QCN, QCO, QCQ]
 repeat (go_big_quiet_step (fail))
 refine wpQuiet_nil ?_
 have hb3 := (hb2.later (Qab _)).later hl3
 have hR3 := (hR2.later (Qab _)).later hl3
 have hL3 := (hL2.drew).trans hl3
 go_wp2_with (first
  | (go_at_call 146; refine (HSUM.out (some ⟨w3.heap.size, 0, none⟩) 2 2 _ ?hx (by omega) (by rw [HF.out]; omega)).mono ?_
     (case hx => exact Qg1 ((Blk.new w3 22 [.slice A3 64 c3, .slice (some ⟨g1, 0, none⟩) 32 32]).rd rfl) ⟨QbN (RdB.later hown3.rd (Qaa _ _)) hown3.cap, QbN ((hb3.later (Qaa _ _)).rd (by simp [hin])) (by omega), trivial⟩)
     rintro e w4 ⟨rfl, hl4⟩)
  | (refine Qah rfl rfl 31 _ _ rfl w.heap.size 0 31 (QCK 32 (W8 0)) (T.map W8) ?b ?hx ?hy ?hi ?hf ?h1 ?_; (case hx => rfl); (case hy => rfl); (case hi => rw [QCP, hT]; kernel_rfl); (case hf => simp [hT]); (case h1 => exact QaA _); (case b => exact (hR3.later (Qaa _ _)).later hl4); intro w5 hb5 ho5
     rw [Qam _ _ (by simp [hT])] at hb5))
 exact bodyPost_ret (QaE rfl _ _ _ _ (T.map W8) _ hb5 rfl Tryz.underlying31 rfl (by rw [QCP, hT]; kernel_rfl)) rfl ⟨rfl, (((hL3.alloc _).trans hl4)).only ho5 (QCX _)⟩
end Go.Proofs.YtadfeclgoclalaaGreat
namespace Go.Proofs.YtadfeclgoclalaaGreat
open Go.RowKit
theorem TagAt.write {w : World} {g : Nat} {key bs x : List UInt8} (h : HashAt w g 228 ((QaM key).map W8) ((Qb4 (QaM key) 54 ++ bs) ++ x)) : TagAt w g key (bs ++ x) := by
 unfold TagAt
 rw [← QC3]
 exact h
set_option maxRecDepth 100000 in
set_option maxHeartbeats 1000000 in
theorem QkB (A B : Option Addr) (n c m d : Nat) (key : List UInt8) (ps : List (List UInt8)) (w : World) (hx : RdB w A n key) (hc : n ≤ c) (hn : n ≤ 140737488355328) (hp : Parts w (fun _ => False) B m ps) (hm : m ≤ 140737488355328) (hlen : ps.flatten.length ≤ 2305843009213690000) :
 Calls Tryz.prog 121 #[.slice A n c, .slice B m d] w fun e w' => e = .returned (.agg ((Qbm key ps.flatten).map W8).toArray) ∧ Later w w' := by
 have hT := QaD key ps.flatten
 have hs := fun g w hh => Qqk g key ps.flatten w hh (by omega)
 have hw := fun g bs n c w hh hx hm => Qjc g 228 ((QaM key).map W8) bs B n c ps w hh hx hm
 generalize Qbm key ps.flatten = T at *
 have hml : (Qb4 (QaM key) 54).length = 64 := by rw [Qb7, QbS]
 have HS := hid hs
 have HW := hid hw
 clear hs hw
 go_enter Tryz.func121, Tryz.ntmps121
 go_wp2_with (first
  | (go_at_call 135; refine (Qkr A n c key _ (hx.later (Qaa _ _)) hc hn).mono ?_; rintro e w1 ⟨g, rfl, hg, hh1, hl1⟩)
  | (go_at_call 136; refine (HW.out g _ m d _ hh1 ?hx hm ?hl).mono ?_
     (case hx => exact (hp.more (fun b hb => .inr (by subst hb; simp at hg; omega))).later ((Qaa _ _).trans hl1))
     (case hl => rw [QDr, hml]; omega)
     rintro e w2 ⟨rfl, hh2, ho2⟩
     have ht2 := TagAt.write hh2
     rw [QCQ] at ht2)
  | (go_at_call 137; refine (HS.out g _ ht2).mono ?_; rintro e w3 ⟨rfl, hl3⟩)
  | (refine Qah rfl rfl 31 _ _ rfl w.heap.size 0 31 (QCK 32 (W8 0)) (T.map W8) ?b ?hx ?hy ?hi ?hf ?h1 ?_; (case hx => rfl); (case hy => rfl); (case hi => rw [QCP, hT]; kernel_rfl); (case hf => simp [hT]); (case h1 => exact QaA _); (case b => exact (((Blk.new w _ _).later hl1).only ho2 (by simp at hg; omega)).later hl3); intro w5 hb5 ho5
     rw [Qam _ _ (by simp [hT])] at hb5))
 exact bodyPost_ret (QaE rfl _ _ _ _ (T.map W8) _ hb5 rfl Tryz.underlying31 rfl (by rw [QCP, hT]; kernel_rfl)) rfl
  ⟨rfl, ((((Qaa w _).trans hl1).only ho2 (by simp at hg; omega)).trans hl3).only ho5 (QCX _)⟩
theorem Qzf (G : List UInt8) (h : G.length = 32) : QaB (QCK 16 (W8 0)) 0 ((G.map W8).take 16) = (G.take 16).map W8 := by
 rw [Qam _ _ (by simp [h]), QEd]
set_option maxRecDepth 100000 in
theorem Qod (G : List UInt8) (hG : G.length = 32) (w : World) :
 Calls Tryz.prog 133 #[.agg (G.map W8).toArray] w fun e w' => ∃ A c, e = .returned (.slice A 16 c) ∧ OwnB w' w.heap.size A 16 c (G.take 16) ∧ Later w w' := by
 have hb0 := Blk.new w 31 (G.map W8)
 have ht := Qzf G hG
 have hl16 : (G.take 16).length = 16 := by simp [hG]
 have hgl : (G.map W8).length = 32 := by simp [hG]
 have h1 := QaA G
 generalize G.take 16 = F at *
 generalize G.map W8 = gl at *
 have HT := hid ht
 clear ht
 go_enter Tryz.func133, Tryz.ntmps133
 go_wp2_with (first
  | (refine Qax rfl _ _ _ rfl 5 _ 1 Tryz.underlying22 Qbl rfl _ _ _ _ 16 rfl rfl ?hL ?hC (by omega) (by omega) ?_; (case hL => rfl); (case hC => rfl); intro w1 hb1 hl1; simp only [World.size_alloc] at hb1)
  | (refine Qat rfl _ _ _ _ rfl 5 Tryz.underlying22 QbZ (w.heap.size + 1) 0 16 16 5 (QCK 16 (W8 0)) hb1 (some ⟨w.heap.size, 0, none⟩) 32 32 gl ((hb0.later hl1).rd hgl) h1 rfl rfl (by simp) ?_; intro w4 hb4 ho4
     rw [HT.out] at hb4))
 go_ret
 refine ⟨_, _, rfl, ?_, ((Qaa w _).trans hl1).only ho4 (by omega)⟩
 have := Qch hb4 (show w.heap.size ≤ w.heap.size + 1 by omega) (by simp [hl16])
 rwa [QCP, hl16] at this
theorem Qs1 (A B : Option Addr) (n c m d : Nat) (key : List UInt8) (ps : List (List UInt8)) (w : World) (hx : RdB w A n key) (hc : n ≤ c) (hn : n ≤ 140737488355328) (hp : Parts w (fun _ => False) B m ps) (hm : m ≤ 140737488355328) (hlen : ps.flatten.length ≤ 2305843009213690000) :
 Calls Tryz.prog 116 #[.slice A n c, .slice B m d] w fun e w' => ∃ A' c', e = .returned (.slice A' 16 c') ∧ OwnB w' w.heap.size A' 16 c' ((Qbm key ps.flatten).take 16) ∧ Later w w' := by
 have hT := QaD key ps.flatten
 have hs := hid (QkB A B n c m d key ps w hx hc hn hp hm hlen)
 generalize Qbm key ps.flatten = T at *
 have hf := hid (fun w => Qod T hT w)
 go_enter Tryz.func116, Tryz.ntmps116
 go_wp2_with (first
  | (go_at_call 121; refine hs.out.mono ?_; rintro e w1 ⟨rfl, hl1⟩)
  | (go_at_call 133; refine (hf.out _).mono ?_; rintro e w2 ⟨A2, c2, rfl, hown2, hl2⟩))
 go_ret
 exact ⟨A2, c2, rfl, hown2.mono hl1.size, hl1.trans hl2⟩
theorem Qro (A B C : Option Addr) (n c m d k e0 : Nat) (key tag : List UInt8) (ps : List (List UInt8)) (w : World) (hx : RdB w A n key) (hc : n ≤ c) (hn : n ≤ 140737488355328) (ht : RdB w C k tag) (hk : k ≤ 140737488355328)
 (hp : Parts w (fun _ => False) B m ps) (hm : m ≤ 140737488355328) (hlen : ps.flatten.length ≤ 2305843009213690000) :
 Calls Tryz.prog 97 #[.slice A n c, .slice C k e0, .slice B m d] w fun e w' => e = .returned (.bool (decide ((Qbm key ps.flatten).take 16 = tag))) ∧ Later w w' := by
 have hs := hid (Qs1 A B n c m d key ps w hx hc hn hp hm hlen)
 have hl16 : ((Qbm key ps.flatten).take 16).length = 16 := by simp [QaD]
 generalize (Qbm key ps.flatten).take 16 = S at *
 have hq := hid (fun A c w hx hy => Qud A C 16 k c e0 S tag w hx hy (by omega) hk)
 generalize decide (S = tag) = R at *
 go_enter Tryz.func97, Tryz.ntmps97
 go_wp2_with (first
  | (go_at_call 116; refine hs.out.mono ?_; rintro e w1 ⟨A1, c1, rfl, hown1, hl1⟩)
  | (go_at_call 115; refine (hq.out A1 c1 _ hown1.rd (ht.later hl1)).mono ?_; rintro e w2 ⟨rfl, hl2⟩))
 go_ret
 exact ⟨rfl, hl1.trans hl2⟩
end Go.Proofs.YtadfeclgoclalaaGreat
namespace Go.Proofs.YtadfeclgoclalaaGreat
open Go.RowKit
def Qdk (l : List UInt8) (m : UInt8) (k : Nat) : List UInt8 := Qb4 (l.take k) m ++ l.drop k
theorem QnH (l : List UInt8) (m : UInt8) (k : Nat) (h : k < l.length) : (Qdk l m k)[k]? = some (l.getD k 0) ∧ (Qdk l m k).set k (l.getD k 0 ^^^ m) = Qdk l m (k + 1) := by
 have h1 : (Qb4 (l.take k) m).length = k := by simp [Qb4]; omega
 have h2 : l.drop k = l[k] :: l.drop (k + 1) := QDE h
 have h3 : l.getD k 0 = l[k] := by rw [QCS, QCR h]; rfl
 constructor
 · rw [Qdk, QC4 (by omega), h1, h2, h3]
   simp
 · rw [Qdk, Qdk, QDp _ _ (by omega), h1, h2, h3, QDl h, Nat.sub_self, QCV]
   simp only [Qb4, QDm, QC3, QDh, QC9, QCO, QCQ]
theorem QkI (l : List UInt8) (m : UInt8) (k : Nat) (h : k ≤ l.length) : (Qdk l m k).length = l.length := by
 simp [Qdk, Qb4]
 omega
theorem Qp9 (l : List UInt8) (m : UInt8) (n : Nat) (h : l.length = n) : Qdk l m n = Qb4 l m := by
 simp [Qdk, ← h]
theorem Qm3 (l : List UInt8) (m : UInt8) : Qdk l m 0 = l := by simp [Qdk, Qb4]
set_option maxRecDepth 100000 in
set_option maxHeartbeats 1000000 in
theorem Qhx (A : Option Addr) (n c : Nat) (key : List UInt8) (m : UInt8) (w : World) (hx : RdB w A n key) (hn : n ≤ 70368744177664) :
 Calls Tryz.prog 107 #[.slice A n c, W8 m] w fun e w' => ∃ A' c', e = .returned (.slice A' 64 c') ∧ OwnB w' w.heap.size A' 64 c' (Qb4 (QaM key) m) ∧ Later w w' := by
 have hl := hx.len
 have hkl := QbS key
 have hml := Qb7 (QaM key) m
 have hks : ∀ k, k < 64 → (Qdk (QaM key) m k)[k]? = some ((QaM key).getD k 0) ∧ (Qdk (QaM key) m k).set k ((QaM key).getD k 0 ^^^ m) = Qdk (QaM key) m (k + 1) := fun k h => QnH _ m k (by omega)
 have hkm : ∀ k, k ≤ 64 → (Qdk (QaM key) m k).length = 64 := fun k h => by rw [QkI _ m k (by omega), hkl]
 have hka := Qp9 (QaM key) m 64 hkl
 have hk0 := Qm3 (QaM key) m
 by_cases h64 : 64 < n
 all_goals
  first
   | have hk : QaM key = Qcl key ++ QCK (64 - (Qcl key).length) 0 := by rw [QaM, Ql9, if_pos (by omega)]
   | have hk : QaM key = key ++ QCK (64 - key.length) 0 := by rw [QaM, Ql9, if_neg (by omega)]
  have HK := hid hk
  have HKS := hid hks
  have HKM := hid hkm
  clear hk hks hkm
  have hs := hid (Qm7 A n c key)
  have hG := Qbw key
  generalize Qcl key = G at *
  generalize QaM key = K at *
  go_enter Tryz.func107, Tryz.ntmps107
  go_wp2_with (first
   | (refine Qax rfl _ _ _ rfl 5 _ 1 Tryz.underlying22 Qbl rfl _ _ _ _ 64 rfl rfl ?hL ?hC (by omega) (by omega) ?_; (case hL => rfl); (case hC => rfl); intro w1 hb1 hl1)
   | (go_at_call 106; refine (hs.out _ (hx.later hl1) (by omega)).mono ?_; rintro e w2 ⟨rfl, hl2⟩)
   | (refine Qah rfl rfl 31 _ _ rfl w2.heap.size 0 31 (QCK 32 (W8 0)) (G.map W8) ?b ?hx ?hy ?hi ?hf ?h1 ?_; (case hx => rfl); (case hy => rfl); (case hi => rw [QCP, hG]; kernel_rfl); (case hf => simp [hG]); (case h1 => exact QaA _); (case b => exact Blk.new _ _ _); intro w3 hb3 ho3
      rw [Qam _ _ (by simp [hG])] at hb3
      have z2 := hl2.size
      have hb13 := ((hb1.later hl2).later (Qaa _ _)).only ho3 (by have := hb1.lt; omega)
      have hl3 := (((hl1.trans hl2).alloc _).only ho3 (by have := hl1.size; omega)))
   | (refine Qat rfl _ _ _ _ rfl 5 Tryz.underlying22 QbZ w.heap.size 0 64 64 5 (QCK 64 (W8 0)) hb13 (some ⟨w2.heap.size, 0, none⟩) 32 32 (G.map W8) (hb3.rd (by simp [hG])) (QaA _) rfl rfl (by simp) ?_; intro w4 hb4 ho4
      rw [Qf2 G (by omega), ← HK.out, ← hk0] at hb4
      have hl4 := hl3.only ho4 (QCX _))
   | (refine Qat rfl _ _ _ _ rfl 5 Tryz.underlying22 QbZ w.heap.size 0 64 64 5 (QCK 64 (W8 0)) hb1 A n c (key.map W8) (RdB.later hx hl1) (QaA _) rfl rfl (by simp) ?_; intro w4 hb4 ho4
      rw [Qf2 key (by omega), ← HK.out, ← hk0] at hb4
      have hl4 := hl1.only ho4 (QCX _)))
  go_loopw [7] (fun i wr => ∃ j : Nat, j ≤ 64 ∧ i = .int .i64 j ∧ Later w wr ∧ Blk wr w.heap.size 5 ((Qdk K m j).map W8)) (fun i _ => 64 - (intOf i).toNat)
  case atStart => exact ⟨0, by omega, rfl, hl4, hb4⟩
  case round =>
   clear hb4 hl4
   obtain ⟨j, hj, rfl, hl, hb⟩ := hrel
   by_cases hlt : j < 64
   · obtain ⟨e1, e2⟩ := HKS.out j hlt
     have hfl := HKM.out j hj
     have d0 := hb.cellD j (Qzw e1)
     have HST := hid e2
     clear e1 e2
     generalize K.getD j 0 = x at *
     go_wp2_with (first
      | (refine Qac rfl rfl _ _ _ rfl _ _ _ _ hb rfl ?hl rfl (by kernel_rfl) ?_; (case hl => rw [QCP, hfl]; omega); intro v' w5 hv' hb5 ho5; simp [go_sem] at hv'; subst hv'))
     go_roundw
     case rel =>
      refine ⟨j + 1, by omega, by go_num, hl.only ho5 (by omega), ?_⟩
      rw [← HST.out, ← QbB]
      exact hb5
     case measure => simp only [intOf]; omega
   · have hj' : j = 64 := by omega
     rw [hj', hka] at hb
     go_wp2
     go_ret
     refine ⟨_, _, rfl, ?_, hl⟩
     have := Qch hb (QCX _) (by simp [hml, hkl])
     rwa [QCP, hml, hkl] at this
end Go.Proofs.YtadfeclgoclalaaGreat
namespace Go.Proofs.YtadfeclgoclalaaGreat
open Go.RowKit
set_option maxRecDepth 100000 in
set_option maxHeartbeats 1000000 in
theorem QkE (A B : Option Addr) (n c m d : Nat) (key bs : List UInt8) (w : World) (hx : RdB w A n key) (hn : n ≤ 70368744177664) (hb : RdB w B m bs) (hm : m ≤ 35184372088832) :
 Calls Tryz.prog 105 #[.slice A n c, .slice B m d] w fun e w' => e = .returned (.agg ((QhS key bs).map W8).toArray) ∧ Later w w' := by
 have hbl := hb.len
 have hml : (Qb4 (QaM key) 54).length = 64 := by rw [Qb7, QbS]
 have hI := Qbw (Qb4 (QaM key) 54 ++ bs)
 have hs := hid (fun A n c w h => Qm7 A n c (Qb4 (QaM key) 54 ++ bs) w h)
 have hk := hid (fun w h => Qhx A n c key 54 w h hn)
 unfold QhS
 generalize Qcl (Qb4 (QaM key) 54 ++ bs) = I at *
 generalize Qb4 (QaM key) 54 = M at *
 go_enter Tryz.func105, Tryz.ntmps105
 go_wp2_with (first
  | (go_at_call 107; refine (hk.out _ (hx.later (Qaa _ _))).mono ?_; rintro e w1 ⟨A1, c1, rfl, hown1, hl1⟩)
  | (refine Qaj rfl _ _ _ rfl 5 _ 1 Tryz.underlying22 Qbl rfl _ _ 64 _ hown1 hl1 B m d _ (hb.later ((Qaa _ _).trans hl1)) (QaA _) rfl rfl (by omega) (by omega) ?_; intro A2 c2 w2 hown2 hl2 _ _
     have hown2' := QiN hown2 rfl rfl)
  | (go_at_call 106; refine (hs.out A2 (64 + m) c2 _ (OwnB.rd hown2') (by omega)).mono ?_; rintro e w3 ⟨rfl, hl3⟩)
  | (refine Qah rfl rfl 31 _ _ rfl w.heap.size 0 31 (QCK 32 (W8 0)) (I.map W8) ?b ?hx ?hy ?hi ?hf ?h1 ?_; (case hx => rfl); (case hy => rfl); (case hi => rw [QCP, hI]; kernel_rfl); (case hf => simp [hI]); (case h1 => exact QaA _); (case b => exact ((Blk.new w _ _).later hl2).later hl3); intro w5 hb5 ho5
     rw [Qam _ _ (by simp [hI])] at hb5))
 exact bodyPost_ret (QaE rfl _ _ _ _ (I.map W8) _ hb5 rfl Tryz.underlying31 rfl (by rw [QCP, hI]; kernel_rfl)) rfl ⟨rfl, ((Qaa w _).trans (hl2.trans hl3)).only ho5 (QCX _)⟩
set_option maxRecDepth 100000 in
set_option maxHeartbeats 1000000 in
theorem QeI (A B : Option Addr) (n c m d : Nat) (key bs : List UInt8) (w : World) (hx : RdB w A n key) (hn : n ≤ 70368744177664) (hb : RdB w B m bs) (hm : m ≤ 35184372088832) :
 Calls Tryz.prog 86 #[.slice A n c, .slice B m d] w fun e w' => e = .returned (.agg ((Qbm key bs).map W8).toArray) ∧ Later w w' := by
 have hml : (Qb4 (QaM key) 92).length = 64 := by rw [Qb7, QbS]
 have hI : (QhS key bs).length = 32 := Qbw _
 have hT := QaD key bs
 have hi := hid (fun w h1 h2 => QkE A B n c m d key bs w h1 hn h2 hm)
 have hk := hid (fun w h => Qhx A n c key 92 w h hn)
 have hs := fun A n c w h => Qm7 A n c (Qb4 (QaM key) 92 ++ QhS key bs) w h
 have he : Qcl (Qb4 (QaM key) 92 ++ QhS key bs) = Qbm key bs := rfl
 rw [he] at hs
 have HS := hid hs
 clear hs he
 generalize Qbm key bs = T at *
 generalize QhS key bs = I at *
 generalize Qb4 (QaM key) 92 = M at *
 go_enter Tryz.func86, Tryz.ntmps86
 go_wp2_with (first
  | (go_at_call 105; refine (hi.out _ (hx.later (Qaa _ _)) (hb.later (Qaa _ _))).mono ?_; rintro e w1 ⟨rfl, hl1⟩)
  | (refine Qah rfl rfl 31 _ _ rfl w1.heap.size 0 31 (QCK 32 (W8 0)) (I.map W8) ?b ?hx ?hy ?hi ?hf ?h1 ?_; (case hx => rfl); (case hy => rfl); (case hi => rw [QCP, hI]; kernel_rfl); (case hf => simp [hI]); (case h1 => exact QaA _); (case b => exact Blk.new _ _ _); intro w2 hb2 ho2
     rw [Qam _ _ (by simp [hI])] at hb2))
 have z1 : w.heap.size + 1 ≤ w1.heap.size := by have := hl1.size; simpa using this
 have hR2 : Blk w2 w.heap.size 31 (QCK 32 (W8 0)) := (((Blk.new w _ _).later hl1).later (Qaa _ _)).only ho2 (by omega)
 have hL2 : Later w w2 := (((Qaa w _).trans hl1).alloc _).only ho2 (by omega)
 clear hl1 ho2
 generalize w1.heap.size = g1 at *
 refine Qad [([0, 2], 1)] [] [3, 4, 5] (by as_aux_lemma => kernel_rfl) (by as_aux_lemma => kernel_rfl) (by intro _ _ d _ _ h; cases d <;> exact h) ?_
 simp only [Qag, pick, QCL, QCM, QCN, QCO, QCQ]
 repeat (go_big_quiet_step (fail))
 refine wpQuiet_nil ?_
 go_wp2_with (go_at_call 107; refine (hk.out _ (hx.later hL2.drew)).mono ?_; rintro e w3 ⟨A3, c3, rfl, hown3, hl3⟩)
 try refine ⟨by first | assumption | exact Qab _ | exact Qaa _ _ | exact Later.refl _, ?_⟩
 try simp only [Qag, pick, QCL, QCM, QCN, QCO, QCQ]
 repeat (go_big_quiet_step (fail))
 refine wpQuiet_nil ?_
 go_wp2_with (first
  | (refine Qaj rfl _ _ _ rfl 5 _ 1 Tryz.underlying22 Qbl rfl _ _ 64 _ hown3 hl3 (some ⟨g1, 0, none⟩) 32 32 _ (((hb2.later (Qab _)).later hl3).rd (by simp [hI])) (QaA _) rfl rfl (by omega) (by omega) ?_; intro A4 c4 w4 hown4 hl4 _ _
     have hown4' := QiN hown4 rfl rfl)
  | (go_at_call 106; refine (HS.out A4 96 c4 _ (OwnB.rd hown4') (by omega)).mono ?_; rintro e w5 ⟨rfl, hl5⟩)
  | (refine Qah rfl rfl 31 _ _ rfl w.heap.size 0 31 (QCK 32 (W8 0)) (T.map W8) ?b ?hx ?hy ?hi ?hf ?h1 ?_; (case hx => rfl); (case hy => rfl); (case hi => rw [QCP, hT]; kernel_rfl); (case hf => simp [hT]); (case h1 => exact QaA _); (case b => exact ((hR2.later (Qab _)).later hl4).later hl5); intro w6 hb6 ho6
     rw [Qam _ _ (by simp [hT])] at hb6))
 exact bodyPost_ret (QaE rfl _ _ _ _ (T.map W8) _ hb6 rfl Tryz.underlying31 rfl (by rw [QCP, hT]; kernel_rfl)) rfl ⟨rfl, ((hL2.drew.trans (hl4.trans hl5))).only ho6 (QCX _)⟩
set_option maxRecDepth 100000 in
theorem QlD (A B : Option Addr) (n c m d : Nat) (key bs : List UInt8) (w : World) (hx : RdB w A n key) (hn : n ≤ 70368744177664) (hb : RdB w B m bs) (hm : m ≤ 35184372088832) :
 Calls Tryz.prog 83 #[.slice A n c, .slice B m d] w fun e w' => ∃ A' c', e = .returned (.slice A' 16 c') ∧ OwnB w' w.heap.size A' 16 c' ((Qbm key bs).take 16) ∧ Later w w' := by
 have hT := QaD key bs
 have ht := hid (QeI A B n c m d key bs w hx hn hb hm)
 generalize Qbm key bs = T at *
 have hl16 : (T.take 16).length = 16 := by simp [hT]
 go_enter Tryz.func83, Tryz.ntmps83
 go_wp2_with (first
  | (go_at_call 86; refine ht.out.mono ?_; rintro e w1 ⟨rfl, hl1⟩)
  | (refine Qah rfl rfl 31 _ _ rfl w1.heap.size 0 31 (QCK 32 (W8 0)) (T.map W8) ?b ?hx ?hy ?hi ?hf ?h1 ?_; (case hx => rfl); (case hy => rfl); (case hi => rw [QCP, hT]; kernel_rfl); (case hf => simp [hT]); (case h1 => exact QaA _); (case b => exact Blk.new _ _ _); intro w2 hb2 ho2
     rw [Qam _ _ (by simp [hT])] at hb2)
  | (go_at_call 7; go_loud (refine (Qbv (some ⟨w1.heap.size, 0, none⟩) 16 32 (T.take 16) _ (RdB.take (n := 32) (bs := T) (hb2.rd (by simp [hT])) (m := 16) (by omega)) (by omega)).mono ?_; rintro e w3 ⟨A3, c3, rfl, hown3, hl3⟩)))
 go_ret
 have hL2 := ((hl1.alloc _).only ho2 hl1.size)
 exact ⟨A3, c3, rfl, hown3.mono hL2.size, hL2.trans hl3⟩
end Go.Proofs.YtadfeclgoclalaaGreat
namespace Go.Proofs.YtadfeclgoclalaaGreat
open Go.RowKit
end Go.Proofs.YtadfeclgoclalaaGreat
namespace Go.Proofs.YtadfeclgoclalaaGreat
open Go.RowKit
end Go.Proofs.YtadfeclgoclalaaGreat
namespace Go.Proofs.YtadfeclgoclalaaGreat
open Go.RowKit
end Go.Proofs.YtadfeclgoclalaaGreat
namespace Go.Proofs.YtadfeclgoclalaaGreat
open Go.RowKit
theorem QyE {w : World} {g n : Nat} {t : TypeId} {vs rest : List Value} (h : Blk w g t (vs ++ rest)) (hn : vs.length = n) : Rd w (some ⟨g, 0, none⟩) n vs :=
 ⟨hn, fun _ => ⟨g, 0, rfl, h.lt, fun j u hu => by rw [QDf]; exact h.cellD j (by rw [QC8 (QDa.1 hu).1]; exact hu)⟩⟩
def hkT (key info : List UInt8) : Nat → List UInt8
 | 0 => []
 | i + 1 => Qbm key (hkT key info i ++ info ++ [QDj (i : Int) + 1])
def hkO (key info : List UInt8) : Nat → List UInt8
 | 0 => []
 | i + 1 => hkO key info i ++ hkT key info (i + 1)
theorem QjK (key info : List UInt8) (i : Nat) : (hkT key info i).length ≤ 32 := by
 cases i with
 | zero => simp [hkT]
 | succ i => rw [hkT, QaD]; omega
theorem Qqx (key info : List UInt8) (i : Nat) : (hkO key info i).length = 32 * i := by
 induction i with
 | zero => rfl
 | succ i ih => rw [hkO, QCU, ih, hkT, QaD]; omega
def expB (key info : List UInt8) (n : Nat) : List UInt8 := (hkO key info ((n + 31) / 32)).take n
theorem Qns (key info : List UInt8) (n : Nat) : (expB key info n).length = n := by
 rw [expB, QDe, Qqx]
 omega
set_option maxRecDepth 100000 in
set_option maxHeartbeats 1000000 in
theorem QmT (A B : Option Addr) (n c m d : Nat) (salt secret : List UInt8) (w : World) (hx : RdB w A n salt) (hc : n ≤ c) (hn : n ≤ 140737488355328) (hy : RdB w B m secret) (hd : m ≤ d) (hm : m ≤ 140737488355328) :
 Calls Tryz.prog 113 #[.slice A n c, .slice B m d] w fun e w' => e = .returned (.agg ((Qbm salt secret).map W8).toArray) ∧ Later w w' := by
 have hyl := hy.len
 have hT := QaD salt secret
 have hs := fun B w h => QkB A B n c 1 1 salt [secret] w h hc hn
 rw [Qcp] at hs
 generalize Qbm salt secret = T at *
 have HS := hid hs
 clear hs
 go_enter Tryz.func113, Tryz.ntmps113
 go_wp2_with (first
  | (go_at_call 121; refine (HS.out (some ⟨w.heap.size + 1, 0, none⟩) _ (hx.later ((Qaa _ _).alloc _)) ?hp (by omega) (by omega)).mono ?_
     (case hp => exact Qg1 ((Blk.new' _ 22 [.slice B m d] (by simp)).rd rfl) ⟨QbN (hy.later ((Qaa _ _).alloc _)) hd, trivial⟩)
     rintro e w1 ⟨rfl, hl1⟩)
  | (refine Qah rfl rfl 31 _ _ rfl w.heap.size 0 31 (QCK 32 (W8 0)) (T.map W8) ?b ?hx ?hy ?hi ?hf ?h1 ?_; (case hx => rfl); (case hy => rfl); (case hi => rw [QCP, hT]; kernel_rfl); (case hf => simp [hT]); (case h1 => exact QaA _); (case b => exact ((Blk.new w _ _).later (Qaa _ _)).later hl1); intro w6 hb6 ho6
     rw [Qam _ _ (by simp [hT])] at hb6))
 exact bodyPost_ret (QaE rfl _ _ _ _ (T.map W8) _ hb6 rfl Tryz.underlying31 rfl (by rw [QCP, hT]; kernel_rfl)) rfl ⟨rfl, (((Qaa w _).alloc _).trans hl1).only ho6 (QCX _)⟩
set_option maxRecDepth 100000 in
set_option maxHeartbeats 1000000 in
theorem QfK (A : Option Addr) (n c : Nat) (ps : List (List UInt8)) (w : World) (hx : Parts w (fun _ => False) A n ps) (hm : n ≤ 140737488355328) (hp : ps.flatten.length ≤ 140737488355328) :
 Calls Tryz.prog 25 #[.slice A n c] w fun e w' => ∃ A' c', e = .returned (.slice A' ps.flatten.length c') ∧ OwnB w' w.heap.size A' ps.flatten.length c' ps.flatten ∧ Later w w' := by
 have hpl := hx.len
 go_enter Tryz.func25, Tryz.ntmps25
 go_wp2
 go_loopw [3, 11] (fun tot i wr => ∃ k : Nat, k ≤ n ∧ i = .int .i64 k ∧ tot = .int .i64 ((ps.take k).flatten.length : Nat) ∧ Later w wr) (fun _ i _ => n - (intOf i).toNat)
 case atStart => exact ⟨0, by omega, rfl, rfl, Later.refl w⟩
 case round =>
  obtain ⟨k, hk, rfl, rfl, hl⟩ := hrel
  by_cases hlt : k < n
  · obtain ⟨b, o, Ak, nk, ck, rfl, hb, hck, hcap, hrd, _⟩ := (hx.later hl).at_ hlt
    have hle := Qc0 ps (k + 1)
    have hql := hrd.len
    have hs' : (ps.take (k + 1)).flatten = (ps.take k).flatten ++ ps.getD k [] := by rw [Qgb ps k (by omega)]; simp
    have hll : (ps.take (k + 1)).flatten.length = (ps.take k).flatten.length + nk := by rw [hs', QCU, hql]
    have HL := hid hll
    rw [hll] at hle
    clear hs' hll
    generalize (ps.take k).flatten.length = fl at *
    generalize ps.getD k [] = q at *
    go_wp2
    refine ⟨⟨k + 1, by omega, by go_num, by rw [HL.out]; go_num, hl⟩, by simp only [intOf]; omega⟩
  · have hkn : k = n := by omega
    subst hkn
    have hfe : (ps.take k).flatten.length = ps.flatten.length := by rw [QCZ (by omega)]
    rw [hfe]
    have HF := hid hfe
    clear hfe
    generalize hFl : ps.flatten.length = fl at *
    go_wp2_with (first
     | (refine QcT rfl _ _ _ rfl 5 _ 1 Tryz.underlying22 Qbl rfl _ _ _ _ 0 fl rfl rfl ?hL ?hC (by omega) (by omega) (by omega) ?_; (case hL => rfl); (case hC => rfl); intro w1 hown1 hl1))
    go_loopw [6, 24] (fun out i w2 => ∃ (j : Nat) (A' : Option Addr) (m c' : Nat), j ≤ k ∧ i = .int .i64 j ∧ out = .slice A' m c' ∧ OwnB w2 w.heap.size A' m c' (ps.take j).flatten ∧ Later w w2) (fun _ i _ => k - (intOf i).toNat)
    case atStart => exact ⟨0, _, _, _, by omega, rfl, rfl, Qa5 hown1 hl.size, hl.trans hl1⟩
    case round =>
     clear hown1 hl1
     obtain ⟨j, A', m, c', hj, rfl, rfl, hown, hl2⟩ := hrel
     by_cases hlt2 : j < k
     · obtain ⟨b, o, Ak, nk, ck, rfl, hb, hck, hcap, hrd, _⟩ := (hx.later hl2).at_ hlt2
       have hml := hown.len
       have hle := Qc0 ps (j + 1)
       have hlen := hrd.len
       have hs' : (ps.take (j + 1)).flatten = (ps.take j).flatten ++ ps.getD j [] := by rw [Qgb ps j (by omega)]; simp
       rw [hs', QCU] at hle
       have HS := hid hs'
       clear hs'
       generalize ps.getD j [] = q at *
       generalize (ps.take j).flatten = F at *
       go_wp2_with (first
        | (refine Qaj rfl _ _ _ rfl 5 _ 1 Tryz.underlying22 Qbl rfl w _ m _ hown hl2 Ak nk ck _ hrd (QaA _) rfl rfl (by omega) (by omega) ?_; intro A2 c2 w2' hown2 hl2' hg2 _))
       refine ⟨⟨j + 1, A2, m + nk, c2, by omega, by go_num, rfl, ?_, hl2'⟩, by simp only [intOf]; omega⟩
       rw [HS.out]
       exact QiN hown2 rfl rfl
     · have hjk : j = k := by omega
       rw [hjk, QCZ (by omega)] at hown
       have hml := hown.len
       rw [hFl] at hml
       subst hml
       go_wp2
       go_ret
       exact ⟨_, _, by rw [hFl]; rfl, by rw [hFl]; exact hown, hl2⟩
end Go.Proofs.YtadfeclgoclalaaGreat
namespace Go.Proofs.YtadfeclgoclalaaGreat
open Go.RowKit
def Front (w : World) (base : Nat) (A : Option Addr) (n : Nat) (bs : List UInt8) : Prop :=
 bs.length = n ∧ ((A = none ∧ n = 0) ∨ ∃ g rest, A = some ⟨g, 0, none⟩ ∧ base ≤ g ∧ Blk w g 5 (bs.map W8 ++ rest))
theorem Front.rd {w : World} {base : Nat} {A : Option Addr} {n : Nat} {bs : List UInt8} (h : Front w base A n bs) : RdB w A n bs := by
 obtain ⟨h1, h2⟩ := h
 rcases h2 with ⟨rfl, rfl⟩ | ⟨g, rest, rfl, _, hb⟩
 · obtain rfl : bs = [] := QDq h1
   exact Qot w
 · exact QyE hb (by simpa using h1)
theorem Front.later {w w' : World} {base : Nat} {A : Option Addr} {n : Nat} {bs : List UInt8} (h : Front w base A n bs) (hl : Later w w') : Front w' base A n bs := by
 obtain ⟨h1, h2⟩ := h
 exact ⟨h1, h2.imp id fun ⟨g, rest, e, hb, hk⟩ => ⟨g, rest, e, hb, hk.later hl⟩⟩
theorem QrS {w : World} {base : Nat} {A : Option Addr} {n c m : Nat} {bs : List UInt8} (h : OwnB w base A n c bs) (hm : m ≤ n) : Front w base A m (bs.take m) := by
 have hl := h.len
 refine ⟨by rw [QDe]; omega, ?_⟩
 rcases Qkl h with ⟨rfl, rfl⟩ | ⟨g, rest, rfl, hb, hk, _⟩
 · exact .inl ⟨rfl, by omega⟩
 · refine .inr ⟨g, (bs.drop m).map W8 ++ rest, rfl, hb, ?_⟩
   rw [← QC3, ← QDm, QDi]
   exact hk
theorem QzE : (31 : TypeId) ≠ 5 := by decide
def LastAt (w : World) (v : Value) (k : Nat) (T : List UInt8) : Prop :=
 (k = 0 ∧ v = .slice none 0 0 ∧ T = []) ∨ ∃ g, 0 < k ∧ v = .slice (some ⟨g, 0, none⟩) 32 32 ∧ T.length = 32 ∧ Blk w g 31 (T.map W8)
theorem LastAt.rd {w : World} {v : Value} {k : Nat} {T : List UInt8} (h : LastAt w v k T) : ∃ A n c, v = .slice A n c ∧ n ≤ c ∧ RdB w A n T := by
 rcases h with ⟨_, rfl, rfl⟩ | ⟨g, _, rfl, hl, hb⟩
 · exact ⟨none, 0, 0, rfl, QCX _, Qot w⟩
 · exact ⟨_, 32, 32, rfl, QCX _, hb.rd (by simpa using hl)⟩
theorem QjT (a b c : List UInt8) : [a, b, c].flatten = a ++ b ++ c := by simp
set_option maxRecDepth 100000 in
set_option maxHeartbeats 2000000 in
theorem Qq1 (A B : Option Addr) (n c m d : Nat) (N : Nat) (key : List UInt8) (ps : List (List UInt8)) (w : World) (hx : RdB w A n key) (hc : n ≤ c) (hn : n ≤ 140737488355328) (hp : Parts w (fun _ => False) B m ps) (hm : m ≤ 140737488355328) (hlen : ps.flatten.length ≤ 70368744177664) (hN : N ≤ 8160) :
 Calls Tryz.prog 114 #[.slice A n c, .int .i64 N, .slice B m d] w fun e w' => ∃ A', e = .returned (.tuple #[.slice A' N N, .int .i64 0]) ∧ Front w' w.heap.size A' N (expB key ps.flatten N) ∧ Later w w' := by
 have hj := hid (QfK B m d ps w hp hm (by omega))
 generalize ps.flatten = F at *
 generalize hFl : F.length = fl at *
 go_enter Tryz.func114, Tryz.ntmps114
 go_wp2_with (first
  | (go_at_call 25; refine hj.out.mono ?_; rintro e w1 ⟨A1, c1, rfl, hown1, hl1⟩)
  | (refine QcT rfl _ _ _ rfl 5 _ 1 Tryz.underlying22 Qbl rfl _ _ _ _ 0 (N + 32) rfl rfl ?hL ?hC (by omega) (by omega) (by omega) ?_; (case hL => rfl); (case hC => go_num); intro w2 hown2 hl2))
 have hown2' : OwnB w2 w1.heap.size (some ⟨w1.heap.size, 0, none⟩) 0 (N + 32) [] := hown2
 have hlt1 := Qim hown1
 have hcap1 := hown1.cap
 go_loopw [9, 10, 11] (fun out last i wr => ∃ (k : Nat) (A9 : Option Addr) (c9 : Nat), i = .int .i64 ((k : Int) + 1) ∧ (k = 0 ∨ 32 * (k - 1) < N) ∧ out = .slice A9 (32 * k) c9 ∧ LastAt wr last k (hkT key F k) ∧ OwnB wr w1.heap.size A9 (32 * k) c9 (hkO key F k) ∧ Later w1 wr) (fun _ _ i _ => 8200 - 32 * (intOf i).toNat)
 case atStart => exact ⟨0, _, _, rfl, .inl rfl, rfl, .inl ⟨rfl, rfl, rfl⟩, hown2', hl2⟩
 case round =>
  clear hown2 hown2' hl2
  obtain ⟨k, A9, c9, rfl, hkN, rfl, hlast, hown, hl⟩ := hrel
  have hcap9 := hown.cap
  by_cases hlt : 32 * k < N
  · obtain ⟨A10, l10, c10, rfl, hc10, hr10⟩ := hlast.rd
    have hkl := QjK key F k
    have hl10 := hr10.len
    have hT : (hkT key F (k + 1)).length = 32 := by rw [hkT, QaD]
    have ht := fun B w h1 h2 => QkB A B n c 3 3 key [hkT key F k, F, [QDj (k : Int) + 1]] w h1 hc hn h2
    have he : Qbm key [hkT key F k, F, [QDj (k : Int) + 1]].flatten = hkT key F (k + 1) := by rw [QjT, hkT]
    rw [he, QjT] at ht
    have hfl : (hkT key F k ++ F ++ [QDj (k : Int) + 1]).length ≤ 70368744177700 := by simp; omega
    have ho' : hkO key F (k + 1) = hkO key F k ++ hkT key F (k + 1) := rfl
    have HT := hid ht
    have HO := hid ho'
    clear ht he ho'
    generalize hT1 : hkT key F (k + 1) = T at *
    generalize hkT key F k = Tk at *
    generalize hkO key F k = O at *
    have HT1 := hid hT1
    clear hT1
    have hltN : ((32 * k : Nat) : Int) < (N : Int) := by omega
    go_wp2_with (first
     | (go_at_call 121; refine (HT.out (some ⟨wr.heap.size + 1, 0, none⟩) _ (hx.later ((hl1.trans hl).trans ((Qaa _ _).alloc _))) ?hp (by omega) (by omega)).mono ?_
        (case hp => exact Qg1 ((Blk.new' _ 22 [.slice A10 l10 c10, .slice A1 fl c1, .slice (some ⟨wr.heap.size, 0, none⟩) 1 1] (by simp)).rd rfl) ⟨QbN (hr10.later ((Qaa _ _).alloc _)) hc10, QbN ((hown1.later hl).later ((Qaa _ _).alloc _)).rd hcap1, QbN (((Blk.new wr 5 [W8 (QDj (k : Int) + 1)]).later (Qaa _ _)).rd rfl) (by omega), trivial⟩)
        rintro e w3 ⟨rfl, hl3⟩)
     | (refine Qah rfl rfl 31 _ _ rfl w3.heap.size 0 31 (QCK 32 (W8 0)) (T.map W8) ?bk ?hx ?hy ?hi ?hf ?h1 ?_; (case hx => rfl); (case hy => rfl); (case hi => rw [QCP, hT]; kernel_rfl); (case hf => simp [hT]); (case h1 => exact QaA _); (case bk => exact Blk.new _ _ _); intro w4 hb4 ho4
        rw [Qam _ _ (by simp [hT])] at hb4
        have L3 := ((Qaa wr _).alloc _).trans hl3
        have hown4 := QkJ (Qao (Qao hown L3) (Qaa _ _)) ho4 (fun b hb => by have := Qim hown b hb; have := L3.size; omega)
        have hl4 := ((hl.trans L3).alloc _).only ho4 (by have := (hl.trans L3).size; omega))
     | (refine Qaj rfl _ _ _ rfl 5 _ 1 Tryz.underlying22 Qbl rfl w1 _ (32 * k) _ hown4 hl4 (some ⟨w3.heap.size, 0, none⟩) 32 32 _ (hb4.rd (by simp [hT])) (QaA _) rfl rfl (by omega) (by omega) ?_; intro A5 c5 w5 hown5 hl5 hg5 _
        have hb5 := QiY hb4 hown4 QzE hg5
        have hown5' := QiN hown5 rfl (show 32 * k + 32 = 32 * (k + 1) by omega)))
    refine ⟨⟨k + 1, A5, c5, by go_num, .inr (by omega), by rw [show 32 * k + 32 = 32 * (k + 1) by omega], ?_, ?_, hl5⟩, by simp only [intOf]; omega⟩
    · exact .inr ⟨w3.heap.size, by omega, rfl, by rw [HT1.out]; exact hT, by rw [HT1.out]; exact hb5⟩
    · rw [HO.out]
      exact hown5'
  · have hk : k = (N + 31) / 32 := by omega
    have hltN : ¬ ((32 * k : Nat) : Int) < (N : Int) := by omega
    have hNc : N ≤ c9 := by omega
    go_wp2
    go_ret2
    refine ⟨A9, rfl, ?_, hl1.trans hl⟩
    rw [expB, ← hk]
    have := QrS hown (m := N) (by omega)
    exact ⟨this.1, this.2.imp id fun ⟨g, rest, e, hb, hk⟩ => ⟨g, rest, e, QDy hl1.size hb, hk⟩⟩
end Go.Proofs.YtadfeclgoclalaaGreat
namespace Go.Proofs.YtadfeclgoclalaaGreat
open Go.RowKit
theorem Qnd {w w' : World} {b1 B : Nat} {e1 : TypeId} {v1 v2 : Value} {n1 : Nat} {x1 : List Value} (h1 : w.ownsRow b1 e1 1 v1 n1 x1) (hB : B ≤ b1) (h2 : ∀ b, v2.ownBlock = some b → b < B)
 (hg : w.grownBy w' v2.ownBlock) : w'.ownsRow b1 e1 1 v1 n1 x1 := by
 refine h1.kept hg ?_
 cases hb : v1.ownBlock with
 | none => exact .inl rfl
 | some b =>
   refine .inr fun he => ?_
   have := h2 b he.symm
   have := (h1.lt b hb).1
   omega
set_option maxRecDepth 100000 in
set_option maxHeartbeats 2000000 in
theorem QlL (A B : Option Addr) (n c m d : Nat) (N : Nat) (key F : List UInt8) (w : World) (hx : RdB w A n key) (hn : n ≤ 70368744177664) (hi : RdB w B m F) (hm : m ≤ 17592186044416) (hN : N ≤ 8160) :
 Calls Tryz.prog 103 #[.slice A n c, .int .i64 N, .slice B m d] w fun e w' => ∃ A' c', e = .returned (.tuple #[.slice A' N c', .int .i64 0]) ∧ OwnB w' w.heap.size A' N c' (expB key F N) ∧ Later w w' := by
 have hFl := hi.len
 go_enter Tryz.func103, Tryz.ntmps103
 go_wp2
 go_loopw [8, 9, 10] (fun out last i wr => ∃ (k : Nat) (A8 : Option Addr) (c8 : Nat) (A9 : Option Addr) (l9 c9 : Nat), i = .int .i64 ((k : Int) + 1) ∧ (k = 0 ∨ 32 * (k - 1) < N) ∧ out = .slice A8 (32 * k) c8 ∧ last = .slice A9 l9 c9 ∧ OwnB wr w.heap.size A9 l9 c9 (hkT key F k) ∧ OwnB wr w.heap.size A8 (32 * k) c8 (hkO key F k) ∧ Later w wr) (fun _ _ i _ => 8200 - 32 * (intOf i).toNat)
 case atStart => exact ⟨0, _, _, _, _, _, rfl, .inl rfl, rfl, rfl, Qbb _ _ _, Qbb _ _ _, Later.refl w⟩
 case round =>
  obtain ⟨k, A8, c8, A9, l9, c9, rfl, hkN, rfl, rfl, hlast, hown, hl⟩ := hrel
  have hcap8 := hown.cap
  by_cases hlt : 32 * k < N
  · have hkl := QjK key F k
    have hl9 := hlast.len
    have hT : (hkT key F (k + 1)).length = 32 := by rw [hkT, QaD]
    have ht := fun B d w h1 h2 => QeI A B n c (l9 + m + 1) d key (hkT key F k ++ F ++ [QDj (k : Int) + 1]) w h1 hn h2 (by omega)
    have he : Qbm key (hkT key F k ++ F ++ [QDj (k : Int) + 1]) = hkT key F (k + 1) := by rw [hkT]
    rw [he] at ht
    have ho' : hkO key F (k + 1) = hkO key F k ++ hkT key F (k + 1) := rfl
    have HT := hid ht
    have HO := hid ho'
    clear ht he ho'
    generalize hT1 : hkT key F (k + 1) = T at *
    generalize hkT key F k = Tk at *
    generalize hkO key F k = O at *
    have HT1 := hid hT1
    clear hT1
    have hltN : ((32 * k : Nat) : Int) < (N : Int) := by omega
    have hlt8 := Qim hown
    go_wp2_with fail
    refine (Qbv A9 l9 c9 Tk _ hlast.rd (by omega)).mono ?_
    rintro e w1 ⟨A1, c1, rfl, hown1, hl1⟩
    go_wp2_with (first
     | (refine Qaj rfl _ _ _ rfl 5 _ 1 Tryz.underlying22 Qbl rfl wr _ l9 _ hown1 hl1 B m d _ (hi.later (hl.trans hl1)) (QaA _) rfl rfl (by omega) (by omega) ?_; intro A2 c2 w2 hown2 hl2 _ _)
     | (refine Qaj rfl _ _ _ rfl 5 _ 1 Tryz.underlying22 Qbl rfl wr _ (l9 + m) _ (Qao hown2 (Qaa _ _)) (hl2.alloc _) _ 1 1 [W8 (QDj (k : Int) + 1)] (Qcc (QeZ w2 _ [W8 (QDj (k : Int) + 1)] (by simp))) (QaA [_]) rfl rfl (by omega) (by omega) ?_; intro A3 c3 w3 hown3 hl3 _ _
        have hown3' : OwnB w3 wr.heap.size A3 (l9 + m + 1) c3 (Tk ++ F ++ [QDj (k : Int) + 1]) := QdE hown3 rfl (by simp))
     | (go_at_call 86; refine (HT.out A3 c3 _ (hx.later (hl.trans hl3)) hown3'.rd).mono ?_; rintro e w4 ⟨rfl, hl4⟩)
     | (refine Qah rfl rfl 31 _ _ rfl w4.heap.size 0 31 (QCK 32 (W8 0)) (T.map W8) ?bk ?hx ?hy ?hi ?hf ?h1 ?_; (case hx => rfl); (case hy => rfl); (case hi => rw [QCP, hT]; kernel_rfl); (case hf => simp [hT]); (case h1 => exact QaA _); (case bk => exact Blk.new _ _ _); intro w5 hb5 ho5
        rw [Qam _ _ (by simp [hT])] at hb5
        have L4 := hl3.trans hl4
        have hl5 := ((L4.alloc _).only ho5 L4.size)
        have hown5 := Qao hown hl5)
     | (go_at_call 7; refine (Qbv (some ⟨w4.heap.size, 0, none⟩) 32 32 T _ (hb5.rd (by simp [hT])) (by omega)).mono ?_; rintro e w6 ⟨A6, c6, rfl, hown6, hl6⟩
        have hout6 := Qao hown5 hl6)
     | (refine Qaj rfl _ _ _ rfl 5 _ 1 Tryz.underlying22 Qbl rfl w _ (32 * k) _ hout6 ((hl.trans hl5).trans hl6) A6 32 c6 _ hown6.rd (QaA _) rfl rfl (by omega) (by omega) ?_; intro A7 c7 w7 hown7 hl7 hg7 _; have hlast7 : OwnB w7 w5.heap.size A6 32 c6 T := Qnd hown6 (QCX _) (fun b hb => by have := hlt8 b hb; have := hl5.size; omega) hg7; have hown7' := QiN hown7 rfl (show 32 * k + 32 = 32 * (k + 1) by omega)))
    refine ⟨⟨k + 1, A7, c7, A6, 32, c6, by go_num, .inr (by omega), by rw [show 32 * k + 32 = 32 * (k + 1) by omega], rfl, ?_, ?_, hl7⟩, by simp only [intOf]; omega⟩
    · rw [HT1.out]
      exact hlast7.mono (hl.trans hl5).size
    · rw [HO.out]
      exact hown7'
  · have hk : k = (N + 31) / 32 := by omega
    have hltN : ¬ ((32 * k : Nat) : Int) < (N : Int) := by omega
    have hNc : N ≤ c8 := by omega
    have hr := (RdB.take hown.rd (m := N) (by omega))
    have he : (hkO key F k).take N = expB key F N := by rw [expB, ← hk]
    rw [he] at hr
    generalize hE : expB key F N = E at *
    have HE := hid hE
    clear hE
    go_wp2_with (first | (go_at_call 7; refine (Qbv A8 N c8 E _ hr (by omega)).mono ?_; rintro e w1 ⟨A1, c1, rfl, hown1, hl1⟩))
    go_ret2
    exact ⟨A1, c1, rfl, by rw [HE.out]; exact hown1.mono hl.size, hl.trans hl1⟩
end Go.Proofs.YtadfeclgoclalaaGreat
namespace Go.Proofs.YtadfeclgoclalaaGreat
open Go.RowKit
theorem QsZ (A B : Option Addr) (n c m d : Nat) (I : Int) (N : Nat) (hI : I = (N : Int)) (key : List UInt8) (ps : List (List UInt8)) (w : World) (hx : RdB w A n key) (hc : n ≤ c) (hn : n ≤ 140737488355328) (hp : Parts w (fun _ => False) B m ps) (hm : m ≤ 140737488355328) (hlen : ps.flatten.length ≤ 70368744177664) (hN : N ≤ 8160) :
 Calls Tryz.prog 114 #[.slice A n c, .int .i64 I, .slice B m d] w fun e w' => ∃ A', e = .returned (.tuple #[.slice A' N N, .int .i64 0]) ∧ Front w' w.heap.size A' N (expB key ps.flatten N) ∧ Later w w' := by
 subst hI
 exact Qq1 A B n c m d N key ps w hx hc hn hp hm hlen hN
end Go.Proofs.YtadfeclgoclalaaGreat
namespace Go.Proofs.YtadfeclgoclalaaGreat
open Go.RowKit
theorem Qyn : (Tryz.prog.info? 31).map (fun i => (i.zero, i.size, i.bytes)) = some (some (.agg (QCK 32 (W8 0)).toArray), 32, 32) := by kernel_rfl
theorem QvI (m n : Nat) (v : Value) (hm : 0 < m) : madeCells (QCK m v).toArray n = (QCK n v).toArray := by
 apply Array.ext
 · simp [madeCells]
 · intro i h1 h2
   simp only [madeCells, Array.getElem_map, Array.getElem_range, List.getElem_toArray, List.getElem_replicate, List.size_toArray, QCY]
   have : i % m < m := QDg _ hm
   simp [this]
section
variable {P : Program} {ops : Array Oper} {rest : List Oper} {o : Oper} {a : Act} {w : World} {Q : Exit → Act → World → Prop}
theorem QiR (hgd : o.guard = none) (l c : Operand) (t : TypeId) (ho : o.op = Op.makeSlice t l c) (e : TypeId) (v : Value) (m bytes : Nat) (ht : P.underlying t = some (.slice e))
 (hinfo : (P.info? e).map (fun i => (i.zero, i.size, i.bytes)) = some (some (.agg (QCK m v).toArray), m, bytes)) (hm : 0 < m) (kl kc : IntKind) (L C : Int) (n : Nat) (hl : a.eval l = .int kl L) (hc : a.eval c = .int kc C) (hL : L = (n : Int)) (hC : C = (n : Int))
 (hby : 0 < bytes) (hsz : n * bytes ≤ 140737488355328) (h : ∀ w', Blk w' w.heap.size e (QCK (n * m) v) → Later w w' → wpList P ops Q rest (a.put o.dst (.slice (some ⟨w.heap.size, 0, none⟩) n n)) w') :
 wpList P ops Q (o :: rest) a w := by
 cases hq : P.info? e with
 | none => simp [hq] at hinfo
 | some i =>
   simp only [hq, QEt, Option.some.injEq, Prod.mk.injEq] at hinfo
   obtain ⟨hz, hsize, hbytes⟩ := hinfo
   have hn : n ≤ 140737488355328 := QDy (QEp _ hby) hsz
   refine wpList_plain hgd fun K hK => ?_
   have hb : ((i.bytes : Int) * (n : Int)) ≤ 281474976710656 := by
    rw [hbytes, ← QEI, QDQ]
    omega
   have hr := run_make (P := P) w t e i _ ht hq hz kl kc n n (by omega) (Int.le_refl _) hb (by omega)
   have hcells : (Value.agg (QCK m v).toArray).cells = (QCK m v).toArray := rfl
   simp only [QER, hsize, hcells, QvI m _ v hm] at hr
   subst hL
   subst hC
   unfold Oper.wp
   simp only [execOp, ho, hl, hc, Sem.run_bind, hr, Result.andThen_ok, Sem.run_pure]
   exact hK _ _ (h _ (Blk.new w e _) (Qaa _ _))
end
def Qct : List UInt8 := [115, 104, 97, 108, 108, 111, 116]
def derB (secret : List UInt8) (s : ByteArray) : List UInt8 := expB (Qbm Qct secret) (strB s) 32
theorem Qay (secret : List UInt8) (s : ByteArray) : (derB secret s).length = 32 := Qns _ _ _
set_option maxRecDepth 100000 in
set_option maxHeartbeats 2000000 in
theorem Qc2 (A : Option Addr) (n c : Nat) (secret : List UInt8) (s : ByteArray) (w : World) (hx : RdB w A n secret) (hn : n ≤ 35184372088832) (hs : s.size ≤ 17592186044416) :
 Calls Tryz.prog 80 #[.slice A n c, .string s] w fun e w' => e = .returned (.agg ((derB secret s).map W8).toArray) ∧ Later w w' := by
 have hsl := Qgn s
 have hT := QaD Qct secret
 have hD := Qay secret s
 have ht := fun B d w h1 h2 => QeI B A 7 d n c Qct secret w h1 (by omega) h2 hn
 have he := fun A B c d w h1 h2 => QlL A B 32 c s.size d 32 (Qbm Qct secret) (strB s) w h1 (by omega) h2 hs (by omega)
 have hde : expB (Qbm Qct secret) (strB s) 32 = derB secret s := rfl
 rw [hde] at he
 clear hde
 generalize Qbm Qct secret = T at *
 generalize derB secret s = D at *
 have HT := hid ht
 have HE := hid he
 clear ht he
 go_enter Tryz.func80, Tryz.ntmps80
 go_wp2_with (first
  | (refine Qc3 rfl _ _ rfl 5 Tryz.underlying22 Tryz.underlying5 (w.alloc (.cells (QCK 32 (W8 0)).toArray 31)) (Qct.map W8) rfl (w.heap.size + 1) 7 7 (by simp) rfl ?_; intro w1 hl1 hr1 hz1)
  | (go_at_call 86; refine (HT.out _ 7 _ hr1 (hx.later ((Qaa _ _).trans hl1))).mono ?_; rintro e w2 ⟨rfl, hl2⟩)
  | (refine Qah rfl rfl 31 _ _ rfl w2.heap.size 0 31 (QCK 32 (W8 0)) (T.map W8) ?bk ?hx ?hy ?hi ?hf ?h1 ?_; (case hx => rfl); (case hy => rfl); (case hi => rw [QCP, hT]; kernel_rfl); (case hf => simp [hT]); (case h1 => exact QaA _); (case bk => exact Blk.new _ _ _); intro w3 hb3 ho3; rw [Qam _ _ (by simp [hT])] at hb3)
  | (refine Qen rfl _ _ _ rfl 5 Tryz.underlying9 Tryz.underlying22 Tryz.underlying5 s rfl ?_; intro c4 w4 hl4 hr4 hc4 hz4)
  | (go_at_call 103; refine (HE.out (some ⟨w2.heap.size, 0, none⟩) _ 32 c4 _ ((hb3.later hl4).rd (by simp [hT])) hr4).mono ?_; rintro e w5 ⟨A5, c5, rfl, hown5, hl5⟩
     have L2 := ((Qaa w (.cells (QCK 32 (W8 0)).toArray 31)).trans hl1).trans hl2
     have hz2 : w.heap.size + 1 ≤ w2.heap.size := by have := hl1.size; have := hl2.size; simp at *; omega
     have hR3 : Blk w3 w.heap.size 31 (QCK 32 (W8 0)) := ((((Blk.new w _ _).later hl1).later hl2).later (Qaa _ _)).only ho3 (by omega)
     have L5 := (((L2.alloc _).only ho3 (by omega)).trans hl4).trans hl5
     have hR5 := (hR3.later hl4).later hl5
     have hlt5 := hR5.lt)
  | (refine Qat rfl _ _ _ _ rfl 5 Tryz.underlying22 QbZ w5.heap.size 0 32 32 31 (QCK 32 (W8 0)) (Blk.new _ _ _) A5 32 c5 (D.map W8) (Rd.later hown5.rd (Qaa _ _)) (QaA _) rfl rfl (by simp) ?_; intro w6 hb6 ho6
     rw [QCZ (by simp [hD]), Qam _ _ (by simp [hD])] at hb6
     have hR6 := (hR5.later (Qaa _ _)).only ho6 (by omega)
     have L6 := (L5.alloc _).only ho6 L5.size)
  | (refine Qaw rfl 31 _ rfl w5.heap.size 0 (D.map W8) ?hc ?hx _ Tryz.underlying31 rfl ?hi ?_; (case hx => rfl); (case hi => rw [QCP, hD]; kernel_rfl); (case hc => intro j v hv; rw [QDf]; exact hb6.cellD j hv))
  | (refine Qah rfl rfl 31 _ _ rfl w.heap.size 0 31 (QCK 32 (W8 0)) (D.map W8) ?bk2 ?hx ?hy ?hi ?hf ?h1 ?_; (case hx => rfl); (case hy => rfl); (case hi => rw [QCP, hD]; kernel_rfl); (case hf => simp [hD]); (case h1 => exact QaA _); (case bk2 => exact hR6); intro w9 hb9 ho9))
 rw [Qam _ _ (by simp [hD])] at hb9
 exact bodyPost_ret (QaE rfl _ _ _ _ (D.map W8) _ hb9 rfl Tryz.underlying31 rfl (by rw [QCP, hD]; kernel_rfl)) rfl ⟨rfl, L6.only ho9 (QCX _)⟩
def Strs (w : World) (A : Option Addr) (n : Nat) (ss : List ByteArray) : Prop := Rd w A n (ss.map Value.string)
theorem Strs.at_ {w : World} {A : Option Addr} {n : Nat} {ss : List ByteArray} (h : Strs w A n ss) {k : Nat} (hk : k < n) :
 ∃ b o, A = some ⟨b, o, none⟩ ∧ b < w.heap.size ∧ w.cell? ⟨b, o + k, none⟩ = some (.string (ss.getD k .empty)) := by
 have hl : ss.length = n := by simpa using h.1
 obtain ⟨b, o, rfl, hb, hc⟩ := h.2 (by omega)
 refine ⟨b, o, rfl, hb, hc k _ ?_⟩
 rw [QC6, QCS, QCR (by omega)]
 rfl
theorem Strs.later {w w' : World} {A : Option Addr} {n : Nat} {ss : List ByteArray} (h : Strs w A n ss) (hl : Later w w') : Strs w' A n ss := Rd.later h hl
def QdF (secret : List UInt8) (ss : List ByteArray) (k : Nat) : List UInt8 := ((ss.take k).map (derB secret)).flatten ++ QCK (32 * (ss.length - k)) 0
theorem QhD (secret : List UInt8) (ss : List ByteArray) (k : Nat) (h : k ≤ ss.length) : ((ss.take k).map (derB secret)).flatten.length = 32 * k := by
 induction k with
 | zero => simp
 | succ k ih =>
   rw [QDl (by omega), QDm, List.flatten_append, QCU, ih (by omega)]
   simp [Qay]
   omega
theorem Qkv (secret : List UInt8) (ss : List ByteArray) (k : Nat) (h : k ≤ ss.length) : (QdF secret ss k).length = 32 * ss.length := by
 rw [QdF, QCU, QhD _ _ _ h, QCY]
 omega
theorem Qoe (secret : List UInt8) (ss : List ByteArray) (k : Nat) (h : k < ss.length) : QaB ((QdF secret ss k).map W8) (32 * k) (((derB secret (ss.getD k .empty)).map W8).take 32) = (QdF secret ss (k + 1)).map W8 := by
 have h1 := QhD secret ss k (by omega)
 have h2 := Qay secret (ss.getD k .empty)
 have hs : ss.getD k .empty = ss[k] := by rw [QCS, QCR h]; rfl
 rw [QCZ (by rw [QCP, h2]; omega), QaB, QdF, QDm, QDK (by rw [QCP, h1]; omega), QCZ (by rw [QCP, h1]; omega),
  List.drop_append, QDZ (by rw [QCP, h1, QCP, h2]; omega), QCQ, QdF, QDl h, hs]
 simp only [QDm, List.flatten_append, QDh, QC9, QEa, List.flatten_nil, QDr, QC3, QDs, List.drop_replicate, QCP]
 rw [← hs, h2, h1, show 32 * (ss.length - k) - (32 * k + 32 - 32 * k) = 32 * (ss.length - (k + 1)) by omega]
end Go.Proofs.YtadfeclgoclalaaGreat
namespace Go.Proofs.YtadfeclgoclalaaGreat
open Go.RowKit
set_option maxRecDepth 100000 in
set_option maxHeartbeats 2000000 in
theorem Qj9 (A B : Option Addr) (n c m d : Nat) (secret : List UInt8) (ss : List ByteArray) (w : World) (hx : RdB w A n secret) (hc : n ≤ c) (hn : n ≤ 35184372088832) (hb : Strs w B m ss) (hm0 : 0 < m) (hm : m ≤ 1048576) (hs : ∀ s ∈ ss, s.size ≤ 1048576) :
 Calls Tryz.prog 96 #[.slice A n c, .slice B m d] w fun e w' => ∃ g, e = .returned (.slice (some ⟨g, 0, none⟩) m m) ∧ w.heap.size ≤ g ∧ Blk w' g 31 ((QdF secret ss m).map W8) ∧ Later w w' := by
 have hml : ss.length = m := by simpa using hb.1
 have hT := QaD Qct secret
 have ht := fun B w h1 h2 => QmT B A 7 7 n c Qct secret w h1 (by omega) (by omega) h2 hc (by omega)
 have he := fun A B w (s : ByteArray) h1 h2 (h3 : s.size ≤ 1048576) => QsZ A B 32 32 1 1 32 32 rfl (Qbm Qct secret) [strB s] w h1 (by omega) (by omega) h2 (by omega) (by rw [Qcp, Qgn]; omega) (by omega)
 have hd : ∀ s, expB (Qbm Qct secret) [strB s].flatten 32 = derB secret s := fun s => by rw [Qcp]; rfl
 simp only [hd] at he
 generalize Qbm Qct secret = T at *
 have HT := hid ht
 have HE := hid he
 have HS := hid hs
 clear ht he hd hs
 go_enter Tryz.func96, Tryz.ntmps96
 go_wp2_with (first
  | (refine Qc3 rfl _ _ rfl 5 Tryz.underlying22 Tryz.underlying5 w (Qct.map W8) rfl w.heap.size 7 7 rfl rfl ?_; intro w1 hl1 hr1 hz1)
  | (go_at_call 113; refine (HT.out _ _ hr1 (hx.later hl1)).mono ?_; rintro e w2 ⟨rfl, hl2⟩)
  | (refine Qah rfl rfl 31 _ _ rfl w2.heap.size 0 31 (QCK 32 (W8 0)) (T.map W8) ?bk ?hx ?hy ?hi ?hf ?h1 ?_; (case hx => rfl); (case hy => rfl); (case hi => rw [QCP, hT]; kernel_rfl); (case hf => simp [hT]); (case h1 => exact QaA _); (case bk => exact Blk.new _ _ _); intro w3 hb3 ho3; rw [Qam _ _ (by simp [hT])] at hb3)
  | (refine QiR rfl _ _ _ rfl 31 (W8 0) 32 32 Tryz.underlying176 Qyn (by omega) _ _ _ _ m rfl rfl ?hL ?hC (by omega) (by omega) ?_; (case hL => rfl); (case hC => rfl); intro w4 hb4 hl4))
 have L2 := hl1.trans hl2
 have L3 : Later w w3 := (L2.alloc _).only ho3 L2.size
 have hk4 := hb3.later hl4
 have L4 := L3.trans hl4
 have hk0 : (QdF secret ss 0).map W8 = QCK (m * 32) (W8 0) := by rw [QdF]; simp only [QEO, QC9, List.flatten_nil, QCQ, Nat.sub_zero, QDs, hml, QDQ]
 rw [← hk0] at hb4
 have z2 := L2.size
 have z3 := hb3.lt
 have hgk : w2.heap.size ≠ w3.heap.size := by omega
 have hg3 := L3.size
 clear hk0 hl1 hl2 hl4 hb3 ho3 L2 L3 hr1 hz1
 generalize w2.heap.size = gk at *
 generalize w3.heap.size = go at *
 go_loopw [23] (fun i wr => ∃ k : Nat, k ≤ m ∧ i = .int .i64 k ∧ Blk wr gk 31 (T.map W8) ∧ Blk wr go 31 ((QdF secret ss k).map W8) ∧ Later w wr) (fun i _ => m - (intOf i).toNat)
 case atStart => exact ⟨0, by omega, rfl, hk4, hb4, L4⟩
 case round =>
  clear hk4 hb4 L4
  obtain ⟨k, hk, rfl, hK, hO, hl⟩ := hrel
  by_cases hlt : k < m
  · obtain ⟨b, o, rfl, hbb, hck⟩ := (hb.later hl).at_ hlt
    have hsz := HS.out (ss.getD k .empty) (by rw [QCS, QCR (by omega)]; exact QD6 _)
    have hkl := Qkv secret ss k (by omega)
    have hst := hid (Qoe secret ss k (by omega))
    have hdl := Qay secret (ss.getD k .empty)
    have hsl := Qgn (ss.getD k .empty)
    generalize ss.getD k .empty = s at *
    have hE := hid (fun A B w h1 h2 => HE.out A B w s h1 h2 hsz)
    generalize derB secret s = D at *
    go_wp2_with (first
     | (refine Qen rfl _ _ _ rfl 5 Tryz.underlying9 Tryz.underlying22 Tryz.underlying5 s rfl ?_; intro c1 w1 hl1 hr1 hc1 hz1)
     | (go_at_call 114; refine (hE.out (some ⟨gk, 0, none⟩) (some ⟨w1.heap.size, 0, none⟩) _ ((hK.later (hl1.alloc _)).rd (by simp [hT])) (Qg1 ((Blk.new w1 22 [.slice (some ⟨wr.heap.size, 0, none⟩) s.size c1]).rd rfl) ⟨QbN (hr1.later (Qaa _ _)) hc1, trivial⟩)).mono ?_; rintro e w2 ⟨A2, rfl, hfr2, hl2⟩; have L2 := (hl1.alloc (.cells #[.slice (some ⟨wr.heap.size, 0, none⟩) s.size c1] 22)).trans hl2)
     | (refine Qat rfl _ _ _ _ rfl 5 Tryz.underlying22 QbZ go (k * 32) 32 32 31 ((QdF secret ss k).map W8) (hO.later L2) A2 32 32 (D.map W8) hfr2.rd (QaA _) rfl rfl (by rw [QCP, hkl, hml]; omega) ?_; intro w6 hb6 ho6; rw [QDQ k 32, hst.out] at hb6))
    refine ⟨⟨k + 1, by omega, by go_num, (hK.later L2).only ho6 hgk, hb6, (hl.trans L2).only ho6 hg3⟩, by simp only [intOf]; omega⟩
  · have hkm : k = m := by omega
    rw [hkm] at hO
    go_wp2
    go_ret
    exact ⟨go, rfl, hg3, hO, hl⟩
end Go.Proofs.YtadfeclgoclalaaGreat
