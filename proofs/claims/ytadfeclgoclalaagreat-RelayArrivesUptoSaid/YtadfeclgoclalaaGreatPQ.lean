/-
  Lemmas for the last text of this claim (part 17 of 20).
-/
import Derived.BigQuiet
import Derived.BigRegion
import Derived.ChangeOld
import Derived.Deep.RegionWith
import Derived.JoinedCond
import Derived.LaidMore
import Derived.Laws.CopyOwn
import Derived.Laws.Externs
import Derived.Laws.IdiomStrings
import Derived.Laws.Tables
import Derived.Lib.AppendStr
import Derived.Lib.AppendZerosOnto
import Derived.Lib.Mul64
import Derived.Lib.SlBytesConst
import Derived.LoopN
import Derived.OpenShut
import Derived.OrdersHeld
import Derived.ProofKit
import Derived.Shelf.Spec.BitsCarry
import Derived.ShutString
import Derived.Test.YtadfeclgoclalaaGreatProg
import Derived.Test.YtadfeclgoclalaaGreatRows
import Derived.WalkKit
import Derived.WalkLawsBesides
import Derived.WalkSpells
import Derived.Test.YtadfeclgoclalaaGreatPB
import Derived.Test.YtadfeclgoclalaaGreatPD
import Derived.Test.YtadfeclgoclalaaGreatPO
open Array renaming replicate → QD8
open Bool renaming and_eq_true → QC7
open List renaming replicate → QCK, getElem?_cons_succ → QCL, getElem?_cons_zero → QCM, cons_append → QCO, length_map → QCP, nil_append → QCQ, getElem?_eq_getElem → QCR, getD_eq_getElem?_getD → QCS, setIfInBounds_toArray → QCT, length_append → QCU, set_cons_zero → QCV, set_cons_succ → QCW, length_replicate → QCY, take_of_length_le → QCZ, map_toArray → QC0, append_assoc → QC3, getElem?_append_right → QC4, getElem?_map → QC6, getElem?_append_left → QC8, map_nil → QC9, getElem?_eq_some_iff → QDa, length_drop → QDc, length_take → QDe, map_cons → QDh, take_append_drop → QDi, set_append_right → QDp, eq_nil_of_length_eq_zero → QDq, append_nil → QDr, map_replicate → QDs, getElem?_eq_none → QDz, take_append_of_le_length → QDK, replicate_append_replicate → QDU, mem_singleton → QDX, all_cons → QDY, drop_append_of_le_length → QD2, flatten_cons → QEa, map_take → QEd, singleton_append → QEj, set_append_left → QEq, drop_eq_nil_of_le → QEr, drop_zero → QEu, mem_append → QEz, take_zero → QEO
open Nat renaming le_refl → QCX, lt_of_lt_of_le → QDb, zero_add → QDf, le_trans → QDy, add_zero → QEc, mod_one → QE0
open Option renaming toList_some → QCN
namespace Go.Proofs.YtadfeclgoclalaaGreat
open Go.RowKit
open Go.BigFrame
theorem Quo (b : List UInt8) (h : b.length = 768) : putB (b.take 288 ++ QCK 480 0) 288 ((b.drop 288).take 480) = b := by
 rw [QeR _ _ _ 288 (by rw [QDe]; omega) (by rw [QCY, QDe, QDc]; omega), QCZ (l := b.drop 288) (by rw [QDc]; omega), QDi]
set_option maxRecDepth 100000 in
set_option maxHeartbeats 4000000 in
theorem QpF (A : Option Addr) (c : Nat) (b : List UInt8) (w : World) (hb : RdB w A 768 b) (hc : 768 ≤ c) :
 Calls Tryz.prog 24 #[.slice A 768 c] w fun e w' => e = .returned (.tuple #[.agg (b.map W8).toArray, .int .i64 0]) ∧ Later w w' := by
 have hbl := hb.len
 obtain ⟨b0, p, rfl, hb00, _⟩ := hb.2 (by omega)
 have HZ := hid zcP
 have HH := hid zcH
 have B0 : Bag w (w.alloc (.cells Tryz.zeroCells45 45)) [(w.heap.size, 45, (QCK 768 (0 : UInt8)).map W8)] := (Bag.none w).add (Qaa _ _) (by simp) (QCX _) ((Blk.new w _ Tryz.zeroCells45.toList).cast zcP)
 have l0 : ((QCK 768 (0 : UInt8)).map W8).length = 768 := by rw [QCP, QCY]
 have lh : ((QCK 288 (0 : UInt8)).map W8).length = 288 := by rw [QCP, QCY]
 have hhl : (b.take 288).length = 288 := by rw [QDe]; omega
 have hH := hid (fun (w : World) h => Qp6 (some ⟨b0, p, none⟩) c (b.take 288) w h (by omega))
 have hp1 := Qqt (b.take 288) hhl
 have hp1l : (b.take 288 ++ QCK 480 (0 : UInt8)).length = 768 := by rw [QCU, hhl, QCY]
 have hput := hid (Quo b hbl)
 have h288 : Hid (∀ w, RdB w (some ⟨b0, p, none⟩) 768 b → RdB w (some ⟨b0, p + 288, none⟩) 480 (b.drop 288)) := hid (fun w h => by
  have := RdB.cut h (k := 288) (c := 769) (by omega) (by omega)
  rw [show cutA (some ⟨b0, p, none⟩) 288 769 = some ⟨b0, p + 288, none⟩ by rw [cutA, if_neg (by omega)]; rfl] at this
  exact this)
 have hcc : cutA (some ⟨b0, p, none⟩) 288 c = some ⟨b0, p + 288, none⟩ := by rw [cutA, if_neg (by omega)]; rfl
 have HT : Hid (∀ w, RdB w (some ⟨b0, p, none⟩) 768 b → RdB w (some ⟨b0, p, none⟩) 288 (b.take 288)) := hid (fun w h => RdB.take h (by omega))
 generalize QCK 768 (0 : UInt8) = Z at *
 generalize QCK 288 (0 : UInt8) = ZH at *
 generalize b.take 288 ++ QCK 480 (0 : UInt8) = P1 at *
 generalize b.take 288 = hd at *
 go_enter Tryz.func24, Tryz.ntmps24
 go_wp2_with fail
 generalize hW : w.alloc _ = w1
 replace B0 : Bag w w1 [(w.heap.size, 45, Z.map W8)] := by rw [← hW]; exact B0
 clear hW
 (with_reducible refine (hH.out _ (HT.out _ (hb.later B0.lat))).mono ?_); rintro e w2 ⟨rfl, l2⟩
 replace B0 := B0.later l2
 go_wp2_with (first
  | (refine QeX rfl rfl _ _ rfl ((Blk.new w2 _ Tryz.zeroCells42.toList).cast HH.out) rfl rfl hhl lh ?_; intro w3 hb3 ho3
     have B1 := B0.push (Qaa _ _) (QCX _) ho3 hb3)
  | (refine QoR rfl _ rfl (B1.nth 0 rfl) hhl rfl ?_)
  | (refine Qal rfl 45 _ rfl (P1.map W8) (by simp only [QC0, QDh, QC9]; exact hp1) ?_)
  | (refine Qe8 rfl rfl _ _ rfl ((Blk.new w3 _ Tryz.zeroCells45.toList).cast HZ.out) rfl rfl hp1l l0 ?_; intro w4 hb4 ho4
     have B2 := B1.push (Qaa _ _) (QCX _) ho4 hb4)
  | fail)
 have B3 := B2.drew
 have hlb : b0 < w4.drew.heap.size := QDb hb00 B3.lat.size
 refine Qad [] [0, 1, 2, 3] [4] (by as_aux_lemma => kernel_rfl) (by as_aux_lemma => kernel_rfl) (by intro _ _ d _ _ h; cases d <;> exact h) ?_
 simp only [Qag, pick, QCL, QCM, QCN, QCO, QCQ]
 repeat (go_big_quiet_step (fail))
 refine wpQuiet_nil ?_
 go_wp2_with (first
  | (refine Qat rfl _ _ _ _ rfl 5 Tryz.underlying22 QbZ w3.heap.size 288 480 480 _ _ (B3.nth 0 rfl) (some ⟨b0, p + 288, none⟩) 480 (c - 288) ((b.drop 288).map W8) (h288.out _ (hb.later B3.lat)) (QaA _) rfl rfl (by rw [QCP]; omega) ?_; intro w5 hb5 ho5; rw [← QEd, QcU, hput.out] at hb5
     have B4 := B3.write 0 rfl ho5 hb5)
  | (refine QiV rfl _ rfl (B4.nth 0 rfl) hbl rfl ?_)
  | (refine Qe8 rfl rfl _ _ rfl (B4.nth 2 rfl) rfl rfl hbl l0 ?_; intro w6 hb6 ho6)
  | fail)
 exact bodyPost_ret (Qai rfl _ _ _ _ _ _ hb6 rfl Tryz.underlying45 rfl (by rw [QCP, hbl]; exact Qfr)) rfl ⟨rfl, (B4.write 2 rfl ho6 hb6).lat⟩
set_option maxRecDepth 100000 in
set_option maxHeartbeats 2000000 in
theorem Qkg (b : List UInt8) (hl : b.length = 768) (w : World) :
 Calls Tryz.prog 12 #[.agg (b.map W8).toArray] w fun e w' => ∃ A' c', e = .returned (.slice A' 768 c') ∧ OwnB w' w.heap.size A' 768 c' b ∧ Later w w' := by
 have hb : Blk (w.alloc (.cells (b.map W8).toArray 45)) w.heap.size 45 (b.map W8) := Blk.new _ _ _
 have s0 : (subB b 0 288).length = 288 := Qaq (by omega)
 have s1 : (subB b 288 480).length = 480 := Qaq (by omega)
 have hfl : [subB b 0 288, subB b 288 480].flatten = b := by
  rw [subB, subB, QEa, QEa, List.flatten_nil, QDr, QEu, QCZ (l := b.drop 288) (by rw [QDc]; omega), QDi]
 have hJ := hid (fun B d (w : World) hp => QfK B 2 d [subB b 0 288, subB b 288 480] w hp (by omega) (by rw [hfl]; omega))
 rw [hfl, hl] at hJ
 have hB := hid (fun (w : World) => Qqg (subB b 0 288) s0 w)
 have L := Qaa w (.cells (b.map W8).toArray 45)
 have Rs : Hid (subB b 0 288 = subB b 0 288) := hid rfl
 generalize hS : subB b 0 288 = S0 at *
 replace hS := hid hS
 go_enter Tryz.func12, Tryz.ntmps12
 go_wp2_with fail
 generalize hW : w.alloc _ = w1 at *
 clear hW
 refine Qad [([0, 1, 3, 4], 2), ([], 5), ([], 6)] [7] [] (by as_aux_lemma => kernel_rfl) (by as_aux_lemma => kernel_rfl) (by intro _ _ d _ _ h; cases d <;> exact h) ?_
 simp only [Qag, pick, QCL, QCM, QCN, QCO, QCQ]
 repeat (first | go_big_quiet_skip | (go_big_quiet_want; (refine Qg9 0 288 _ rfl hb.drew rfl Tryz.underlying42 rfl Qdc hS.out s0 ?_); simp only [Act.put, QCT, QCW, QCV]; go_big_quiet_on) | (go_big_quiet_step (fail)))
 refine wpQuiet_nil ?_
 go_wp2_with fail
 (with_reducible refine (hB.out _).mono ?_); rintro e w2 ⟨A2, c2, rfl, o2, l2⟩
 go_wp2_with fail
 try refine ⟨by first | assumption | exact Qab _ | exact Qaa _ _ | exact Later.refl _, ?_⟩
 try simp only [Qag, pick, QCL, QCM, QCN, QCO, QCQ]
 repeat (go_big_quiet_step (fail))
 refine wpQuiet_nil ?_
 have l3 := Qaa w2 (.cells #[.slice A2 288 c2, .slice (some ⟨w.heap.size, 288, none⟩) 480 480] 22)
 have hb3 := ((hb.later (Qab _)).later l2).later l3
 have P3 := Qft (bad := fun _ => False) (ps := [S0, subB b 288 480]) ((Blk.new w2 22 [.slice A2 288 c2, .slice (some ⟨w.heap.size, 288, none⟩) 480 480]).rd rfl) (QbU _ _) ⟨QcY (o2.later l3).rd o2.cap, QcY (Qci hb3 rfl s1) (QCX _), trivial⟩
 go_wp2_with fail
 try refine ⟨by first | assumption | exact Qab _ | exact Qaa _ _ | exact Later.refl _, ?_⟩
 try simp only [Qag, pick, QCL, QCM, QCN, QCO, QCQ]
 repeat (go_big_quiet_step (fail))
 refine wpQuiet_nil ?_
 go_wp2_with fail
 (refine (hJ.out _ _ _ P3).mono ?_); rintro e w4 ⟨A4, c4, rfl, o4, l4⟩
 go_wp2_with fail
 try refine ⟨by first | assumption | exact Qab _ | exact Qaa _ _ | exact Later.refl _, ?_⟩
 try simp only [Qag, pick, QCL, QCM, QCN, QCO, QCQ]
 repeat (go_big_quiet_step (fail))
 refine wpQuiet_nil ?_
 go_wp2_with fail
 go_ret
 exact ⟨_, _, rfl, o4.mono (((L.trans (Qab _)).trans l2).trans l3).size, (((L.trans (Qab _)).trans l2).trans l3).trans l4⟩
end Go.Proofs.YtadfeclgoclalaaGreat
namespace Go.Proofs.YtadfeclgoclalaaGreat
open Go.RowKit
open Go.BigFrame
theorem Qyf : (Tryz.prog.info? 56).map (·.size) = some 20 := by kernel_rfl
theorem QBC : (Tryz.prog.info? 56).bind (·.zero) = some (.agg (CC cmd0).toArray) := by kernel_rfl
theorem QpQ (c : Cmd) : Tryz.prog.built 56 [(0, .agg (CC c).toArray)] = some (CC c).toArray := by
 rw [Qa8 (pl := [(0, 20)]) Tryz.underlying56 QBC (by kernel_rfl), Qbr (vs := CC c) (off := 0) rfl (by rw [Qap]; rfl) (by rw [Qap, Qap]; omega), Qcv, Qam _ _ (by rw [Qap, Qap])]
def PC (c : Cmd) (P : List UInt8) (v : Value) : List Value := CC c ++ (P.map W8 ++ [v])
def nil8 : Value := .slice none 0 0
def z768 : List UInt8 := QCK 768 0
theorem QaF : z768.length = 768 := QCY
theorem QaG (c : Cmd) {P : List UInt8} (h : P.length = 768) (v : Value) : (PC c P v).length = 789 := by
 rw [PC, QCU, QCU, Qap, QCP, h]
 rfl
theorem QwB (c : Cmd) (P : List UInt8) {v : Value} (h : v.oneCell' = true) : ∀ u ∈ PC c P v, u.oneCell' = true := by
 intro u hu
 rw [PC] at hu
 rcases QEz.1 hu with hu | hu
 · exact Qpl c u hu
 · rcases QEz.1 hu with hu | hu
   · exact QaA P u hu
   · rw [QDX.1 hu]; exact h
theorem Qb8 : (Tryz.prog.info? 58).map (·.size) = some 789 := by kernel_rfl
theorem Qwf : (Tryz.prog.info? 58).bind (·.zero) = some (.agg (PC cmd0 z768 nil8).toArray) := by
 rw [PC, z768, QDs]
 kernel_rfl
theorem zcPe : Tryz.zeroCells58.toList = PC cmd0 z768 nil8 := by
 rw [PC, z768, QDs]
 kernel_rfl
theorem Qi4 : Tryz.prog.built 58 [] = some (PC cmd0 z768 nil8).toArray := by
 rw [Qa8 (pl := [(0, 20), (20, 768), (788, 1)]) Tryz.underlying58 Qwf (by kernel_rfl), Qcv]
theorem Qlq {A B vs : List Value} (h : vs.length = A.length) : QaB (A ++ B) 0 vs = vs ++ B := by
 rw [QaB, QEO, QCQ, QDf, h, List.drop_left]
theorem Qrw (c : Cmd) : Tryz.prog.built 58 [(0, .agg (CC c).toArray)] = some (PC c z768 nil8).toArray := by
 rw [Qa8 (pl := [(0, 20), (20, 768), (788, 1)]) Tryz.underlying58 Qwf (by kernel_rfl), Qbr (vs := CC c) (off := 0) rfl (by rw [Qap]; rfl) (by rw [Qap, QaG _ QaF]; omega), Qcv, PC, PC, Qlq (by rw [Qap, Qap])]
theorem Qeb (c : Cmd) (P : List UInt8) (v : Value) : ∀ j u, (CC c)[j]? = some u → (PC c P v)[0 + j]? = some u := fun j u h => by
 rw [QDf, PC, QC8 (QDa.1 h).1]
 exact h
theorem Qwe (c : Cmd) (P : List UInt8) (v : Value) : ∀ j u, (P.map W8)[j]? = some u → (PC c P v)[20 + j]? = some u := fun j u h => by
 rw [PC, QC4 (by rw [Qap]; omega), Qap, Nat.add_sub_cancel_left, QC8 (QDa.1 h).1]
 exact h
theorem Qlg (c : Cmd) {P : List UInt8} (h : P.length = 768) (v : Value) : (PC c P v)[788]? = some v := by
 rw [PC, QC4 (by rw [Qap]; omega), Qap, QC4 (by rw [QCP, h]; omega), QCP, h]
 rfl
theorem Qxn (c : Cmd) {P : List UInt8} (h : P.length = 768) (v v' : Value) : (PC c P v).set 788 v' = PC c P v' := by
 rw [PC, QDp _ _ (by rw [Qap]; omega), Qap, QDp _ _ (by rw [QCP, h]; omega), QCP, h]
 rfl
theorem Qrt (c : Cmd) {P vs : List UInt8} (v : Value) (k : Nat) (h : k + vs.length ≤ P.length) : QaB (PC c P v) (20 + k) (vs.map W8) = PC c (putB P k vs) v := by
 have hc := Qap c
 rw [PC, PC, ← QcU, QaB, QaB, List.take_append, hc, QCZ (by omega), Nat.add_sub_cancel_left, QDK (by rw [QCP]; omega), List.drop_append, hc, QEr (by omega), QCQ, QCP, show 20 + k + vs.length - 20 = k + vs.length by omega, QD2 (by rw [QCP]; omega)]
 simp only [QC3]
section
variable {ops : Array Oper} {rest : List Oper} {o : Oper} {a : Act} {w : World} {Q : Exit → Act → World → Prop}
theorem Qbp (hgd : o.guard = none) (hd : o.dst = none) (x y : Operand) (ho : o.op = .store 58 x y) {g : Nat} {t : TypeId} {l : List Value} {c : Cmd} {P : List UInt8} {v : Value} (hg : Blk w g t l) (hx : a.eval x = .pointer (some ⟨g, 0, none⟩)) (hy : a.eval y = .agg (PC c P v).toArray) (hP : P.length = 768) (hv : v.oneCell' = true) (hl : l.length = 789)
 (h : ∀ w', Blk w' g t (PC c P v) → Only g w w' → wpList Tryz.prog ops Q rest a w') : wpList Tryz.prog ops Q (o :: rest) a w :=
 Qa6 hgd hd _ x y ho g t l _ hg hx hy 789 Qb8 (QaG c hP v) hl (QwB c P hv) h
theorem Qnp (hw : Region.wanted o (yielded ops a.tmps) = true) (x : Operand) (ho : o.op = .load 58 x) {g : Nat} {t : TypeId} {c : Cmd} {P : List UInt8} {v : Value} (hb : Blk w g t (PC c P v)) (hP : P.length = 768) (hx : a.eval x = .pointer (some ⟨g, 0, none⟩))
 (h : wpList Tryz.prog ops Q rest (a.put o.dst (.agg (PC c P v).toArray)) w) : wpList Tryz.prog ops Q (o :: rest) a w :=
 QaN hw _ x ho g 0 _ (fun j v hv => by rw [QDf]; exact hb.cellD j hv) hx _ Tryz.underlying58 rfl (by rw [QaG c hP]; exact Qb8) h
theorem Qg3 (hw : Region.wanted o (yielded ops a.tmps) = true) (x : Operand) (ho : o.op = .load 56 x) {g : Nat} {t : TypeId} {c : Cmd} {P : List UInt8} {v : Value} (hb : Blk w g t (PC c P v)) (hx : a.eval x = .pointer (some ⟨g, 0, none⟩))
 (h : wpList Tryz.prog ops Q rest (a.put o.dst (.agg (CC c).toArray)) w) : wpList Tryz.prog ops Q (o :: rest) a w :=
 QaN hw _ x ho g 0 _ (fun j v hv => hb.cellD _ (Qeb _ _ _ j v hv)) hx _ Tryz.underlying56 rfl (by rw [Qap]; exact Qyf) h
end
set_option maxRecDepth 100000 in
theorem Qg2 (c : Cmd) (w : World) : Calls Tryz.prog 10 #[.agg (CC c).toArray] w fun e w' => e = .returned (.bool (!(c.kd == 1))) ∧ Later w w' := by
 have hb : Blk (w.alloc (.cells (CC c).toArray 56)) w.heap.size 56 (CC c) := Blk.new _ _ _
 have c0 := (QcP hb).1
 have n1 : (c.kd != 1) = !(c.kd == 1) := rfl
 go_enter Tryz.func10, Tryz.ntmps10
 go_wp2
 go_ret
 exact ⟨rfl, Qaa _ _⟩
set_option maxRecDepth 100000 in
theorem Qu7 (c : Cmd) (w : World) : Calls Tryz.prog 11 #[.agg (CC c).toArray] w fun e w' => e = .returned (.int .i64 (c.dl.toNat : Nat)) ∧ Later w w' := by
 have hb : Blk (w.alloc (.cells (CC c).toArray 56)) w.heap.size 56 (CC c) := Blk.new _ _ _
 have c0 := (QcP hb).2.2.1
 have hw : IntKind.i64.wrap (c.dl.toNat : Int) = (c.dl.toNat : Int) := by
  have := c.dl.toNat_lt
  simp only [IntKind.wrap, IntKind.bits, IntKind.signed]
  simp
  omega
 go_enter Tryz.func11, Tryz.ntmps11
 go_wp2
 go_ret
 exact ⟨rfl, Qaa _ _⟩
end Go.Proofs.YtadfeclgoclalaaGreat
namespace Go.Proofs.YtadfeclgoclalaaGreat
open Go.RowKit
open Go.BigFrame
theorem Qiq (s p : List UInt8) (hp : p.length = 768) (hs : s.length = 192) : (relP s p).length = 768 := by
 have h1 : (p.take 288).length = 288 := by rw [QDe]; omega
 have hf : fitW (kPay s) (p.drop 288) := ⟨Qaq (by omega), by rw [QDc]; omega, by rw [QDc]; omega⟩
 unfold relP
 split
 · rw [QCU, QhA _ _ h1, Qdy, QeK okO hf, QcO _ _ _ hf.2.1, QDc, hp]
 · exact QCY
theorem Qga (s p : List UInt8) (hp : p.length = 768) (hs : s.length = 192) : (Qdy s p).length = 480 := by
 have hf : fitW (kPay s) (p.drop 288) := ⟨Qaq (by omega), by rw [QDc]; omega, by rw [QDc]; omega⟩
 rw [Qdy, QeK okO hf, QcO _ _ _ hf.2.1, QDc, hp]
theorem Qt0 (p : List UInt8) (k n : Nat) (h : p.length = k + n) : subB p k n = p.drop k := by rw [subB, QCZ (by rw [QDc]; omega)]
theorem QxH (hd bd : List UInt8) (h1 : hd.length = 288) (h2 : bd.length = 480) : putB (putB z768 0 hd) 288 (bd.take 480) = hd ++ bd := by
 rw [QCZ (by omega), z768, show QCK 768 (0 : UInt8) = QCK 288 0 ++ QCK 480 0 by rw [QDU], QdO _ _ _ (by rw [QCY, h1]), QeR _ _ _ 288 h1 (by rw [QCY, h2])]
theorem Qpe {w : World} {base g n c : Nat} {bs : List UInt8} {rest : List Value} (h : Blk w g 5 (bs.map W8 ++ rest)) (hb : base ≤ g) (hn : bs.length = n) (hc : c = (bs.map W8 ++ rest).length) (hm : (bs.map W8 ++ rest).length ≤ maxLen) : OwnB w base (some ⟨g, 0, none⟩) n c bs := by
 subst hc
 have := Qrv h hb hm
 rw [QCP, hn] at this
 exact this
theorem Qte {w : World} {base n c : Nat} {A : Option Addr} {bs : List UInt8} {l : List Value} (h : OwnB w base A n c bs) (hc : c = l.length) : l.length ≤ maxLen := by
 subst hc
 rcases h.2 with ⟨hv, _⟩ | ⟨g, cap, cur, hv, _, _, _, hm, _⟩
 · injection hv with _ _ h3
   omega
 · injection hv with _ _ h3
   omega
set_option maxRecDepth 100000 in
set_option maxHeartbeats 8000000 in
theorem QtH (s p : List UInt8) (hp : p.length = 768) (hs : s.length = 192) (w : World) :
 Calls Tryz.prog 29 #[.agg (s.map W8).toArray, .agg (p.map W8).toArray] w fun e w' => ∃ A' c', e = .returned (.tuple #[.agg (PC (relC s p) (relP s p) (.slice A' (relB s p).length c')).toArray, .int .i64 (relE s p : Nat)]) ∧ OwnB w' w.heap.size A' (relB s p).length c' (relB s p) ∧ Later w w' := by
 have HZ := hid zcPe
 have HH := hid zcH
 have C1 := Qbg w 91 (s.map W8)
 have C2 := C1.add (Qaa _ (.cells (p.map W8).toArray 45)) (k := w.heap.size + 1) (by simp) (by omega) (Blk.new' _ _ _ (by simp))
 have C3 := C2.add (Qaa _ (.cells Tryz.zeroCells58 58)) (k := w.heap.size + 2) (by simp) (by omega) ((Blk.new' _ _ Tryz.zeroCells58.toList (by simp)).cast HZ.out)
 clear C1 C2
 have hdl : (p.take 288).length = 288 := by rw [QDe]; omega
 have k2 : (kPay s).length = 32 := Qaq (by omega)
 have bl : (p.drop 288).length = 480 := by rw [QDc]; omega
 have hO := hid (QtM (p.take 288) s hdl hs)
 have hf : fitW (kPay s) (p.drop 288) := ⟨k2, by omega, by omega⟩
 have hWi := hid (fun A B c d (w : World) h1 hc h2 hd => QsI A B 32 c 480 d (kPay s) (p.drop 288) w h1 hc h2 hd (by omega) (by omega))
 rw [Qfy okO hf] at hWi
 have hBl := Qga s p hp hs
 have hst := hid (Qt0 p 288 480 hp)
 have hE : Hid (relE s p = QhX (p.take 288) s) := hid rfl
 have hC : Hid (relC s p = QkA (p.take 288) s) := hid rfl
 have hP : Hid (relP s p = if relE s p = 0 ∧ (relC s p).kd = 1 then Qjg (p.take 288) s ++ Qdy s p else z768) := hid rfl
 have hB : Hid (relB s p = if relE s p = 0 ∧ (relC s p).kd ≠ 1 then Qdy s p else []) := hid rfl
 have hON := QhA (p.take 288) s hdl
 have hput := hid (QxH (Qjg (p.take 288) s) (Qdy s p) hON hBl)
 rw [show QcL (kPay s) (p.drop 288) rsO = Qdy s p from rfl, hBl] at hWi
 have hcz : Hid (QhX (p.take 288) s ≠ 0 → QkA (p.take 288) s = cmd0) := hid (fun h => by rw [QkA, if_neg h])
 rw [← hE.out] at hcz hO
 have hsh : Hid (subB p 0 288 = p.take 288) := hid rfl
 generalize relP s p = RP at *
 generalize relB s p = RB at *
 generalize Qdy s p = BD at *
 generalize Qjg (p.take 288) s = ON at *
 generalize relE s p = RE at *
 generalize hRC : relC s p = RC at *
 have HC := hC.out
 rw [← HC] at hO hcz
 clear HC hC hE hRC
 generalize p.take 288 = PH at *
 generalize p.drop 288 = PD at *
 have hb0 := Qi4
 have hb1 := QpQ RC
 have hb2 := Qrw RC
 have hzl : (PC cmd0 z768 nil8).length = 789 := QaG _ QaF _
 have lh : ((QCK 288 (0 : UInt8)).map W8).length = 288 := by rw [QCP, QCY]
 generalize QCK 288 (0 : UInt8) = ZH at *
 go_enter Tryz.func29, Tryz.ntmps29
 go_wp2_with (first
  | (refine Qr1 0 288 rfl _ rfl (C3.nth 1 rfl) rfl Tryz.underlying42 rfl Qdc hsh.out hdl ?_)
  | (refine Qkn rfl _ rfl (C3.nth 2 rfl) hs rfl ?_)
  | fail)
 (with_reducible refine (hO.out _).mono ?_); rintro e w5 ⟨rfl, l5⟩
 replace C3 := C3.later l5
 clear l5 hO
 have Ca := C3.fresh (Qaa _ (.cells cz0.toArray 54)) (QCX _) (Blk.new w5 54 cz0)
 have Cb := Ca.add (Qaa _ (.cells Tryz.zeroCells42 42)) (k := w5.heap.size + 1) (fun q hq e => by
  have := (Ca.blk q hq).lt
  simp at this
  omega) (by have := C3.lat.size; omega) ((Blk.new' _ 42 Tryz.zeroCells42.toList (by simp)).cast HH.out)
 clear Ca C3
 by_cases hr : RE = 0
 · subst hr
   replace hP : Hid (RP = if RC.kd = 1 then ON ++ BD else z768) := hid (by rw [hP.out]; simp)
   replace hB : Hid (RB = if RC.kd ≠ 1 then BD else []) := hid (by rw [hB.out]; simp)
   clear hcz
   go_wp2_with (first
    | (refine QbO rfl rfl _ _ rfl (Cb.nth 1 rfl) rfl rfl rfl ?_; intro w6 hb6 ho6
       have Cc := Cb.write 1 rfl ho6 hb6)
    | (refine QeX rfl rfl _ _ rfl (Cc.nth 0 rfl) rfl rfl hON lh ?_; intro w7 hb7 ho7
       have Cd := Cc.write 0 rfl ho7 hb7)
    | fail)
   have Ce := Cd.drew
   clear Cb Cc Cd hb6 ho6 hb7 ho7
   refine Qad [([0, 1, 2, 3, 4], 5)] [6, 7, 8, 9, 10] [] (by as_aux_lemma => kernel_rfl) (by as_aux_lemma => kernel_rfl) (by intro _ _ d _ _ h; cases d <;> exact h) ?_
   simp only [Qag, pick, QCL, QCM, QCN, QCO, QCQ]
   repeat (go_big_quiet_step (fail))
   refine wpQuiet_nil ?_
   go_wp2_with fail
   (refine (hWi.out _ _ _ _ _ (Qci (Ce.nth 4 rfl) rfl k2) (by omega) (Qci (Ce.nth 3 rfl) hst.out bl) (QCX _)).mono ?_); rintro e w8 ⟨l8, A8, c8, rfl, o8⟩
   go_wp2_with fail
   try refine ⟨by first | assumption | exact Qab _ | exact Qaa _ _ | exact Later.refl _, ?_⟩
   try simp only [Qag, pick, QCL, QCM, QCN, QCO, QCQ]
   repeat (go_big_quiet_step (fail))
   refine wpQuiet_nil ?_
   obtain ⟨g8, r8, rfl, hg8, hb8, hc8, hcc8⟩ := QgE o8 (by omega)
   have hm8 : (BD.map W8 ++ r8).length ≤ maxLen := Qte o8 hc8
   have Cf := Ce.fresh l8 hg8 hb8
   replace hc8 := hid hc8
   clear o8 Ce hWi hb8 hg8
   go_wp2_with (first
    | (refine Qc5 rfl _ rfl (Cf.nth 2 rfl) rfl ?_)
    | (refine Qal rfl 56 _ rfl (CC RC) (by simp only [QC0, QDh, QC9]; exact hb1) ?_)
    | (refine Qal rfl 58 _ rfl (PC RC z768 nil8) (by simp only [QC0, QDh, QC9]; exact hb2) ?_)
    | (refine Qbp rfl rfl _ _ rfl ((Blk.new w8 _ Tryz.zeroCells58.toList).cast HZ.out) rfl rfl QaF rfl hzl ?_; intro w9 hb9 ho9
       have Cg := Cf.push (Qaa _ _) (QCX _) ho9 hb9)
    | (refine Qg3 rfl _ rfl (Cg.nth 0 rfl) rfl ?_)
    | fail)
   (with_reducible refine (Qg2 RC _).mono ?_); rintro e w10 ⟨rfl, l10⟩
   have Ch := Cg.later l10
   clear hb9 ho9 Cg Cf
   cases hk : (RC.kd == 1)
   · have hkn : RC.kd ≠ 1 := by simpa using hk
     have HP : RP = z768 := by rw [hP.out, if_neg hkn]
     have HB : RB = BD := by rw [hB.out, if_pos hkn]
     replace HP := hid HP
     replace HB := hid HB
     go_wp2_with (first
      | (refine Qac rfl rfl _ _ _ rfl w8.heap.size 788 _ _ (Ch.nth 0 rfl) rfl (by rw [QaG _ QaF]; omega) rfl (by kernel_rfl) ?_; intro v11 w11 hv11 hb11 ho11; simp [go_sem] at hv11; subst hv11; rw [Qxn _ QaF] at hb11
         have Ci := Ch.write 0 rfl ho11 hb11)
      | (refine Qnp rfl _ rfl (Ci.nth 0 rfl) QaF rfl ?_)
      | (refine Qbp rfl rfl _ _ rfl (Ci.nth 4 rfl) rfl rfl QaF rfl hzl ?_; intro w12 hb12 ho12
         have Cj := Ci.write 4 rfl ho12 hb12)
      | fail)
     refine bodyPost_ret (Qai rfl _ _ _ _ _ _ hb12 rfl Tryz.underlying58 rfl (by rw [QaG _ QaF]; exact Qb8)) rfl ⟨some ⟨g8, 0, none⟩, c8, by rw [HP.out, HB.out, hBl]; rfl, ?_, Cj.lat⟩
     rw [HB.out, hBl]
     exact Qpe (Cj.nth 1 rfl) (Cj.at_low 1 rfl) hBl hc8.out hm8
   · have hky : RC.kd = 1 := by simpa using hk
     have HP : RP = ON ++ BD := by rw [hP.out, if_pos hky]
     have HB : RB = [] := by rw [hB.out, if_neg (by simp [hky])]
     have hPl : (ON ++ BD).length = 768 := by rw [QCU]; omega
     have l1 : (putB z768 0 ON).length = 768 := by rw [QcK (by rw [QaF]; omega)]; exact QaF
     replace HP := hid HP
     replace HB := hid HB
     have r8 := hid (fun w (h : Blk w g8 5 (BD.map W8 ++ r8)) => (show Rd w (some ⟨g8, 0, none⟩) 480 (BD.map W8) from QfS h hBl))
     generalize ON ++ BD = PK at *
     have hs1 := hid (Qrt RC (P := z768) (vs := ON) nil8 0 (by rw [QaF]; omega))
     have hs2 := hid (Qrt RC (P := putB z768 0 ON) (vs := BD.take 480) nil8 288 (by rw [l1, QDe]; omega))
     rw [hput.out] at hs2
     generalize putB z768 0 ON = P1 at *
     go_wp2_with (first
      | (refine QoR rfl _ rfl (Ch.nth 2 rfl) hON rfl ?_)
      | (refine Qah rfl rfl 42 _ _ rfl w8.heap.size 20 _ _ (ON.map W8) (Ch.nth 0 rfl) rfl rfl (by rw [QCP, hON]; exact Qdc) (by rw [QaG _ QaF, QCP]; omega) (QaA _) ?_; intro w11 hb11 ho11; rw [hs1.out] at hb11
         have Ci := Ch.write 0 rfl ho11 hb11)
      | (refine Qat rfl _ _ _ _ rfl 5 Tryz.underlying22 QbZ w8.heap.size 308 480 480 _ _ (Ci.nth 0 rfl) (some ⟨g8, 0, none⟩) 480 c8 (BD.map W8) (r8.out _ (Ci.nth 1 rfl)) (QaA _) rfl rfl (by rw [QaG _ l1]; omega) ?_; intro w13 hb13 ho13; rw [← QEd, hs2.out] at hb13
         have Ck := Ci.write 0 rfl ho13 hb13)
      | (refine Qnp rfl _ rfl (Ck.nth 0 rfl) hPl rfl ?_)
      | (refine Qbp rfl rfl _ _ rfl (Ck.nth 4 rfl) rfl rfl hPl rfl hzl ?_; intro w12 hb12 ho12
         have Cj := Ck.write 4 rfl ho12 hb12)
      | fail)
     refine bodyPost_ret (Qai rfl _ _ _ _ _ _ hb12 rfl Tryz.underlying58 rfl (by rw [QaG _ hPl]; exact Qb8)) rfl ⟨none, 0, by rw [HP.out, HB.out]; rfl, ?_, Cj.lat⟩
     rw [HB.out]
     exact Qbb _ _ _
 · have hne : ((RE : Int) != 0) = true := by simp; omega
   have HC := hcz.out hr
   subst HC
   have HP : RP = z768 := by rw [hP.out, if_neg (fun h => hr h.1)]
   have HB : RB = [] := by rw [hB.out, if_neg (fun h => hr h.1)]
   replace HP := hid HP
   replace HB := hid HB
   clear hP hB
   go_wp2_with (first
    | (refine QbO rfl rfl _ _ rfl (Cb.nth 1 rfl) rfl rfl rfl ?_; intro w6 hb6 ho6
       have Cc := Cb.write 1 rfl ho6 hb6)
    | (refine QeX rfl rfl _ _ rfl (Cc.nth 0 rfl) rfl rfl hON lh ?_; intro w7 hb7 ho7
       have Cd := Cc.write 0 rfl ho7 hb7)
    | (refine Qal rfl 58 _ rfl (PC cmd0 z768 nil8) (by simp only [QC0, QC9]; exact hb0) ?_)
    | (refine Qbp rfl rfl _ _ rfl (Cd.nth 2 rfl) rfl rfl QaF rfl hzl ?_; intro w12 hb12 ho12
       have Cj := Cd.write 2 rfl ho12 hb12)
    | fail)
   refine bodyPost_ret (Qai rfl _ _ _ _ _ _ hb12 rfl Tryz.underlying58 rfl (by rw [QaG _ QaF]; exact Qb8)) rfl ⟨none, 0, by rw [HP.out, HB.out]; rfl, ?_, Cj.lat⟩
   rw [HB.out]
   exact Qbb _ _ _
set_option maxRecDepth 100000 in
set_option maxHeartbeats 4000000 in
theorem Qhc (A : Option Addr) (n c : Nat) (k p : List UInt8) (w : World) (hk : RdB w A n k) (hn : n ≤ 140737488355328) (hp : p.length = 768) :
 Calls Tryz.prog 16 #[.slice A n c, .agg (p.map W8).toArray] w fun e w' => ∃ A' c', e = .returned (.tuple #[.agg (PC (unwC k p) (unwP k p) (.slice A' (unwB k p).length c')).toArray, .int .i64 (unwE k p : Nat)]) ∧ OwnB w' w.heap.size A' (unwB k p).length c' (unwB k p) ∧ Later w w' := by
 have HZ := hid zcPe
 have C1 := Qbg w 45 (p.map W8)
 have C2 := C1.add (Qaa _ (.cells Tryz.zeroCells58 58)) (k := w.heap.size + 1) (by simp) (by omega) ((Blk.new' _ _ Tryz.zeroCells58.toList (by simp)).cast HZ.out)
 clear C1
 have hal : (p.take 32).length = 32 := by rw [QDe]; omega
 have hPe := hid (fun (w : World) B d hk' hu => QvB A B n c 32 d k (p.take 32) w hk' hu hn (by omega))
 have hsl := Qd6 k (p.take 32)
 have hO := hid (QtH (Qdv k (p.take 32)) p hp hsl)
 have hE : Hid (unwE k p = if Qbe k (p.take 32) = 0 then relE (Qdv k (p.take 32)) p else Qbe k (p.take 32)) := hid rfl
 have hC : Hid (unwC k p = if Qbe k (p.take 32) = 0 then relC (Qdv k (p.take 32)) p else cmd0) := hid rfl
 have hP : Hid (unwP k p = if Qbe k (p.take 32) = 0 then relP (Qdv k (p.take 32)) p else z768) := hid rfl
 have hB : Hid (unwB k p = if Qbe k (p.take 32) = 0 then relB (Qdv k (p.take 32)) p else []) := hid rfl
 have hRPl := Qiq (Qdv k (p.take 32)) p hp hsl
 have hsh : Hid (subB p 0 32 = p.take 32) := hid rfl
 generalize unwE k p = UE at *
 generalize unwC k p = UC at *
 generalize unwP k p = UP at *
 generalize unwB k p = UB at *
 generalize Qbe k (p.take 32) = ME at *
 generalize relP (Qdv k (p.take 32)) p = RP at *
 generalize relC (Qdv k (p.take 32)) p = RC at *
 generalize relB (Qdv k (p.take 32)) p = RB at *
 generalize relE (Qdv k (p.take 32)) p = RE at *
 generalize Qdv k (p.take 32) = S at *
 generalize p.take 32 = al at *
 have hb0 := Qi4
 have hzl : (PC cmd0 z768 nil8).length = 789 := QaG _ QaF _
 have hz1 := QzM
 go_enter Tryz.func16, Tryz.ntmps16
 go_wp2_with fail
 (refine (hPe.out _ _ _ (hk.later C2.lat) (Qci (C2.nth 1 rfl) hsh.out hal)).mono ?_); rintro e w3 ⟨rfl, l3⟩
 replace C2 := C2.later l3
 clear hPe l3
 by_cases h0 : ME = 0
 · subst h0
   replace hE := hid (hE.out.trans (if_pos rfl))
   replace hC := hid (hC.out.trans (if_pos rfl))
   replace hP := hid (hP.out.trans (if_pos rfl))
   replace hB := hid (hB.out.trans (if_pos rfl))
   go_wp2_with (first
    | (refine QgY rfl rfl _ _ rfl (Blk.new w3 _ Tryz.zeroCells91.toList) rfl rfl hsl hz1 ?_; intro w4 hb4 ho4
       have C3 := C2.push (Qaa _ _) (QCX _) ho4 hb4)
    | (refine Qkn rfl _ rfl (C3.nth 0 rfl) hsl rfl ?_)
    | (refine QiV rfl _ rfl (C3.nth 2 rfl) hp rfl ?_)
    | fail)
   (with_reducible refine (hO.out _).mono ?_); rintro e w5 ⟨A5, c5, rfl, o5, l5⟩
   have hone : (Value.slice A5 RB.length c5).oneCell' = true := rfl
   have C4 := C3.later l5
   have hlow : ∀ b, (Value.slice A5 RB.length c5).ownBlock = some b → b ≠ w.heap.size + 1 := fun b hb e => by
    have h1 := (World.ownsRow.lt o5 b hb).1
    have h2 := (C3.nth 1 rfl).lt
    omega
   go_wp2_with (first
    | (refine Qbp rfl rfl _ _ rfl (C4.nth 1 rfl) rfl rfl hRPl hone hzl ?_; intro w6 hb6 ho6
       have C5 := C4.write 1 rfl ho6 hb6
       have o6 := QkJ o5 ho6 hlow)
    | fail)
   refine bodyPost_ret (Qai rfl _ _ _ _ _ _ hb6 rfl Tryz.underlying58 rfl (by rw [QaG _ hRPl]; exact Qb8)) rfl ⟨A5, c5, by rw [hE.out, hC.out, hP.out, hB.out]; rfl, ?_, C5.lat⟩
   rw [hB.out]
   exact Qa5 o6 C3.lat.size
 · have hne : ((ME : Int) != 0) = true := by simp; omega
   replace hE := hid (hE.out.trans (if_neg h0))
   replace hC := hid (hC.out.trans (if_neg h0))
   replace hP := hid (hP.out.trans (if_neg h0))
   replace hB := hid (hB.out.trans (if_neg h0))
   go_wp2_with (first
    | (refine QgY rfl rfl _ _ rfl (Blk.new w3 _ Tryz.zeroCells91.toList) rfl rfl hsl hz1 ?_; intro w4 hb4 ho4
       have C3 := C2.push (Qaa _ _) (QCX _) ho4 hb4)
    | (refine Qal rfl 58 _ rfl (PC cmd0 z768 nil8) (by simp only [QC0, QC9]; exact hb0) ?_)
    | (refine Qbp rfl rfl _ _ rfl (C3.nth 1 rfl) rfl rfl QaF rfl hzl ?_; intro w6 hb6 ho6
       have C5 := C3.write 1 rfl ho6 hb6)
    | fail)
   refine bodyPost_ret (Qai rfl _ _ _ _ _ _ hb6 rfl Tryz.underlying58 rfl (by rw [QaG _ QaF]; exact Qb8)) rfl ⟨none, 0, by rw [hE.out, hC.out, hP.out, hB.out]; rfl, ?_, C5.lat⟩
   rw [hB.out]
   exact Qbb _ _ _
end Go.Proofs.YtadfeclgoclalaaGreat
namespace Go.Proofs.YtadfeclgoclalaaGreat
open Go.RowKit
open Go.BigFrame
theorem QgO (z : Value) (k : Nat) : (Builtin.zeroCells #[z] k).toList = QCK k z := by
 apply List.eq_replicate_iff.2
 refine ⟨by simp [Builtin.zeroCells], fun b hb => ?_⟩
 simp [Builtin.zeroCells, QE0] at hb
 first | exact hb.2.symm | exact hb.2 | exact hb.symm | exact hb
theorem Qf3 {P : Program} (w : World) (base : Nat) (t tn ty e : TypeId) (i : TypeInfo) (kn : IntKind) (ht : P.underlying t = some (.slice e)) (htn : P.underlying tn = some (.int kn)) (hi : P.info? e = some i) (hz : i.zero = some (.int .u8 0)) (hs1 : i.size = 1) (hby : i.bytes = 1)
 (v : Value) (n : Nat) (xs : List Value) (hown : w.ownsRow base e 1 v n xs) (k : Nat) (h0 : 0 < k) (hm : n + k ≤ 1048576) (hbase : base ≤ w.heap.size) :
 ∃ v' w', (Builtin.append_ #[t, tn] ty #[v, .int .i64 (k : Int)]).run P w = .ok v' w' ∧ w'.ownsRow base e 1 v' (n + k) (xs ++ QCK k (.int .u8 0)) ∧ w.grownBy w' v.ownBlock := by
 have hzc : (Value.int .u8 0).cells = #[Value.int .u8 0] := rfl
 have hlen : (xs ++ QCK k (Value.int .u8 0)).length = (n + k) * 1 := by rw [QCU, hown.1, QCY]; omega
 have hml : n + k ≤ maxLen := by unfold maxLen; omega
 have grown : ∀ (old : Nat), old < n + k → ∀ (row : Option Nat),
  (w.drew.alloc (.cells (xs.toArray ++ Builtin.zeroCells (Value.int .u8 0).cells k ++ Builtin.zeroCells (Value.int .u8 0).cells (grownCap w (n + k) old e - (n + k))) e)).ownsRow base e 1
    (.slice (some ⟨w.heap.size, 0, none⟩) (n + k) (grownCap w (n + k) old e)) (n + k) (xs ++ QCK k (.int .u8 0)) ∧
  w.grownBy (w.drew.alloc (.cells (xs.toArray ++ Builtin.zeroCells (Value.int .u8 0).cells k ++ Builtin.zeroCells (Value.int .u8 0).cells (grownCap w (n + k) old e - (n + k))) e)) row := by
  intro old ho row
  have hge := grownCap_ge w (n + k) old e
  have hcm : grownCap w (n + k) old e ≤ maxLen := grownCap_le_maxLen w (n + k) old e hml
  refine ⟨⟨hlen, .inr ⟨w.heap.size, _, _, rfl, hbase, heap_alloc_new w.drew _, hge, hcm, ?_, ?_⟩⟩, ⟨rfl, rfl, rfl, by simp, fun j hj _ => heap_alloc_old w.drew _ hj⟩⟩
  · have hx := hown.1
    simp only [Array.size_append, List.size_toArray, size_zeroCells, hzc, hx]
    simp
    omega
  · simp only [Array.toList_append, hzc, QgO]
    rw [← hlen]
    exact List.take_left
 rcases hown.2 with ⟨rfl, rfl⟩ | ⟨g, cap, cur, rfl, hbg, hg, hnc, hcm, hcs, htake⟩
 · have hx : xs = [] := QDq (by simpa using hown.1)
   subst hx
   have hr := Lib.run_append_nil_zeros (P := P) w t tn ty e i _ .i64 kn ht htn hi hz k h0 (by omega) (by omega) (by rw [hby]; omega)
   have hgr := grown 0 (by omega) (Value.ownBlock (.slice none 0 0))
   simp only [QDf, QCQ, Array.empty_append] at hgr ⊢
   exact ⟨_, _, hr, hgr.1, hgr.2⟩
 · by_cases hroom : n + k ≤ cap
   · have hst := run_storeCells_at P g n e (QCK k (Value.int .u8 0)) 0 cur w hg (by rw [QCY]; omega) (by intro u hu; rw [(List.mem_replicate.1 hu).2]; rfl)
     simp only [QEc] at hst
     have hw : IntKind.i64.wrap (k : Int) = k := by rw [IntKind.wrap_i64]; omega
     have hneg : ¬ ((k : Int) < 0) := by omega
     have h48i : ¬ (281474976710656 < (k : Int)) := by omega
     have hk0 : k ≠ 0 := by omega
     have hr : (Builtin.append_ #[t, tn] ty #[.slice (some ⟨g, 0, none⟩) n cap, .int .i64 (k : Int)]).run P w = .ok (.slice (some ⟨g, 0, none⟩) (n + k) cap) (w.setRow g (cur.toList.take n ++ QCK k (Value.int .u8 0) ++ cur.toList.drop (n + (QCK k (Value.int .u8 0)).length)).toArray) := by
      simp [Builtin.append_, run_underlying ht, run_underlying htn, sizeOf, typeInfo, zeroValue, hi, hz, hs1, hby, hzc, QgO, asInt, asIntOf, hw, hneg, h48i, hk0, hroom, Addr.add_lit]
      simp only [QCY, QC3] at hst
      rw [hst]
      simp
     refine ⟨_, _, hr, ⟨hlen, .inr ⟨g, cap, _, rfl, hbg, setRow_heap w g cur _ e _ hg, hroom, hcm, ?_, ?_⟩⟩, ⟨rfl, rfl, rfl, by simp, fun j _ hj => setRow_other w g j _ (fun e => hj (by simp [Value.ownBlock, e]))⟩⟩
     · simp only [List.size_toArray, QCU, QDe, QDc, Array.length_toList, QCY]
       omega
     · have ht' : cur.toList.take n = xs := by simpa using htake
       rw [ht', ← hlen]
       exact List.take_left
   · have holds : ∀ j u, xs[j]? = some u → w.drew.cell? ((⟨g, 0, none⟩ : Addr).add j) = some u := fun j u hu => hown.cells (g := g) rfl j u hu
     have hf := run_firstCells_some (P := P) w.drew i.size n ⟨g, 0, none⟩ n cap xs (by rw [hs1]; exact hown.1) holds
     have hr := Lib.run_append_grow_zeros (P := P) w t tn ty e i _ .i64 kn ht htn hi hz (some ⟨g, 0, none⟩) n cap xs hf k h0 (by omega) (by omega) (by omega) (by rw [hby]; omega) (growslice_fits (by omega) (by rw [hby]; omega))
     have hgr := grown cap (by omega) (some g)
     exact ⟨_, _, hr, hgr.1, hgr.2⟩
section
variable {P : Program} {ops : Array Oper} {rest : List Oper} {o : Oper} {a : Act} {w : World} {Q : Exit → Act → World → Prop}
theorem Qd0 (hgd : o.guard = none) (s x : Operand) (t tn : TypeId) (ho : o.op = .call { callee := .builtin .append, args := #[s, x], argTypes := #[t, tn] })
 (e : TypeId) (kn : IntKind) (ht : P.underlying t = some (.slice e)) (htn : P.underlying tn = some (.int kn)) (hinfo : (P.info? e).map (fun i => (i.zero, i.size, i.bytes)) = some (some (.int .u8 0), 1, 1))
 (base : Nat) (v : Value) (n : Nat) (vs : List Value) (hown : w.ownsRow base e 1 v n vs) (hb : base ≤ w.heap.size) (k : Nat) (h0 : 0 < k) (hs : a.eval s = v) (hx : a.eval x = .int .i64 (k : Int)) (hsz : n + k ≤ 1048576)
 (h : ∀ A' c' w', w'.ownsRow base e 1 (.slice A' (n + k) c') (n + k) (vs ++ QCK k (.int .u8 0)) → w.grownBy w' v.ownBlock → wpList P ops Q rest (a.put o.dst (.slice A' (n + k) c')) w') :
 wpList P ops Q (o :: rest) a w := by
 obtain ⟨i, hi, hz, hsize, hbytes⟩ := info_parts hinfo
 obtain ⟨v', w', hrun, h2, h3⟩ := Qf3 (P := P) w base t tn o.type e i kn ht htn hi hz hsize hbytes v n vs hown k h0 hsz hb
 refine Lib.wpList_append_run w hgd s x t tn ho v (.int .i64 (k : Int)) hs hx v' w' hrun ?_
 obtain ⟨A', c', rfl⟩ := Qll h2
 exact h A' c' w' h2 h3
end
end Go.Proofs.YtadfeclgoclalaaGreat
namespace Go.Proofs.YtadfeclgoclalaaGreat
open Go.BigFrame
open Go.RowKit
section
variable {P : Program} {ops : Array Oper} {Q : Exit → Act → World → Prop} {T : World → Prop}
def wpS (P : Program) (ops : Array Oper) (Q : Exit → Act → World → Prop) (T : World → Prop) : List (Nat × Bool) → Act → World → Prop
 | [], a, w => Q .normal a w
 | (i, true) :: r, a, w => ∃ o, ops[i]? = some o ∧ if Region.wanted o (yielded ops a.tmps) then o.quiet P a T (fun a' => wpS P ops Q T r a' w) else wpS P ops Q T r (a.put o.dst undef) w
 | (i, false) :: r, a, w => wpOp P ops Q i (fun a' w' => T w' ∧ wpS P ops Q T r a' w') a w
def Qny (ops : Array Oper) : List (Nat × Bool) → Array Bool → Bool
 | [], listed => (Region.ready .any ops listed).isEmpty
 | (i, true) :: r, listed => (Region.ready .any ops listed).contains i && Region.free .any ops listed i && ((ops[i]?).map calm).getD false && Qny ops r (listed.setIfInBounds i true)
 | (i, false) :: r, listed => decide (Region.ready .any ops listed = [i]) && Qny ops r (listed.setIfInBounds i true)
theorem simS (hsel : ∀ (j : Nat) (o : Oper) cs b, ops[j]? = some o → o.op ≠ .select cs b) (hQ1 : ∀ c a d v w, Q (.panic c) (a.put d v) w → Q (.panic c) a w) :
 ∀ (l : List (Nat × Bool)) (listed : Array Bool) (a : Act) (w : World), Qny ops l listed = true → T w → wpS P ops Q T l a w → QhN P ops Q T l.length listed a w
 | [], listed, a, w, hB, _, h => ⟨by simpa [Qny] using hB, h⟩
 | (i, true) :: r, listed, a, w, hB, hT, h => by
   simp only [Qny, QC7] at hB
   obtain ⟨⟨⟨hrd, hf⟩, hcm⟩, hok⟩ := hB
   obtain ⟨o, ho, h⟩ := h
   have hri : i ∈ Region.ready .any ops listed := by simpa using hrd
   have hcm' : calm o = true := by simpa [ho] using hcm
   have next : ∀ v, YieldsIf P ops T o v a → wpS P ops Q T r (a.put o.dst v) w → QhN P ops Q T (r.length + 1) listed a w := fun v hy hnx =>
    QhK ho hsel (fun c a w => hQ1 c a _ _ w) r.length listed a w (Region.free_spec ho hf) hri hy hT (simS hsel hQ1 r _ _ w hok hT hnx)
   by_cases hw : Region.wanted o (yielded ops a.tmps) = true
   · rw [if_pos hw] at h
     obtain ⟨v, hy, hnx⟩ := Qck hcm' hw h
     exact next v hy hnx
   · rw [if_neg hw] at h
     exact next undef (.inr ⟨by simpa using hw, rfl⟩) h
 | (i, false) :: r, listed, a, w, hB, hT, h => by
   simp only [Qny, QC7, decide_eq_true_eq] at hB
   obtain ⟨hrd, hok⟩ := hB
   refine ⟨fun he => (by rw [hrd] at he; cases he), fun j hj => ?_⟩
   rw [hrd] at hj
   obtain rfl : j = i := by simpa using hj
   exact wpOp_mono (fun a' w' h' => ⟨h'.1, simS hsel hQ1 r _ a' w' hok h'.1 h'.2⟩) h
def Qba (P : Program) (l : List Oper) (Q : Exit → Act → World → Prop) (T : World → Prop) (qs : List Nat) : List (List Nat × Nat) → Act → World → Prop
 | [], a, w => wpQuiet P l.toArray T (fun a' => wpList P l.toArray Q [] a' w) (pick l qs) a
 | (q, i) :: r, a, w => wpQuiet P l.toArray T (fun a' => wpList P l.toArray (Exit.then (fun a'' w'' => T w'' ∧ Qba P l Q T qs r a'' w'') Q) (pick l [i]) a' w) (pick l q) a
theorem QfX {l : List Oper} {Qa : Act → Prop} {r : List (Nat × Bool)} {w : World} (hQa : ∀ a, Qa a → wpS P l.toArray Q T r a w) : ∀ (qs : List Nat), (qs.all fun i => decide (i < l.length)) = true →
 ∀ a, wpQuiet P l.toArray T Qa (pick l qs) a → wpS P l.toArray Q T (qs.map (·, true) ++ r) a w
 | [], _, a, h => hQa a h
 | i :: qs, hb, a, h => by
   simp only [QDY, QC7, decide_eq_true_eq] at hb
   have hi : l[i]? = some (l[i]'hb.1) := QCR hb.1
   refine ⟨l[i]'hb.1, by simp [hb.1], ?_⟩
   simp only [pick, hi, QCN, QEj, wpQuiet] at h
   by_cases hw : Region.wanted (l[i]'hb.1) (yielded l.toArray a.tmps) = true
   · rw [if_pos hw] at h ⊢
     exact Oper.quiet_mono (fun a' h' => QfX hQa qs hb.2 a' h') h
   · rw [if_neg hw] at h ⊢
     exact QfX hQa qs hb.2 _ h
def Qq8 (qs : List Nat) : List (List Nat × Nat) → List (Nat × Bool)
 | [] => qs.map (·, true) ++ []
 | (q, i) :: r => q.map (·, true) ++ ((i, false) :: Qq8 qs r)
def Qr4 (l : List Oper) (qs : List Nat) (segs : List (List Nat × Nat)) : Bool :=
 Region.noSelect l.toArray && (qs.all fun i => decide (i < l.length)) && (segs.all fun s => decide (s.2 < l.length) && s.1.all fun i => decide (i < l.length)) &&
 Qny l.toArray (Qq8 qs segs) (QD8 l.length false) && decide ((Qq8 qs segs).length = l.length)
theorem Qjx {l : List Oper} {qs : List Nat} (hq : (qs.all fun i => decide (i < l.length)) = true) :
 ∀ (segs : List (List Nat × Nat)), (segs.all fun s => decide (s.2 < l.length) && s.1.all fun i => decide (i < l.length)) = true → ∀ a w, Qba P l Q T qs segs a w → wpS P l.toArray Q T (Qq8 qs segs) a w
 | [], _, a, w, h => QfX (fun a h => h) qs hq a h
 | (q, i) :: r, hb, a, w, h => by
   simp only [QDY, QC7, decide_eq_true_eq] at hb
   refine QfX (fun a h => ?_) q hb.1.2 a h
   exact wpOp_mono (fun a' w' h' => ⟨h'.1, Qjx hq r hb.2 a' w' h'.2⟩) (Qcg hb.1.1 h)
theorem QbP {id : Nat} {a : Act} {w : World} {l : List Oper} (T : World → Prop) (segs : List (List Nat × Nat)) (qs : List Nat) (hm : P.follows .mixedOrders = true) (hB : Qr4 l qs segs = true)
 (hQ : ∀ c a d v w, Q (.panic c) (a.put d v) w → Q (.panic c) a w) (h : T w.drew ∧ Qba P l Q T qs segs a w.drew) : (Code.region id l.toArray true).wp P Q a w := by
 simp only [Qr4, QC7, decide_eq_true_eq] at hB
 obtain ⟨⟨⟨⟨hs, hq⟩, hsg⟩, hsq⟩, hlen⟩ := hB
 refine wp_region_any hm (Qhl (T := T) _ _ _ _ ?_)
 have := simS (P := P) (Q := Q) (T := T) (Region.noSelect_spec hs) hQ (Qq8 qs segs) (QD8 l.length false) a w.drew hsq h.1 (Qjx hq segs hsg a _ h.2)
 rw [hlen] at this
 simpa using this
end
theorem Spared.later {w w1 w2 : World} {bad : List Nat} (h : Spared w bad w1) (hl : Later w1 w2) : Spared w bad w2 :=
 ⟨QDy h.1 hl.size, fun b hb hn => (hl.below.block b (QDb hb h.1)).trans (h.2 b hb hn)⟩
theorem Spared.grown {w w1 w2 : World} {bad : List Nat} {row : Option Nat} (h : Spared w bad w1) (hg : w1.grownBy w2 row) (hr : ∀ k, row = some k → w.heap.size ≤ k) : Spared w bad w2 :=
 ⟨QDy h.1 hg.size, fun b hb hn => (hg.block b (QDb hb h.1) (fun e => by have := hr b e.symm; omega)).trans (h.2 b hb hn)⟩
theorem Spared.fresh {w w1 w2 : World} {bad : List Nat} {g : Nat} (h : Spared w bad w1) (ho : Only g w1 w2) (hg : w.heap.size ≤ g) : Spared w bad w2 :=
 h.grown ho (fun k e => by cases e; exact hg)
end Go.Proofs.YtadfeclgoclalaaGreat
namespace Go.Proofs.YtadfeclgoclalaaGreat
open Go.RowKit
open Go.BigFrame
theorem Qta (xs ys : List UInt8) : xorB xs ys = xorB ys xs := List.zipWith_comm_of_comm (fun x y => UInt8.xor_comm x y)
set_option maxRecDepth 100000 in
set_option maxHeartbeats 4000000 in
theorem Qjv (at0 : Int) (B : Option Addr) (n c : Nat) (key b S : List UInt8) (w : World) (hkl : key.length = 32) (hb : RdB w B n b) (hn0 : 0 < n) (hn : n ≤ 1048576) (hS : S.length = n)
 (hBy : ∀ g w, RdB w (some ⟨g, 0, none⟩) 32 key → Calls Tryz.prog 82 #[.slice (some ⟨g, 0, none⟩) 32 32, .int .i64 at0, .int .i64 (n : Int)] w fun e w' => ∃ A' c', e = .returned (.slice A' n c') ∧ OwnB w' w.heap.size A' n c' S ∧ Later w w') :
 Calls Tryz.prog 58 #[.agg (key.map W8).toArray, .int .i64 at0, .slice B n c] w fun e w' => ∃ A' c', e = .returned (.slice A' n c') ∧ OwnB w' w.heap.size A' n c' (xorB b S) ∧ Later w w' := by
 have hbl := hb.len
 obtain ⟨b0, p, rfl, hb00, _⟩ := hb.2 hn0
 have hk : Blk (w.alloc (.cells (key.map W8).toArray 31)) w.heap.size 31 (key.map W8) := Blk.new _ _ _
 have L := Qaa w (.cells (key.map W8).toArray 31)
 have hB2 := hid hBy
 have hlen : S.length = b.length := by omega
 have hX := hid (fun k => Qeo hlen k)
 have hG := hid (fun k (h : k < S.length) => QgG hlen h)
 have hSt := hid (fun k (h : k < S.length) => QfW hlen h)
 have hA := hid (QgZ hlen)
 have hN := hid (Qf1 S b)
 have hxl := QaU hlen
 rw [Qta b S]
 clear hBy
 go_enter Tryz.func58, Tryz.ntmps58
 go_wp2_with fail
 (refine (hB2.out _ _ (Qe7 hk hkl)).mono ?_); rintro e w2 ⟨A2, c2, rfl, o2, l2⟩
 obtain ⟨g2, r2, rfl, hg2, hb2, hc2, hcc2⟩ := QgE o2 hn0
 have hm2 : (S.map W8 ++ r2).length ≤ maxLen := Qte o2 hc2
 have hgw : w.heap.size ≤ g2 := QDy L.size hg2
 replace hc2 := hid hc2
 have L2 := L.trans l2
 clear hB2 hk L l2 hg2 o2
 go_wp2_with fail
 go_loopw [8] (fun i wr => ∃ k : Nat, k ≤ n ∧ i = .int .i64 k ∧ Blk wr g2 5 ((QfH S b k).map W8 ++ r2) ∧ Later w wr) (fun i _ => n - (intOf i).toNat)
 case atStart => exact ⟨0, by omega, rfl, by rw [hN.out]; exact hb2, L2⟩
 case round =>
  clear hb2 L2
  obtain ⟨k, hk, rfl, hb2, L2⟩ := hrel
  by_cases hlt : k < n
  · have hlb : b0 < wr.drew.heap.size := QDb hb00 (L2.trans (Qab _)).size
    have hlg : g2 < wr.drew.heap.size := hb2.drew.lt
    have c1 := QcS (hb.later (L2.trans (Qab wr))) k hlt
    have hxk := hX.out k (by omega)
    have d1 := hb2.drew.cellD k (show ((QfH S b k).map W8 ++ r2)[k]? = some (W8 (S.getD k 0)) by rw [QC8 (by rw [QCP]; omega), QC6, hG.out k (by omega)]; rfl)
    have HS := hid (hSt.out k (by omega))
    have hb3 := hb2.drew
    have L3 := L2.trans (Qab wr)
    generalize S.getD k 0 = x at *
    generalize b.getD k 0 = y at *
    go_wp2_with fail
    refine Qad [] [0, 1, 2, 3, 4, 5, 6, 7, 8, 9, 10, 11] [12] (by as_aux_lemma => kernel_rfl) (by as_aux_lemma => kernel_rfl) (by intro _ _ d _ _ h; cases d <;> exact h) ?_
    simp only [Qag, pick, QCL, QCM, QCN, QCO, QCQ]
    repeat (go_big_quiet_step (fail))
    refine wpQuiet_nil ?_
    go_wp2_with (first
     | (refine Qac rfl rfl _ _ _ rfl g2 k _ _ hb3 rfl (by rw [QCU, QCP]; omega) rfl QbZ ?_; intro v' w5 hv' hb5 ho5; simp [go_sem] at hv'; subst hv')
     | fail)
    rw [QEq _ _ (by rw [QCP]; omega), QbB, HS.out] at hb5
    go_roundw
    case rel => exact ⟨k + 1, by omega, by go_num, hb5, L3.only ho5 hgw⟩
    case measure => simp [intOf]; omega
  · obtain rfl : k = n := by omega
    have hAll := hA.out
    rw [hS] at hAll
    rw [hAll] at hb2
    go_wp2_with fail
    go_ret
    exact ⟨some ⟨g2, 0, none⟩, c2, rfl, Qpe hb2 hgw (by omega) (by rw [hc2.out, QCU, QCU, QCP, QCP]; omega) (by rw [QCU, QCP] at hm2 ⊢; omega), L2⟩
theorem QlU (B : Option Addr) (n c : Nat) (key b : List UInt8) (w : World) (hkl : key.length = 32) (hb : RdB w B n b) (hn0 : 0 < n) (hn : n ≤ 65536) :
 Calls Tryz.prog 58 #[.agg (key.map W8).toArray, .int .i64 0, .slice B n c] w fun e w' => ∃ A' c', e = .returned (.slice A' n c') ∧ OwnB w' w.heap.size A' n c' (xorB b (chaS key n)) ∧ Later w w' :=
 Qjv 0 B n c key b (chaS key n) w hkl hb hn0 (by omega) (Qau key n) (fun g w h => Qho (some ⟨g, 0, none⟩) 32 n key w h hn)
set_option maxRecDepth 100000 in
set_option maxHeartbeats 2000000 in
theorem Qok (A B : Option Addr) (n c m d : Nat) (key al be : List UInt8) (w : World) (hkl : key.length = 32) (ha : RdB w A n al) (hb : RdB w B m be) (hn : n ≤ 1048576) (hm : m ≤ 1048576) :
 Calls Tryz.prog 59 #[.agg (key.map W8).toArray, .slice A n c, .slice B m d] w fun e w' => ∃ A' c', e = .returned (.slice A' 16 c') ∧ OwnB w' w.heap.size A' 16 c' (tagB key al be) ∧ Later w w' := by
 have hk : Blk (w.alloc (.cells (key.map W8).toArray 31)) w.heap.size 31 (key.map W8) := Blk.new _ _ _
 have L := Qaa w (.cells (key.map W8).toArray 31)
 have hal := ha.len
 have hbl := hb.len
 have hSh := hid (fun A c d (w : World) (h1 : RdB w (some ⟨c, 0, none⟩) 32 key) h2 => QlD (some ⟨c, 0, none⟩) A 32 32 (n + m) d key (al ++ be) w h1 (by omega) h2 (by omega))
 have hT : Hid ((Qbm key (al ++ be)).take 16 = tagB key al be) := hid rfl
 rw [hT.out] at hSh
 generalize tagB key al be = TG at *
 go_enter Tryz.func59, Tryz.ntmps59
 go_wp2_with fail
 generalize w.alloc _ = w1 at *
 refine QbP (Spared w1 []) [([0, 1, 3], 2), ([], 4), ([], 5)] [6] (by as_aux_lemma => kernel_rfl) (by as_aux_lemma => kernel_rfl) (by intro _ _ d _ _ h; cases d <;> exact h) ⟨Spared.refl _ _, ?_⟩
 simp only [Qba, pick, QCL, QCM, QCN, QCO, QCQ]
 repeat (first | (go_big_quiet_step (fail)) | (go_big_quiet_want; go_big_quiet_op; refine ⟨_, fun _ _ => rfl, ?_⟩; go_big_quiet_on))
 refine wpQuiet_nil ?_
 go_wp2_with fail
 (refine (Qbv A n c al _ ((ha.later L).later (Qab _)) (by omega)).mono ?_); rintro e w2 ⟨A2, c2, rfl, o2, l2⟩
 have S2 := (Spared.refl w1 []).later l2
 go_wp2_with fail
 refine ⟨S2, ?_⟩
 try simp only [Qba, pick, QCL, QCM, QCN, QCO, QCQ]
 repeat (first | (go_big_quiet_step (fail)) | (go_big_quiet_want; go_big_quiet_op; refine ⟨_, fun _ _ => rfl, ?_⟩; go_big_quiet_on))
 refine wpQuiet_nil ?_
 go_wp2_with (first
  | (refine Qaj rfl _ _ _ rfl 5 _ 1 Tryz.underlying22 Qbl rfl w1.drew _ n _ o2 l2 B m d _ (Rd.later hb ((L.trans (Qab _)).trans l2)) (QaA _) rfl rfl (by omega) (by omega) ?_; intro A3 c3 w3 hown3 hl3 hg3 _)
  | fail)
 simp only [Act.put, QCT, QCW, QCV]
 have S3 := S2.grown hg3 (fun k hk => (World.ownsRow.lt o2 k hk).1)
 refine ⟨S3, ?_⟩
 try simp only [Qba, pick, QCL, QCM, QCN, QCO, QCQ]
 repeat (first | (go_big_quiet_step (fail)) | (go_big_quiet_want; go_big_quiet_op; refine ⟨_, fun _ _ => rfl, ?_⟩; go_big_quiet_on))
 refine wpQuiet_nil ?_
 go_wp2_with fail
 (refine (hSh.out _ _ _ _ (Qe7 ((hk.later (Qab _)).later hl3) hkl) (Qd8 hown3).rd).mono ?_); rintro e w4 ⟨A4, c4, rfl, o4, l4⟩
 go_wp2_with fail
 refine ⟨S3.later l4, ?_⟩
 try simp only [Qba, pick, QCL, QCM, QCN, QCO, QCQ]
 repeat (first | (go_big_quiet_step (fail)) | (go_big_quiet_want; go_big_quiet_op; refine ⟨_, fun _ _ => rfl, ?_⟩; go_big_quiet_on))
 refine wpQuiet_nil ?_
 go_wp2_with fail
 go_ret
 exact ⟨_, _, rfl, o4.mono ((L.trans (Qab _)).trans hl3).size, ((L.trans (Qab _)).trans hl3).trans l4⟩
end Go.Proofs.YtadfeclgoclalaaGreat
namespace Go.Proofs.YtadfeclgoclalaaGreat
open Go.RowKit
open Go.BigFrame
theorem Qu5 (m : Y16) (h : ∀ j, j < 16 → m.val.getD j 0 = 0) : (m.val == QaS.val) = true := by
 rw [beq_iff_eq]
 have hl := m.2
 apply List.ext_getElem?
 intro j
 show _ = (QCK 16 (0 : UInt8))[j]?
 by_cases hj : j < 16
 · rw [List.getElem?_replicate_of_lt hj, QCR (by omega)]
   have := h j hj
   rw [QCS, QCR (by omega)] at this
   rw [← this]
   rfl
 · rw [QDz (by omega), QDz (by rw [QCY]; omega)]
theorem QuB (m : Y16) {j : Nat} (hj : j < 16) (h : m.val.getD j 0 ≠ 0) : (m.val == QaS.val) = false := by
 rw [beq_eq_false_iff_ne]
 intro e
 apply h
 rw [e]
 show (QCK 16 (0 : UInt8)).getD j 0 = 0
 rw [QCS, List.getElem?_replicate_of_lt hj]
 rfl
set_option maxRecDepth 100000 in
set_option maxHeartbeats 1000000 in
theorem Qjy (c : Cmd) (w : World) : Calls Tryz.prog 52 #[.agg (CC c).toArray] w fun e w' => e = .returned (.bool (!(c.ma.val == QaS.val))) ∧ Later w w' := by
 have hb : Blk (w.alloc (.cells (CC c).toArray 54)) w.heap.size 54 (CC c) := Blk.new _ _ _
 obtain ⟨_, _, _, _, c4⟩ := QcP hb
 have L := Qaa w (.cells (CC c).toArray 54)
 have hml := c.ma.2
 have h1 := hid (Qu5 c.ma)
 have h2 := hid (fun j hj => QuB c.ma (j := j) hj)
 have hc4 := hid (fun j (hj : j < 16) => c4 j (W8 (c.ma.val.getD j 0)) (by rw [QC6, QCS, QCR (by omega)]; rfl))
 have hlt := hb.lt
 clear c4 hb
 go_enter Tryz.func52, Tryz.ntmps52
 go_wp2_with fail
 generalize w.alloc _ = w1 at *
 generalize w.heap.size = g at *
 go_loopw [3] (fun i wr => ∃ k : Nat, k ≤ 16 ∧ i = .int .i64 k ∧ Hid (∀ j, j < k → c.ma.val.getD j 0 = 0) ∧ Later w1 wr) (fun i _ => 16 - (intOf i).toNat)
 case atStart => exact ⟨0, by omega, rfl, hid (fun j h => by omega), Later.refl w1⟩
 case round =>
  obtain ⟨k, hk, rfl, hall, L1⟩ := hrel
  by_cases hlt' : k < 16
  · have hc := (L1.below.cell (p := ⟨g, 4 + k, none⟩) hlt).trans (hc4.out k hlt')
    have hbad := hid (h2.out k hlt')
    have hstep : Hid (c.ma.val.getD k 0 = 0 → ∀ j, j < k + 1 → c.ma.val.getD j 0 = 0) := hid (fun h j hj => by
     by_cases e : j = k
     · rw [e, h]
     · exact hall.out j (by omega))
    generalize c.ma.val.getD k 0 = z at *
    cases hz : (z == 0)
    · have hz' : (z != 0) = true := by rw [bne, hz]; rfl
      have hne : Hid (z ≠ 0) := hid (by simpa using hz)
      go_wp2
      go_ret
      exact ⟨by rw [hbad.out hne.out]; rfl, L.trans L1⟩
    · have hz' : (z != 0) = false := by rw [bne, hz]; rfl
      have hze : Hid (z = 0) := hid (by simpa using hz)
      go_wp2
      exact ⟨⟨k + 1, by omega, by go_num, hid (hstep.out hze.out), L1⟩, by simp [intOf]; omega⟩
  · obtain rfl : k = 16 := by omega
    have hv := h1.out hall.out
    go_wp2
    go_ret
    exact ⟨by rw [hv]; rfl, L.trans L1⟩
theorem QsT (c : Cmd) : cmdE c = if c.kd < 1 ∨ 4 < c.kd then 1 else if ((c.kd == 1 && c.nx == 0) || (!(c.kd == 1) && !(c.nx == 0)) || (!(c.kd == 4) && !(c.ma.val == QaS.val))) = true then 3 else if 1000000 < c.dl then 11 else 0 := by
 rw [cmdE]
 congr 1
 have : (Qc7 c = false) = (((c.kd == 1 && c.nx == 0) || (!(c.kd == 1) && !(c.nx == 0)) || (!(c.kd == 4) && !(c.ma.val == QaS.val))) = true) := by
  rw [Qc7, show QCK 16 (0 : UInt8) = QaS.val from rfl, bne]
  cases c.kd == 1 <;> cases c.nx == 0 <;> cases c.kd == 4 <;> cases c.ma.val == QaS.val <;> simp
 simp only [this]
set_option maxRecDepth 100000 in
set_option maxHeartbeats 2000000 in
theorem QpL (c : Cmd) (w : World) : Calls Tryz.prog 81 #[.agg (CC c).toArray] w fun e w' => e = .returned (.int .i64 (cmdE c : Nat)) ∧ Later w w' := by
 have hb : Blk (w.alloc (.cells (CC c).toArray 54)) w.heap.size 54 (CC c) := Blk.new _ _ _
 obtain ⟨c0, _, c2, c3, _⟩ := QcP hb
 have L := Qaa w (.cells (CC c).toArray 54)
 have hM := hid (Qjy c)
 have hE := hid (QsT c)
 generalize cmdE c = E at *
 generalize hm0 : (c.ma.val == QaS.val) = m at *
 clear hm0
 by_cases hk : c.kd < 1 ∨ 4 < c.kd
 · have HE := hE.out
   rw [if_pos hk] at HE
   rw [HE]
   clear HE hE
   by_cases h1 : c.kd < 1
   all_goals
    have h4 : c.kd < 1 ∨ 4 < c.kd := hk
    simp only [h1, true_or, false_or] at h4
    go_enter Tryz.func81, Tryz.ntmps81
    go_wp2_with fail
    go_ret
    exact ⟨rfl, L⟩
 · have HE := hE.out
   rw [if_neg hk] at HE
   have h1 : ¬ c.kd < 1 := fun h => hk (.inl h)
   have h4 : ¬ 4 < c.kd := fun h => hk (.inr h)
   replace hE := hid HE
   clear HE hk
   go_enter Tryz.func81, Tryz.ntmps81
   cases e1 : (c.kd == 1) <;> cases e2 : (c.nx == 0)
   all_goals
    have n1 : (c.kd != 1) = !(c.kd == 1) := rfl
    have n2 : (c.nx != 0) = !(c.nx == 0) := rfl
    have n4 : (c.kd != 4) = !(c.kd == 4) := rfl
    rw [e1] at n1
    rw [e2] at n2
    have HE := hE.out
    rw [e1, e2] at HE
   case false.false =>
    replace HE := hid (show E = 3 from HE)
    go_wp2_with fail
    go_ret
    exact ⟨by rw [HE.out]; rfl, L⟩
   case true.true =>
    replace HE := hid (show E = 3 from HE)
    go_wp2_with fail
    go_ret
    exact ⟨by rw [HE.out]; rfl, L⟩
   all_goals
    cases e4 : (c.kd == 4)
    · rw [e4] at n4 HE
      replace HE := hid (show E = if (!m) = true then 3 else if 1000000 < c.dl then 11 else 0 from HE)
      go_wp2_with (first
       | (refine Qc5 rfl _ rfl hb rfl ?_)
       | fail)
      (with_reducible refine (hM.out _).mono ?_); rintro e w1 ⟨rfl, l1⟩
      replace c2 := (l1.below.cell (p := ⟨w.heap.size, 2, none⟩) hb.lt).trans c2
      cases m
      · replace HE := hid (show E = 3 from HE.out)
        go_wp2_with fail
        go_ret
        exact ⟨by rw [HE.out]; rfl, L.trans l1⟩
      · replace HE := hid (show E = if 1000000 < c.dl then 11 else 0 from HE.out)
        by_cases hd : 1000000 < c.dl
        all_goals
         go_wp2_with fail
         go_ret
         exact ⟨by rw [HE.out]; (first | rw [if_pos hd] | rw [if_neg hd]); rfl, L.trans l1⟩
    · rw [e4] at n4 HE
      replace HE := hid (show E = if 1000000 < c.dl then 11 else 0 from HE)
      by_cases hd : 1000000 < c.dl
      all_goals
       go_wp2_with fail
       go_ret
       exact ⟨by rw [HE.out]; (first | rw [if_pos hd] | rw [if_neg hd]); rfl, L⟩
end Go.Proofs.YtadfeclgoclalaaGreat
namespace Go.Proofs.YtadfeclgoclalaaGreat
open Go.RowKit
open Go.BigFrame
theorem Qxf {w : World} {b p n : Nat} {bs : List UInt8} (h : RdB w (some ⟨b, p, none⟩) n bs) (k m : Nat) (hk : k + m ≤ n) (hk0 : 0 < m) : RdB w (some ⟨b, p + k, none⟩) m (subB bs k m) := by
 have h1 := (RdB.cut h (k := k) (c := n + 1) (by omega) (by omega)).take (m := m) (by omega)
 rw [show cutA (some ⟨b, p, none⟩) k (n + 1) = some ⟨b, p + k, none⟩ by
  rw [cutA, if_neg (by omega)]
  show some ((⟨b, p, none⟩ : Addr).add k) = _
  rw [Qdr]] at h1
 exact h1
end Go.Proofs.YtadfeclgoclalaaGreat
namespace Go.Proofs.YtadfeclgoclalaaGreat
open Go.RowKit
open Go.BigFrame
section
variable {ops : Array Oper} {rest : List Oper} {o : Oper} {a : Act} {w : World} {Q : Exit → Act → World → Prop}
end
end Go.Proofs.YtadfeclgoclalaaGreat
