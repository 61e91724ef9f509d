/-
  Lemmas for the last text of this claim (part 15 of 20).
-/
import Derived.BigQuiet
import Derived.BigRegion
import Derived.ChangeOld
import Derived.Deep.RegionWith
import Derived.JoinedCond
import Derived.LaidMore
import Derived.Laws.CopyOwn
import Derived.Laws.Externs
import Derived.Laws.IdiomStrings
import Derived.Laws.Tables
import Derived.Lib.AppendStr
import Derived.Lib.AppendZerosOnto
import Derived.Lib.Mul64
import Derived.Lib.SlBytesConst
import Derived.LoopN
import Derived.OpenShut
import Derived.OrdersHeld
import Derived.ProofKit
import Derived.Shelf.Spec.BitsCarry
import Derived.ShutString
import Derived.Test.YtadfeclgoclalaaGreatProg
import Derived.Test.YtadfeclgoclalaaGreatRows
import Derived.WalkKit
import Derived.WalkLawsBesides
import Derived.WalkSpells
import Derived.Test.YtadfeclgoclalaaGreatPB
import Derived.Test.YtadfeclgoclalaaGreatPD
import Derived.Test.YtadfeclgoclalaaGreatPE
import Derived.Test.YtadfeclgoclalaaGreatPI
import Derived.Test.YtadfeclgoclalaaGreatPJ
import Derived.Test.YtadfeclgoclalaaGreatPK
import Derived.Test.YtadfeclgoclalaaGreatPM
import Derived.Test.YtadfeclgoclalaaGreatPN
open Bool renaming and_eq_true → QC7, eq_iff_iff → QDF
open List renaming replicate → QCK, getElem?_cons_succ → QCL, getElem?_cons_zero → QCM, cons_append → QCO, length_map → QCP, nil_append → QCQ, getElem?_eq_getElem → QCR, getD_eq_getElem?_getD → QCS, setIfInBounds_toArray → QCT, length_append → QCU, set_cons_zero → QCV, set_cons_succ → QCW, length_replicate → QCY, take_of_length_le → QCZ, map_toArray → QC0, not_mem_nil → QC1, mem_cons → QC2, append_assoc → QC3, getElem?_map → QC6, map_nil → QC9, length_drop → QDc, length_take → QDe, map_cons → QDh, take_append_drop → QDi, append_nil → QDr, map_replicate → QDs, drop_left' → QDt, length_set → QDA, take_left' → QDR, drop_drop → QD3, flatten_cons → QEa, map_take → QEd, drop_eq_nil_of_le → QEr, drop_zero → QEu
open Nat renaming le_refl → QCX, zero_add → QDf, add_zero → QEc
open Option renaming toList_some → QCN
open UInt64 renaming ofNat → QDd
namespace Go.Proofs.YtadfeclgoclalaaGreat
open Go.RowKit
open Go.BigFrame
abbrev sMac : ByteArray := ⟨#[109, 97, 99]⟩
abbrev Qc1 : ByteArray := ⟨#[115, 116, 114, 101, 97, 109]⟩
abbrev sPay : ByteArray := ⟨#[112, 97, 121]⟩
abbrev QbR : ByteArray := ⟨#[98, 108, 105, 110, 100]⟩
def k4 (s : List UInt8) : List UInt8 := derB s sMac ++ (derB s Qc1 ++ (derB s sPay ++ derB s QbR))
theorem QgW (s : List UInt8) : (k4 s).length = 128 := by simp [k4, Qay]
theorem Qyu (s : List UInt8) : QdF s [sMac, Qc1, sPay, QbR] 4 = k4 s := by
 rw [QdF, k4]
 simp
def ofB (s : List UInt8) : List UInt8 := if s.length = 32 then k4 s else QCK 128 0
def ofE (s : List UInt8) : Nat := if s.length = 32 then 0 else 2
theorem Qhp : (Tryz.prog.info? 89).map (·.size) = some 128 := by kernel_rfl
theorem QrW : (Tryz.prog.info? 89).bind (·.zero) = some (.agg (QCK 128 (W8 0)).toArray) := by kernel_rfl
theorem Qp7 (p q r s : List UInt8) (hp : p.length = 32) (hq : q.length = 32) (hr : r.length = 32) (hs : s.length = 32) :
 Program.built Tryz.prog 89 [(0, .agg (p.map W8).toArray), (1, .agg (q.map W8).toArray), (2, .agg (r.map W8).toArray), (3, .agg (s.map W8).toArray)] = some ((p ++ (q ++ (r ++ s))).map W8).toArray := by
 have h := QdV (n := 128) (pl := [(0, 32), (32, 32), (64, 32), (96, 32)]) Tryz.underlying89 QrW (by kernel_rfl) [(0, 0, p), (1, 32, q), (2, 64, r), (3, 96, s)] (by
  intro x hx
  simp only [QC2, QC1, or_false] at hx
  rcases hx with rfl | rfl | rfl | rfl <;> simp [hp, hq, hr, hs])
 rw [show QeJ (QCK 128 0) ([(0, 0, p), (1, 32, q), (2, 64, r), (3, 96, s)].map fun x => (x.2.1, x.2.2)) = p ++ (q ++ (r ++ s)) by
  simp only [QDh, QC9, QeJ]
  rw [show QCK 128 (0 : UInt8) = QCK 32 0 ++ (QCK 32 0 ++ (QCK 32 0 ++ QCK 32 0)) by simp]
  rw [QdO _ _ _ (by simp [hp]), QcC _ _ _ _ 32 hp (by simp [hq])]
  rw [← QC3 p q, QcC _ _ _ _ 64 (by simp [hp, hq]) (by simp [hr]), ← QC3 _ r, QeR _ _ _ 96 (by simp [hp, hq, hr]) (by simp [hs])]
  simp] at h
 exact h
theorem Qij : Program.built Tryz.prog 89 [] = some ((QCK 128 (0 : UInt8)).map W8).toArray := by
 rw [QDs]
 kernel_rfl
theorem Qm1 (p q : List UInt8) (hp : p.length = 32) (hq : q.length = 32) :
 Program.built Tryz.prog 89 [(0, .agg (p.map W8).toArray), (1, .agg (q.map W8).toArray)] = some ((p ++ (q ++ (QCK 32 0 ++ QCK 32 0))).map W8).toArray := by
 have h := QdV (n := 128) (pl := [(0, 32), (32, 32), (64, 32), (96, 32)]) Tryz.underlying89 QrW (by kernel_rfl) [(0, 0, p), (1, 32, q)] (by
  intro x hx
  simp only [QC2, QC1, or_false] at hx
  rcases hx with rfl | rfl <;> simp [hp, hq])
 rw [show QeJ (QCK 128 0) ([(0, 0, p), (1, 32, q)].map fun x => (x.2.1, x.2.2)) = p ++ (q ++ (QCK 32 0 ++ QCK 32 0)) by
  simp only [QDh, QC9, QeJ]
  rw [show QCK 128 (0 : UInt8) = QCK 32 0 ++ (QCK 32 0 ++ (QCK 32 0 ++ QCK 32 0)) by simp]
  rw [QdO _ _ _ (by simp [hp]), QcC _ _ _ _ 32 hp (by simp [hq])]] at h
 exact h
section
variable {ops : Array Oper} {rest : List Oper} {o : Oper} {a : Act} {w : World} {Q : Exit → Act → World → Prop}
theorem Qgh (hgd : o.guard = none) (hd : o.dst = none) (x y : Operand) (ho : o.op = .store 89 x y) {g : Nat} {t : TypeId} {l : List Value} {bs : List UInt8} (hg : Blk w g t l) (hx : a.eval x = .pointer (some ⟨g, 0, none⟩)) (hy : a.eval y = .agg (bs.map W8).toArray) (hbl : bs.length = 128) (hl : l.length = 128)
 (h : ∀ w', Blk w' g t (bs.map W8) → Only g w w' → wpList Tryz.prog ops Q rest a w') : wpList Tryz.prog ops Q (o :: rest) a w :=
 Qdw 128 hgd hd x y ho hg hx hy Qhp hbl hl h
theorem QtE (hw : Region.wanted o (yielded ops a.tmps) = true) (x : Operand) (ho : o.op = .load 89 x) {g : Nat} {t : TypeId} {bs : List UInt8} (hb : Blk w g t (bs.map W8)) (hl : bs.length = 128) (hx : a.eval x = .pointer (some ⟨g, 0, none⟩))
 (h : wpList Tryz.prog ops Q rest (a.put o.dst (.agg (bs.map W8).toArray)) w) : wpList Tryz.prog ops Q (o :: rest) a w :=
 Qbi hw _ x ho g t _ hb hx _ Tryz.underlying89 rfl 128 Qhp (by rw [QCP, hl]) h
end
set_option maxRecDepth 100000 in
set_option maxHeartbeats 4000000 in
theorem QxW (A : Option Addr) (n c : Nat) (s : List UInt8) (w : World) (hx : RdB w A n s) (hc : n ≤ c) (hn : n ≤ 35184372088832) :
 Calls Tryz.prog 74 #[.slice A n c] w fun e w' => e = .returned (.tuple #[.agg ((ofB s).map W8).toArray, .int .i64 (ofE s : Nat)]) ∧ Later w w' := by
 have hl := hx.len
 have B0 := Qbg w 89 Tryz.zeroCells89.toList
 have hz0 : Tryz.zeroCells89.toList.length = 128 := by kernel_rfl
 by_cases h32 : n = 32
 · subst h32
   have e1 : ofE s = 0 := by rw [ofE, if_pos hl]
   have e2 : ofB s = k4 s := by rw [ofB, if_pos hl]
   rw [e1, e2]
   clear e1 e2
   have hD := hid (fun (w : World) B d h1 h2 => Qj9 A B 32 c 4 d s [sMac, Qc1, sPay, QbR] w h1 hc hn h2 (by omega) (by omega) (by intro x hx; simp only [QC2, QC1, or_false] at hx; rcases hx with rfl | rfl | rfl | rfl <;> decide))
   rw [Qyu] at hD
   rw [k4] at *
   have hp := Qay s sMac
   have hq := Qay s Qc1
   have hr := Qay s sPay
   have ht := Qay s QbR
   generalize derB s sMac = p at *
   generalize derB s Qc1 = q at *
   generalize derB s sPay = r at *
   generalize derB s QbR = t at *
   have hbk := Qp7 p q r t hp hq hr ht
   obtain ⟨K, hK⟩ : ∃ K, K = p ++ (q ++ (r ++ t)) := ⟨_, rfl⟩
   rw [← hK] at hD hbk ⊢
   have s0 : subB K 0 32 = p := by rw [hK, Qj3 _ _ _ hp]
   have s1 : subB K 32 32 = q := by rw [hK, Qb1 _ _ _ _ _ hp hq]
   have s2 : subB K 64 32 = r := by rw [hK, ← QC3, Qb1 _ _ _ _ _ (by simp [hp, hq]) hr]
   have s3 : subB K 96 32 = t := by rw [hK, ← QC3, ← QC3, QiH _ _ _ _ (by simp [hp, hq, hr]) ht]
   have hKl : K.length = 128 := by rw [hK]; simp [hp, hq, hr, ht]
   clear hK
   go_enter Tryz.func74, Tryz.ntmps74
   go_wp2_with fail
   generalize hW : (w.alloc _).alloc _ = w1
   have B1 : Bag w w1 [(w.heap.size, 89, Tryz.zeroCells89.toList)] := by rw [← hW]; exact B0.later (Qaa _ _)
   have hS : Strs w1 (some ⟨w.heap.size + 1, 0, none⟩) 4 [sMac, Qc1, sPay, QbR] := by
    rw [← hW]
    exact Blk.rd (Blk.new' (w.alloc (.cells Tryz.zeroCells89 89)) 9 [Value.string sMac, Value.string Qc1, Value.string sPay, Value.string QbR] (by simp)) rfl
   clear hW
   (with_reducible refine (hD.out _ _ 4 (hx.later B1.lat) hS).mono ?_); rintro e w2 ⟨g, rfl, hg, hb2, j2⟩
   have B2 := (B1.later j2).add (Qab _) (k := g) (by have := (B1.nth 0 rfl).lt; simp; omega) (by have := B1.lat.size; omega) hb2.drew
   clear hS hb2 hg B0 j2 B1
   go_wp2_with fail
   refine Qad [] [0, 1, 2, 3, 4, 5, 6, 7, 8, 9, 10, 11, 12] [13, 14] (by as_aux_lemma => kernel_rfl) (by as_aux_lemma => kernel_rfl) (by intro _ _ d _ _ h; cases d <;> exact h) ?_
   simp only [Qag, pick, QCL, QCM, QCN, QCO, QCQ]
   repeat (first | go_big_quiet_skip | (go_big_quiet_want; (first | refine Qg9 0 32 _ rfl (B2.nth 0 rfl) rfl Tryz.underlying31 rfl Qe2 s0 hp ?_ | refine Qg9 32 32 _ rfl (B2.nth 0 rfl) rfl Tryz.underlying31 rfl Qe2 s1 hq ?_ | refine Qg9 64 32 _ rfl (B2.nth 0 rfl) rfl Tryz.underlying31 rfl Qe2 s2 hr ?_ | refine Qg9 96 32 _ rfl (B2.nth 0 rfl) rfl Tryz.underlying31 rfl Qe2 s3 ht ?_ | refine Qbu _ _ rfl (K.map W8) (by simp only [QC0, QDh, QC9]; exact hbk) ?_); simp only [Act.put, QCT, QCW, QCV]; go_big_quiet_on) | (go_big_quiet_step (fail)))
   refine wpQuiet_nil ?_
   go_wp2_with (first
    | (refine Qgh rfl rfl _ _ rfl (B2.nth 1 rfl) rfl rfl hKl hz0 ?_; intro w9 hb9 ho9)
    | fail)
   exact bodyPost_ret (Qai rfl _ _ _ _ _ _ hb9 rfl Tryz.underlying89 rfl (by rw [QCP, hKl]; exact Qhp)) rfl ⟨rfl, (B2.write 1 rfl ho9 hb9).lat⟩
 · have e1 : ofE s = 2 := by rw [ofE, if_neg (by omega)]
   have e2 : ofB s = QCK 128 0 := by rw [ofB, if_neg (by omega)]
   rw [e1, e2]
   clear e1 e2
   have hb0 := Qij
   have hzl : (QCK 128 (0 : UInt8)).length = 128 := by simp
   generalize QCK 128 (0 : UInt8) = Z at *
   have hne : ((n : Int) != 32) = true := by simp; omega
   go_enter Tryz.func74, Tryz.ntmps74
   go_wp2_with (first
    | (refine Qan rfl 89 _ rfl (Z.map W8) ?hb ?_; (case hb => simp only [QC0, QC9]; exact hb0))
    | (refine Qgh rfl rfl _ _ rfl (B0.nth 0 rfl) rfl rfl hzl hz0 ?_; intro w9 hb9 ho9)
    | fail)
   exact bodyPost_ret (Qai rfl _ _ _ _ _ _ hb9 rfl Tryz.underlying89 rfl (by rw [QCP, hzl]; exact Qhp)) rfl ⟨rfl, (Qaa _ _).only ho9 (QCX _)⟩
end Go.Proofs.YtadfeclgoclalaaGreat
namespace Go.Proofs.YtadfeclgoclalaaGreat
open Go.RowKit
open Go.BigFrame
set_option maxRecDepth 100000 in
set_option maxHeartbeats 4000000 in
theorem Quy (A : Option Addr) (n c : Nat) (s : List UInt8) (w : World) (hx : RdB w A n s) (hn : n ≤ 35184372088832) :
 Calls Tryz.prog 54 #[.slice A n c] w fun e w' => e = .returned (.tuple #[.agg ((ofB s).map W8).toArray, .int .i64 (ofE s : Nat)]) ∧ Later w w' := by
 have hl := hx.len
 have B0 := Qbg w 89 Tryz.zeroCells89.toList
 have hz0 : Tryz.zeroCells89.toList.length = 128 := by kernel_rfl
 by_cases h32 : n = 32
 · subst h32
   have e1 : ofE s = 0 := by rw [ofE, if_pos hl]
   have e2 : ofB s = k4 s := by rw [ofB, if_pos hl]
   rw [e1, e2]
   clear e1 e2
   have d1 := hid (fun (w : World) h => Qc2 A 32 c s sMac w h (by omega) (by decide))
   have d2 := hid (fun (w : World) h => Qc2 A 32 c s Qc1 w h (by omega) (by decide))
   have d3 := hid (fun (w : World) h => Qc2 A 32 c s sPay w h (by omega) (by decide))
   have d4 := hid (fun (w : World) h => Qc2 A 32 c s QbR w h (by omega) (by decide))
   rw [k4] at *
   have hp := Qay s sMac
   have hq := Qay s Qc1
   have hr := Qay s sPay
   have ht := Qay s QbR
   generalize derB s sMac = p at *
   generalize derB s Qc1 = q at *
   generalize derB s sPay = r at *
   generalize derB s QbR = t at *
   have hbk := Qm1 p q hp hq
   have f1 : (p ++ (q ++ (QCK 32 0 ++ QCK 32 (0 : UInt8)))).length = 128 := by simp [hp, hq]
   have p1 : putB (p ++ (q ++ (QCK 32 0 ++ QCK 32 (0 : UInt8)))) 64 r = p ++ (q ++ (r ++ QCK 32 (0 : UInt8))) := by
    rw [← QC3 p q, QcC _ _ _ _ 64 (by simp [hp, hq]) (by simp [hr]), QC3]
   have f2 : (p ++ (q ++ (r ++ QCK 32 (0 : UInt8)))).length = 128 := by simp [hp, hq, hr]
   have p2 : putB (p ++ (q ++ (r ++ QCK 32 (0 : UInt8)))) 96 t = p ++ (q ++ (r ++ t)) := by
    rw [← QC3 q r, ← QC3 p, QeR _ _ _ 96 (by simp [hp, hq, hr]) (by simp [ht])]
    simp
   have f3 : (p ++ (q ++ (r ++ t))).length = 128 := by simp [hp, hq, hr, ht]
   generalize p ++ (q ++ (r ++ t)) = K3 at *
   generalize p ++ (q ++ (r ++ QCK 32 (0 : UInt8))) = K2 at *
   generalize p ++ (q ++ (QCK 32 0 ++ QCK 32 (0 : UInt8))) = K1 at *
   have P1 := hid p1
   have P2 := hid p2
   clear p1 p2
   go_enter Tryz.func54, Tryz.ntmps54
   go_wp2_with fail
   generalize hW : w.alloc _ = w1
   replace B0 : Bag w w1 [(w.heap.size, 89, Tryz.zeroCells89.toList)] := by rw [← hW]; exact B0
   clear hW
   (with_reducible refine (d1.out _ (hx.later B0.lat)).mono ?_); rintro e w2 ⟨rfl, j2⟩
   go_wp2_with fail
   (with_reducible refine (d2.out _ (hx.later (B0.lat.trans j2))).mono ?_); rintro e w3 ⟨rfl, j3⟩
   go_wp2_with (first
    | (refine Qan rfl 89 _ rfl (K1.map W8) ?hb ?_; (case hb => simp only [QC0, QDh, QC9]; exact hbk))
    | (refine Qgh rfl rfl _ _ rfl (Blk.new w3 _ Tryz.zeroCells89.toList) rfl rfl f1 hz0 ?_; intro w4 hb4 ho4)
    | fail)
   have B1 := B0.push ((j2.trans j3).trans (Qaa w3 _)) (j2.trans j3).size ho4 hb4
   clear j2 j3 hb4 ho4
   (with_reducible refine (d3.out _ (hx.later B1.lat)).mono ?_); rintro e w5 ⟨rfl, j5⟩
   go_wp2_with (first
    | (refine QkW 64 32 rfl rfl _ _ rfl ((B1.later j5).nth 0 rfl) rfl rfl Qe2 hr (by omega) ?_; intro w6 hb6 ho6; rw [P1.out] at hb6
       have B2 := (B1.later j5).write 0 rfl ho6 hb6)
    | fail)
   clear j5 hb6 ho6 B1
   (with_reducible refine (d4.out _ (hx.later B2.lat)).mono ?_); rintro e w7 ⟨rfl, j7⟩
   go_wp2_with (first
    | (refine QkW 96 32 rfl rfl _ _ rfl ((B2.later j7).nth 0 rfl) rfl rfl Qe2 ht (by omega) ?_; intro w8 hb8 ho8; rw [P2.out] at hb8
       have B3 := (B2.later j7).write 0 rfl ho8 hb8)
    | (refine QtE rfl _ rfl (B3.nth 0 rfl) f3 rfl ?_)
    | (refine Qgh rfl rfl _ _ rfl (B3.nth 1 rfl) rfl rfl f3 hz0 ?_; intro w9 hb9 ho9)
    | fail)
   exact bodyPost_ret (Qai rfl _ _ _ _ _ _ hb9 rfl Tryz.underlying89 rfl (by rw [QCP, f3]; exact Qhp)) rfl ⟨rfl, (B3.write 1 rfl ho9 hb9).lat⟩
 · have e1 : ofE s = 2 := by rw [ofE, if_neg (by omega)]
   have e2 : ofB s = QCK 128 0 := by rw [ofB, if_neg (by omega)]
   rw [e1, e2]
   clear e1 e2
   have hb0 := Qij
   have hzl : (QCK 128 (0 : UInt8)).length = 128 := by simp
   generalize QCK 128 (0 : UInt8) = Z at *
   have hne : ((n : Int) != 32) = true := by simp; omega
   go_enter Tryz.func54, Tryz.ntmps54
   go_wp2_with (first
    | (refine Qan rfl 89 _ rfl (Z.map W8) ?hb ?_; (case hb => simp only [QC0, QC9]; exact hb0))
    | (refine Qgh rfl rfl _ _ rfl (B0.nth 0 rfl) rfl rfl hzl hz0 ?_; intro w9 hb9 ho9)
    | fail)
   exact bodyPost_ret (Qai rfl _ _ _ _ _ _ hb9 rfl Tryz.underlying89 rfl (by rw [QCP, hzl]; exact Qhp)) rfl ⟨rfl, (Qaa _ _).only ho9 (QCX _)⟩
theorem Qka (x y : List UInt8) (off n : Nat) : (subB x off n == subB y off n && x.drop (off + n) == y.drop (off + n)) = (x.drop off == y.drop off) := by
 rw [QDF]
 simp only [QC7, beq_iff_eq, subB, ← QD3]
 constructor
 · rintro ⟨h1, h2⟩
   rw [← QDi n (x.drop off), h1, h2, QDi]
 · intro h
   rw [h]
   exact ⟨rfl, rfl⟩
theorem Qob (x y : List UInt8) (off n : Nat) (hx : x.length = off + n) (hy : y.length = off + n) : (subB x off n == subB y off n) = (x.drop off == y.drop off) := by
 rw [subB, subB, QCZ (by rw [QDc]; omega), QCZ (by rw [QDc]; omega)]
theorem QbJ (x : List UInt8) (off n : Nat) : (((x.map W8).drop off).take n) = (subB x off n).map W8 := by rw [subB, QEd, List.map_drop]
abbrev Y128 := {l : List UInt8 // l.length = 128}
theorem QlX {P : Program} {t : TypeId} {fs : Array Field} (hu : P.underlying t = some (.struct fs)) : P.fieldsOf t = fs := by unfold Program.fieldsOf; rw [hu]
theorem Qw7 (d : Nat) (x y : List UInt8) (hx : x.length = 128) (hy : y.length = 128) (w : World) :
 (Op.eqFields (d + 2) (x.map W8).toArray (y.map W8).toArray (Tryz.prog.fieldsOf 89).toList).run Tryz.prog w = .ok (x == y) w := by
 rw [QlX Tryz.underlying89]
 have l1 : ∀ off, off + 32 ≤ 128 → (subB x off 32).length = 32 := fun off h => Qaq (by omega)
 have l2 : ∀ off, off + 32 ≤ 128 → (subB y off 32).length = 32 := fun off h => Qaq (by omega)
 rw [Qca (k := 0) rfl (by decide) rfl (QbJ x 0 32) (QbJ y 0 32) (l1 _ (by omega)) (l2 _ (by omega)), Qca (k := 32) rfl (by decide) rfl (QbJ x 32 32) (QbJ y 32 32) (l1 _ (by omega)) (l2 _ (by omega)),
  Qca (k := 64) rfl (by decide) rfl (QbJ x 64 32) (QbJ y 64 32) (l1 _ (by omega)) (l2 _ (by omega)), Qca (k := 96) rfl (by decide) rfl (QbJ x 96 32) (QbJ y 96 32) (l1 _ (by omega)) (l2 _ (by omega)), Qdm]
 have h : (x == y) = (subB x 0 32 == subB y 0 32 && (subB x 32 32 == subB y 32 32 && (subB x 64 32 == subB y 64 32 && subB x 96 32 == subB y 96 32))) := by
  rw [Qob x y 96 32 (by omega) (by omega), Qka x y 64 32, Qka x y 32 32, Qka x y 0 32]
  rfl
 rw [h]
 cases subB x 0 32 == subB y 0 32 <;> cases subB x 32 32 == subB y 32 32 <;> cases subB x 64 32 == subB y 64 32 <;> cases subB x 96 32 == subB y 96 32 <;> rfl
theorem Qvm : Tryz.prog.eqGuardType Tryz.prog.depth 89 = false := by kernel_rfl
theorem QpY : Tryz.prog.stoodInHeld 89 = false := by kernel_rfl
theorem Qnt : Tryz.prog.underlying 89 = some (.struct (Tryz.prog.fieldsOf 89)) := by rw [QlX Tryz.underlying89]; exact Tryz.underlying89
@[go_sem high] theorem QwF (op : BinOp) (x y : Operand) (xs ys : Array Value) (w : World) : (eqGuard op 89 x y (.agg xs) (.agg ys)).run Tryz.prog w = .ok () w := run_eqGuard_agg w op _ x y xs ys Qvm
@[go_sem high] theorem Qwj (x y : Y128) (w : World) : (binOp .eql 89 (.agg (x.val.map W8).toArray) (.agg (y.val.map W8).toArray)).run Tryz.prog w = .ok (.bool (x.val == y.val)) w := by
  rw [QgN Qnt QpY, Qw7 9997 _ _ x.2 y.2]
  rfl
theorem QiZ : (Tryz.prog.info? 91).map (·.size) = some 192 := by kernel_rfl
theorem Qou : (Tryz.prog.info? 106).map (·.size) = some 192 := by kernel_rfl
theorem QyN : (Tryz.prog.info? 91).bind (·.zero) = some (.agg (QCK 192 (W8 0)).toArray) := by kernel_rfl
theorem Qvh : (Tryz.prog.info? 106).bind (·.zero) = some (.agg (QCK 192 (W8 0)).toArray) := by kernel_rfl
theorem put3 (k a s : List UInt8) (hk : k.length = 128) (ha : a.length = 32) (hs : s.length = 32) : QeJ (QCK 192 0) [(0, k), (128, a), (160, s)] = k ++ (a ++ s) := by
 simp only [QeJ]
 rw [show QCK 192 (0 : UInt8) = QCK 128 0 ++ (QCK 32 0 ++ QCK 32 0) by simp]
 rw [QdO _ _ _ (by simp [hk]), QcC _ _ _ _ 128 hk (by simp [ha]), ← QC3, QeR _ _ _ 160 (by simp [hk, ha]) (by simp [hs]), QC3]
theorem QpJ (k a s : List UInt8) (hk : k.length = 128) (ha : a.length = 32) (hs : s.length = 32) :
 Program.built Tryz.prog 91 [(0, .agg (k.map W8).toArray), (1, .agg (a.map W8).toArray), (2, .agg (s.map W8).toArray)] = some ((k ++ (a ++ s)).map W8).toArray := by
 have h := QdV (n := 192) (pl := [(0, 128), (128, 32), (160, 32)]) Tryz.underlying91 QyN (by kernel_rfl) [(0, 0, k), (1, 128, a), (2, 160, s)] (by
  intro x hx
  simp only [QC2, QC1, or_false] at hx
  rcases hx with rfl | rfl | rfl <;> simp [hk, ha, hs])
 rw [show QeJ (QCK 192 0) ([(0, 0, k), (1, 128, a), (2, 160, s)].map fun x => (x.2.1, x.2.2)) = k ++ (a ++ s) from put3 k a s hk ha hs] at h
 exact h
theorem QnA (k a s : List UInt8) (hk : k.length = 128) (ha : a.length = 32) (hs : s.length = 32) :
 Program.built Tryz.prog 106 [(0, .agg (k.map W8).toArray), (1, .agg (a.map W8).toArray), (2, .agg (s.map W8).toArray)] = some ((k ++ (a ++ s)).map W8).toArray := by
 have h := QdV (n := 192) (pl := [(0, 128), (128, 32), (160, 32)]) Tryz.underlying106 Qvh (by kernel_rfl) [(0, 0, k), (1, 128, a), (2, 160, s)] (by
  intro x hx
  simp only [QC2, QC1, or_false] at hx
  rcases hx with rfl | rfl | rfl <;> simp [hk, ha, hs])
 rw [show QeJ (QCK 192 0) ([(0, 0, k), (1, 128, a), (2, 160, s)].map fun x => (x.2.1, x.2.2)) = k ++ (a ++ s) from put3 k a s hk ha hs] at h
 exact h
theorem QnP : Program.built Tryz.prog 91 [] = some ((QCK 192 (0 : UInt8)).map W8).toArray := by
 rw [QDs]
 kernel_rfl
section
variable {ops : Array Oper} {rest : List Oper} {o : Oper} {a : Act} {w : World} {Q : Exit → Act → World → Prop}
theorem QgY (hgd : o.guard = none) (hd : o.dst = none) (x y : Operand) (ho : o.op = .store 91 x y) {g : Nat} {t : TypeId} {l : List Value} {bs : List UInt8} (hg : Blk w g t l) (hx : a.eval x = .pointer (some ⟨g, 0, none⟩)) (hy : a.eval y = .agg (bs.map W8).toArray) (hbl : bs.length = 192) (hl : l.length = 192)
 (h : ∀ w', Blk w' g t (bs.map W8) → Only g w w' → wpList Tryz.prog ops Q rest a w') : wpList Tryz.prog ops Q (o :: rest) a w :=
 Qdw 192 hgd hd x y ho hg hx hy QiZ hbl hl h
theorem QuA (hgd : o.guard = none) (hd : o.dst = none) (x y : Operand) (ho : o.op = .store 106 x y) {g : Nat} {t : TypeId} {l : List Value} {bs : List UInt8} (hg : Blk w g t l) (hx : a.eval x = .pointer (some ⟨g, 0, none⟩)) (hy : a.eval y = .agg (bs.map W8).toArray) (hbl : bs.length = 192) (hl : l.length = 192)
 (h : ∀ w', Blk w' g t (bs.map W8) → Only g w w' → wpList Tryz.prog ops Q rest a w') : wpList Tryz.prog ops Q (o :: rest) a w :=
 Qdw 192 hgd hd x y ho hg hx hy Qou hbl hl h
theorem Qkn (hw : Region.wanted o (yielded ops a.tmps) = true) (x : Operand) (ho : o.op = .load 91 x) {g : Nat} {t : TypeId} {bs : List UInt8} (hb : Blk w g t (bs.map W8)) (hl : bs.length = 192) (hx : a.eval x = .pointer (some ⟨g, 0, none⟩))
 (h : wpList Tryz.prog ops Q rest (a.put o.dst (.agg (bs.map W8).toArray)) w) : wpList Tryz.prog ops Q (o :: rest) a w :=
 Qbi hw _ x ho g t _ hb hx _ Tryz.underlying91 rfl 192 QiZ (by rw [QCP, hl]) h
theorem QrU (hw : Region.wanted o (yielded ops a.tmps) = true) (x : Operand) (ho : o.op = .load 106 x) {g : Nat} {t : TypeId} {bs : List UInt8} (hb : Blk w g t (bs.map W8)) (hl : bs.length = 192) (hx : a.eval x = .pointer (some ⟨g, 0, none⟩))
 (h : wpList Tryz.prog ops Q rest (a.put o.dst (.agg (bs.map W8).toArray)) w) : wpList Tryz.prog ops Q (o :: rest) a w :=
 Qbi hw _ x ho g t _ hb hx _ Tryz.underlying106 rfl 192 Qou (by rw [QCP, hl]) h
end
set_option maxRecDepth 100000 in
set_option maxHeartbeats 4000000 in
theorem QpM (al s : List UInt8) (hal : al.length = 32) (hs : s.length = 32) (w : World) :
 Calls Tryz.prog 49 #[.agg (al.map W8).toArray, .agg (s.map W8).toArray] w fun e w' => e = .returned (.tuple #[.agg ((k4 s ++ (al ++ s)).map W8).toArray, .int .i64 0]) ∧ Later w w' := by
 have hO := hid (fun (w : World) g h => QxW (some ⟨g, 0, none⟩) 32 32 s w h (by omega) (by omega))
 rw [show ofB s = k4 s by rw [ofB, if_pos hs], show ofE s = 0 by rw [ofE, if_pos hs]] at hO
 have hkl := QgW s
 generalize k4 s = K at *
 have hbs := QpJ K al s hkl hal hs
 have hTl : (K ++ (al ++ s)).length = 192 := by simp [hkl, hal, hs]
 generalize K ++ (al ++ s) = T at *
 have hz1 : Tryz.zeroCells89.toList.length = 128 := by kernel_rfl
 have hz0 : Tryz.zeroCells91.toList.length = 192 := by kernel_rfl
 have C1 := Qbg w 31 (al.map W8)
 have C2 : Bag w ((w.alloc (.cells (al.map W8).toArray 31)).alloc (.cells (s.map W8).toArray 31)) [(w.heap.size + 1, 31, s.map W8), (w.heap.size, 31, al.map W8)] :=
  C1.add (Qaa _ _) (by simp) (by omega) (Blk.new' _ _ _ (by simp))
 have C3 : Bag w (((w.alloc (.cells (al.map W8).toArray 31)).alloc (.cells (s.map W8).toArray 31)).alloc (.cells Tryz.zeroCells91 91)) [(w.heap.size + 2, 91, Tryz.zeroCells91.toList), (w.heap.size + 1, 31, s.map W8), (w.heap.size, 31, al.map W8)] :=
  C2.add (Qaa _ _) (by simp) (by omega) (Blk.new' _ _ _ (by simp))
 clear C1 C2
 go_enter Tryz.func49, Tryz.ntmps49
 go_wp2_with fail
 generalize hW : ((w.alloc _).alloc _).alloc _ = w0
 replace C3 : Bag w w0 [(w.heap.size + 2, 91, Tryz.zeroCells91.toList), (w.heap.size + 1, 31, s.map W8), (w.heap.size, 31, al.map W8)] := by rw [← hW]; exact C3
 clear hW
 (with_reducible refine (hO.out _ _ (Qe7 (C3.nth 1 rfl) hs)).mono ?_); rintro e w1 ⟨rfl, j1⟩
 go_wp2_with (first
  | (refine Qgh rfl rfl _ _ rfl (Blk.new w1 _ Tryz.zeroCells89.toList) rfl rfl hkl hz1 ?_; intro w2 hb2 ho2
     have C4 := C3.push (j1.trans (Qaa w1 _)) j1.size ho2 hb2)
  | (refine QtE rfl _ rfl (C4.nth 0 rfl) hkl rfl ?_)
  | (refine Qfc rfl _ rfl (C4.nth 3 rfl) hal rfl ?_)
  | (refine Qfc rfl _ rfl (C4.nth 2 rfl) hs rfl ?_)
  | (refine Qan rfl 91 _ rfl (T.map W8) ?hb ?_; (case hb => simp only [QC0, QDh, QC9]; exact hbs))
  | (refine QgY rfl rfl _ _ rfl (C4.nth 1 rfl) rfl rfl hTl hz0 ?_; intro w9 hb9 ho9)
  | fail)
 exact bodyPost_ret (Qai rfl _ _ _ _ _ _ hb9 rfl Tryz.underlying91 rfl (by rw [QCP, hTl]; exact QiZ)) rfl ⟨rfl, (C4.write 1 rfl ho9 hb9).lat⟩
end Go.Proofs.YtadfeclgoclalaaGreat
namespace Go.Proofs.YtadfeclgoclalaaGreat
open Go.RowKit
open Go.BigFrame
set_option maxRecDepth 100000 in
set_option maxHeartbeats 4000000 in
theorem QvP (x b al : List UInt8) (hx : x.length = 192) (hb : subB x 96 32 = b) (hal : subB x 128 32 = al) (w : World) :
 Calls Tryz.prog 78 #[.agg (x.map W8).toArray] w fun e w' => e = .returned (.tuple #[.agg ((QbF b al).map W8).toArray, .int .i64 (Qbe b al : Nat)]) ∧ Later w w' := by
 have hbl : b.length = 32 := by rw [← hb]; exact Qaq (by omega)
 have hall : al.length = 32 := by rw [← hal]; exact Qaq (by omega)
 have hM := hid (fun (w : World) g h1 h2 => Qoq (some ⟨g, 96, none⟩) (some ⟨g, 128, none⟩) 32 32 32 32 b al w h1 h2 (by omega) (by omega))
 have hml := Qa2 b al
 generalize QbF b al = M at *
 generalize Qbe b al = e9 at *
 have C1 := Qbg w 91 (x.map W8)
 have C2 : Bag w ((w.alloc (.cells (x.map W8).toArray 91)).alloc (.cells (QCK 32 (Value.int .u8 0)).toArray 31)) [(w.heap.size + 1, 31, QCK 32 (Value.int .u8 0)), (w.heap.size, 91, x.map W8)] :=
  C1.add (Qaa _ _) (by simp) (by omega) (Blk.new' _ _ _ (by simp))
 clear C1
 go_enter Tryz.func78, Tryz.ntmps78
 go_wp2_with fail
 generalize hW : (w.alloc _).alloc _ = w0
 replace C2 : Bag w w0 [(w.heap.size + 1, 31, QCK 32 (Value.int .u8 0)), (w.heap.size, 91, x.map W8)] := by rw [← hW]; exact C2
 clear hW
 refine Qad [([0, 1, 2, 3, 4], 5)] [6, 7] [8, 9] (by as_aux_lemma => kernel_rfl) (by as_aux_lemma => kernel_rfl) (by intro _ _ d _ _ h; cases d <;> exact h) ?_
 simp only [Qag, pick, QCL, QCM, QCN, QCO, QCQ]
 repeat (go_big_quiet_step (fail))
 refine wpQuiet_nil ?_
 go_wp2_with fail
 (with_reducible refine (hM.out _ _ (Qci (C2.drew.nth 1 rfl) hb hbl) (Qci (C2.drew.nth 1 rfl) hal hall)).mono ?_); rintro e w2 ⟨rfl, j2⟩
 go_wp2_with fail
 try refine ⟨by first | assumption | exact Qab _ | exact Qaa _ _ | exact Later.refl _, ?_⟩
 try simp only [Qag, pick, QCL, QCM, QCN, QCO, QCQ]
 repeat (go_big_quiet_step (fail))
 refine wpQuiet_nil ?_
 go_wp2_with (first
  | (refine QaR rfl rfl _ _ rfl ((C2.drew.later j2).nth 0 rfl) rfl rfl hml rfl ?_; intro w9 hb9 ho9)
  | fail)
 exact bodyPost_ret (Qai rfl _ _ _ _ _ _ hb9 rfl Tryz.underlying31 rfl (by rw [QCP, hml]; exact Qbj)) rfl ⟨rfl, ((C2.drew.later j2).write 0 rfl ho9 hb9).lat⟩
set_option maxRecDepth 100000 in
set_option maxHeartbeats 4000000 in
theorem Quk (x b al : List UInt8) (hx : x.length = 192) (hb : subB x 96 32 = b) (hal : subB x 128 32 = al) (w : World) :
 Calls Tryz.prog 55 #[.agg (x.map W8).toArray] w fun e w' => e = .returned (.tuple #[.agg ((QbF b al).map W8).toArray, .int .i64 (Qbe b al : Nat)]) ∧ Later w w' := by
 have hbl : b.length = 32 := by rw [← hb]; exact Qaq (by omega)
 have hall : al.length = 32 := by rw [← hal]; exact Qaq (by omega)
 have hM := hid (fun (w : World) g h1 h2 => Qk4 (some ⟨g, 96, none⟩) (some ⟨g, 128, none⟩) 32 32 32 32 b al w h1 h2 (by omega) (by omega))
 have hml := Qa2 b al
 generalize QbF b al = M at *
 generalize Qbe b al = e9 at *
 have C1 := Qbg w 106 (x.map W8)
 have C2 : Bag w ((w.alloc (.cells (x.map W8).toArray 106)).alloc (.cells (QCK 32 (Value.int .u8 0)).toArray 31)) [(w.heap.size + 1, 31, QCK 32 (Value.int .u8 0)), (w.heap.size, 106, x.map W8)] :=
  C1.add (Qaa _ _) (by simp) (by omega) (Blk.new' _ _ _ (by simp))
 clear C1
 go_enter Tryz.func55, Tryz.ntmps55
 go_wp2_with fail
 generalize hW : (w.alloc _).alloc _ = w0
 replace C2 : Bag w w0 [(w.heap.size + 1, 31, QCK 32 (Value.int .u8 0)), (w.heap.size, 106, x.map W8)] := by rw [← hW]; exact C2
 clear hW
 refine Qad [([0, 1, 2, 3, 4], 5)] [6, 7] [8, 9] (by as_aux_lemma => kernel_rfl) (by as_aux_lemma => kernel_rfl) (by intro _ _ d _ _ h; cases d <;> exact h) ?_
 simp only [Qag, pick, QCL, QCM, QCN, QCO, QCQ]
 repeat (go_big_quiet_step (fail))
 refine wpQuiet_nil ?_
 go_wp2_with fail
 (with_reducible refine (hM.out _ _ (Qci (C2.drew.nth 1 rfl) hb hbl) (Qci (C2.drew.nth 1 rfl) hal hall)).mono ?_); rintro e w2 ⟨rfl, j2⟩
 go_wp2_with fail
 try refine ⟨by first | assumption | exact Qab _ | exact Qaa _ _ | exact Later.refl _, ?_⟩
 try simp only [Qag, pick, QCL, QCM, QCN, QCO, QCQ]
 repeat (go_big_quiet_step (fail))
 refine wpQuiet_nil ?_
 go_wp2_with (first
  | (refine QaR rfl rfl _ _ rfl ((C2.drew.later j2).nth 0 rfl) rfl rfl hml rfl ?_; intro w9 hb9 ho9)
  | fail)
 exact bodyPost_ret (Qai rfl _ _ _ _ _ _ hb9 rfl Tryz.underlying31 rfl (by rw [QCP, hml]; exact Qbj)) rfl ⟨rfl, ((C2.drew.later j2).write 0 rfl ho9 hb9).lat⟩
def Qk8 (al s : List UInt8) : List UInt8 := k4 s ++ (al ++ s)
theorem Qhy (al s : List UInt8) (h : al.length = 32) (hs : s.length = 32) : (Qk8 al s).length = 192 := by simp [Qk8, QgW, h, hs]
theorem Qof (al s : List UInt8) (h : al.length = 32) : subB (Qk8 al s) 128 32 = al := by rw [Qk8, Qb1 _ _ _ _ _ (QgW s) h]
theorem Qnm (al s : List UInt8) : subB (Qk8 al s) 96 32 = derB s QbR := by
 rw [Qk8, k4, show derB s sMac ++ (derB s Qc1 ++ (derB s sPay ++ derB s QbR)) ++ (al ++ s) = (derB s sMac ++ (derB s Qc1 ++ derB s sPay)) ++ (derB s QbR ++ (al ++ s)) by simp only [QC3],
  Qb1 _ _ _ _ _ (by simp [Qay]) (Qay _ _)]
def Qdv (ks us : List UInt8) : List UInt8 := if Qbe ks us = 0 then Qk8 us (QbF ks us) else QCK 192 0
theorem Qd6 (ks us : List UInt8) : (Qdv ks us).length = 192 := by
 unfold Qdv
 split
 · rename_i h
   exact Qhy _ _ (Qly h).2 (Qa2 _ _)
 · exact QCY
theorem QzM : Tryz.zeroCells91.toList.length = 192 := by kernel_rfl
theorem QzI : Tryz.zeroCells106.toList = (QCK 192 (0 : UInt8)).map W8 := by kernel_rfl
set_option maxRecDepth 100000 in
set_option maxHeartbeats 4000000 in
theorem QvB (A B : Option Addr) (n c m d : Nat) (ks us : List UInt8) (w : World) (hk : RdB w A n ks) (hu : RdB w B m us) (hn : n ≤ 140737488355328) (hm : m ≤ 140737488355328) :
 Calls Tryz.prog 28 #[.slice A n c, .slice B m d] w fun e w' => e = .returned (.tuple #[.agg ((Qdv ks us).map W8).toArray, .int .i64 (Qbe ks us : Nat)]) ∧ Later w w' := by
 have hkl := hk.len
 have hul := hu.len
 have B0 := Qbg w 91 Tryz.zeroCells91.toList
 have hz0 := QzM
 have hM := hid (fun (w : World) A B c d h1 h2 => Qoq A B n c m d ks us w h1 h2 hn hm)
 have hml := Qa2 ks us
 have hP1 := hid (fun (h : Qbe ks us = 0) => show Qdv ks us = Qk8 us (QbF ks us) by rw [Qdv, if_pos h])
 have hP2 := hid (fun (h : ¬ Qbe ks us = 0) => show Qdv ks us = QCK 192 0 by rw [Qdv, if_neg h])
 have hlen := hid (fun (h : Qbe ks us = 0) => (Qly h).2)
 have hPl := Qd6 ks us
 generalize Qdv ks us = PL at *
 generalize QbF ks us = M at *
 generalize Qbe ks us = e9 at *
 by_cases he : e9 = 0
 · have hP := hP1.out he
   have hul2 := hlen.out he
   have hS := hid (fun w => QpM us M hul2 hml w)
   rw [show k4 M ++ (us ++ M) = PL from hP.symm] at hS
   obtain rfl : m = 32 := by omega
   subst he
   clear hP1 hP2 hlen hP
   have hput : putB (QCK 32 (0 : UInt8)) 0 us = us := QvO _ _ (by simp [hul2])
   have hz32 : (QCK 32 (0 : UInt8)).length = 32 := by simp
   have hzm : (QCK 32 (Value.int .u8 0)) = (QCK 32 (0 : UInt8)).map W8 := by rw [QDs]; rfl
   generalize QCK 32 (0 : UInt8) = Z at *
   have HP := hid hput
   have HZ := hid hzm
   clear hput hzm
   go_enter Tryz.func28, Tryz.ntmps28
   go_wp2_with fail
   generalize hW : w.alloc _ = w0
   replace B0 : Bag w w0 [(w.heap.size, 91, Tryz.zeroCells91.toList)] := by rw [← hW]; exact B0
   clear hW
   (with_reducible refine (hM.out _ _ _ _ _ (hk.later B0.lat) (hu.later B0.lat)).mono ?_); rintro e w1 ⟨rfl, j1⟩
   go_wp2_with (first
    | (refine QaR rfl rfl _ _ rfl (Blk.new w1 _ (QCK 32 (.int .u8 0))) rfl rfl hml rfl ?_; intro w2 hb2 ho2
       have B1 := B0.push (j1.trans (Qaa w1 _)) j1.size ho2 hb2
       have B2 := B1.add (Qaa w2 (.cells (QCK 32 (Value.int .u8 0)).toArray 31)) (k := w2.heap.size) (by have h1 := (B1.nth 0 rfl).lt; have h2 := (B1.nth 1 rfl).lt; simp; omega) B1.lat.size ((Blk.new w2 _ (QCK 32 (.int .u8 0))).cast HZ.out))
    | (refine Qzm 0 32 rfl _ _ _ _ rfl 5 Tryz.underlying22 QbZ (B2.nth 0 rfl) (hu.later B2.lat) rfl rfl (by omega) ?_; intro w3 hb3 ho3
       rw [HP.out] at hb3
       have B3 := B2.write 0 rfl ho3 hb3)
    | (refine Qfc rfl _ rfl (B3.nth 0 rfl) hul2 rfl ?_)
    | (refine Qfc rfl _ rfl (B3.nth 1 rfl) hml rfl ?_)
    | fail)
   (with_reducible refine (hS.out _).mono ?_); rintro e w4 ⟨rfl, j4⟩
   go_wp2_with (first
    | (refine QgY rfl rfl _ _ rfl ((B3.later j4).nth 2 rfl) rfl rfl hPl hz0 ?_; intro w9 hb9 ho9)
    | fail)
   exact bodyPost_ret (Qai rfl _ _ _ _ _ _ hb9 rfl Tryz.underlying91 rfl (by rw [QCP, hPl]; exact QiZ)) rfl ⟨rfl, ((B3.later j4).write 2 rfl ho9 hb9).lat⟩
 · have hP := hP2.out he
   have hb0 := QnP
   rw [← hP] at hb0
   have hne : ((e9 : Int) != 0) = true := by simp; omega
   clear hP1 hP2 hlen hP
   go_enter Tryz.func28, Tryz.ntmps28
   go_wp2_with fail
   generalize hW : w.alloc _ = w0
   replace B0 : Bag w w0 [(w.heap.size, 91, Tryz.zeroCells91.toList)] := by rw [← hW]; exact B0
   clear hW
   (with_reducible refine (hM.out _ _ _ _ _ (hk.later B0.lat) (hu.later B0.lat)).mono ?_); rintro e w1 ⟨rfl, j1⟩
   go_wp2_with (first
    | (refine QaR rfl rfl _ _ rfl (Blk.new w1 _ (QCK 32 (.int .u8 0))) rfl rfl hml rfl ?_; intro w2 hb2 ho2
       have B1 := B0.push (j1.trans (Qaa w1 _)) j1.size ho2 hb2)
    | (refine Qan rfl 91 _ rfl (PL.map W8) ?hb ?_; (case hb => simp only [QC0, QC9]; exact hb0))
    | (refine QgY rfl rfl _ _ rfl (B1.nth 1 rfl) rfl rfl hPl hz0 ?_; intro w9 hb9 ho9)
    | fail)
   exact bodyPost_ret (Qai rfl _ _ _ _ _ _ hb9 rfl Tryz.underlying91 rfl (by rw [QCP, hPl]; exact QiZ)) rfl ⟨rfl, (B1.write 1 rfl ho9 hb9).lat⟩
end Go.Proofs.YtadfeclgoclalaaGreat
namespace Go.Proofs.YtadfeclgoclalaaGreat
open Go.RowKit
open Go.BigFrame
def kMac (s : List UInt8) : List UInt8 := subB s 0 32
def kStr (s : List UInt8) : List UInt8 := subB s 32 32
def kPay (s : List UInt8) : List UInt8 := subB s 64 32
def kBli (s : List UInt8) : List UInt8 := subB s 96 32
def kAlp (s : List UInt8) : List UInt8 := subB s 128 32
def tagB (key al be : List UInt8) : List UInt8 := (Qbm key (al ++ be)).take 16
def Qmy (h s : List UInt8) : Bool := decide (tagB (kMac s) (subB h 0 32) (subB h 48 240) = subB h 32 16)
def Qcx (h s : List UInt8) : List UInt8 := xorB (subB h 48 240 ++ QCK 48 0) (chaS (kStr s) 288)
def Qjm (s : List UInt8) : List UInt8 := QbF (kBli s) (kAlp s)
def QmQ (s : List UInt8) : Nat := Qbe (kBli s) (kAlp s)
def QhX (h s : List UInt8) : Nat := if Qmy h s = false then 6 else if decE ((Qcx h s).take 32) ≠ 0 then 3 else if (decC ((Qcx h s).take 32)).kd = 1 then QmQ s else 0
def QkA (h s : List UInt8) : Cmd := if QhX h s = 0 then decC ((Qcx h s).take 32) else cmd0
def Qjg (h s : List UInt8) : List UInt8 := if QhX h s = 0 ∧ (decC ((Qcx h s).take 32)).kd = 1 then Qjm s ++ (Qcx h s).drop 32 else QCK 288 0
theorem QgV (h s : List UInt8) (hl : h.length = 288) : (Qcx h s).length = 288 := by
 have h1 : (subB h 48 240).length = 240 := Qaq (by omega)
 rw [Qcx, QaU (by simp [h1, Qau]), Qau]
theorem QhA (h s : List UInt8) (hl : h.length = 288) : (Qjg h s).length = 288 := by
 unfold Qjg
 split
 · rw [QCU, QDc, QgV h s hl, Qjm, Qa2]
 · rw [QCY]
def relE (s p : List UInt8) : Nat := QhX (p.take 288) s
def relC (s p : List UInt8) : Cmd := QkA (p.take 288) s
def Qdy (s p : List UInt8) : List UInt8 := QcL (kPay s) (p.drop 288) rsO
def relP (s p : List UInt8) : List UInt8 := if relE s p = 0 ∧ (relC s p).kd = 1 then Qjg (p.take 288) s ++ Qdy s p else QCK 768 0
def relB (s p : List UInt8) : List UInt8 := if relE s p = 0 ∧ (relC s p).kd ≠ 1 then Qdy s p else []
def unwE (k p : List UInt8) : Nat := if Qbe k (p.take 32) = 0 then relE (Qdv k (p.take 32)) p else Qbe k (p.take 32)
def unwC (k p : List UInt8) : Cmd := if Qbe k (p.take 32) = 0 then relC (Qdv k (p.take 32)) p else cmd0
def unwP (k p : List UInt8) : List UInt8 := if Qbe k (p.take 32) = 0 then relP (Qdv k (p.take 32)) p else QCK 768 0
def unwB (k p : List UInt8) : List UInt8 := if Qbe k (p.take 32) = 0 then relB (Qdv k (p.take 32)) p else []
end Go.Proofs.YtadfeclgoclalaaGreat
namespace Go.Proofs.YtadfeclgoclalaaGreat
open Go.RowKit
open Go.BigFrame
theorem Qbs {P : Program} {fn : Func} {p q u : Tmp} {ty ty2 : TypeId} (h : fn.results = #[.cell p ty, .cell q ty2, .tmp u]) (tmps : Array Value) (w : World) (g g2 : Nat) (t t2 : TypeId) (l l2 : List Value) (d d2 : TypeDesc)
 (hg : Blk w g t l) (hp : tmps.getD p undef = .pointer (some ⟨g, 0, none⟩)) (hu : P.underlying ty = some d) (hd : QbV d = true) (hi : (P.info? ty).map (·.size) = some l.length)
 (hg2 : Blk w g2 t2 l2) (hp2 : tmps.getD q undef = .pointer (some ⟨g2, 0, none⟩)) (hu2 : P.underlying ty2 = some d2) (hd2 : QbV d2 = true) (hi2 : (P.info? ty2).map (·.size) = some l2.length) :
 (results fn tmps).run P w = .ok (.tuple #[.agg l.toArray, .agg l2.toArray, tmps.getD u undef]) w := by
 have h1 := Qbx (P := P) w g 0 ty l d (fun j v hv => by rw [QDf]; exact hg.cellD j hv) hu hd hi
 have h2 := Qbx (P := P) w g2 0 ty2 l2 d2 (fun j v hv => by rw [QDf]; exact hg2.cellD j hv) hu2 hd2 hi2
 have hp' : tmps[p]?.getD undef = .pointer (some ⟨g, 0, none⟩) := by simpa using hp
 have hq' : tmps[q]?.getD undef = .pointer (some ⟨g2, 0, none⟩) := by simpa using hp2
 simp [results, h, Sem.run_bind, Result.andThen, hp', hq', asAddr, h1, h2]
theorem Ql6 (h : List UInt8) (hl : h.length = 288) : [subB h 0 32, subB h 32 16, subB h 48 240].flatten = h := by
 rw [subB, subB, subB, QEa, QEa, QEa, List.flatten_nil, QDr, QEu, QCZ (l := h.drop 48) (by rw [QDc]; omega), show h.drop 48 = (h.drop 32).drop 16 by rw [QD3], QDi, QDi]
set_option maxRecDepth 100000 in
set_option maxHeartbeats 2000000 in
theorem Qqg (h : List UInt8) (hl : h.length = 288) (w : World) :
 Calls Tryz.prog 26 #[.agg (h.map W8).toArray] w fun e w' => ∃ A' c', e = .returned (.slice A' 288 c') ∧ OwnB w' w.heap.size A' 288 c' h ∧ Later w w' := by
 have hb := Blk.new w 42 (h.map W8)
 have hJ := hid (fun B d (w : World) hp => QfK B 3 d [subB h 0 32, subB h 32 16, subB h 48 240] w hp (by omega) (by rw [Ql6 h hl]; omega))
 rw [Ql6 h hl, hl] at hJ
 have s0 : (subB h 0 32).length = 32 := Qaq (by omega)
 have s1 : (subB h 32 16).length = 16 := Qaq (by omega)
 have s2 : (subB h 48 240).length = 240 := Qaq (by omega)
 have L := Qaa w (.cells (h.map W8).toArray 42)
 go_enter Tryz.func26, Tryz.ntmps26
 go_wp2_with fail
 refine Qad [([0, 1, 2, 3, 4, 5], 6), ([], 7)] [8] [] (by as_aux_lemma => kernel_rfl) (by as_aux_lemma => kernel_rfl) (by intro _ _ d _ _ h; cases d <;> exact h) ?_
 simp only [Qag, pick, QCL, QCM, QCN, QCO, QCQ]
 repeat (go_big_quiet_step (fail))
 refine wpQuiet_nil ?_
 go_wp2_with fail
 try refine ⟨by first | assumption | exact Qab _ | exact Qaa _ _ | exact Later.refl _, ?_⟩
 try simp only [Qag, pick, QCL, QCM, QCN, QCO, QCQ]
 repeat (go_big_quiet_step (fail))
 refine wpQuiet_nil ?_
 have l2 := (Qab (w.alloc (.cells (h.map W8).toArray 42))).trans (Qaa _ (.cells #[.slice (some ⟨w.heap.size, 0, none⟩) 32 32, .slice (some ⟨w.heap.size, 32, none⟩) 16 16, .slice (some ⟨w.heap.size, 48, none⟩) 240 240] 22))
 have hb2 := hb.later l2
 have P3 := Qft (bad := fun _ => False) (ps := [subB h 0 32, subB h 32 16, subB h 48 240]) ((Blk.new' (n := w.heap.size + 1) (w.alloc (.cells (h.map W8).toArray 42)).drew 22 [.slice (some ⟨w.heap.size, 0, none⟩) 32 32, .slice (some ⟨w.heap.size, 32, none⟩) 16 16, .slice (some ⟨w.heap.size, 48, none⟩) 240 240] (by simp)).rd rfl) (QbU _ _) ⟨QcY (Qci hb2 rfl s0) (QCX _), QcY (Qci hb2 rfl s1) (QCX _), QcY (Qci hb2 rfl s2) (QCX _), trivial⟩
 go_wp2_with fail
 (with_reducible refine (hJ.out _ _ _ P3).mono ?_); rintro e w3 ⟨A3, c3, rfl, o3, l3⟩
 go_wp2_with fail
 try refine ⟨by first | assumption | exact Qab _ | exact Qaa _ _ | exact Later.refl _, ?_⟩
 try simp only [Qag, pick, QCL, QCM, QCN, QCO, QCQ]
 repeat (go_big_quiet_step (fail))
 refine wpQuiet_nil ?_
 go_wp2_with fail
 go_ret
 exact ⟨_, _, rfl, o3.mono (L.trans l2).size, (L.trans l2).trans l3⟩
set_option maxRecDepth 100000 in
set_option maxHeartbeats 2000000 in
theorem Qrg (h s : List UInt8) (hl : h.length = 288) (hs : s.length = 192) (w : World) :
 Calls Tryz.prog 75 #[.agg (h.map W8).toArray, .agg (s.map W8).toArray] w fun e w' => e = .returned (.bool (Qmy h s)) ∧ Later w w' := by
 have C1 := Qbg w 42 (h.map W8)
 have C2 : Bag w ((w.alloc (.cells (h.map W8).toArray 42)).alloc (.cells (s.map W8).toArray 91)) [(w.heap.size + 1, 91, s.map W8), (w.heap.size, 42, h.map W8)] :=
  C1.add (Qaa _ _) (by simp) (by omega) (Blk.new' _ _ _ (by simp))
 clear C1
 have s0 : (subB h 0 32).length = 32 := Qaq (by omega)
 have s1 : (subB h 32 16).length = 16 := Qaq (by omega)
 have s2 : (subB h 48 240).length = 240 := Qaq (by omega)
 have k0 : (kMac s).length = 32 := Qaq (by omega)
 have hC := hid (fun A B C d e0 (w : World) h1 h2 h3 => Qro A B C 32 32 2 d 16 e0 (kMac s) (subB h 32 16) [subB h 0 32, subB h 48 240] w h1 (by omega) (by omega) h2 (by omega) h3 (by omega) (by simp [s0, s2]))
 have hF := hid (show Qmy h s = decide ((Qbm (kMac s) [subB h 0 32, subB h 48 240].flatten).take 16 = subB h 32 16) by
  rw [Qmy, tagB, QEa, QEa, List.flatten_nil, QDr])
 go_enter Tryz.func75, Tryz.ntmps75
 go_wp2_with fail
 generalize hW : (w.alloc _).alloc _ = w1
 replace C2 : Bag w w1 [(w.heap.size + 1, 91, s.map W8), (w.heap.size, 42, h.map W8)] := by rw [← hW]; exact C2
 clear hW
 refine Qad [([0, 1, 2, 3, 4, 5, 6, 7, 8], 9), ([], 10)] [11] [] (by as_aux_lemma => kernel_rfl) (by as_aux_lemma => kernel_rfl) (by intro _ _ d _ _ h; cases d <;> exact h) ?_
 simp only [Qag, pick, QCL, QCM, QCN, QCO, QCQ]
 repeat (go_big_quiet_step (fail))
 refine wpQuiet_nil ?_
 go_wp2_with fail
 try refine ⟨by first | assumption | exact Qab _ | exact Qaa _ _ | exact Later.refl _, ?_⟩
 try simp only [Qag, pick, QCL, QCM, QCN, QCO, QCQ]
 repeat (go_big_quiet_step (fail))
 refine wpQuiet_nil ?_
 have l2 := (Qab w1).trans (Qaa _ (.cells #[.slice (some ⟨w.heap.size, 0, none⟩) 32 32, .slice (some ⟨w.heap.size, 48, none⟩) 240 240] 22))
 have B2 := C2.later l2
 have P3 := Qft (bad := fun _ => False) (ps := [subB h 0 32, subB h 48 240]) ((Blk.new w1.drew 22 [.slice (some ⟨w.heap.size, 0, none⟩) 32 32, .slice (some ⟨w.heap.size, 48, none⟩) 240 240]).rd rfl) (QbU _ _) ⟨QcY (Qci (B2.nth 1 rfl) rfl s0) (QCX _), QcY (Qci (B2.nth 1 rfl) rfl s2) (QCX _), trivial⟩
 go_wp2_with fail
 (refine (hC.out _ _ _ _ _ _ (Qci (B2.nth 0 rfl) rfl k0) (Qci (B2.nth 1 rfl) rfl s1) P3).mono ?_); rintro e w3 ⟨rfl, l3⟩
 rw [← hF.out]
 go_wp2_with fail
 try refine ⟨by first | assumption | exact Qab _ | exact Qaa _ _ | exact Later.refl _, ?_⟩
 try simp only [Qag, pick, QCL, QCM, QCN, QCO, QCQ]
 repeat (go_big_quiet_step (fail))
 refine wpQuiet_nil ?_
 go_wp2_with fail
 go_ret
 exact ⟨rfl, B2.lat.trans l3⟩
end Go.Proofs.YtadfeclgoclalaaGreat
namespace Go.Proofs.YtadfeclgoclalaaGreat
open Go.RowKit
open Go.BigFrame
abbrev cz0 : List Value := [.int .u8 0, .int .u8 0, .int .u32 0, .int .u64 0, .int .u8 0, .int .u8 0, .int .u8 0, .int .u8 0, .int .u8 0, .int .u8 0, .int .u8 0, .int .u8 0, .int .u8 0, .int .u8 0, .int .u8 0, .int .u8 0, .int .u8 0, .int .u8 0, .int .u8 0, .int .u8 0]
theorem QcS {w : World} {b p n : Nat} {bs : List UInt8} (h : RdB w (some ⟨b, p, none⟩) n bs) (i : Nat) (hi : i < n) : w.cell? ⟨b, p + i, none⟩ = some (W8 (bs.getD i 0)) := by
 obtain ⟨b', o', he, _, hc⟩ := h.2 (by omega)
 have hl := h.len
 cases he
 exact hc i _ (by rw [QC6, QCS, QCR (by omega)]; rfl)
theorem QqH (b : List UInt8) (hb : b.length = 32) (d : UInt32) (x : UInt64) (hd : d = (Qgu b).dl) (hx : x = (Qgu b).nx) :
 QaB (((CC ⟨b.getD 0 0, b.getD 1 0, 0, 0, QaS⟩).set 2 (W32 d)).set 3 (W64 x)) 4 (((b.drop 14).map W8).take 16) = CC (Qgu b) := by
 subst hd hx
 have hm := Qj4 b hb
 have hml : ((b.drop 14).map W8).take 16 = (subB b 14 16).map W8 := by rw [← QEd]; rfl
 have hl := Qaq (bs := b) (off := 14) (n := 16) (by omega)
 rw [hml, QaB, QCP, hl, QEr (by rw [QDA, QDA, Qap]; omega), QDr, CC, CC, hm]
 rfl
theorem Qsh (b : List UInt8) : decE b = if (!(cmdE (Qgu b) == 1) && (!(b.getD 30 0 == 0) || !(b.getD 31 0 == 0))) = true then 3 else cmdE (Qgu b) := by
 rw [decE]
 congr 1
 simp
theorem QpK (c : Cmd) : cmdE c = 0 ∨ cmdE c = 1 ∨ cmdE c = 3 ∨ cmdE c = 11 := by
 unfold cmdE
 split
 · simp
 · split
   · simp
   · split <;> simp
set_option maxRecDepth 100000 in
set_option maxHeartbeats 8000000 in
theorem QnQ (A : Option Addr) (c : Nat) (b : List UInt8) (w : World) (hb : RdB w A 32 b) (hc : 32 ≤ c) :
 Calls Tryz.prog 77 #[.slice A 32 c] w fun e w' => e = .returned (.tuple #[.agg (CC (decC b)).toArray, .int .i64 (decE b : Nat)]) ∧ Later w w' := by
 have hbl := hb.len
 obtain ⟨b0, p, rfl, _, _⟩ := hb.2 (by omega)
 have B0 := Qbg w 54 cz0
 have hz0 : cz0.length = 20 := rfl
 have hG1 : Hid (∀ w, RdB w (some ⟨b0, p, none⟩) 32 b → Calls Tryz.prog 45 #[.int .i64 2, .slice (some ⟨b0, p, none⟩) 32 c, .int .i64 2, .int .i64 4] w fun e w' => e = .returned (.tuple #[W64 (QDd (beN (subB b 2 4) 0)), .int .i64 0]) ∧ Later w w') :=
  hid (fun w h => Qh7 _ 32 c 2 4 b w h (by omega) (by omega) (by omega) (by omega))
 have hG2 : Hid (∀ w, RdB w (some ⟨b0, p, none⟩) 32 b → Calls Tryz.prog 45 #[.int .i64 2, .slice (some ⟨b0, p, none⟩) 32 c, .int .i64 6, .int .i64 8] w fun e w' => e = .returned (.tuple #[W64 (QDd (beN (subB b 6 8) 0)), .int .i64 0]) ∧ Later w w') :=
  hid (fun w h => Qh7 _ 32 c 6 8 b w h (by omega) (by omega) (by omega) (by omega))
 have hfill := hid (QqH b hbl _ (QDd (beN (subB b 6 8) 0)) (QxG (beN (subB b 2 4) 0)) rfl)
 have hcut : cutA (some ⟨b0, p, none⟩) 30 c = some ⟨b0, p + 30, none⟩ := by rw [cutA, if_neg (by omega)]; rfl
 have hcutc : cutA (some ⟨b0, p, none⟩) 14 c = some ⟨b0, p + 14, none⟩ := by rw [cutA, if_neg (by omega)]; rfl
 have hCk := hid (Qps (Qgu b))
 have hE := QpK (Qgu b)
 have hD := hid (Qsh b)
 have hC := hid (show decC b = if decE b = 0 then Qgu b else cmd0 from rfl)
 have hcd := hb.cut (c := c) (show 14 ≤ 32 by omega) hc
 rw [hcutc] at hcd
 generalize QDd (beN (subB b 2 4) 0) = x1 at *
 generalize QDd (beN (subB b 6 8) 0) = x2 at *
 generalize decC b = DC at *
 generalize decE b = DE at *
 generalize cmdE (Qgu b) = e9 at *
 have hb0 := Qkf
 go_enter Tryz.func77, Tryz.ntmps77
 go_wp2_with fail
 generalize hW : w.alloc _ = w1
 replace B0 : Bag w w1 [(w.heap.size, 54, cz0)] := by rw [← hW]; exact B0
 clear hW
 have r1 := (hb.later B0.lat).later (Qab _)
 have c0 := QcS r1 0 (by omega)
 have c1 := QcS r1 1 (by omega)
 have hlb : b0 < w1.drew.heap.size := by
  obtain ⟨_, _, he, h, _⟩ := r1.2 (by omega)
  cases he
  exact h
 rw [QEc] at c0
 have hbc := Qp0 (b.getD 0 0) (b.getD 1 0)
 generalize b.getD 0 0 = k0 at *
 generalize b.getD 1 0 = k1 at *
 refine Qad [([0, 1, 2, 3, 4, 5, 6], 7)] [] [8] (by as_aux_lemma => kernel_rfl) (by as_aux_lemma => kernel_rfl) (by intro _ _ d _ _ h; cases d <;> exact h) ?_
 simp only [Qag, pick, QCL, QCM, QCN, QCO, QCQ]
 repeat (first | go_big_quiet_skip | (go_big_quiet_want; (refine Qbu _ _ rfl (CC ⟨k0, k1, 0, 0, QaS⟩) (by simp only [QC0, QDh, QC9]; exact hbc) ?_); simp only [Act.put, QCT, QCW, QCV]; go_big_quiet_on) | (go_big_quiet_step (fail)))
 refine wpQuiet_nil ?_
 go_wp2_with fail
 try refine ⟨by first | assumption | exact Qab _ | exact Qaa _ _ | exact Later.refl _, ?_⟩
 try simp only [Qag, pick, QCL, QCM, QCN, QCO, QCQ]
 repeat (go_big_quiet_step (fail))
 refine wpQuiet_nil ?_
 go_wp2_with (first
  | (refine QbO rfl rfl _ _ rfl (Blk.new w1.drew _ cz0) rfl rfl rfl ?_; intro w3 hb3 ho3)
  | fail)
 have B1 := B0.push ((Qab _).trans (Qaa _ _)) (QCX _) ho3 hb3
 clear hb3 ho3 r1 c0 c1 hlb B0
 generalize w1.heap.size = g3 at *
 (with_reducible refine (hG1.out _ (hb.later B1.lat)).mono ?_); rintro e w4 ⟨rfl, j4⟩
 go_wp2_with fail
 (with_reducible refine (hG2.out _ (hb.later (B1.lat.trans j4))).mono ?_); rintro e w5 ⟨rfl, j5⟩
 replace B1 := (B1.later j4).later j5
 clear j4 j5 hG1 hG2
 go_wp2_with (first
  | (refine Qac rfl rfl _ _ _ rfl g3 2 _ _ (B1.nth 0 rfl) rfl (by rw [Qap]; omega) rfl (by kernel_rfl) ?_; intro v6 w6 hv6 hb6 ho6; simp [go_sem] at hv6; subst hv6
     have B2 := B1.write 0 rfl ho6 hb6)
  | (refine Qac rfl rfl _ _ _ rfl g3 3 _ _ (B2.nth 0 rfl) rfl (by rw [QDA, Qap]; omega) rfl (by kernel_rfl) ?_; intro v7 w7 hv7 hb7 ho7; simp [go_sem] at hv7; subst hv7
     have B3 := B2.write 0 rfl ho7 hb7)
  | fail)
 clear hb6 ho6 hb7 ho7 B1 B2
 have B4 := B3.drew
 have hlb : b0 < w7.drew.heap.size := by
  obtain ⟨_, _, he, h, _⟩ := (hb.later B4.lat).2 (by omega)
  cases he
  exact h
 refine Qad [] [0, 1, 2, 3] [4] (by as_aux_lemma => kernel_rfl) (by as_aux_lemma => kernel_rfl) (by intro _ _ d _ _ h; cases d <;> exact h) ?_
 simp only [Qag, pick, QCL, QCM, QCN, QCO, QCQ]
 repeat (go_big_quiet_step (fail))
 refine wpQuiet_nil ?_
 go_wp2_with (first
  | (refine Qat rfl _ _ _ _ rfl 5 Tryz.underlying22 QbZ g3 4 16 16 _ _ (B4.nth 0 rfl) (some ⟨b0, p + 14, none⟩) 18 (c - 14) ((b.drop 14).map W8) (Rd.later hcd B4.lat) (QaA _) rfl rfl (by have := Qap ⟨k0, k1, 0, 0, QaS⟩; simp only [QDA]; omega) ?_; intro w8 hb8 ho8; rw [hfill.out] at hb8
     have B5 := B4.write 0 rfl ho8 hb8)
  | (refine Qc5 rfl _ rfl (B5.nth 0 rfl) rfl ?_)
  | fail)
 (with_reducible refine (hCk.out _).mono ?_); rintro e w9 ⟨rfl, j9⟩
 have B6 := B5.later j9
 have r9 := hb.later B6.lat
 have c30 := QcS r9 30 (by omega)
 have c31 := QcS r9 31 (by omega)
 clear hb8 ho8 B5 B4 B3 j9 hcd hcutc hfill hCk r9 hlb hbc
 generalize b.getD 30 0 = d30 at *
 generalize b.getD 31 0 = d31 at *
 generalize Qgu b = cm at *
 rcases hE with rfl | rfl | rfl | rfl
 all_goals
  cases h30 : (d30 == 0) <;> cases h31 : (d31 == 0)
  all_goals
   have hDE := hD.out
   have hDC := hC.out
   rw [h30, h31] at hDE
   simp at hDE
   rw [hDE] at hDC
   simp at hDC
   replace hDE := hid hDE
   replace hDC := hid hDC
   have n30 : (d30 != 0) = !(d30 == 0) := rfl
   have n31 : (d31 != 0) = !(d31 == 0) := rfl
   rw [h30] at n30
   rw [h31] at n31
   clear hD hC
   go_wp2_with (first
    | (refine Qc5 rfl _ rfl (B6.nth 0 rfl) rfl ?_)
    | (refine Qal rfl _ _ rfl (CC cmd0) (by simp only [QC0, QC9]; exact hb0) ?_)
    | (refine QbO rfl rfl _ _ rfl (B6.nth 1 rfl) rfl rfl hz0 ?_; intro w10 hb10 ho10)
    | fail)
   exact bodyPost_ret (Qai rfl _ _ _ _ _ _ hb10 rfl Tryz.underlying54 rfl (by rw [Qap]; exact Qgf)) rfl ⟨by rw [hDE.out, hDC.out]; rfl, (B6.write 1 rfl ho10 hb10).lat⟩
end Go.Proofs.YtadfeclgoclalaaGreat
namespace Go.Proofs.YtadfeclgoclalaaGreat
open Go.RowKit
open Go.BigFrame
section
variable {ops : Array Oper} {rest : List Oper} {o : Oper} {a : Act} {w : World} {Q : Exit → Act → World → Prop}
theorem QcM {P : Program} {J : Act → Prop} (ty : TypeId) (x : Operand) (ho : o.op = .load ty x) {w0 : World} {bad : List Nat} {g : Nat} {t : TypeId} {l : List Value} (off : Nat) (vs : List Value) (hb : Blk w0 g t l) (hn : ∀ b ∈ bad, g ≠ b) (hx : a.eval x = .pointer (some ⟨g, off, none⟩))
 (hv : ∀ j v, vs[j]? = some v → l[off + j]? = some v) (d : TypeDesc) (hu : P.underlying ty = some d) (hd : QbV d = true) (hi : (P.info? ty).map (·.size) = some vs.length) (h : J (a.put o.dst (.agg vs.toArray))) : o.quiet P a (Spared w0 bad) J :=
 Qa0 _ x ho g off vs (fun _ hw j v hv' => Blk.cellD (hw.blk hb hn) _ (hv j v hv')) hx d hu hd hi h
end
theorem QcF (l : List Value) : ∀ j v, l[j]? = some v → l[0 + j]? = some v := fun j v h => by rw [QDf]; exact h
theorem QoG {w : World} {g n k : Nat} {t : TypeId} {bs : List UInt8} {rest : List Value} (h : Blk w g t (bs.map W8 ++ rest)) (hn : bs.length = n) (hk : k < n) : Rd w (some ⟨g, k, none⟩) (n - k) ((bs.drop k).map W8) := by
 have h1 := (QfS h hn).cut (k := k) (c := n + 1) (by omega) (by omega)
 rw [show cutA (some ⟨g, 0, none⟩) k (n + 1) = some ⟨g, k, none⟩ by
  rw [cutA, if_neg (by omega)]
  show some ((⟨g, 0, none⟩ : Addr).add k) = _
  rw [Qdr, QDf]] at h1
 exact h1
theorem QuY (nb pl : List UInt8) (hn : nb.length = 32) (hp : pl.length = 288) : putB (putB (putB (QCK 288 0) 0 nb) 32 ((pl.drop 32).take 16)) 48 (pl.drop 48) = nb ++ pl.drop 32 := by
 have h := QqY (nb ++ pl.drop 32) (by rw [QCU, QDc]; omega)
 rw [QDR hn, QDt hn, show (nb ++ pl.drop 32).drop 48 = pl.drop 48 by rw [List.drop_append, QEr (by omega), QCQ, hn, QD3]] at h
 exact h
theorem Qqu (h s : List UInt8) (hl : h.length = 288) : [subB h 48 240, QCK 48 0].flatten.length = 288 ∧ xorB [subB h 48 240, QCK 48 0].flatten (chaS (kStr s) 288) = Qcx h s := by
 have s2 : (subB h 48 240).length = 240 := Qaq (by omega)
 rw [QEa, QEa, List.flatten_nil, QDr]
 exact ⟨by rw [QCU, s2, QCY], rfl⟩
set_option maxRecDepth 100000 in
set_option maxHeartbeats 8000000 in
theorem QtM (h s : List UInt8) (hl : h.length = 288) (hs : s.length = 192) (w : World) :
 Calls Tryz.prog 50 #[.agg (h.map W8).toArray, .agg (s.map W8).toArray] w fun e w' => e = .returned (.tuple #[.agg (CC (QkA h s)).toArray, .agg ((Qjg h s).map W8).toArray, .int .i64 (QhX h s : Nat)]) ∧ Later w w' := by
 have HZ := hid zcH
 have l0 : (QCK 288 (0 : UInt8)).length = 288 := QCY
 have C1 := Qbg w 42 (h.map W8)
 have C2 := C1.add (Qaa _ (.cells (s.map W8).toArray 91)) (k := w.heap.size + 1) (by simp) (by omega) (Blk.new' _ _ _ (by simp))
 have C3 := C2.add (Qaa _ (.cells cz0.toArray 54)) (k := w.heap.size + 2) (by simp) (by omega) (Blk.new' _ _ _ (by simp))
 have C4 := C3.add (Qaa _ (.cells Tryz.zeroCells42 42)) (k := w.heap.size + 3) (by simp) (by omega) ((Blk.new' _ _ Tryz.zeroCells42.toList (by simp)).cast HZ.out)
 clear C1 C2 C3
 have s2 : (subB h 48 240).length = 240 := Qaq (by omega)
 have k1 : (kStr s).length = 32 := Qaq (by omega)
 have hF := hid (Qrg h s hl hs)
 have hpf := Qqu h s hl
 have hT := hid (fun B d g (w : World) hk hp => Qry (some ⟨g, 32, none⟩) 32 2 d B (kStr s) [subB h 48 240, QCK 48 0] w hk hp (by omega) (by rw [hpf.1]; omega))
 rw [hpf.1, hpf.2] at hT
 have hpl := QgV h s hl
 have hD := hid (fun A c (w : World) h1 h2 => QnQ A c ((Qcx h s).take 32) w h1 h2)
 have hE : Hid (QhX h s = if Qmy h s = false then 6 else if decE ((Qcx h s).take 32) ≠ 0 then 3 else if (decC ((Qcx h s).take 32)).kd = 1 then QmQ s else 0) := hid rfl
 have hC : Hid (QkA h s = if QhX h s = 0 then decC ((Qcx h s).take 32) else cmd0) := hid rfl
 have hN : Hid (Qjg h s = if QhX h s = 0 ∧ (decC ((Qcx h s).take 32)).kd = 1 then Qjm s ++ (Qcx h s).drop 32 else QCK 288 0) := hid rfl
 have hX := hid (fun (w : World) => QvP s (kBli s) (kAlp s) hs rfl rfl w)
 have hput := hid (QuY (Qjm s) (Qcx h s) (Qa2 _ _) hpl)
 have hXb : Hid (QbF (kBli s) (kAlp s) = Qjm s ∧ Qbe (kBli s) (kAlp s) = QmQ s) := hid ⟨rfl, rfl⟩
 rw [hXb.out.1, hXb.out.2] at hX
 have nbl : (Qjm s).length = 32 := Qa2 _ _
 have hb0 := Qkf
 have hbh := Qqe
 clear hpf hXb
 generalize QkA h s = OC at *
 generalize Qjg h s = ON at *
 generalize QhX h s = OE at *
 generalize Qmy h s = F at *
 generalize Qcx h s = pl at *
 generalize decE (pl.take 32) = dE at *
 generalize decC (pl.take 32) = dC at *
 generalize QmQ s = nE at *
 generalize Qjm s = nb at *
 have hnbl := nbl
 generalize QCK 288 (0 : UInt8) = Z at *
 have hzl : (Z.map W8).length = 288 := by rw [QCP]; exact l0
 have hz0 : cz0.length = 20 := rfl
 go_enter Tryz.func50, Tryz.ntmps50
 go_wp2_with (first
  | (refine QoR rfl _ rfl (C4.nth 3 rfl) hl rfl ?_)
  | (refine Qkn rfl _ rfl (C4.nth 2 rfl) hs rfl ?_)
  | fail)
 (with_reducible refine (hF.out _).mono ?_); rintro e w5 ⟨rfl, l5⟩
 replace C4 := C4.later l5
 clear l5 hF
 cases F
 · have HE := hE.out
   rw [if_pos rfl] at HE
   have HC := hC.out
   rw [HE, if_neg (by decide)] at HC
   have HN := hN.out
   rw [HE, if_neg (by simp)] at HN
   replace HE := hid HE
   replace HC := hid HC
   replace HN := hid HN
   clear hE hC hN
   go_wp2_with (first
    | (refine Qal rfl 54 _ rfl (CC cmd0) (by simp only [QC0, QC9]; exact hb0) ?_)
    | (refine Qal rfl 42 _ rfl (Z.map W8) (by simp only [QC0, QC9]; exact hbh) ?_)
    | (refine QbO rfl rfl _ _ rfl (C4.nth 1 rfl) rfl rfl hz0 ?_; intro w6 hb6 ho6
       have C5 := C4.write 1 rfl ho6 hb6)
    | (refine QeX rfl rfl _ _ rfl (C5.nth 0 rfl) rfl rfl l0 hzl ?_; intro w7 hb7 ho7
       have C6 := C5.write 0 rfl ho7 hb7)
    | fail)
   exact bodyPost_ret (Qbs rfl _ _ _ _ _ _ _ _ _ _ (C6.nth 1 rfl) rfl Tryz.underlying54 rfl (by rw [Qap]; exact Qgf) (C6.nth 0 rfl) rfl Tryz.underlying42 rfl (by rw [QCP, l0]; exact Qdc)) rfl ⟨by rw [HE.out, HC.out, HN.out]; rfl, C6.lat⟩
 · replace hE : Hid (OE = if dE ≠ 0 then 3 else if dC.kd = 1 then nE else 0) := hid (by rw [hE.out, if_neg (by decide)])
   go_wp2_with fail
   have C5 := C4.drew
   clear C4
   refine Qad [([0, 1, 2, 3, 4], 5), ([], 6), ([], 7)] [8, 9, 10, 11, 12] [] (by as_aux_lemma => kernel_rfl) (by as_aux_lemma => kernel_rfl) (by intro _ _ d _ _ h; cases d <;> exact h) ?_
   simp only [Qag, pick, QCL, QCM, QCN, QCO, QCQ]
   repeat (go_big_quiet_step (fail))
   refine wpQuiet_nil ?_
   go_wp2_with (first
    | (refine Qax rfl _ _ _ rfl 5 _ 1 Tryz.underlying22 Qbl rfl _ _ _ _ 48 rfl rfl rfl rfl (by omega) (by omega) ?_; intro w6 hb6 hl6)
    | fail)
   try refine ⟨by first | assumption | exact Qab _ | exact Qaa _ _ | exact Later.refl _, ?_⟩
   try simp only [Qag, pick, QCL, QCM, QCN, QCO, QCQ]
   repeat (go_big_quiet_step (fail))
   refine wpQuiet_nil ?_
   have C6 := C5.later hl6
   go_wp2_with fail
   try refine ⟨by first | assumption | exact Qab _ | exact Qaa _ _ | exact Later.refl _, ?_⟩
   try simp only [Qag, pick, QCL, QCM, QCN, QCO, QCQ]
   repeat (go_big_quiet_step (fail))
   refine wpQuiet_nil ?_
   have l7 := Qaa w6 (.cells #[.slice (some ⟨w.heap.size, 48, none⟩) 240 240, .slice (some ⟨w5.drew.heap.size, 0, none⟩) 48 48] 22)
   have C7 := C6.later l7
   have P7 := Qft (bad := fun _ => False) (ps := [subB h 48 240, QCK 48 0]) ((Blk.new w6 22 [.slice (some ⟨w.heap.size, 48, none⟩) 240 240, .slice (some ⟨w5.drew.heap.size, 0, none⟩) 48 48]).rd rfl) (QbU _ _) ⟨QcY (Qci (C7.nth 3 rfl) rfl s2) (QCX _), QcY (show RdB _ (some ⟨w5.drew.heap.size, 0, none⟩) 48 (QCK 48 0) from (hb6.later l7).rd rfl) (QCX _), trivial⟩
   have hk7 := Qci (C7.nth 2 rfl) rfl k1
   go_wp2_with fail
   (refine (hT.out _ _ _ _ hk7 P7).mono ?_); rintro e w8 ⟨A8, c8, rfl, o8, l8⟩
   obtain ⟨g8, r8, rfl, hg8, hb8, hc8, hcc8⟩ := QgE o8 (by omega)
   have C8 := C7.fresh l8 hg8 hb8
   clear C5 C6 C7 P7 hk7 l7 hl6 hb6 hT o8 hb8 hg8 hc8
   go_wp2_with fail
   try refine ⟨by first | assumption | exact Qab _ | exact Qaa _ _ | exact Later.refl _, ?_⟩
   try simp only [Qag, pick, QCL, QCM, QCN, QCO, QCQ]
   repeat (go_big_quiet_step (fail))
   refine wpQuiet_nil ?_
   go_wp2_with fail
   (refine (hD.out _ _ _ ((QfS (C8.nth 0 rfl) hpl).take (m := 32) (by omega)) (by omega)).mono ?_); rintro e w9 ⟨rfl, l9⟩
   have C9 := C8.later l9
   clear C8 l9 hD
   by_cases hd0 : dE = 0
   · subst hd0
     replace hE : Hid (OE = if dC.kd = 1 then nE else 0) := hid (by rw [hE.out, if_neg (by simp)])
     cases hk1 : (dC.kd == 1)
     · have hkn : ¬ dC.kd = 1 := by simpa using hk1
       have n1 : (dC.kd != 1) = true := by rw [bne, hk1]; rfl
       have HE : OE = 0 := by rw [hE.out, if_neg hkn]
       have HC : OC = dC := by rw [hC.out, HE, if_pos rfl]
       have HN : ON = Z := by rw [hN.out, if_neg (fun h => hkn h.2)]
       replace HE := hid HE
       replace HC := hid HC
       replace HN := hid HN
       clear hE hC hN hkn
       go_wp2_with (first
        | (refine QbO rfl rfl _ _ rfl (Blk.new w9 _ cz0) rfl rfl rfl ?_; intro w10 hb10 ho10
           have C10 := C9.push (Qaa _ _) (QCX _) ho10 hb10
           have hc0 := (QcP hb10).1)
        | (refine Qc5 rfl _ rfl (C10.nth 0 rfl) rfl ?_)
        | (refine Qal rfl 42 _ rfl (Z.map W8) (by simp only [QC0, QC9]; exact hbh) ?_)
        | (refine QbO rfl rfl _ _ rfl (C10.nth 3 rfl) rfl rfl hz0 ?_; intro w11 hb11 ho11
           have C11 := C10.write 3 rfl ho11 hb11)
        | (refine QeX rfl rfl _ _ rfl (C11.nth 2 rfl) rfl rfl l0 hzl ?_; intro w12 hb12 ho12
           have C12 := C11.write 2 rfl ho12 hb12)
        | fail)
       exact bodyPost_ret (Qbs rfl _ _ _ _ _ _ _ _ _ _ (C12.nth 3 rfl) rfl Tryz.underlying54 rfl (by rw [Qap]; exact Qgf) (C12.nth 2 rfl) rfl Tryz.underlying42 rfl (by rw [QCP, l0]; exact Qdc)) rfl ⟨by rw [HE.out, HC.out, HN.out]; rfl, C12.lat⟩
     · have hky : dC.kd = 1 := by simpa using hk1
       have n1 : (dC.kd != 1) = false := by rw [bne, hk1]; rfl
       replace hE : Hid (OE = nE) := hid (by rw [hE.out, if_pos hky])
       have l1 : (putB Z 0 nb).length = 288 := by rw [QcK (by omega)]; exact l0
       have l2 : (putB (putB Z 0 nb) 32 ((pl.drop 32).take 16)).length = 288 := by rw [QcK (by rw [QDe, QDc]; omega)]; exact l1
       have e3 : ((pl.drop 48).take 240) = pl.drop 48 := QCZ (by rw [QDc]; omega)
       have HNL : (nb ++ pl.drop 32).length = 288 := by rw [QCU, QDc]; omega
       replace e3 := hid e3
       generalize hZ2 : putB (putB Z 0 nb) 32 ((pl.drop 32).take 16) = Z2 at *
       generalize hZ1 : putB Z 0 nb = Z1 at *
       replace hZ1 := hid hZ1
       replace hZ2 := hid hZ2
       replace hky := hid hky
       go_wp2_with (first
        | (refine QbO rfl rfl _ _ rfl (Blk.new w9 _ cz0) rfl rfl rfl ?_; intro w10 hb10 ho10
           have C10 := C9.push (Qaa _ _) (QCX _) ho10 hb10
           have hc0 := (QcP hb10).1)
        | (refine Qkn rfl _ rfl ((C10.later (Qaa _ _)).nth 4 rfl) hs rfl ?_)
        | fail)
       (with_reducible refine (hX.out _).mono ?_); rintro e w11 ⟨rfl, l11⟩
       have C11 := (C10.fresh (Qaa _ _) (QCX _) ((Blk.new w10 _ Tryz.zeroCells42.toList).cast HZ.out)).later l11
       clear hb10 ho10 l11 C10 C9
       have hc0' := (QcP (C11.nth 1 rfl)).1
       by_cases hn0 : nE = 0
       · subst hn0
         have HE := hE.out
         have HC : OC = dC := by rw [hC.out, HE, if_pos rfl]
         have HN : ON = nb ++ pl.drop 32 := by rw [hN.out, if_pos ⟨HE, hky.out⟩]
         replace HE := hid HE
         replace HC := hid HC
         replace HN := hid HN
         clear hE hC hN
         generalize nb ++ pl.drop 32 = NX at *
         have hNX := hid (Qh1 NX 288 HNL)
         go_wp2_with (first
          | (refine QkW 0 32 rfl rfl _ _ rfl (C11.nth 0 rfl) rfl rfl Qe2 hnbl (by omega) ?_; intro w12 hb12 ho12; rw [hZ1.out] at hb12
             have C12 := C11.write 0 rfl ho12 hb12)
          | fail)
         have C13 := C12.drew
         clear C11 C12 hb12 ho12
         have r32 := QoG (k := 32) (C13.nth 2 rfl) hpl (by omega)
         refine Qad [] [0, 1, 2, 3] [4] (by as_aux_lemma => kernel_rfl) (by as_aux_lemma => kernel_rfl) (by intro _ _ d _ _ h; cases d <;> exact h) ?_
         simp only [Qag, pick, QCL, QCM, QCN, QCO, QCQ]
         repeat (go_big_quiet_step (fail))
         refine wpQuiet_nil ?_
         go_wp2_with (first
          | (refine Qat rfl _ _ _ _ rfl 5 Tryz.underlying22 QbZ w10.heap.size 32 16 16 _ _ (C13.nth 0 rfl) (some ⟨g8, 32, none⟩) 256 (c8 - 32) ((pl.drop 32).map W8) r32 (QaA _) rfl rfl (by rw [QCP]; omega) ?_; intro w14 hb14 ho14; rw [← QEd, QcU, hZ2.out] at hb14
             have C14 := C13.write 0 rfl ho14 hb14)
          | fail)
         have C15 := C14.drew
         simp only [Act.put, QCT, QCW, QCV]
         have r48 := QoG (k := 48) (C15.nth 2 rfl) hpl (by omega)
         refine Qad [] [0, 1, 2, 3] [4] (by as_aux_lemma => kernel_rfl) (by as_aux_lemma => kernel_rfl) (by intro _ _ d _ _ h; cases d <;> exact h) ?_
         simp only [Qag, pick, QCL, QCM, QCN, QCO, QCQ]
         repeat (go_big_quiet_step (fail))
         refine wpQuiet_nil ?_
         go_wp2_with (first
          | (refine Qat rfl _ _ _ _ rfl 5 Tryz.underlying22 QbZ w10.heap.size 48 240 240 _ _ (C15.nth 0 rfl) (some ⟨g8, 48, none⟩) 240 (c8 - 48) ((pl.drop 48).map W8) r48 (QaA _) rfl rfl (by rw [QCP]; omega) ?_; intro w16 hb16 ho16; rw [← QEd, QcU, e3.out, hput.out] at hb16
             have C16 := C15.write 0 rfl ho16 hb16)
          | fail)
         simp only [Act.put, QCT, QCW, QCV]
         clear hb14 ho14 hb16 ho16 C13 C14 C15 r32 r48
         have hne03 := C16.ne 0 4 rfl rfl (by decide)
         refine Qev [0, 1] [2, 3, 4] (fun i => if i = 1 then [2] else []) (fun i => if i = 2 then w.heap.size + 2 else w.heap.size + 3) (by as_aux_lemma => kernel_rfl) (by as_aux_lemma => kernel_rfl) (by intro _ _ d _ _ h; cases d <;> exact h) ?_
         refine ⟨_, rfl, rfl, ?_⟩
         refine QcM _ _ rfl 0 (CC dC) (C16.nth 1 rfl) (by simp) rfl (QcF _) _ Tryz.underlying54 rfl (by rw [Qap]; exact Qgf) ?_
         simp only [Act.put, QCT, QCW, QCV]
         refine ⟨_, rfl, rfl, ?_⟩
         refine QcM _ _ rfl 0 (NX.map W8) (C16.nth 0 rfl) (by intro b hb; simp at hb; subst hb; exact hne03) rfl (QcF _) _ Tryz.underlying42 rfl (by rw [QCP, HNL]; exact Qdc) ?_
         simp only [Act.put, QCT, QCW, QCV]
         simp only [Qke, Qhu, pick, QCL, QCM, QCN, QCO, QCQ]
         refine QbO rfl rfl _ _ rfl (C16.drew.nth 4 rfl) rfl rfl hz0 ?_
         intro w17 hb17 ho17
         have C17 := C16.drew.write 4 rfl ho17 hb17
         refine ⟨ho17, ?_⟩
         refine QeX rfl rfl _ _ rfl (C17.nth 3 rfl) rfl rfl HNL hzl ?_
         intro w18 hb18 ho18
         have C18 := C17.write 3 rfl ho18 hb18
         refine ⟨ho18, ?_⟩
         go_wp2_with fail
         refine ⟨World.grownBy.refl _ _, ?_⟩
         go_wp2_with fail
         exact bodyPost_ret (Qbs rfl _ _ _ _ _ _ _ _ _ _ (C18.nth 4 rfl) rfl Tryz.underlying54 rfl (by rw [Qap]; exact Qgf) (C18.nth 3 rfl) rfl Tryz.underlying42 rfl (by rw [QCP, HNL]; exact Qdc)) rfl ⟨by rw [HE.out, HC.out, HN.out]; rfl, C18.lat⟩
       · have hne : ((nE : Int) != 0) = true := by simp; omega
         have HE := hE.out
         have HC : OC = cmd0 := by rw [hC.out, HE, if_neg hn0]
         have HN : ON = Z := by rw [hN.out, HE, if_neg (fun h => hn0 h.1)]
         replace HE := hid HE
         replace HC := hid HC
         replace HN := hid HN
         clear hE hC hN
         go_wp2_with (first
          | (refine QkW 0 32 rfl rfl _ _ rfl (C11.nth 0 rfl) rfl rfl Qe2 hnbl (by omega) ?_; intro w12 hb12 ho12; rw [hZ1.out] at hb12
             have C12 := C11.write 0 rfl ho12 hb12)
          | (refine Qal rfl 54 _ rfl (CC cmd0) (by simp only [QC0, QC9]; exact hb0) ?_)
          | (refine Qal rfl 42 _ rfl (Z.map W8) (by simp only [QC0, QC9]; exact hbh) ?_)
          | (refine QbO rfl rfl _ _ rfl (C12.nth 4 rfl) rfl rfl hz0 ?_; intro w13 hb13 ho13
             have C13 := C12.write 4 rfl ho13 hb13)
          | (refine QeX rfl rfl _ _ rfl (C13.nth 3 rfl) rfl rfl l0 hzl ?_; intro w14 hb14 ho14
             have C14 := C13.write 3 rfl ho14 hb14)
          | fail)
         exact bodyPost_ret (Qbs rfl _ _ _ _ _ _ _ _ _ _ (C14.nth 4 rfl) rfl Tryz.underlying54 rfl (by rw [Qap]; exact Qgf) (C14.nth 3 rfl) rfl Tryz.underlying42 rfl (by rw [QCP, l0]; exact Qdc)) rfl ⟨by rw [HE.out, HC.out, HN.out]; rfl, C14.lat⟩
   · have HE : OE = 3 := by rw [hE.out, if_pos hd0]
     have HC : OC = cmd0 := by rw [hC.out, HE, if_neg (by decide)]
     have HN : ON = Z := by rw [hN.out, HE, if_neg (by simp)]
     have hne : ((dE : Int) != 0) = true := by simp; omega
     replace HE := hid HE
     replace HC := hid HC
     replace HN := hid HN
     clear hE hC hN
     go_wp2_with (first
      | (refine QbO rfl rfl _ _ rfl (Blk.new w9 _ cz0) rfl rfl rfl ?_; intro w10 hb10 ho10
         have C10 := C9.push (Qaa _ _) (QCX _) ho10 hb10)
      | (refine Qal rfl 54 _ rfl (CC cmd0) (by simp only [QC0, QC9]; exact hb0) ?_)
      | (refine Qal rfl 42 _ rfl (Z.map W8) (by simp only [QC0, QC9]; exact hbh) ?_)
      | (refine QbO rfl rfl _ _ rfl (C10.nth 3 rfl) rfl rfl hz0 ?_; intro w11 hb11 ho11
         have C11 := C10.write 3 rfl ho11 hb11)
      | (refine QeX rfl rfl _ _ rfl (C11.nth 2 rfl) rfl rfl l0 hzl ?_; intro w12 hb12 ho12
         have C12 := C11.write 2 rfl ho12 hb12)
      | fail)
     exact bodyPost_ret (Qbs rfl _ _ _ _ _ _ _ _ _ _ (C12.nth 3 rfl) rfl Tryz.underlying54 rfl (by rw [Qap]; exact Qgf) (C12.nth 2 rfl) rfl Tryz.underlying42 rfl (by rw [QCP, l0]; exact Qdc)) rfl ⟨by rw [HE.out, HC.out, HN.out]; rfl, C12.lat⟩
end Go.Proofs.YtadfeclgoclalaaGreat
