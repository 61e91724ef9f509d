/-
  Lemmas for the last text of this claim (part 18 of 20).
-/
import Derived.BigQuiet
import Derived.BigRegion
import Derived.ChangeOld
import Derived.Deep.RegionWith
import Derived.JoinedCond
import Derived.LaidMore
import Derived.Laws.CopyOwn
import Derived.Laws.Externs
import Derived.Laws.IdiomStrings
import Derived.Laws.Tables
import Derived.Lib.AppendStr
import Derived.Lib.AppendZerosOnto
import Derived.Lib.Mul64
import Derived.Lib.SlBytesConst
import Derived.LoopN
import Derived.OpenShut
import Derived.OrdersHeld
import Derived.ProofKit
import Derived.Shelf.Spec.BitsCarry
import Derived.ShutString
import Derived.Test.YtadfeclgoclalaaGreatProg
import Derived.Test.YtadfeclgoclalaaGreatRows
import Derived.WalkKit
import Derived.WalkLawsBesides
import Derived.WalkSpells
import Derived.Test.YtadfeclgoclalaaGreatPJ
import Derived.Test.YtadfeclgoclalaaGreatPM
import Derived.Test.YtadfeclgoclalaaGreatPP
import Derived.Test.YtadfeclgoclalaaGreatPQ
open Bool renaming and_eq_true → QC7
open List renaming replicate → QCK, getElem?_cons_succ → QCL, getElem?_cons_zero → QCM, cons_append → QCO, length_map → QCP, nil_append → QCQ, getElem?_eq_getElem → QCR, getD_eq_getElem?_getD → QCS, setIfInBounds_toArray → QCT, length_append → QCU, set_cons_zero → QCV, set_cons_succ → QCW, length_replicate → QCY, take_of_length_le → QCZ, map_toArray → QC0, not_mem_nil → QC1, mem_cons → QC2, append_assoc → QC3, getElem?_append_right → QC4, getElem?_append_left → QC8, map_nil → QC9, getElem?_eq_some_iff → QDa, length_drop → QDc, length_take → QDe, map_cons → QDh, append_nil → QDr, map_replicate → QDs, all_eq_true → QDv, length_cons → QDC, drop_eq_getElem_cons → QDE, mem_singleton → QDX, all_cons → QDY, getElem_mem → QD6, drop_eq_nil_of_le → QEr, replicate_succ → QEG, flatMap_cons → QES
open Nat renaming le_refl → QCX, mod_eq_of_lt → QC5, lt_of_lt_of_le → QDb, zero_add → QDf, min_eq_left → QDO, zero_mod → QEK, zero_mul → QEP
open Option renaming toList_some → QCN, map_some → QEt
open UInt64 renaming ofNat → QDd, toNat_ofNat' → QDk
open UInt8 renaming toNat_inj → QDx, lt_iff_toNat_lt → QEw
namespace Go.Proofs.YtadfeclgoclalaaGreat
open Go.RowKit
open Go.BigFrame
theorem QvV : (Tryz.prog.info? 25).bind (·.zero) = some (.agg (PaC prt0 (.slice none 0 0)).toArray) := by kernel_rfl
theorem QcE : (Tryz.prog.info? 25).map (·.size) = some 5 := by kernel_rfl
theorem QaP (p : Prt) (v : Value) : (PaC p v).length = 5 := rfl
theorem QyP (p : Prt) {v : Value} (h : v.oneCell' = true) : ∀ u ∈ PaC p v, u.oneCell' = true := by
 intro u hu
 simp only [PaC, QC2, QC1, or_false] at hu
 rcases hu with rfl | rfl | rfl | rfl | rfl <;> first | rfl | exact h
theorem Qmf : Tryz.prog.built 25 [] = some (PaC prt0 (.slice none 0 0)).toArray := by
 rw [Qa8 (pl := [(0, 1), (1, 1), (2, 1), (3, 1), (4, 1)]) Tryz.underlying25 QvV (by kernel_rfl), Qcv]
theorem Qrq (kd : UInt8) (id : UInt64) (ix ct : Int) : Tryz.prog.built 25 [(0, W8 kd), (1, W64 id), (2, .int .i64 ix), (3, .int .i64 ct)] = some (PaC ⟨kd, id, ix, ct, []⟩ (.slice none 0 0)).toArray := by
 rw [Qa8 (pl := [(0, 1), (1, 1), (2, 1), (3, 1), (4, 1)]) Tryz.underlying25 QvV (by kernel_rfl), Qbr (vs := [W8 kd]) (off := 0) rfl rfl (by simp [PaC]), Qbr (vs := [W64 id]) (off := 1) rfl rfl (by simp [PaC, QaB]), Qbr (vs := [.int .i64 ix]) (off := 2) rfl rfl (by simp [PaC, QaB]), Qbr (vs := [.int .i64 ct]) (off := 3) rfl rfl (by simp [PaC, QaB]), Qcv]
 rfl
section
variable {ops : Array Oper} {rest : List Oper} {o : Oper} {a : Act} {w : World} {Q : Exit → Act → World → Prop}
theorem Qbq (hgd : o.guard = none) (hd : o.dst = none) (x y : Operand) (ho : o.op = .store 25 x y) {g : Nat} {t : TypeId} {l : List Value} {p : Prt} {v : Value} (hg : Blk w g t l) (hx : a.eval x = .pointer (some ⟨g, 0, none⟩)) (hy : a.eval y = .agg (PaC p v).toArray) (hv : v.oneCell' = true) (hl : l.length = 5)
 (h : ∀ w', Blk w' g t (PaC p v) → Only g w w' → wpList Tryz.prog ops Q rest a w') : wpList Tryz.prog ops Q (o :: rest) a w :=
 Qa6 hgd hd _ x y ho g t l _ hg hx hy 5 QcE rfl hl (QyP p hv) h
theorem Qgm (hw : Region.wanted o (yielded ops a.tmps) = true) (x : Operand) (ho : o.op = .load 25 x) {g : Nat} {t : TypeId} {p : Prt} {v : Value} (hb : Blk w g t (PaC p v)) (hx : a.eval x = .pointer (some ⟨g, 0, none⟩))
 (h : wpList Tryz.prog ops Q rest (a.put o.dst (.agg (PaC p v).toArray)) w) : wpList Tryz.prog ops Q (o :: rest) a w :=
 QaN hw _ x ho g 0 _ (fun j v hv => by rw [QDf]; exact hb.cellD _ hv) hx _ Tryz.underlying25 rfl (by rw [QaP]; exact QcE) h
end
theorem QaO {w : World} {g : Nat} {t : TypeId} {p : Prt} {v : Value} (h : Blk w g t (PaC p v)) : w.cell? ⟨g, 0, none⟩ = some (W8 p.kd) ∧ w.cell? ⟨g, 1, none⟩ = some (W64 p.id) ∧ w.cell? ⟨g, 2, none⟩ = some (.int .i64 p.ix) ∧ w.cell? ⟨g, 3, none⟩ = some (.int .i64 p.ct) ∧ w.cell? ⟨g, 4, none⟩ = some v :=
 ⟨h.cellD 0 rfl, h.cellD 1 rfl, h.cellD 2 rfl, h.cellD 3 rfl, h.cellD 4 rfl⟩
theorem Qk7 (k : UInt8) : k = 1 ∨ k = 2 ∨ k = 3 ∨ (k < 1 ∨ 3 < k) := by
 have e1 : (1 : UInt8).toNat = 1 := rfl
 have e2 : (2 : UInt8).toNat = 2 := rfl
 have e3 : (3 : UInt8).toNat = 3 := rfl
 rw [QEw, QEw, ← QDx, ← QDx, ← QDx]
 omega
theorem QvX (id : UInt64) (ix ct : Int) (da : List UInt8) : prtE ⟨1, id, ix, ct, da⟩ = if 450 < da.length then 2 else if ct < 1 ∨ 16 < ct ∨ ix < 0 ∨ ct ≤ ix then 3 else 0 := by
 rw [prtE, if_neg (show ¬ ((1 : UInt8) < 1 ∨ 3 < (1 : UInt8)) by decide)]
 simp
theorem QwD (id : UInt64) (ix ct : Int) (da : List UInt8) : prtE ⟨2, id, ix, ct, da⟩ = if 450 < da.length then 2 else if ct < 1 ∨ 16 < ct ∨ ix < 0 ∨ ct ≤ ix then 3 else if ct ≠ 1 then 3 else if id ≠ 0 ∨ da.length ≠ 0 then 3 else 0 := by
 rw [prtE, if_neg (show ¬ ((2 : UInt8) < 1 ∨ 3 < (2 : UInt8)) by decide)]
 simp
theorem Qwp (id : UInt64) (ix ct : Int) (da : List UInt8) : prtE ⟨3, id, ix, ct, da⟩ = if 450 < da.length then 2 else if ct < 1 ∨ 16 < ct ∨ ix < 0 ∨ ct ≤ ix then 3 else if ct ≠ 1 then 3 else 0 := by
 rw [prtE, if_neg (show ¬ ((3 : UInt8) < 1 ∨ 3 < (3 : UInt8)) by decide)]
 simp
theorem Qoy {p : Prt} (h : p.kd < 1 ∨ 3 < p.kd) : prtE p = 1 := by rw [prtE, if_pos h]
theorem QsO {k : UInt8} (h : k < 1 ∨ 3 < k) : (k != 1) = true ∧ (k != 2) = true ∧ (k != 3) = true := by
 refine ⟨?_, ?_, ?_⟩ <;> (rw [bne_iff_ne]; rintro rfl; exact absurd h (by decide))
set_option maxRecDepth 100000 in
set_option maxHeartbeats 4000000 in
theorem Qp4 (p : Prt) (A : Option Addr) (n c : Nat) (hn : p.da.length = n) (w : World) : Calls Tryz.prog 47 #[.agg (PaC p (.slice A n c)).toArray] w fun e w' => e = .returned (.int .i64 (prtE p : Nat)) ∧ Later w w' := by
 obtain ⟨kd, id, ix, ct, da⟩ := p
 simp only at hn
 have hb : Blk (w.alloc (.cells (PaC ⟨kd, id, ix, ct, da⟩ (.slice A n c)).toArray 25)) w.heap.size 25 (PaC ⟨kd, id, ix, ct, da⟩ (.slice A n c)) := Blk.new _ _ _
 obtain ⟨c0, c1, c2, c3, c4⟩ := QaO hb
 have L := Qaa w (.cells (PaC ⟨kd, id, ix, ct, da⟩ (.slice A n c)).toArray 25)
 clear hb
 obtain ⟨E, hE⟩ : ∃ E, prtE ⟨kd, id, ix, ct, da⟩ = E := ⟨_, rfl⟩
 rw [hE]
 rcases Qk7 kd with rfl | rfl | rfl | hbad
 case inr.inr.inr =>
  have HE := hid (hE.symm.trans (Qoy (p := ⟨kd, id, ix, ct, da⟩) hbad))
  clear hE
  rcases hbad with h | h
  · go_enter Tryz.func47, Tryz.ntmps47
    go_wp2_with fail
    go_ret
    exact ⟨by rw [HE.out]; rfl, L⟩
  · by_cases h1 : kd < 1
    all_goals
     go_enter Tryz.func47, Tryz.ntmps47
     go_wp2_with fail
     go_ret
     exact ⟨by rw [HE.out]; rfl, L⟩
 all_goals
  have HE := hE.symm.trans (by first | exact QvX id ix ct da | exact QwD id ix ct da | exact Qwp id ix ct da)
  rw [hn] at HE
  replace HE := hid HE
  clear hE
  by_cases h2 : 450 < n
  · have hd : decide ((450 : Int) < (n : Int)) = true := decide_eq_true (by omega)
    replace HE := hid (HE.out.trans (if_pos h2))
    go_enter Tryz.func47, Tryz.ntmps47
    go_wp2_with fail
    go_ret
    exact ⟨by rw [HE.out]; rfl, L⟩
  have hd : decide ((450 : Int) < (n : Int)) = false := decide_eq_false (by omega)
  replace HE := hid (HE.out.trans (if_neg h2))
  by_cases h3 : ct < 1 ∨ 16 < ct ∨ ix < 0 ∨ ct ≤ ix
  · replace HE := hid (HE.out.trans (if_pos h3))
    by_cases k1 : ct < 1
    · go_enter Tryz.func47, Tryz.ntmps47
      go_wp2_with fail
      go_ret
      exact ⟨by rw [HE.out]; rfl, L⟩
    by_cases k2 : 16 < ct
    · go_enter Tryz.func47, Tryz.ntmps47
      go_wp2_with fail
      go_ret
      exact ⟨by rw [HE.out]; rfl, L⟩
    by_cases k3 : ix < 0
    · go_enter Tryz.func47, Tryz.ntmps47
      go_wp2_with fail
      go_ret
      exact ⟨by rw [HE.out]; rfl, L⟩
    have k4 : ct ≤ ix := by omega
    go_enter Tryz.func47, Tryz.ntmps47
    go_wp2_with fail
    go_ret
    exact ⟨by rw [HE.out]; rfl, L⟩
  replace HE := hid (HE.out.trans (if_neg h3))
  have k1 : ¬ ct < 1 := by omega
  have k2 : ¬ 16 < ct := by omega
  have k3 : ¬ ix < 0 := by omega
  have k4 : ¬ ct ≤ ix := by omega
  clear h3
 · go_enter Tryz.func47, Tryz.ntmps47
   go_wp2_with fail
   go_ret
   exact ⟨by rw [HE.out]; rfl, L⟩
 all_goals
  by_cases h4 : ct = 1
  case neg =>
   have hd4 : (ct != 1) = true := by simpa using h4
   replace HE := hid (HE.out.trans (if_pos h4))
   go_enter Tryz.func47, Tryz.ntmps47
   go_wp2_with fail
   go_ret
   exact ⟨by rw [HE.out]; rfl, L⟩
  subst h4
  replace HE := hid (HE.out.trans (if_neg (by simp)))
 · cases e1 : (id == 0)
   · have n1 : (id != 0) = true := by rw [bne, e1]; rfl
     have hne : id ≠ 0 := by simpa using e1
     replace HE := hid (HE.out.trans (if_pos (.inl hne)))
     go_enter Tryz.func47, Tryz.ntmps47
     go_wp2_with fail
     go_ret
     exact ⟨by rw [HE.out]; rfl, L⟩
   · have n1 : (id != 0) = false := by rw [bne, e1]; rfl
     have heq : id = 0 := by simpa using e1
     by_cases h5 : n = 0
     · replace HE := hid (HE.out.trans (if_neg (by simp [heq, h5])))
       have n2 : ((n : Int) != 0) = false := by simp [h5]
       clear h5 heq
       go_enter Tryz.func47, Tryz.ntmps47
       go_wp2_with fail
       go_ret
       exact ⟨by rw [HE.out]; rfl, L⟩
     · replace HE := hid (HE.out.trans (if_pos (.inr h5)))
       have n2 : ((n : Int) != 0) = true := by simp; omega
       clear h5 heq
       go_enter Tryz.func47, Tryz.ntmps47
       go_wp2_with fail
       go_ret
       exact ⟨by rw [HE.out]; rfl, L⟩
 · go_enter Tryz.func47, Tryz.ntmps47
   go_wp2_with fail
   go_ret
   exact ⟨by rw [HE.out]; rfl, L⟩
set_option maxRecDepth 100000 in
set_option maxHeartbeats 4000000 in
theorem Qpr (p : Prt) (A : Option Addr) (n c : Nat) (hn : p.da.length = n) (w : World) : Calls Tryz.prog 30 #[.agg (PaC p (.slice A n c)).toArray] w fun e w' => e = .returned (.int .i64 (prtE p : Nat)) ∧ Later w w' := by
 obtain ⟨kd, id, ix, ct, da⟩ := p
 simp only at hn
 have hb : Blk (w.alloc (.cells (PaC ⟨kd, id, ix, ct, da⟩ (.slice A n c)).toArray 25)) w.heap.size 25 (PaC ⟨kd, id, ix, ct, da⟩ (.slice A n c)) := Blk.new _ _ _
 obtain ⟨c0, c1, c2, c3, c4⟩ := QaO hb
 have L := Qaa w (.cells (PaC ⟨kd, id, ix, ct, da⟩ (.slice A n c)).toArray 25)
 clear hb
 obtain ⟨E, hE⟩ : ∃ E, prtE ⟨kd, id, ix, ct, da⟩ = E := ⟨_, rfl⟩
 rw [hE]
 rcases Qk7 kd with rfl | rfl | rfl | hbad
 case inr.inr.inr =>
  have HE := hid (hE.symm.trans (Qoy (p := ⟨kd, id, ix, ct, da⟩) hbad))
  clear hE
  obtain ⟨m1, m2, m3⟩ := QsO hbad
  clear hbad
  go_enter Tryz.func30, Tryz.ntmps30
  go_wp2_with fail
  go_ret
  exact ⟨by rw [HE.out]; rfl, L⟩
 all_goals
  have HE := hE.symm.trans (by first | exact QvX id ix ct da | exact QwD id ix ct da | exact Qwp id ix ct da)
  rw [hn] at HE
  replace HE := hid HE
  clear hE
  by_cases h2 : 450 < n
  · have hd : decide ((450 : Int) < (n : Int)) = true := decide_eq_true (by omega)
    replace HE := hid (HE.out.trans (if_pos h2))
    go_enter Tryz.func30, Tryz.ntmps30
    go_wp2_with fail
    go_ret
    exact ⟨by rw [HE.out]; rfl, L⟩
  have hd : decide ((450 : Int) < (n : Int)) = false := decide_eq_false (by omega)
  replace HE := hid (HE.out.trans (if_neg h2))
  by_cases h3 : ct < 1 ∨ 16 < ct ∨ ix < 0 ∨ ct ≤ ix
  · replace HE := hid (HE.out.trans (if_pos h3))
    by_cases k1 : ct < 1
    · go_enter Tryz.func30, Tryz.ntmps30
      go_wp2_with fail
      go_ret
      exact ⟨by rw [HE.out]; rfl, L⟩
    by_cases k2 : 16 < ct
    · go_enter Tryz.func30, Tryz.ntmps30
      go_wp2_with fail
      go_ret
      exact ⟨by rw [HE.out]; rfl, L⟩
    by_cases k3 : ix < 0
    · go_enter Tryz.func30, Tryz.ntmps30
      go_wp2_with fail
      go_ret
      exact ⟨by rw [HE.out]; rfl, L⟩
    have k4 : ct ≤ ix := by omega
    go_enter Tryz.func30, Tryz.ntmps30
    go_wp2_with fail
    go_ret
    exact ⟨by rw [HE.out]; rfl, L⟩
  replace HE := hid (HE.out.trans (if_neg h3))
  have k1 : ¬ ct < 1 := by omega
  have k2 : ¬ 16 < ct := by omega
  have k3 : ¬ ix < 0 := by omega
  have k4 : ¬ ct ≤ ix := by omega
  clear h3
 · go_enter Tryz.func30, Tryz.ntmps30
   go_wp2_with fail
   go_ret
   exact ⟨by rw [HE.out]; rfl, L⟩
 all_goals
  by_cases h4 : ct = 1
  case neg =>
   have hd4 : 1 < ct := by omega
   replace HE := hid (HE.out.trans (if_pos h4))
   go_enter Tryz.func30, Tryz.ntmps30
   go_wp2_with fail
   go_ret
   exact ⟨by rw [HE.out]; rfl, L⟩
  subst h4
  replace HE := hid (HE.out.trans (if_neg (by simp)))
 · cases e1 : (id == 0)
   · have n1 : (id != 0) = true := by rw [bne, e1]; rfl
     have hne : id ≠ 0 := by simpa using e1
     replace HE := hid (HE.out.trans (if_pos (.inl hne)))
     go_enter Tryz.func30, Tryz.ntmps30
     go_wp2_with fail
     go_ret
     exact ⟨by rw [HE.out]; rfl, L⟩
   · have n1 : (id != 0) = false := by rw [bne, e1]; rfl
     have heq : id = 0 := by simpa using e1
     by_cases h5 : n = 0
     · replace HE := hid (HE.out.trans (if_neg (by simp [heq, h5])))
       have n2 : decide (0 < (n : Int)) = false := decide_eq_false (by omega)
       have n3 : ¬ 0 < n := by omega
       clear h5 heq
       go_enter Tryz.func30, Tryz.ntmps30
       go_wp2_with fail
       go_ret
       exact ⟨by rw [HE.out]; rfl, L⟩
     · replace HE := hid (HE.out.trans (if_pos (.inr h5)))
       have n2 : decide (0 < (n : Int)) = true := decide_eq_true (by omega)
       have n3 : 0 < n := by omega
       clear h5 heq
       go_enter Tryz.func30, Tryz.ntmps30
       go_wp2_with fail
       go_ret
       exact ⟨by rw [HE.out]; rfl, L⟩
 · go_enter Tryz.func30, Tryz.ntmps30
   go_wp2_with fail
   go_ret
   exact ⟨by rw [HE.out]; rfl, L⟩
end Go.Proofs.YtadfeclgoclalaaGreat
namespace Go.Proofs.YtadfeclgoclalaaGreat
open Go.RowKit
open Go.BigFrame
theorem QlZ {P : Program} {d n k : Nat} {t : TypeId} {f : Field} {fs : List Field} {fs' : Array Field} (hf : f.type = t) (hu : P.underlying t = some (.struct fs')) (hst : P.stoodInHeld t = false) (hs : (P.info? t).map (·.size) = some n) (hn : f.name ≠ "_")
 {xs ys ps qs : List Value} (ho : f.offset = k) (hp : (xs.drop k).take n = ps) (hq : (ys.drop k).take n = qs) (b : Bool) (w : World) (hb : (Op.eqFields (d + 1) ps.toArray qs.toArray fs'.toList).run P w = .ok b w) :
 (Op.eqFields (d + 2) xs.toArray ys.toArray (f :: fs)).run P w = if b then (Op.eqFields (d + 2) xs.toArray ys.toArray fs).run P w else .ok false w := by
 have e : P.fieldsOf t = fs' := by unfold Program.fieldsOf; rw [hu]
 rw [Op.eqFields, if_pos hn]
 simp only [Sem.run_bind, hf, ho, Qec hu rfl hs xs _ hp, Qec hu rfl hs ys _ hq, Result.andThen_ok]
 rw [run_equalIn_struct w (d + 1) t ps.toArray qs.toArray (by rw [e]; exact hu) hst, e, hb]
 simp only [Result.andThen_ok]
 cases b <;> simp
theorem Qx6 : (Tryz.prog.info? 43).map (·.size) = some 480 := by kernel_rfl
set_option maxRecDepth 100000 in
theorem Qw5 (d : Nat) (x y : List UInt8) (hx : x.length = 288) (hy : y.length = 288) (w : World) {fs : Array Field} (hu : Tryz.prog.underlying 42 = some (.struct fs)) :
 (Op.eqFields (d + 2) (x.map W8).toArray (y.map W8).toArray fs.toList).run Tryz.prog w = .ok (x == y) w := by
 rw [Tryz.underlying42] at hu
 cases hu
 have l1 : ∀ off n, off + n ≤ 288 → (subB x off n).length = n := fun off n h => Qaq (by omega)
 have l2 : ∀ off n, off + n ≤ 288 → (subB y off n).length = n := fun off n h => Qaq (by omega)
 rw [Qca (k := 0) rfl (by decide) rfl (QbJ x 0 32) (QbJ y 0 32) (l1 _ _ (by omega)) (l2 _ _ (by omega)),
  Qdt (k := 32) rfl Tryz.underlying39 QnV QbZ Tryz.underlying5 (by decide) rfl (QbJ x 32 16) (QbJ y 32 16) (l1 _ _ (by omega)) (l2 _ _ (by omega)),
  Qdt (k := 48) rfl Tryz.underlying40 Qym QbZ Tryz.underlying5 (by decide) rfl (QbJ x 48 240) (QbJ y 48 240) (l1 _ _ (by omega)) (l2 _ _ (by omega)), Qdm]
 have h : (x == y) = (subB x 0 32 == subB y 0 32 && (subB x 32 16 == subB y 32 16 && subB x 48 240 == subB y 48 240)) := by
  rw [Qob x y 48 240 (by omega) (by omega), Qka x y 32 16, Qka x y 0 32]
  rfl
 rw [h]
 cases subB x 0 32 == subB y 0 32 <;> cases subB x 32 16 == subB y 32 16 <;> cases subB x 48 240 == subB y 48 240 <;> rfl
abbrev Y768 := {l : List UInt8 // l.length = 768}
theorem QxX : Tryz.prog.eqGuardType Tryz.prog.depth 45 = false := by kernel_rfl
@[go_sem high] theorem Qxd (op : BinOp) (x y : Operand) (xs ys : Array Value) (w : World) : (eqGuard op 45 x y (.agg xs) (.agg ys)).run Tryz.prog w = .ok () w := run_eqGuard_agg w op _ x y xs ys QxX
set_option maxRecDepth 100000 in
theorem Qih (x y : List UInt8) (hx : x.length = 768) (hy : y.length = 768) (w : World) {fs : Array Field} (hu : Tryz.prog.underlying 45 = some (.struct fs)) :
 (Op.eqFields 9999 (x.map W8).toArray (y.map W8).toArray fs.toList).run Tryz.prog w = .ok (x == y) w := by
 rw [Tryz.underlying45] at hu
 cases hu
 have l1 : (subB x 0 288).length = 288 := Qaq (by omega)
 have l2 : (subB y 0 288).length = 288 := Qaq (by omega)
 have l3 : (subB x 288 480).length = 480 := Qaq (by omega)
 have l4 : (subB y 288 480).length = 480 := Qaq (by omega)
 rw [QlZ (d := 9997) (k := 0) rfl Tryz.underlying42 (by kernel_rfl) Qdc (by decide) rfl (QbJ x 0 288) (QbJ y 0 288) _ w (Qw5 9996 _ _ l1 l2 w Tryz.underlying42),
  Qdt (d := 9997) (k := 288) rfl Tryz.underlying43 Qx6 QbZ Tryz.underlying5 (by decide) rfl (QbJ x 288 480) (QbJ y 288 480) l3 l4, Qdm]
 have h : (x == y) = (subB x 0 288 == subB y 0 288 && subB x 288 480 == subB y 288 480) := by
  rw [Qob x y 288 480 (by omega) (by omega), Qka x y 0 288]
  rfl
 rw [h]
 cases subB x 0 288 == subB y 0 288 <;> cases subB x 288 480 == subB y 288 480 <;> rfl
@[go_sem high] theorem Qxt (x y : Y768) (w : World) : (binOp .eql 45 (.agg (x.val.map W8).toArray) (.agg (y.val.map W8).toArray)).run Tryz.prog w = .ok (.bool (x.val == y.val)) w := by
  rw [QgN Tryz.underlying45 (by kernel_rfl), Qih _ _ x.2 y.2 w Tryz.underlying45]
  rfl
@[go_sem high] theorem Qxl (x y : Y768) (w : World) : (binOp .neq 45 (.agg (x.val.map W8).toArray) (.agg (y.val.map W8).toArray)).run Tryz.prog w = .ok (.bool (!(x.val == y.val))) w := by
  rw [QiJ Tryz.underlying45 (by kernel_rfl), Qih _ _ x.2 y.2 w Tryz.underlying45]
  rfl
section
variable {ops : Array Oper} {rest : List Oper} {o : Oper} {a : Act} {w : World} {Q : Exit → Act → World → Prop}
theorem Qo1 (hw : Region.wanted o (yielded ops a.tmps) = true) (x : Operand) (ho : o.op = .load 45 x) {g : Nat} {t : TypeId} {c : Cmd} {P : List UInt8} {v : Value} (hb : Blk w g t (PC c P v)) (hP : P.length = 768) (hx : a.eval x = .pointer (some ⟨g, 20, none⟩))
 (h : wpList Tryz.prog ops Q rest (a.put o.dst (.agg (P.map W8).toArray)) w) : wpList Tryz.prog ops Q (o :: rest) a w :=
 QaN hw _ x ho g 20 _ (fun j v hv => hb.cellD _ (Qwe _ _ _ j v hv)) hx _ Tryz.underlying45 rfl (by rw [QCP, hP]; exact Qfr) h
end
set_option maxRecDepth 100000 in
set_option maxHeartbeats 2000000 in
theorem Qn0 (A : Option Addr) (c : Nat) (b : List UInt8) (w : World) (hb : RdB w A 768 b) : Calls Tryz.prog 8 #[.slice A 768 c] w fun e w' => e = .returned (.tuple #[.agg (b.map W8).toArray, .bool true]) ∧ Later w w' := by
 have hl := hb.len
 have HZ := hid zcP
 have C1 : Bag w (w.alloc (.cells Tryz.zeroCells45 45)) [(w.heap.size, 45, (QCK 768 (0 : UInt8)).map W8)] := (Bag.none w).add (Qaa _ _) (by simp) (QCX _) ((Blk.new w _ Tryz.zeroCells45.toList).cast zcP)
 have l0 : ((QCK 768 (0 : UInt8)).map W8).length = 768 := by rw [QCP, QCY]
 have hP := hid (fun A c (w : World) h hc => QpF A c b w h hc)
 have hB := hid (fun (w : World) => Qkg b hl w)
 have hE := hid (fun A B c d (w : World) h1 h2 => QiA A B 768 768 c d b b w h1 h2 (by omega) (by omega))
 rw [decide_eq_true rfl] at hE
 generalize QCK 768 (0 : UInt8) = Z at *
 go_enter Tryz.func8, Tryz.ntmps8
 go_wp2_with fail
 (refine (Qbv A 768 c b _ (hb.later C1.lat) (by omega)).mono ?_); rintro e w2 ⟨A2, c2, rfl, o2, l2⟩
 go_wp2_with fail
 (refine (hP.out _ _ _ o2.rd o2.cap).mono ?_); rintro e w3 ⟨rfl, l3⟩
 replace C1 := (C1.later l2).later l3
 clear o2 l2 l3
 go_wp2_with (first
  | (refine Qe8 rfl rfl _ _ rfl ((Blk.new w3 _ Tryz.zeroCells45.toList).cast HZ.out) rfl rfl hl l0 ?_; intro w4 hb4 ho4
     have C2 := C1.push (Qaa _ _) (QCX _) ho4 hb4)
  | fail)
 have C3 := C2.drew
 have n0 := C2.ne 0 1 rfl rfl (by decide)
 refine QbP (Spared w4 [w.heap.size]) [([0, 1, 2, 3, 4, 6], 5), ([], 7), ([8], 9)] [10] (by as_aux_lemma => kernel_rfl) (by as_aux_lemma => kernel_rfl) (by intro _ _ d _ _ h; cases d <;> exact h) ⟨Spared.refl _ _, ?_⟩
 simp only [Qba, pick, QCL, QCM, QCN, QCO, QCQ]
 repeat (first | go_big_quiet_skip | (go_big_quiet_want; (refine QcM _ _ rfl 0 (b.map W8) (C2.nth 0 rfl) (by intro x hx; simp only [QC2, QC1, or_false] at hx; subst hx; exact n0) rfl (QcF _) _ Tryz.underlying45 rfl (by rw [QCP, hl]; exact Qfr) ?_); simp only [Act.put, QCT, QCW, QCV]; go_big_quiet_on) | (go_big_quiet_step (fail)) | (go_big_quiet_want; go_big_quiet_op; refine ⟨_, fun _ _ => rfl, ?_⟩; go_big_quiet_on))
 refine wpQuiet_nil ?_
 go_wp2_with fail
 (refine (hB.out _).mono ?_); rintro e w5 ⟨A5, c5, rfl, o5, l5⟩
 have C4 := C3.later l5
 have S5 := (Spared.refl w4 [w.heap.size]).later l5
 go_wp2_with fail
 refine ⟨S5, ?_⟩
 try simp only [Qba, pick, QCL, QCM, QCN, QCO, QCQ]
 repeat (first | (go_big_quiet_step (fail)) | (go_big_quiet_want; go_big_quiet_op; refine ⟨_, fun _ _ => rfl, ?_⟩; go_big_quiet_on))
 refine wpQuiet_nil ?_
 go_wp2_with fail
 (refine (hE.out _ _ _ _ _ o5.rd (hb.later C4.lat)).mono ?_); rintro e w6 ⟨rfl, l6⟩
 have C5 := C4.later l6
 have S6 := S5.later l6
 go_wp2_with fail
 refine ⟨S6, ?_⟩
 try simp only [Qba, pick, QCL, QCM, QCN, QCO, QCQ]
 repeat (first | (go_big_quiet_step (fail)) | (go_big_quiet_want; go_big_quiet_op; refine ⟨_, fun _ _ => rfl, ?_⟩; go_big_quiet_on))
 refine wpQuiet_nil ?_
 go_wp2_with (first
  | (refine Qe8 rfl rfl _ _ rfl (C5.nth 1 rfl) rfl rfl hl l0 ?_; intro w7 hb7 ho7
     have C6 := C5.write 1 rfl ho7 hb7)
  | fail)
 refine ⟨S6.only ho7 (QDX.2 rfl), ?_⟩
 try simp only [Qba, pick, QCL, QCM, QCN, QCO, QCQ]
 repeat (first | (go_big_quiet_step (fail)) | (go_big_quiet_want; go_big_quiet_op; refine ⟨_, fun _ _ => rfl, ?_⟩; go_big_quiet_on))
 refine wpQuiet_nil ?_
 go_wp2_with fail
 exact bodyPost_ret (Qai rfl _ _ _ _ _ _ (C6.nth 1 rfl) rfl Tryz.underlying45 rfl (by rw [QCP, hl]; exact Qfr)) rfl ⟨rfl, C6.lat⟩
theorem Qde {P : Program} {o : Oper} {a : Act} {J : Act → Prop} (ty : TypeId) (x : Operand) (ho : o.op = .load ty x) {w0 : World} {g : Nat} {t : TypeId} {l : List Value} (off : Nat) (vs : List Value) (hb : Blk w0 g t l) (hx : a.eval x = .pointer (some ⟨g, off, none⟩))
 (hv : ∀ j v, vs[j]? = some v → l[off + j]? = some v) (d : TypeDesc) (hu : P.underlying ty = some d) (hd : QbV d = true) (hi : (P.info? ty).map (·.size) = some vs.length) (h : J (a.put o.dst (.agg vs.toArray))) : o.quiet P a (fun w' => ∃ x, w' = grow w0 x) J :=
 Qa0 _ x ho g off vs (fun _ hw j v hv' => by obtain ⟨y, rfl⟩ := hw; exact (hb.later ⟨y, rfl⟩).cellD _ (hv j v hv')) hx d hu hd hi h
end Go.Proofs.YtadfeclgoclalaaGreat
namespace Go.Proofs.YtadfeclgoclalaaGreat
open Go.RowKit
open Go.BigFrame
def LC (x : Nod) (v : Value) (n : Int) : List Value := NC x ++ [v, .int .i64 n]
theorem Qtq (x : Nod) (v : Value) (n : Int) : (LC x v n).length = 68 := by rw [LC, QCU, Qa9]; rfl
theorem Qwc (x : Nod) (v : Value) (n : Int) {i : Nat} {u : Value} (h : (NC x)[i]? = some u) : (LC x v n)[0 + i]? = some u := by
 rw [QDf, LC, QC8 (QDa.1 h).1]
 exact h
theorem QtV (x : Nod) (v : Value) (n : Int) : (LC x v n)[67]? = some (.int .i64 n) := by
 rw [LC, QC4 (by rw [Qa9]; omega), Qa9]
 rfl
theorem QBM : (Tryz.prog.info? 74).bind (·.zero) = some (.agg (LC nod0 (.pointer none) 0).toArray) := by kernel_rfl
theorem Qna (x : Nod) : Tryz.prog.built 74 [(0, .agg (NC x).toArray)] = some (LC x (.pointer none) 0).toArray := by
 rw [Qa8 (pl := [(0, 66), (66, 1), (67, 1)]) Tryz.underlying74 QBM (by kernel_rfl), Qbr (vs := NC x) (off := 0) rfl (by rw [Qa9]; rfl) (by rw [Qa9, Qtq]; omega), Qcv, LC, Qlq (by rw [Qa9, Qa9]), LC]
set_option maxRecDepth 100000 in
theorem Qur (x : Nod) (w : World) :
 Calls Tryz.prog 17 #[.agg (NC x).toArray] w fun e w' => ∃ g, e = .returned (.pointer (some ⟨g, 0, none⟩)) ∧ w.heap.size ≤ g ∧ Blk w' g 74 (LC x (.pointer none) 0) ∧ Later w w' := by
 have hb0 : Blk (w.alloc (.cells (NC x).toArray 71)) w.heap.size 71 (NC x) := Blk.new _ _ _
 have L := Qaa w (.cells (NC x).toArray 71)
 have hbr := Qna x
 have L2 := Qaa (w.alloc (.cells (NC x).toArray 71)) (.cells (LC x (.pointer none) 0).toArray 74)
 have hb1 := Blk.new' (n := w.heap.size + 1) (w.alloc (.cells (NC x).toArray 71)) 74 (LC x (.pointer none) 0) (by simp)
 go_enter Tryz.func17, Tryz.ntmps17
 go_wp2_with (first
  | (refine QpZ rfl _ rfl (QsM hb0) rfl ?_)
  | (refine Qal rfl 74 _ rfl (LC x (.pointer none) 0) (by simp only [QC0, QDh, QC9]; exact hbr) ?_)
  | fail)
 go_ret
 exact ⟨_, rfl, Nat.le_succ _, hb1, L.trans L2⟩
set_option maxRecDepth 100000 in
theorem Qpz (g : Nat) (t : TypeId) (x : Nod) (v : Value) (n : Int) (w : World) (hb : Blk w g t (LC x v n)) :
 Calls Tryz.prog 18 #[.pointer (some ⟨g, 0, none⟩)] w fun e w' => e = .returned (.int .i64 n) ∧ Later w w' := by
 have c0 := hb.cellD 67 (QtV x v n)
 have hlt := hb.lt
 go_enter Tryz.func18, Tryz.ntmps18
 go_wp2
 go_ret
 exact ⟨rfl, Later.refl w⟩
set_option maxRecDepth 100000 in
theorem Qt8 : (Lad.at (Qcs (QCK 32 0)) (QaT (QCK 32 0)) 255).x2 = 0 := by decide +kernel
theorem QlS : Qbe (QCK 32 0) (QCK 32 0) = 5 := by
 have h : QhU (QCK 32 0) (QCK 32 0) = 0 := by rw [QhU, Qt8, fmul, QEP, QEK]
 rw [Qbe, if_pos ⟨QCY, QCY⟩, if_pos h]
theorem QwN (k n : Nat) (h : k ≤ n) : (QCK n (0 : UInt8)).take k = QCK k 0 := by rw [List.take_replicate, QDO h]
theorem Qvv : unwE (QCK 32 0) z768 = 5 := by
 rw [unwE, z768, QwN 32 768 (by omega), QlS, if_neg (by decide)]
set_option maxRecDepth 100000 in
set_option maxHeartbeats 1000000 in
theorem Qtc (w : World) : Calls Tryz.prog 4 #[] w fun e w' => e = .returned (.bool true) ∧ Later w w' := by
 have hU := hid (fun (w : World) A h => Qhc A 32 32 (QCK 32 0) z768 w h (by omega) QaF)
 rw [Qvv] at hU
 have hp0 : Tryz.prog.built 45 [] = some (z768.map W8).toArray := QpG
 have hl : (unwP (QCK 32 0) z768).length = 768 := by
  rw [unwP, z768, QwN 32 768 (by omega), QlS, if_neg (by decide), QCY]
 generalize unwP (QCK 32 0) z768 = P at *
 generalize unwC (QCK 32 0) z768 = C at *
 generalize unwB (QCK 32 0) z768 = B at *
 have HZ := hid zcPe
 have hzl : (PC cmd0 z768 nil8).length = 789 := QaG _ QaF _
 have hT := hid Qpz
 go_enter Tryz.func4, Tryz.ntmps4
 go_wp2_with (first
  | (refine Qax rfl _ _ _ rfl 5 _ 1 Tryz.underlying22 Qbl rfl _ _ _ _ 32 rfl rfl rfl rfl (by omega) (by omega) ?_; intro w1 hb1 hl1)
  | (refine Qal rfl 45 _ rfl (z768.map W8) (by simp only [QC0, QC9]; exact hp0) ?_)
  | fail)
 (refine (hU.out _ _ (show RdB _ (some ⟨w.heap.size, 0, none⟩) 32 (QCK 32 0) from hb1.rd rfl)).mono ?_); rintro e w2 ⟨A2, c2, rfl, _, l2⟩
 have L := hl1.trans l2
 clear hb1 hl1 l2 hU
 go_wp2_with (first
  | (refine Qbp rfl rfl _ _ rfl ((Blk.new w2 _ Tryz.zeroCells58.toList).cast HZ.out) rfl rfl hl rfl hzl ?_; intro w3 hb3 ho3)
  | (refine Qal rfl 33 _ rfl (NC ⟨⟨#[97]⟩, 7, QhC, QhC⟩) (by simp only [QC0, QDh, QC9]; exact QpU _ 7) ?_)
  | (refine Qal rfl 71 _ rfl (NC ⟨⟨#[97]⟩, 7, QhC, QhC⟩) (by simp only [QC0, QDh, QC9]; exact QmZ _) ?_)
  | fail)
 have L3 := (L.trans (Qaa w2 (.cells Tryz.zeroCells58 58))).only ho3 (by have := L.size; simp at this ⊢; omega)
 (with_reducible refine (Qur _ _).mono ?_); rintro e w4 ⟨g4, rfl, hg4, hb4, l4⟩
 have c0 := hb4.cellD 0 (Qwc _ _ _ (i := 0) rfl)
 have c1 := hb4.cellD 1 (Qwc _ _ _ (i := 1) rfl)
 have hlt := hb4.lt
 go_wp2_with fail
 (refine (hT.out _ _ _ _ _ _ hb4).mono ?_); rintro e w5 ⟨rfl, l5⟩
 go_wp2
 go_ret
 exact ⟨rfl, (L3.trans l4).trans l5⟩
end Go.Proofs.YtadfeclgoclalaaGreat
namespace Go.Proofs.YtadfeclgoclalaaGreat
open Go.RowKit
open Go.BigFrame
def allZ (bs : List UInt8) : Bool := bs.all (· == 0)
theorem Qko : ∀ (bs : List UInt8), allZ bs = true ↔ bs = QCK bs.length 0
 | [] => by simp [allZ]
 | b :: bs => by
   have ih := Qko bs
   rw [allZ] at ih
   rw [allZ, QDY, QC7, ih, QDC, QEG, List.cons.injEq, beq_iff_eq]
theorem Qxs {bs : List UInt8} {k : Nat} (hk : k < bs.length) (h : bs.getD k 0 ≠ 0) : allZ bs = false := by
 rw [allZ, List.all_eq_false]
 refine ⟨bs[k], QD6 hk, ?_⟩
 rw [QCS, QCR hk] at h
 simpa using h
theorem Qvj {bs : List UInt8} (h : ∀ k, k < bs.length → bs.getD k 0 = 0) : allZ bs = true := by
 rw [allZ, QDv]
 intro x hx
 obtain ⟨k, hk, rfl⟩ := List.getElem_of_mem hx
 have := h k hk
 rw [QCS, QCR hk] at this
 simpa using this
set_option maxRecDepth 100000 in
theorem QoV (A : Option Addr) (n c : Nat) (bs : List UInt8) (w : World) (hb : RdB w A n bs) (hn : n ≤ 140737488355328) :
 Calls Tryz.prog 44 #[.slice A n c] w fun e w' => e = .returned (.bool (allZ bs)) ∧ Later w w' := by
 have hl := hb.len
 go_enter Tryz.func44, Tryz.ntmps44
 go_wp2
 go_loopw [7] (fun i wr => ∃ k : Nat, i = .int .i64 k ∧ k ≤ n ∧ Hid (∀ j, j < k → bs.getD j 0 = 0) ∧ Later w wr) (fun i _ => n - (intOf i).toNat)
 case atStart => exact ⟨0, rfl, by omega, hid (fun j hj => absurd hj (by omega)), Later.refl w⟩
 case round =>
  obtain ⟨k, rfl, hk, hp, L⟩ := hrel
  by_cases hlt : k < n
  · obtain ⟨b, o, rfl, hb2, hc2⟩ := RdB.at_ (hb.later L) (by omega)
    have c1 := hc2 k hlt
    have hno := hid (fun h => Qxs (bs := bs) (k := k) (by omega) h)
    have hgo := hid (fun h : bs.getD k 0 = 0 => Qhh (p := fun j => bs.getD j 0 = 0) hp.out h)
    clear hc2
    generalize bs.getD k 0 = x at *
    cases hx : (x == 0)
    · have n1 : (x != 0) = true := by rw [bne, hx]; rfl
      have hE := hid (hno.out (by simpa using hx))
      go_wp2
      go_ret
      exact ⟨by rw [hE.out]; rfl, L⟩
    · have n1 : (x != 0) = false := by rw [bne, hx]; rfl
      have hG := hid (hgo.out (by simpa using hx))
      go_wp2
      exact ⟨⟨k + 1, by go_num, by omega, hG, L⟩, by simp [intOf]; omega⟩
  · obtain rfl : k = n := by omega
    have hE := hid (Qvj (bs := bs) (by rw [hl]; exact hp.out))
    go_wp2
    go_ret
    exact ⟨by rw [hE.out]; rfl, L⟩
set_option maxRecDepth 100000 in
theorem Qqs (A : Option Addr) (n c : Nat) (bs : List UInt8) (w : World) (hb : RdB w A n bs) (hn : n ≤ 1048576) :
 Calls Tryz.prog 46 #[.slice A n c] w fun e w' => e = .returned (.slice (some ⟨w.heap.size, 0, none⟩) n n) ∧ Blk w' w.heap.size 5 (bs.map W8) ∧ Later w w' := by
 have hl := hb.len
 go_enter Tryz.func46, Tryz.ntmps46
 go_wp2_with (first
  | (refine Qax rfl _ _ _ rfl 5 _ 1 Tryz.underlying22 Qbl rfl _ _ _ _ n rfl rfl rfl rfl (by omega) (by omega) ?_; intro w1 hb1 hl1)
  | (refine Qat rfl _ _ _ _ rfl 5 Tryz.underlying22 QbZ w.heap.size 0 n n _ _ hb1 A n c (bs.map W8) (RdB.later hb hl1) (QaA _) rfl rfl (by simp) ?_; intro w4 hb4 ho4
     rw [QCZ (by rw [QCP, hl]; omega), Qam _ _ (by rw [QCP, QCY, hl])] at hb4)
  | fail)
 go_ret
 exact ⟨rfl, hb4, hl1.only ho4 (QCX _)⟩
theorem Qrd (b : List UInt8) (hb : b.length = 480) : parE b = if allZ (b.take 16) = false then 7 else if b.getD 16 0 < 1 ∨ 3 < b.getD 16 0 then 1 else if b.getD 19 0 ≠ 0 ∨ 450 < QcA b then 3 else if prtE (Qhw b) ≠ 0 ∨ allZ (b.drop (30 + QcA b)) = false then 3 else 0 := by
 have h1 : (b.take 16 ≠ QCK 16 0) = (allZ (b.take 16) = false) := by
  have := Qko (b.take 16)
  rw [show (b.take 16).length = 16 by rw [QDe]; omega] at this
  rw [Ne, ← this, Bool.not_eq_true]
 rw [parE, if_neg (by omega)]
 simp only [h1]
 by_cases hs : 450 < QcA b
 · rw [if_pos (show b.getD 19 0 ≠ 0 ∨ 450 < QcA b from .inr hs), if_pos (show b.getD 19 0 ≠ 0 ∨ 450 < QcA b from .inr hs)]
 · have h2 : (b.drop (30 + QcA b) ≠ QCK (450 - QcA b) 0) = (allZ (b.drop (30 + QcA b)) = false) := by
    have := Qko (b.drop (30 + QcA b))
    rw [show (b.drop (30 + QcA b)).length = 450 - QcA b by rw [QDc]; omega] at this
    rw [Ne, ← this, Bool.not_eq_true]
   simp only [h2]
abbrev pz0 : List Value := [.int .u8 0, .int .u64 0, .int .i64 0, .int .i64 0, .slice none 0 0]
set_option maxRecDepth 100000 in
set_option maxHeartbeats 4000000 in
theorem QpS (A : Option Addr) (c : Nat) (b : List UInt8) (w : World) (hb : RdB w A 480 b) (hc : 480 ≤ c) :
 Calls Tryz.prog 27 #[.slice A 480 c] w fun e w' => ∃ A' c', e = .returned (.tuple #[.agg (PaC (parP b) (.slice A' (parP b).da.length c')).toArray, .int .i64 (parE b : Nat)]) ∧ OwnB w' w.heap.size A' (parP b).da.length c' (parP b).da ∧ Later w w' := by
 have hbl := hb.len
 obtain ⟨b0, o, rfl, hb00, _⟩ := hb.2 (by omega)
 have hE := hid (Qrd b hbl)
 have hP : Hid (parP b = if parE b = 0 then Qhw b else prt0) := hid rfl
 have hOf : Hid (Qhw b = ⟨b.getD 16 0, QDd (beN (subB b 20 8) 0), ((b.getD 17 0).toNat : Int), ((b.getD 18 0).toNat : Int), subB b 30 (QcA b)⟩) := hid rfl
 have hsp : Hid (QcA b = beN (subB b 28 2) 0) := hid rfl
 have hs6 := Quu b hbl
 have hZ1 := hid (fun (w : World) (h : RdB w (some ⟨b0, o, none⟩) 480 b) => QoV (some ⟨b0, o, none⟩) 16 c (b.take 16) w (h.take (by omega)) (by omega))
 have hG1 := hid (fun (w : World) (h : RdB w (some ⟨b0, o, none⟩) 480 b) => Qh7 (some ⟨b0, o, none⟩) 480 c 20 8 b w h (by omega) (by omega) (by omega) (by omega))
 have hG2 := hid (fun (w : World) (h : RdB w (some ⟨b0, o, none⟩) 480 b) => Qh7 (some ⟨b0, o, none⟩) 480 c 28 2 b w h (by omega) (by omega) (by omega) (by omega))
 rw [← hsp.out] at hG2
 have hcl := hid (fun (w : World) (h : RdB w (some ⟨b0, o, none⟩) 480 b) => (⟨QcS h 16 (by omega), QcS h 17 (by omega), QcS h 18 (by omega), QcS h 19 (by omega)⟩ : w.cell? ⟨b0, o + 16, none⟩ = some (W8 (b.getD 16 0)) ∧ w.cell? ⟨b0, o + 17, none⟩ = some (W8 (b.getD 17 0)) ∧ w.cell? ⟨b0, o + 18, none⟩ = some (W8 (b.getD 18 0)) ∧ w.cell? ⟨b0, o + 19, none⟩ = some (W8 (b.getD 19 0))))
 have hsl := hid (fun hs => Qmh b hbl hs)
 generalize parE b = E at *
 generalize parP b = PP at *
 generalize Qhw b = P at *
 generalize hS : QcA b = S at *
 generalize QDd (beN (subB b 20 8) 0) = ID at *
 generalize b.getD 16 0 = x16 at *
 generalize b.getD 17 0 = x17 at *
 generalize b.getD 18 0 = x18 at *
 generalize b.getD 19 0 = x19 at *
 clear hsp hS
 have C1 := Qbg w 25 pz0
 have hb0 := Qmf
 generalize allZ (b.take 16) = F1 at *
 go_enter Tryz.func27, Tryz.ntmps27
 go_wp2_with fail
 (refine (hZ1.out _ (hb.later C1.lat)).mono ?_); rintro e w2 ⟨rfl, j2⟩
 have C2 := C1.later j2
 clear hZ1 j2 C1
 cases F1
 · have HE : E = 7 := hE.out.trans (if_pos rfl)
   have HP : PP = prt0 := by rw [hP.out, if_neg (by rw [HE]; decide)]
   replace HE := hid HE
   replace HP := hid HP
   clear hP hE hcl hG1 hG2
   go_wp2_with (first
    | (refine Qal rfl 25 _ rfl (PaC prt0 (.slice none 0 0)) (by simp only [QC0, QC9]; exact hb0) ?_)
    | (refine Qbq rfl rfl _ _ rfl (C2.nth 0 rfl) rfl rfl rfl rfl ?_; intro e7 eb7 eo7
       have E7 := C2.write 0 rfl eo7 eb7)
    | fail)
   exact bodyPost_ret (Qai rfl _ _ _ _ _ _ (E7.nth 0 rfl) rfl Tryz.underlying25 rfl (by rw [QaP]; exact QcE)) rfl ⟨none, 0, by rw [HE.out, HP.out]; rfl, by rw [HP.out]; exact Qbb _ _ _, E7.lat⟩
 replace hE := hid (hE.out.trans (if_neg (by decide)))
 obtain ⟨k16, k17, k18, k19⟩ := hcl.out _ (hb.later C2.lat)
 have hb0lt : b0 < w2.heap.size := QDb hb00 C2.lat.size
 by_cases h1 : x16 < 1 ∨ 3 < x16
 · have h13 : (decide (x16 < 1) || decide (3 < x16)) = true := by simpa using h1
   by_cases h11 : x16 < 1
   all_goals
    have h33 : x16 < 1 ∨ 3 < x16 := h1
    simp only [h11, true_or, false_or] at h33
    have HE : E = 1 := hE.out.trans (if_pos h1)
    have HP : PP = prt0 := by rw [hP.out, if_neg (by rw [HE]; decide)]
    replace HE := hid HE
    replace HP := hid HP
    clear hP hE hcl hG1 hG2
    go_wp2_with (first
     | (refine Qal rfl 25 _ rfl (PaC prt0 (.slice none 0 0)) (by simp only [QC0, QC9]; exact hb0) ?_)
     | (refine Qbq rfl rfl _ _ rfl (C2.nth 0 rfl) rfl rfl rfl rfl ?_; intro e7 eb7 eo7
        have E7 := C2.write 0 rfl eo7 eb7)
     | fail)
    exact bodyPost_ret (Qai rfl _ _ _ _ _ _ (E7.nth 0 rfl) rfl Tryz.underlying25 rfl (by rw [QaP]; exact QcE)) rfl ⟨none, 0, by rw [HE.out, HP.out]; rfl, by rw [HP.out]; exact Qbb _ _ _, E7.lat⟩
 have h11 : ¬ x16 < 1 := fun h => h1 (.inl h)
 have h13 : ¬ 3 < x16 := fun h => h1 (.inr h)
 replace hE := hid (hE.out.trans (if_neg h1))
 clear h1
 go_wp2_with fail
 (refine (hG1.out _ (hb.later C2.lat)).mono ?_); rintro e w3 ⟨rfl, j3⟩
 go_wp2_with fail
 (refine (hG2.out _ (hb.later (C2.lat.trans j3))).mono ?_); rintro e w4 ⟨rfl, j4⟩
 have C4 := (C2.later j3).later j4
 clear k16 k17 k18 k19 j3 j4 C2 hb0lt
 obtain ⟨k16, k17, k18, k19⟩ := hcl.out _ (hb.later C4.lat)
 have hb0lt : b0 < w4.heap.size := QDb hb00 C4.lat.size
 obtain ⟨z, hz⟩ : ∃ z, z = QDd S := ⟨_, rfl⟩
 have hzS : z.toNat = S := by rw [hz, QDk, QC5 (by omega)]
 rw [← hz]
 clear hz
 have hlt450 : (450 : UInt64) < z ↔ 450 < S := by rw [UInt64.lt_iff_toNat_lt, hzS]; rfl
 by_cases hx : x19 ≠ 0 ∨ 450 < S
 · by_cases h19 : x19 = 0
   · have n1 : (x19 != 0) = false := by simpa using h19
     have n2 : (450 : UInt64) < z := hlt450.2 (hx.resolve_left (fun f => f h19))
     clear h19 hlt450
     have HE : E = 3 := hE.out.trans (if_pos hx)
     have HP : PP = prt0 := by rw [hP.out, if_neg (by rw [HE]; decide)]
     replace HE := hid HE
     replace HP := hid HP
     clear hP hE hcl hG1 hG2
     go_wp2_with (first
      | (refine Qal rfl 25 _ rfl (PaC prt0 (.slice none 0 0)) (by simp only [QC0, QC9]; exact hb0) ?_)
      | (refine Qbq rfl rfl _ _ rfl (C4.nth 0 rfl) rfl rfl rfl rfl ?_; intro e7 eb7 eo7
         have E7 := C4.write 0 rfl eo7 eb7)
      | fail)
     exact bodyPost_ret (Qai rfl _ _ _ _ _ _ (E7.nth 0 rfl) rfl Tryz.underlying25 rfl (by rw [QaP]; exact QcE)) rfl ⟨none, 0, by rw [HE.out, HP.out]; rfl, by rw [HP.out]; exact Qbb _ _ _, E7.lat⟩
   · have n1 : (x19 != 0) = true := by simpa using h19
     clear h19 hlt450
     have HE : E = 3 := hE.out.trans (if_pos hx)
     have HP : PP = prt0 := by rw [hP.out, if_neg (by rw [HE]; decide)]
     replace HE := hid HE
     replace HP := hid HP
     clear hP hE hcl hG1 hG2
     go_wp2_with (first
      | (refine Qal rfl 25 _ rfl (PaC prt0 (.slice none 0 0)) (by simp only [QC0, QC9]; exact hb0) ?_)
      | (refine Qbq rfl rfl _ _ rfl (C4.nth 0 rfl) rfl rfl rfl rfl ?_; intro e7 eb7 eo7
         have E7 := C4.write 0 rfl eo7 eb7)
      | fail)
     exact bodyPost_ret (Qai rfl _ _ _ _ _ _ (E7.nth 0 rfl) rfl Tryz.underlying25 rfl (by rw [QaP]; exact QcE)) rfl ⟨none, 0, by rw [HE.out, HP.out]; rfl, by rw [HP.out]; exact Qbb _ _ _, E7.lat⟩
 have n1 : (x19 != 0) = false := by
  cases e : (x19 != 0)
  · rfl
  · exact absurd (.inl (by simpa using e)) hx
 have hS4 : S ≤ 450 := by omega
 have n2 : ¬ (450 : UInt64) < z := fun h => by have := hlt450.1 h; omega
 replace hE := hid (hE.out.trans (if_neg hx))
 clear hx hlt450
 have w17 : IntKind.i64.wrap (x17.toNat : Int) = (x17.toNat : Int) := by have := x17.toNat_lt; rw [IntKind.wrap_i64]; omega
 have w18 : IntKind.i64.wrap (x18.toNat : Int) = (x18.toNat : Int) := by have := x18.toNat_lt; rw [IntKind.wrap_i64]; omega
 have wz : IntKind.i64.wrap (z.toNat : Int) = (S : Int) := by rw [hzS, IntKind.wrap_i64]; omega
 clear hzS
 have hP0 : P = ⟨x16, ID, (x17.toNat : Int), (x18.toNat : Int), subB b 30 S⟩ := hOf.out
 have hdl := hsl.out hS4
 have hCk := hid (fun (w : World) A' c' => Qp4 P A' S c' hdl w)
 have hZ2 := hid (fun (w : World) A' c' (h : RdB w A' (480 - (30 + S)) (b.drop (30 + S))) => QoV A' (480 - (30 + S)) c' (b.drop (30 + S)) w h (by omega))
 have hR2 := hid (fun (w : World) (h : RdB w (some ⟨b0, o, none⟩) 480 b) => (⟨fun hne : c ≠ 30 + S => by
  have := h.cut (k := 30 + S) (c := c) (by omega) hc
  rw [cutA, if_neg hne] at this
  rw [show some (⟨b0, o + (30 + S), none⟩ : Addr) = (some (⟨b0, o, none⟩ : Addr)).map (·.add (30 + S)) by rw [QEt, Qdr]]
  exact this, fun he : c = 30 + S => ⟨by rw [QCP, QDc]; omega, fun h => absurd h (by omega)⟩⟩ : (c ≠ 30 + S → RdB w (some ⟨b0, o + (30 + S), none⟩) (480 - (30 + S)) (b.drop (30 + S))) ∧ (c = 30 + S → RdB w (some ⟨b0, o, none⟩) (480 - (30 + S)) (b.drop (30 + S)))))
 have hCp := hid (fun (w : World) (h : RdB w (some ⟨b0, o, none⟩) 480 b) => Qqs (some ⟨b0, o + 30, none⟩) S (c - 30) (subB b 30 S) w (by
  by_cases h0 : S = 0
  · rw [h0]
    exact ⟨rfl, fun h => absurd h (by omega)⟩
  · exact Qxf h 30 S (by omega) (by omega)) (by omega))
 have hda : Hid (P.da = subB b 30 S) := hid (by rw [hP0])
 generalize hD : subB b 30 S = D at *
 clear hOf hD
 generalize allZ (b.drop (30 + S)) = F2 at *
 generalize prtE P = CE at *
 have f0 : (0 : Int) ≤ (S : Int) := by omega
 have f1 : (S : Int) ≤ 450 := by omega
 have f2 : ((30 : Int) + (S : Int)).toNat = 30 + S := by omega
 go_wp2_with fail
 have C5 := C4.drew
 have m0 := hb.later C5.lat
 refine Qad [([0, 1, 2, 3, 4, 5, 6, 7, 8, 9, 10, 11, 12], 13)] [] [14] (by as_aux_lemma => kernel_rfl) (by as_aux_lemma => kernel_rfl) (by intro _ _ d _ _ h; cases d <;> exact h) ?_
 simp only [Qag, pick, QCL, QCM, QCN, QCO, QCQ]
 repeat (first | go_big_quiet_skip | (go_big_quiet_want; (refine Qbu _ _ rfl (PaC ⟨x16, ID, (x17.toNat : Int), (x18.toNat : Int), []⟩ (.slice none 0 0)) (by simp only [QC0, QDh, QC9]; exact Qrq _ _ _ _) ?_); simp only [Act.put, QCT, QCW, QCV]; go_big_quiet_on) | (go_big_quiet_step (fail)))
 refine wpQuiet_nil ?_
 go_wp2_with fail
 try refine ⟨by first | assumption | exact Qab _ | exact Qaa _ _ | exact Later.refl _, ?_⟩
 try simp only [Qag, pick, QCL, QCM, QCN, QCO, QCQ]
 repeat (go_big_quiet_step (fail))
 refine wpQuiet_nil ?_
 go_wp2_with (first
  | (refine Qbq rfl rfl _ _ rfl (Blk.new w4.drew _ pz0) rfl rfl rfl rfl ?_; intro w6 hb6 ho6
     have C6 := C5.push (Qaa _ _) (QCX _) ho6 hb6)
  | fail)
 (refine (hCp.out _ (hb.later C6.lat)).mono ?_); rintro e w7 ⟨rfl, hb7, j7⟩
 have C7 := C6.fresh j7 (QCX _) hb7
 have hset : Hid ((PaC ⟨x16, ID, (x17.toNat : Int), (x18.toNat : Int), []⟩ (.slice none 0 0)).set 4 (.slice (some ⟨w6.heap.size, 0, none⟩) S S) = PaC P (.slice (some ⟨w6.heap.size, 0, none⟩) S S)) := hid (by rw [hP0]; rfl)
 clear hb7 j7 hb6 ho6 C4 C5 hCp m0 hP0
 by_cases hc0 : CE = 0
 · subst hc0
   go_wp2_with (first
    | (refine Qac rfl rfl _ _ _ rfl w4.drew.heap.size 4 _ _ (C7.nth 1 rfl) rfl (by rw [QaP]; omega) rfl (by kernel_rfl) ?_; intro v8 w8 hv8 hb8 ho8; simp [go_sem] at hv8; subst hv8; rw [hset.out] at hb8
       have C8 := C7.write 1 rfl ho8 hb8)
    | (refine Qgm rfl _ rfl (C8.nth 1 rfl) rfl ?_)
    | fail)
   (refine (hCk.out _ _ _).mono ?_); rintro e w9 ⟨rfl, j9⟩
   have C9 := C8.later j9
   have hR9 := hid (hR2.out _ (hb.later C9.lat))
   by_cases hcs : c = 30 + S
   all_goals
    have hR10 := hid (by first | exact hR9.out.2 hcs | exact hR9.out.1 hcs)
    go_wp2_with fail
    (with_reducible refine (hZ2.out _ _ _ hR10.out).mono ?_); rintro e w10 ⟨rfl, j10⟩
    have C10 := C9.later j10
    cases F2
    · replace hE := hid (hE.out.trans (if_pos (.inr rfl)))
      have HE : E = 3 := hE.out
      have HP : PP = prt0 := by rw [hP.out, if_neg (by rw [HE]; decide)]
      replace HE := hid HE
      replace HP := hid HP
      clear hP hE
      go_wp2_with (first
       | (refine Qal rfl 25 _ rfl (PaC prt0 (.slice none 0 0)) (by simp only [QC0, QC9]; exact hb0) ?_)
       | (refine Qbq rfl rfl _ _ rfl (C10.nth 2 rfl) rfl rfl rfl rfl ?_; intro e7 eb7 eo7
          have E7 := C10.write 2 rfl eo7 eb7)
       | fail)
      exact bodyPost_ret (Qai rfl _ _ _ _ _ _ eb7 rfl Tryz.underlying25 rfl (by rw [QaP]; exact QcE)) rfl ⟨none, 0, by rw [HE.out, HP.out]; rfl, by rw [HP.out]; exact Qbb _ _ _, E7.lat⟩
    · replace hE := hid (hE.out.trans (if_neg (by simp)))
      have HP : PP = P := by rw [hP.out, if_pos hE.out]
      replace HP := hid HP
      go_wp2_with (first
       | (refine Qgm rfl _ rfl (C10.nth 1 rfl) rfl ?_)
       | (refine Qbq rfl rfl _ _ rfl (C10.nth 2 rfl) rfl rfl rfl rfl ?_; intro e7 eb7 eo7
          have E7 := C10.write 2 rfl eo7 eb7)
       | fail)
      refine bodyPost_ret (Qai rfl _ _ _ _ _ _ eb7 rfl Tryz.underlying25 rfl (by rw [QaP]; exact QcE)) rfl ⟨some ⟨w6.heap.size, 0, none⟩, S, by rw [hE.out, HP.out, hdl]; rfl, ?_, E7.lat⟩
      rw [HP.out, hda.out]
      have hDl : D.length = S := by rw [← hda.out]; exact hdl
      have := Qch (E7.nth 0 rfl) (E7.at_low 0 rfl) (by rw [QCP, hDl]; omega)
      rw [QCP, hDl] at this
      rw [hDl]
      exact this
 · have hne : ((CE : Int) != 0) = true := by simp; omega
   replace hE := hid (hE.out.trans (if_pos (.inl hc0)))
   clear hc0
   have HE : E = 3 := hE.out
   have HP : PP = prt0 := by rw [hP.out, if_neg (by rw [HE]; decide)]
   replace HE := hid HE
   replace HP := hid HP
   clear hP hE
   go_wp2_with (first
    | (refine Qac rfl rfl _ _ _ rfl w4.drew.heap.size 4 _ _ (C7.nth 1 rfl) rfl (by rw [QaP]; omega) rfl (by kernel_rfl) ?_; intro v8 w8 hv8 hb8 ho8; simp [go_sem] at hv8; subst hv8; rw [hset.out] at hb8
       have C8 := C7.write 1 rfl ho8 hb8)
    | (refine Qgm rfl _ rfl (C8.nth 1 rfl) rfl ?_)
    | fail)
   (refine (hCk.out _ _ _).mono ?_); rintro e w9 ⟨rfl, j9⟩
   have C9 := C8.later j9
   go_wp2_with (first
    | (refine Qal rfl 25 _ rfl (PaC prt0 (.slice none 0 0)) (by simp only [QC0, QC9]; exact hb0) ?_)
    | (refine Qbq rfl rfl _ _ rfl (C9.nth 2 rfl) rfl rfl rfl rfl ?_; intro e7 eb7 eo7
       have E7 := C9.write 2 rfl eo7 eb7)
    | fail)
   exact bodyPost_ret (Qai rfl _ _ _ _ _ _ eb7 rfl Tryz.underlying25 rfl (by rw [QaP]; exact QcE)) rfl ⟨none, 0, by rw [HE.out, HP.out]; rfl, by rw [HP.out]; exact Qbb _ _ _, E7.lat⟩
end Go.Proofs.YtadfeclgoclalaaGreat
namespace Go.Proofs.YtadfeclgoclalaaGreat
open Go.RowKit
open Go.BigFrame
theorem Qe1 (k p : List UInt8) (hp : p.length = 768) : (unwP k p).length = 768 := by
 unfold unwP
 split
 · exact Qiq _ _ hp (Qd6 _ _)
 · exact QCY
theorem Qvi {k p : List UInt8} (h : (unwC k p).kd ≠ 1) : unwP k p = z768 := by
 by_cases hm : Qbe k (p.take 32) = 0
 · rw [unwC, if_pos hm] at h
   rw [unwP, if_pos hm, relP, if_neg (fun x => h x.2)]
   rfl
 · rw [unwP, if_neg hm]
   rfl
section
variable {ops : Array Oper} {rest : List Oper} {o : Oper} {a : Act}
theorem QqT (hw : Region.wanted o (yielded ops a.tmps) = true) (ho : o.op = .alloc 58) :
 Makes Tryz.prog ops o (fun g => .pointer (some ⟨g, 0, none⟩)) (.cells Tryz.zeroCells58 58) a :=
 ⟨hw, fun w => by
   unfold execOp
   rw [ho]
   simp [go_sem]⟩
end
end Go.Proofs.YtadfeclgoclalaaGreat
namespace Go.Proofs.YtadfeclgoclalaaGreat
open Go.RowKit
open Go.BigFrame
structure Pel where
 c : Cmd
 P : Y768
 B : List UInt8
def Qt2 : Y768 := ⟨z768, QaF⟩
def pel0 : Pel := ⟨cmd0, Qt2, []⟩
def unwY (k : List UInt8) (p : Y768) : Y768 := ⟨unwP k p.val, Qe1 k p.val p.2⟩
def unwL (k : List UInt8) (p : Y768) : Pel := ⟨unwC k p.val, unwY k p, unwB k p.val⟩
def pelL : List (List UInt8) → Y768 → List Pel
 | [], _ => []
 | k :: ks, p => if unwE k p.val = 0 then unwL k p :: (if (unwC k p.val).kd = 1 then pelL ks (unwY k p) else []) else []
def pelE : List (List UInt8) → Y768 → Nat
 | [], _ => 0
 | k :: ks, p => if unwE k p.val = 0 then (if (unwC k p.val).kd = 1 then pelE ks (unwY k p) else 0) else unwE k p.val
theorem Qik {ks : List (List UInt8)} {k : Nat} (h : k < ks.length) : ks.drop k = ks.getD k [] :: ks.drop (k + 1) := by
 rw [QDE h, QCS, QCR h]
 rfl
section
variable {ks : List (List UInt8)} {k : Nat} {q : Y768}
theorem QrG (h : ks.length ≤ k) : pelL (ks.drop k) q = [] ∧ pelE (ks.drop k) q = 0 := by
 rw [QEr h]
 exact ⟨rfl, rfl⟩
theorem Qx0 (h : k < ks.length) (he : unwE (ks.getD k []) q.val ≠ 0) : pelL (ks.drop k) q = [] ∧ pelE (ks.drop k) q = unwE (ks.getD k []) q.val := by
 rw [Qik h, pelL, pelE, if_neg he, if_neg he]
 exact ⟨rfl, rfl⟩
theorem QoA (h : k < ks.length) (he : unwE (ks.getD k []) q.val = 0) (hk : ¬ (unwC (ks.getD k []) q.val).kd = 1) : pelL (ks.drop k) q = [unwL (ks.getD k []) q] ∧ pelE (ks.drop k) q = 0 := by
 rw [Qik h, pelL, pelE, if_pos he, if_pos he, if_neg hk, if_neg hk]
 exact ⟨rfl, rfl⟩
theorem Qop (h : k < ks.length) (he : unwE (ks.getD k []) q.val = 0) (hk : (unwC (ks.getD k []) q.val).kd = 1) : pelL (ks.drop k) q = unwL (ks.getD k []) q :: pelL (ks.drop (k + 1)) (unwY (ks.getD k []) q) ∧ pelE (ks.drop k) q = pelE (ks.drop (k + 1)) (unwY (ks.getD k []) q) := by
 rw [Qik h, pelL, pelE, if_pos he, if_pos he, if_pos hk, if_pos hk]
 exact ⟨rfl, rfl⟩
end
structure PelV where
 c : Cmd
 P : Y768
 A : Option Addr
 n : Nat
 cp : Nat
def Qjh : PelV := ⟨cmd0, Qt2, none, 0, 0⟩
def VC (x : PelV) : List Value := PC x.c x.P.val (.slice x.A x.n x.cp)
theorem Qg4 (x : PelV) : (VC x).length = 789 := QaG _ x.P.2 _
theorem Qzd (x : PelV) : ∀ u ∈ VC x, u.oneCell' = true := QwB _ _ rfl
def QuW (w : World) (base : Nat) (x : PelV) (y : Pel) : Prop := x.c = y.c ∧ x.P = y.P ∧ x.n = y.B.length ∧ OwnB w base x.A x.n x.cp y.B
def PelRow (w : World) (base : Nat) : List PelV → List Pel → Prop
 | [], [] => True
 | x :: xs, y :: ys => QuW w base x y ∧ PelRow w base xs ys
 | _, _ => False
theorem PelRow.len {w : World} {base : Nat} : ∀ {xs : List PelV} {ys : List Pel}, PelRow w base xs ys → xs.length = ys.length
 | [], [], _ => rfl
 | x :: xs, y :: ys, h => by rw [QDC, QDC, PelRow.len h.2]
theorem PelRow.snoc {w : World} {base : Nat} {x : PelV} {y : Pel} : ∀ {xs : List PelV} {ys : List Pel}, PelRow w base xs ys → QuW w base x y → PelRow w base (xs ++ [x]) (ys ++ [y])
 | [], [], _, h => ⟨h, trivial⟩
 | _ :: _, _ :: _, h, h' => ⟨h.1, PelRow.snoc h.2 h'⟩
theorem PelRow.mono {w w' : World} {base : Nat} (hw : ∀ A n c B, OwnB w base A n c B → OwnB w' base A n c B) : ∀ {xs : List PelV} {ys : List Pel}, PelRow w base xs ys → PelRow w' base xs ys
 | [], [], _ => trivial
 | _ :: _, _ :: _, h => ⟨⟨h.1.1, h.1.2.1, h.1.2.2.1, hw _ _ _ _ h.1.2.2.2⟩, PelRow.mono hw h.2⟩
theorem PelRow.at_ {w : World} {base : Nat} : ∀ {xs : List PelV} {ys : List Pel} (i : Nat), PelRow w base xs ys → i < ys.length → QuW w base (xs.getD i Qjh) (ys.getD i pel0)
 | [], [], i, _, h => absurd h (by simp)
 | _ :: _, _ :: _, 0, h, _ => h.1
 | _ :: _, _ :: _, i + 1, h, hi => by
   have := PelRow.at_ i h.2 (by simpa using hi)
   simpa using this
theorem PelRow.later {w w' : World} {base : Nat} {xs : List PelV} {ys : List Pel} (h : PelRow w base xs ys) (hl : Later w w') : PelRow w' base xs ys := h.mono fun _ _ _ _ h => Qao h hl
theorem Qce {w w' : World} {base k sz : Nat} {e : TypeId} {v : Value} {n : Nat} {vs : List Value} (h : w.ownsRow base e sz v n vs) (ho : Only k w w') (hne : ∀ b, v.ownBlock = some b → b ≠ k) : w'.ownsRow base e sz v n vs := by
 refine h.kept ho ?_
 cases hb : v.ownBlock with
 | none => exact .inl rfl
 | some b => exact .inr fun he => hne b hb (by injection he)
theorem Qyk {w : World} {base g sz n : Nat} {e t : TypeId} {v : Value} {vs l : List Value} (h : w.ownsRow base e sz v n vs) (hb : Blk w g t l) (hne : t ≠ e) : v.ownBlock ≠ some g := by
 intro hv
 rcases h.2 with ⟨rfl, _⟩ | ⟨g2, c2, cur2, rfl, _, hh2, _⟩
 · simp [Value.ownBlock] at hv
 · simp only [Value.ownBlock, Option.some.injEq] at hv
   subst hv
   exact hb.ne_type (l' := cur2.toList) (t' := e) hh2 hne rfl
theorem Bag.grownNe {w wk v' : World} {ls : List (Nat × TypeId × List Value)} {row : Option Nat} (h : Bag w wk ls) (hne : ∀ p ∈ ls, row ≠ some p.1) (hb : ∀ k, row = some k → w.heap.size ≤ k) (hg : wk.grownBy v' row) : Bag w v' ls :=
 ⟨h.lat.grownBy hg hb, fun p hp => (hg.block p.1 (h.blk p hp).lt (fun e => hne p hp e.symm)).trans (h.blk p hp), h.low, h.nd⟩
theorem QzY : (Tryz.prog.info? 58).map (fun i => (i.zero, i.size, i.bytes)) = some (some (.agg (VC Qjh).toArray), 789, 824) := by
 rw [VC, show Qjh.P.val = z768 from rfl, PC, z768, QDs]
 kernel_rfl
theorem QyM : (Tryz.prog.info? 58).map (fun i => (i.zero, i.size)) = some (some (.agg (VC Qjh).toArray), 789) := by
 rw [VC, show Qjh.P.val = z768 from rfl, PC, z768, QDs]
 kernel_rfl
theorem Qvp (w : World) (t : TypeId) (x : PelV) : Blk (w.alloc (.cells (VC x).toArray t)) w.heap.size t ([x].flatMap VC) := by
 rw [QES, List.flatMap_nil, QDr]
 exact Blk.new w t _
set_option maxRecDepth 100000 in
set_option maxHeartbeats 4000000 in
theorem QtA (B : Option Addr) (m d : Nat) (ks : List (List UInt8)) (p : Y768) (w : World) (hk : Parts w (fun _ => False) B m ks) (hm : m ≤ 1048576) (hks : ∀ k ∈ ks, k.length ≤ 1048576) :
 Calls Tryz.prog 9 #[.agg (p.val.map W8).toArray, .slice B m d] w fun e w' => ∃ A' c' xs, e = .returned (.tuple #[.slice A' xs.length c', .int .i64 (pelE ks p : Nat)]) ∧ w'.ownsRow w.heap.size 58 789 (.slice A' xs.length c') xs.length (xs.flatMap VC) ∧ PelRow w' w.heap.size xs (pelL ks p) ∧ Later w w' := by
 have hkl := hk.len
 have HZ := hid zcPe
 have C1 := Qbg w 45 (p.val.map W8)
 have hzl : (PC cmd0 z768 nil8).length = 789 := QaG _ QaF _
 go_enter Tryz.func9, Tryz.ntmps9
 go_wp2_with fail
 go_loopw [6, 13] (fun v i wr => ∃ (k : Nat) (q : Y768) (xs : List PelV) (ys : List Pel) (A6 : Option Addr) (c6 : Nat), i = .int .i64 k ∧ k ≤ m ∧ v = .slice A6 k c6 ∧ Hid (xs.length = k) ∧ Hid (pelL ks p = ys ++ pelL (ks.drop k) q ∧ pelE ks p = pelE (ks.drop k) q) ∧
  wr.ownsRow w.heap.size 58 789 (.slice A6 k c6) k (xs.flatMap VC) ∧ PelRow wr w.heap.size xs ys ∧ Bag w wr [(w.heap.size, 45, q.val.map W8)]) (fun _ i _ => m - (intOf i).toNat)
 case atStart => exact ⟨0, p, [], [], none, 0, rfl, by omega, rfl, hid rfl, hid ⟨rfl, rfl⟩, World.ownsRow_nil _ _ _ 789, trivial, C1⟩
 case round =>
  clear C1
  obtain ⟨k, q, xs, ys, A6, c6, rfl, hkm, rfl, hxk, hpe, hown, hrow, C1⟩ := hrel
  by_cases hlt : k < m
  · obtain ⟨b, o, Ak, nk, ck, rfl, hb, hck, hcap, hrd, _⟩ := (hk.later C1.lat).at_ hlt
    have hks' := hid (hks (ks.getD k []) (QeQ ks k (by omega)))
    have hb0 := hid (fun h => Qx0 (ks := ks) (k := k) (q := q) (by omega) h)
    have hb1 := hid (fun h1 h2 => QoA (ks := ks) (k := k) (q := q) (by omega) h1 h2)
    have hb2 := hid (fun h1 h2 => Qop (ks := ks) (k := k) (q := q) (by omega) h1 h2)
    go_wp2_with (first
     | (refine QiV rfl _ rfl (C1.nth 0 rfl) q.2 rfl ?_)
     | fail)
    (refine (Qhc _ _ _ _ _ _ hrd (by have := hks'.out; have := hrd.len; omega) q.2).mono ?_); rintro e w2 ⟨A2, c2, rfl, o2, j2⟩
    have hq : Hid (unwY (ks.getD k []) q = ⟨unwP (ks.getD k []) q.val, Qe1 _ _ q.2⟩ ∧ unwL (ks.getD k []) q = ⟨unwC (ks.getD k []) q.val, unwY (ks.getD k []) q, unwB (ks.getD k []) q.val⟩) := hid ⟨rfl, rfl⟩
    have hPl := Qe1 (ks.getD k []) q.val q.2
    have C2 := C1.later j2
    have own2 := Qb2 hown j2
    have row2 := hrow.later j2
    have hgt : w.heap.size ≤ wr.heap.size := C1.lat.size
    replace o2 := Qa5 o2 hgt
    clear hown hrow C1 j2 hrd hck
    generalize hUE : unwE (ks.getD k []) q.val = UE at *
    generalize hUC : unwC (ks.getD k []) q.val = UC at *
    generalize hUB : unwB (ks.getD k []) q.val = UB at *
    clear hUE hUC hUB
    obtain ⟨UY, hUY⟩ : ∃ UY : Y768, UY.val = unwP (ks.getD k []) q.val := ⟨⟨_, hPl⟩, rfl⟩
    have hUY2 : unwY (ks.getD k []) q = UY := Subtype.ext hUY.symm
    rw [hUY2] at hb2 hq
    rw [← hUY] at hPl ⊢
    have hL := hid hq.out.2
    clear hq hUY hUY2
    generalize unwL (ks.getD k []) q = UL at *
    by_cases h0 : UE = 0
    · subst h0
      have hx2 : ∀ b, (Value.slice A6 k c6).ownBlock = some b → b < w2.heap.size := fun b hb => (World.ownsRow.lt own2 b hb).2
      have hnb : Blk (w2.alloc (.cells Tryz.zeroCells58 58)) w2.heap.size 58 Tryz.zeroCells58.toList := Blk.new w2 _ _
      replace own2 := Qb2 own2 (Qaa w2 (.cells Tryz.zeroCells58 58))
      replace o2 := Qao o2 (Qaa w2 (.cells Tryz.zeroCells58 58))
      replace row2 := row2.later (Qaa w2 (.cells Tryz.zeroCells58 58))
      go_wp2_with (first
       | (refine Qbp rfl rfl _ _ rfl ((Blk.new w2 _ Tryz.zeroCells58.toList).cast HZ.out) rfl rfl hPl rfl hzl ?_; intro w3 hb3 ho3
          have C3 := C2.push (Qaa _ _) (QCX _) ho3 hb3
          have own3 := Qce own2 ho3 (fun b hb => Nat.ne_of_lt (hx2 b hb))
          have o3 := QaC o2 hnb (by decide) ho3
          have row3 := row2.mono (fun A n c B h => QaC h hnb (by decide) ho3)
          clear hnb own2 row2 o2 C2 hb3 ho3)
       | (refine Qnp rfl _ rfl (C3.nth 0 rfl) hPl rfl ?_)
       | (refine Qhq rfl 48 _ rfl 58 789 _ (PC UC UY.val (.slice A2 UB.length c2)) Tryz.underlying48 QyM (by omega) (by omega) (QaG _ hPl _) rfl ?_
          have hone : Blk (w3.alloc (.cells (PC UC UY.val (.slice A2 UB.length c2)).toArray 58)) w3.heap.size 58 ([(⟨UC, UY, A2, UB.length, c2⟩ : PelV)].flatMap VC) := Qvp w3 58 ⟨UC, UY, A2, UB.length, c2⟩)
       | (refine Qd3 Qg4 Qzd (by omega) rfl _ _ _ rfl 58 _ 824 Tryz.underlying48 QzY (by show (VC Qjh).toArray.size = 789; rw [List.size_toArray, Qg4]) w _ k _ (Qb2 own3 (Qaa _ _)) (C3.lat.alloc _) _ 1 1 [⟨UC, UY, A2, UB.length, c2⟩] (QnD (d := Qjh) Qg4 hone rfl) rfl rfl (by omega) (by omega) ?_; intro A4 c4 w4 hown4 hl4 hg4
          have C4 := (C3.later (Qaa w3 (.cells (PC UC UY.val (.slice A2 UB.length c2)).toArray 58))).grownNe (fun p hp => by
           simp only [QC2, QC1, or_false] at hp
           rcases hp with rfl | rfl
           · exact fun hb => Nat.ne_of_lt (hx2 _ hb) rfl
           · exact Qyk own3 (C3.nth 1 rfl) (by decide)) (fun b hb => (World.ownsRow.lt own3 b hb).1) hg4
          have o4 := QeC (Qao o3 (Qaa w3 (.cells (PC UC UY.val (.slice A2 UB.length c2)).toArray 58))) (Qb2 own3 (Qaa w3 (.cells (PC UC UY.val (.slice A2 UB.length c2)).toArray 58))) (by decide) hg4
          have row4 := (row3.later (Qaa w3 (.cells (PC UC UY.val (.slice A2 UB.length c2)).toArray 58))).mono (fun A n c B h => QeC h (Qb2 own3 (Qaa w3 (.cells (PC UC UY.val (.slice A2 UB.length c2)).toArray 58))) (by decide) hg4)
          clear own3 o3 row3 C3 hone hg4 hl4)
       | (refine Qg3 rfl _ rfl (C4.nth 0 rfl) rfl ?_)
       | fail)
      have row5 := PelRow.snoc (x := ⟨UC, UY, A2, UB.length, c2⟩) (y := UL) row4 (by rw [hL.out]; exact ⟨rfl, rfl, rfl, o4⟩)
      have hxl : Hid ((xs ++ [(⟨UC, UY, A2, UB.length, c2⟩ : PelV)]).length = k + 1) := hid (by rw [QCU, hxk.out]; rfl)
      have hown5 : w4.ownsRow w.heap.size 58 789 (.slice A4 (k + 1) c4) (k + 1) ((xs ++ [(⟨UC, UY, A2, UB.length, c2⟩ : PelV)]).flatMap VC) := by rw [List.flatMap_append]; exact hown4
      clear row4 o4 hown4 hxk hL
      generalize xs ++ [(⟨UC, UY, A2, UB.length, c2⟩ : PelV)] = xs' at *
      (with_reducible refine (Qg2 UC _).mono ?_); rintro e w6 ⟨rfl, l6⟩
      have C6 := C4.later l6
      have own6 := Qb2 hown5 l6
      have row6 := row5.later l6
      clear C4 hown5 row5 l6
      cases hk1 : (UC.kd == 1)
      · have hkn : ¬ UC.kd = 1 := by simpa using hk1
        obtain ⟨g1, g2⟩ := hb1.out (by trivial) hkn
        have hE : Hid (pelL ks p = ys ++ [UL] ∧ pelE ks p = 0) := hid ⟨by rw [hpe.out.1, g1], by rw [hpe.out.2, g2]⟩
        clear g1 g2 hkn hb0 hb1 hb2 hpe
        go_wp2
        go_ret2
        exact ⟨A4, c4, xs', by rw [hE.out.2, hxl.out]; rfl, by rw [hxl.out]; exact own6, by rw [hE.out.1]; exact row6, C6.lat⟩
      · have hky : UC.kd = 1 := by simpa using hk1
        obtain ⟨g1, g2⟩ := hb2.out (by trivial) hky
        have hE : Hid (pelL ks p = (ys ++ [UL]) ++ pelL (ks.drop (k + 1)) UY ∧ pelE ks p = pelE (ks.drop (k + 1)) UY) := hid ⟨by rw [hpe.out.1, g1, QC3]; rfl, by rw [hpe.out.2, g2]⟩
        clear g1 g2 hky hb0 hb1 hb2 hpe
        go_wp2_with (first
         | (refine Qo1 rfl _ rfl (C6.nth 0 rfl) hPl rfl ?_)
         | (refine Qe8 rfl rfl _ _ rfl (C6.nth 1 rfl) rfl rfl hPl (by rw [QCP, q.2]) ?_; intro w7 hb7 ho7
            have C7 := C6.write 1 rfl ho7 hb7
            have own7 := QaC own6 (C6.nth 1 rfl) (by decide) ho7
            have row7 := row6.mono (fun A n c B h => QaC h (C6.nth 1 rfl) (by decide) ho7))
         | fail)
        exact ⟨⟨k + 1, UY, xs', _, A4, c4, by go_num, by omega, rfl, hxl, hE, own7, row7, C7.drop 1⟩, by simp [intOf]; omega⟩
    · have hne : ((UE : Int) != 0) = true := by simp; omega
      obtain ⟨g1, g2⟩ := hb0.out h0
      have hE : Hid (pelL ks p = ys ∧ pelE ks p = UE) := hid ⟨by rw [hpe.out.1, g1, QDr], by rw [hpe.out.2, g2]⟩
      have hx2 : ∀ b, (Value.slice A6 k c6).ownBlock = some b → b < w2.heap.size := fun b hb => (World.ownsRow.lt own2 b hb).2
      have hnb : Blk (w2.alloc (.cells Tryz.zeroCells58 58)) w2.heap.size 58 Tryz.zeroCells58.toList := Blk.new w2 _ _
      replace own2 := Qb2 own2 (Qaa w2 (.cells Tryz.zeroCells58 58))
      replace row2 := row2.later (Qaa w2 (.cells Tryz.zeroCells58 58))
      clear g1 g2 hb0 hb1 hb2 hpe h0
      go_wp2_with (first
       | (refine Qbp rfl rfl _ _ rfl ((Blk.new w2 _ Tryz.zeroCells58.toList).cast HZ.out) rfl rfl hPl rfl hzl ?_; intro w3 hb3 ho3
          have C3 := C2.push (Qaa _ _) (QCX _) ho3 hb3
          have own3 := Qce own2 ho3 (fun b hb => Nat.ne_of_lt (hx2 b hb))
          have row3 := row2.mono (fun A n c B h => QaC h hnb (by decide) ho3))
       | fail)
      go_ret2
      exact ⟨A6, c6, xs, by rw [hE.out.2, hxk.out]; rfl, by rw [hxk.out]; exact own3, by rw [hE.out.1]; exact row3, C3.lat⟩
  · obtain rfl : k = m := by omega
    obtain ⟨g1, g2⟩ := QrG (ks := ks) (k := k) (q := q) (by omega)
    have hE : Hid (pelL ks p = ys ∧ pelE ks p = 0) := hid ⟨by rw [hpe.out.1, g1, QDr], by rw [hpe.out.2, g2]⟩
    clear g1 g2 hpe
    go_wp2
    go_ret2
    exact ⟨A6, c6, xs, by rw [hE.out.2, hxk.out]; rfl, by rw [hxk.out]; exact hown, by rw [hE.out.1]; exact hrow, C1.lat⟩
end Go.Proofs.YtadfeclgoclalaaGreat
namespace Go.Proofs.YtadfeclgoclalaaGreat
open Go.RowKit
open Go.BigFrame
def All2 {α β : Type} (R : α → β → Prop) : List α → List β → Prop
 | [], [] => True
 | x :: xs, y :: ys => R x y ∧ All2 R xs ys
 | _, _ => False
section
variable {α β : Type} {R R' : α → β → Prop}
theorem All2.len : ∀ {xs : List α} {ys : List β}, All2 R xs ys → xs.length = ys.length
 | [], [], _ => rfl
 | x :: xs, y :: ys, h => by rw [QDC, QDC, All2.len h.2]
theorem All2.snoc {x : α} {y : β} : ∀ {xs : List α} {ys : List β}, All2 R xs ys → R x y → All2 R (xs ++ [x]) (ys ++ [y])
 | [], [], _, h => ⟨h, trivial⟩
 | _ :: _, _ :: _, h, h' => ⟨h.1, All2.snoc h.2 h'⟩
theorem All2.mono (hR : ∀ x y, R x y → R' x y) : ∀ {xs : List α} {ys : List β}, All2 R xs ys → All2 R' xs ys
 | [], [], _ => trivial
 | _ :: _, _ :: _, h => ⟨hR _ _ h.1, All2.mono hR h.2⟩
theorem All2.at_ (d : α) (e : β) : ∀ {xs : List α} {ys : List β} (i : Nat), All2 R xs ys → i < ys.length → R (xs.getD i d) (ys.getD i e)
 | [], [], i, _, h => absurd h (by simp)
 | _ :: _, _ :: _, 0, h, _ => h.1
 | _ :: _, _ :: _, i + 1, h, hi => by
   have := All2.at_ d e i h.2 (by simpa using hi)
   simpa using this
end
structure RefV where
 c : Cmd
 Q : Option Addr
 nq : Nat
 cq : Nat
 A : Option Addr
 n : Nat
 cp : Nat
end Go.Proofs.YtadfeclgoclalaaGreat
