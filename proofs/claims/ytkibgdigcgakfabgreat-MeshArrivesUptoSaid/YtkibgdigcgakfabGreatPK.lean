/-
  Lemmas for the last text of this claim (part 11 of 20).
-/
import Derived.BigQuiet
import Derived.BigRegion
import Derived.ChangeOld
import Derived.Deep.RegionWith
import Derived.DeepKeys4
import Derived.JoinedCond
import Derived.LaidMore
import Derived.Laws.CopyOwn
import Derived.Laws.Externs
import Derived.Laws.IdiomStrings
import Derived.Laws.Tables
import Derived.Lib.AppendStr
import Derived.Lib.AppendZerosOnto
import Derived.Lib.Mul64
import Derived.Lib.SlBytesConst
import Derived.LoopN
import Derived.Maps.OwnSet
import Derived.OpenShut
import Derived.OrdersHeld
import Derived.ProofKit
import Derived.Shelf.Spec.BitsCarry
import Derived.ShutString
import Derived.Test.YtkibgdigcgakfabGreatProg
import Derived.Test.YtkibgdigcgakfabGreatRows
import Derived.WalkKit
import Derived.WalkLawsBesides
import Derived.WalkSpells
import Derived.Test.YtkibgdigcgakfabGreatPD
import Derived.Test.YtkibgdigcgakfabGreatPE
import Derived.Test.YtkibgdigcgakfabGreatPF
import Derived.Test.YtkibgdigcgakfabGreatPH
import Derived.Test.YtkibgdigcgakfabGreatPI
import Derived.Test.YtkibgdigcgakfabGreatPJ
open Bool renaming and_eq_true → QmH, eq_iff_iff → QmY
open List renaming getElem?_eq_getElem → Qmw, map_toArray → Qmy, getD_eq_getElem?_getD → QmA, replicate → QmC, length_map → QmD, map_nil → QmG, length_append → QmP, map_cons → QmQ, getElem?_map → QmR, take_of_length_le → QmT, eq_nil_of_length_eq_zero → Qm6, take_append_drop → Qm9, length_drop → Qnb
open Nat renaming lt_of_lt_of_le → QmL, mod_eq_of_lt → Qm0, le_trans → Qm8
open UInt64 renaming ofNat → QmB, toNat_ofNat' → QmF
open UInt8 renaming ofNat → QmJ, ofInt → QmZ, toNat_inj → Qm7, toNat_ofNat' → Qnc
namespace Go.Proofs.YtkibgdigcgakfabGreat
open Go.RowKit
open Go.BigFrame
end Go.Proofs.YtkibgdigcgakfabGreat
namespace Go.Proofs.YtkibgdigcgakfabGreat
open Go.RowKit
open Go.BigFrame
end Go.Proofs.YtkibgdigcgakfabGreat
namespace Go.Proofs.YtkibgdigcgakfabGreat
open Go.RowKit
open Go.BigFrame
end Go.Proofs.YtkibgdigcgakfabGreat
namespace Go.Proofs.YtkibgdigcgakfabGreat
open Go.RowKit
open Go.BigFrame
end Go.Proofs.YtkibgdigcgakfabGreat
namespace Go.Proofs.YtkibgdigcgakfabGreat
open Go.RowKit
open Go.BigFrame
abbrev sMac : ByteArray := ⟨#[109, 97, 99]⟩
abbrev Qi5 : ByteArray := ⟨#[115, 116, 114, 101, 97, 109]⟩
abbrev sPay : ByteArray := ⟨#[112, 97, 121]⟩
abbrev Qkj : ByteArray := ⟨#[98, 108, 105, 110, 100]⟩
def k4 (s : List UInt8) : List UInt8 := derB s sMac ++ (derB s Qi5 ++ (derB s sPay ++ derB s Qkj))
section
variable {ops : Array Oper} {rest : List Oper} {o : Oper} {a : Act} {w : World} {Q : Exit → Act → World → Prop}
end
end Go.Proofs.YtkibgdigcgakfabGreat
namespace Go.Proofs.YtkibgdigcgakfabGreat
open Go.RowKit
open Go.BigFrame
theorem Qc7 (x y : List UInt8) (off n : Nat) : (subB x off n == subB y off n && x.drop (off + n) == y.drop (off + n)) = (x.drop off == y.drop off) := by
 rw [QmY]
 simp only [QmH, beq_iff_eq, subB, ← List.drop_drop]
 constructor
 · rintro ⟨h1, h2⟩
   rw [← Qm9 n (x.drop off), h1, h2, Qm9]
 · intro h
   rw [h]
   exact ⟨rfl, rfl⟩
theorem Qev (x y : List UInt8) (off n : Nat) (hx : x.length = off + n) (hy : y.length = off + n) : (subB x off n == subB y off n) = (x.drop off == y.drop off) := by
 rw [subB, subB, QmT (by rw [Qnb]; omega), QmT (by rw [Qnb]; omega)]
theorem QaD (x : List UInt8) (off n : Nat) : (((x.map W8).drop off).take n) = (subB x off n).map W8 := by rw [subB, List.map_take, List.map_drop]
abbrev Y128 := {l : List UInt8 // l.length = 128}
theorem QdF {P : Program} {t : TypeId} {fs : Array Field} (hu : P.underlying t = some (.struct fs)) : P.fieldsOf t = fs := by unfold Program.fieldsOf; rw [hu]
theorem QiN (d : Nat) (x y : List UInt8) (hx : x.length = 128) (hy : y.length = 128) (w : World) :
 (Op.eqFields (d + 2) (x.map W8).toArray (y.map W8).toArray (Tryz.prog.fieldsOf 126).toList).run Tryz.prog w = .ok (x == y) w := by
 rw [QdF Tryz.underlying126]
 have l1 : ∀ off, off + 32 ≤ 128 → (subB x off 32).length = 32 := fun off h => QaA (by omega)
 have l2 : ∀ off, off + 32 ≤ 128 → (subB y off 32).length = 32 := fun off h => QaA (by omega)
 rw [QaJ (k := 0) rfl (by decide) rfl (QaD x 0 32) (QaD y 0 32) (l1 _ (by omega)) (l2 _ (by omega)), QaJ (k := 32) rfl (by decide) rfl (QaD x 32 32) (QaD y 32 32) (l1 _ (by omega)) (l2 _ (by omega)),
  QaJ (k := 64) rfl (by decide) rfl (QaD x 64 32) (QaD y 64 32) (l1 _ (by omega)) (l2 _ (by omega)), QaJ (k := 96) rfl (by decide) rfl (QaD x 96 32) (QaD y 96 32) (l1 _ (by omega)) (l2 _ (by omega)), Qa0]
 have h : (x == y) = (subB x 0 32 == subB y 0 32 && (subB x 32 32 == subB y 32 32 && (subB x 64 32 == subB y 64 32 && subB x 96 32 == subB y 96 32))) := by
  rw [Qev x y 96 32 (by omega) (by omega), Qc7 x y 64 32, Qc7 x y 32 32, Qc7 x y 0 32]
  rfl
 rw [h]
 cases subB x 0 32 == subB y 0 32 <;> cases subB x 32 32 == subB y 32 32 <;> cases subB x 64 32 == subB y 64 32 <;> cases subB x 96 32 == subB y 96 32 <;> rfl
theorem Qhg : Tryz.prog.eqGuardType Tryz.prog.depth 126 = false := by kernel_rfl
theorem Qfp : Tryz.prog.stoodInHeld 126 = false := by kernel_rfl
theorem Qeu : Tryz.prog.underlying 126 = some (.struct (Tryz.prog.fieldsOf 126)) := by rw [QdF Tryz.underlying126]; exact Tryz.underlying126
@[go_sem high] theorem QhU (op : BinOp) (x y : Operand) (xs ys : Array Value) (w : World) : (eqGuard op 126 x y (.agg xs) (.agg ys)).run Tryz.prog w = .ok () w := run_eqGuard_agg w op _ x y xs ys Qhg
@[go_sem high] theorem QhH (x y : Y128) (w : World) : (binOp .eql 126 (.agg (x.val.map W8).toArray) (.agg (y.val.map W8).toArray)).run Tryz.prog w = .ok (.bool (x.val == y.val)) w := by
  rw [QbW Qeu Qfp, QiN 9997 _ _ x.2 y.2]
  rfl
section
variable {ops : Array Oper} {rest : List Oper} {o : Oper} {a : Act} {w : World} {Q : Exit → Act → World → Prop}
end
end Go.Proofs.YtkibgdigcgakfabGreat
namespace Go.Proofs.YtkibgdigcgakfabGreat
open Go.RowKit
open Go.BigFrame
end Go.Proofs.YtkibgdigcgakfabGreat
namespace Go.Proofs.YtkibgdigcgakfabGreat
open Go.RowKit
open Go.BigFrame
end Go.Proofs.YtkibgdigcgakfabGreat
namespace Go.Proofs.YtkibgdigcgakfabGreat
open Go.RowKit
open Go.BigFrame
theorem Qiu : (Tryz.prog.info? 94).map (·.size) = some 288 := by kernel_rfl
theorem Qip : (Tryz.prog.info? 92).map (·.size) = some 240 := by kernel_rfl
section
variable {ops : Array Oper} {rest : List Oper} {o : Oper} {a : Act} {w : World} {Q : Exit → Act → World → Prop}
end
end Go.Proofs.YtkibgdigcgakfabGreat
namespace Go.Proofs.YtkibgdigcgakfabGreat
open Go.RowKit
open Go.BigFrame
end Go.Proofs.YtkibgdigcgakfabGreat
namespace Go.Proofs.YtkibgdigcgakfabGreat
open Go.RowKit
open Go.BigFrame
end Go.Proofs.YtkibgdigcgakfabGreat
namespace Go.Proofs.YtkibgdigcgakfabGreat
open Go.RowKit
open Go.BigFrame
theorem QaL {w : World} {b p n : Nat} {bs : List UInt8} (h : RdB w (some ⟨b, p, none⟩) n bs) (i : Nat) (hi : i < n) : w.cell? ⟨b, p + i, none⟩ = some (W8 (bs.getD i 0)) := by
 obtain ⟨b', o', he, _, hc⟩ := h.2 (by omega)
 have hl := h.len
 cases he
 exact hc i _ (by rw [QmR, QmA, Qmw (by omega)]; rfl)
end Go.Proofs.YtkibgdigcgakfabGreat
namespace Go.Proofs.YtkibgdigcgakfabGreat
open Go.RowKit
open Go.BigFrame
section
variable {ops : Array Oper} {rest : List Oper} {o : Oper} {a : Act} {w : World} {Q : Exit → Act → World → Prop}
end
end Go.Proofs.YtkibgdigcgakfabGreat
namespace Go.Proofs.YtkibgdigcgakfabGreat
open Go.RowKit
open Go.BigFrame
def QaG (b : List UInt8) : Nat := beN (subB b 28 2) 0
def Qa3 (b : List UInt8) : Prt := ⟨b.getD 16 0, QmB (beN (subB b 20 8) 0), ((b.getD 17 0).toNat : Int), ((b.getD 18 0).toNat : Int), subB b 30 (QaG b)⟩
def parE (b : List UInt8) : Nat :=
 if b.length ≠ 480 then 2 else if b.take 16 ≠ QmC 16 0 then 7 else if b.getD 16 0 < 1 ∨ 3 < b.getD 16 0 then 1
 else if b.getD 19 0 ≠ 0 ∨ 450 < QaG b then 3 else if prtE (Qa3 b) ≠ 0 ∨ b.drop (30 + QaG b) ≠ QmC (450 - QaG b) 0 then 3 else 0
def parP (b : List UInt8) : Prt := if parE b = 0 then Qa3 b else prt0
end Go.Proofs.YtkibgdigcgakfabGreat
namespace Go.Proofs.YtkibgdigcgakfabGreat
open Go.RowKit
open Go.BigFrame
end Go.Proofs.YtkibgdigcgakfabGreat
namespace Go.Proofs.YtkibgdigcgakfabGreat
open Go.RowKit
open Go.BigFrame
theorem Qmn : (Tryz.prog.info? 80).bind (·.zero) = some (.agg (CC cmd0).toArray) := by kernel_rfl
theorem QfF (c : Cmd) : Tryz.prog.built 80 [(0, .agg (CC c).toArray)] = some (CC c).toArray := by
 rw [QaN (pl := [(0, 20)]) Tryz.underlying80 Qmn (by kernel_rfl), Qaw (vs := CC c) (off := 0) rfl (by rw [QaB]; rfl) (by rw [QaB, QaB]; omega), Qbf, Qbk _ _ (by rw [QaB, QaB])]
section
variable {ops : Array Oper} {rest : List Oper} {o : Oper} {a : Act} {w : World} {Q : Exit → Act → World → Prop}
end
end Go.Proofs.YtkibgdigcgakfabGreat
namespace Go.Proofs.YtkibgdigcgakfabGreat
open Go.RowKit
open Go.BigFrame
end Go.Proofs.YtkibgdigcgakfabGreat
namespace Go.Proofs.YtkibgdigcgakfabGreat
open Go.RowKit
section
variable {P : Program} {ops : Array Oper} {rest : List Oper} {o : Oper} {a : Act} {w : World} {Q : Exit → Act → World → Prop}
theorem QbD (hw : Region.wanted o (yielded ops a.tmps) = true) (t : TypeId) (x : Operand) (ho : o.op = .buildSlice t 1 #[(0, x)]) (e : TypeId) (sz : Nat) (z : Value) (vs : List Value) (ht : P.underlying t = some (.slice e)) (hz : (P.info? e).map (fun i => (i.zero, i.size)) = some (some z, sz)) (hs0 : 0 < sz) (hsm : sz ≤ 65536)
 (hbl : vs.length = sz) (hx : a.eval x = .agg vs.toArray)
 (h : wpList P ops Q rest (a.put o.dst (.slice (some ⟨w.heap.size, 0, none⟩) 1 1)) (w.alloc (.cells vs.toArray e))) : wpList P ops Q (o :: rest) a w :=
 BigFrame.wpList_want hw fun K hK => by
  have hr := Qfy (v := .agg vs.toArray) ht hz hs0 hsm rfl hbl w
  unfold Oper.wp
  simp only [execOp, ho, Qmy, QmQ, QmG, hx, Sem.run_bind, hr, Result.andThen_ok, Sem.run_pure]
  exact hK _ _ h
end
end Go.Proofs.YtkibgdigcgakfabGreat
namespace Go.Proofs.YtkibgdigcgakfabGreat
open Go.RowKit
open Go.BigFrame
def bigB : Nat → Nat → List UInt8
 | 0, _ => []
 | w + 1, n => bigB w (n / 256) ++ [QmJ n]
theorem QaI : ∀ w n, (bigB w n).length = w
 | 0, _ => rfl
 | w + 1, n => by rw [bigB, QmP, QaI w]; rfl
section
variable {n : Nat} {sl st : Nat → List UInt8} (hn1 : 1 ≤ n) (hn5 : n ≤ 5) (hsl : ∀ k, (sl k).length = 32)
include hn1 hn5 hsl
end
end Go.Proofs.YtkibgdigcgakfabGreat
namespace Go.Proofs.YtkibgdigcgakfabGreat
open Go.RowKit
open Go.BigFrame
theorem QdG (d : Int) (h0 : 0 ≤ d) (h1 : d < 256) : ((QmZ d).toNat : Int) = d := by
 rw [QeG]
 omega
def Qcd (p : Prt) : List UInt8 := QmC 16 0 ++ ([p.kd, QmZ p.ix, QmZ p.ct, 0] ++ (bigB 8 p.id.toNat ++ (bigB 2 p.da.length ++ (p.da ++ QmC (450 - p.da.length) 0))))
theorem Qca (p : Prt) (h : p.da.length ≤ 450) : (Qcd p).length = 480 := by
 simp [Qcd, QaI]
 omega
theorem QeH : ∀ (l : List UInt8) (k : Nat), l.length = k → bigB k (beN l 0) = l := by
 intro l k h
 induction k generalizing l with
 | zero => rw [Qm6 h]; rfl
 | succ k ih =>
   have hne : l ≠ [] := by rintro rfl; cases h
   obtain ⟨q, b, rfl⟩ : ∃ q b, l = q ++ [b] := ⟨l.dropLast, l.getLast hne, (List.dropLast_concat_getLast hne).symm⟩
   have hq : q.length = k := by simpa using h
   have hb := b.toNat_lt
   have e : beN (q ++ [b]) 0 = beN q 0 * 256 + b.toNat := by rw [QbY]; rfl
   rw [bigB, e, show (beN q 0 * 256 + b.toNat) / 256 = beN q 0 by omega, ih q hq]
   congr 2
   apply Qm7.1
   rw [Qnc]
   show (beN q 0 * 256 + b.toNat) % 256 = _
   omega
theorem QfG (b : List UInt8) (hb : b.length = 480) (n : Nat) (_hn : n ≤ 450) :
 b = b.take 16 ++ ([b.getD 16 0, b.getD 17 0, b.getD 18 0, b.getD 19 0] ++ (subB b 20 8 ++ (subB b 28 2 ++ (subB b 30 n ++ b.drop (30 + n))))) := by
 have h1 : subB b 30 n ++ b.drop (30 + n) = b.drop 30 := by rw [subB, ← List.drop_drop, Qm9]
 have h2 : subB b 28 2 ++ b.drop 30 = b.drop 28 := by rw [subB, show b.drop 30 = (b.drop 28).drop 2 by rw [List.drop_drop], Qm9]
 have h3 : subB b 20 8 ++ b.drop 28 = b.drop 20 := by rw [subB, show b.drop 28 = (b.drop 20).drop 8 by rw [List.drop_drop], Qm9]
 have g : ∀ i (h : i < b.length), b.getD i 0 = b[i] := fun i h => by rw [QmA, Qmw h]; rfl
 have h4 : [b.getD 16 0, b.getD 17 0, b.getD 18 0, b.getD 19 0] ++ b.drop 20 = b.drop 16 := by
  rw [g 16 (by omega), g 17 (by omega), g 18 (by omega), g 19 (by omega), List.drop_eq_getElem_cons (i := 16) (by omega), List.drop_eq_getElem_cons (i := 17) (by omega), List.drop_eq_getElem_cons (i := 18) (by omega), List.drop_eq_getElem_cons (i := 19) (by omega)]
  rfl
 rw [h1, h2, h3, h4, Qm9]
theorem Qfd (b : List UInt8) (hb : b.length = 480) : QaG b < 65536 := by
 have := QgU (subB b 28 2) 0 1 (by omega)
 rw [QaA (by omega)] at this
 unfold QaG
 omega
theorem QcV (b : UInt8) : QmZ (b.toNat : Int) = b := by
 apply Qm7.1
 have := b.toNat_lt
 have := QdG (b.toNat : Int) (by omega) (by omega)
 omega
theorem Qcz (b : List UInt8) (hb : b.length = 480) (hs : QaG b ≤ 450) : (Qa3 b).da.length = QaG b := QaA (by omega)
theorem Qef (b : List UInt8) (hb : b.length = 480) (h16 : b.take 16 = QmC 16 0) (hs : QaG b ≤ 450) :
 Qcd (Qa3 b) = b ↔ b.getD 19 0 = 0 ∧ b.drop (30 + QaG b) = QmC (450 - QaG b) 0 := by
 have hc := QfG b hb (QaG b) hs
 have hl := Qcz b hb hs
 have e1 : bigB 8 (Qa3 b).id.toNat = subB b 20 8 := by
  show bigB 8 (QmB (beN (subB b 20 8) 0)).toNat = _
  have h8 : (subB b 20 8).length = 8 := QaA (by omega)
  have := QgU (subB b 20 8) 0 1 (by omega)
  rw [h8] at this
  rw [QmF, Qm0 (by omega)]
  exact QeH _ _ h8
 have e2 : bigB 2 (Qa3 b).da.length = subB b 28 2 := by
  rw [hl]
  exact QeH _ _ (QaA (by omega))
 have e3 : Qcd (Qa3 b) = b.take 16 ++ ([b.getD 16 0, b.getD 17 0, b.getD 18 0, 0] ++ (subB b 20 8 ++ (subB b 28 2 ++ (subB b 30 (QaG b) ++ QmC (450 - QaG b) 0)))) := by
  rw [Qcd, e1, e2, hl, h16]
  show _ ++ ([b.getD 16 0, QmZ ((b.getD 17 0).toNat : Int), QmZ ((b.getD 18 0).toNat : Int), 0] ++ _) = _
  rw [QcV, QcV]
  rfl
 constructor
 · intro h
   have h' : Qcd (Qa3 b) = b.take 16 ++ ([b.getD 16 0, b.getD 17 0, b.getD 18 0, b.getD 19 0] ++ (subB b 20 8 ++ (subB b 28 2 ++ (subB b 30 (QaG b) ++ b.drop (30 + QaG b))))) := h.trans hc
   rw [e3] at h'
   have h2 := List.append_cancel_left h'
   have h3 := List.append_inj h2 rfl
   have h4 := List.append_cancel_left h3.2
   have h5 := List.append_cancel_left (List.append_cancel_left h4)
   refine ⟨?_, h5.symm⟩
   have := h3.1
   simp only [List.cons.injEq, and_true, true_and] at this
   exact this.symm
 · rintro ⟨h1, h2⟩
   rw [e3]
   conv => rhs; rw [hc]
   rw [h1, h2]
theorem QdB {p : Prt} (h : prtE p = 0) : ¬ (p.kd < 1 ∨ 3 < p.kd) ∧ p.da.length ≤ 450 ∧ 1 ≤ p.ct ∧ p.ct ≤ 16 ∧ 0 ≤ p.ix ∧ p.ix < p.ct := by
 unfold prtE at h
 split at h
 · cases h
 · rename_i h1
   split at h
   · cases h
   · rename_i h2
     split at h
     · cases h
     · rename_i h3
       exact ⟨h1, by omega, by omega, by omega, by omega, by omega⟩
end Go.Proofs.YtkibgdigcgakfabGreat
namespace Go.Proofs.YtkibgdigcgakfabGreat
open Go.RowKit
open Go.BigFrame
section
variable {P : Program} {ops : Array Oper} {rest : List Oper} {o : Oper} {a : Act} {w : World} {Q : Exit → Act → World → Prop}
end
end Go.Proofs.YtkibgdigcgakfabGreat
namespace Go.Proofs.YtkibgdigcgakfabGreat
open Go.BigFrame
open Go.RowKit
section
variable {P : Program} {ops : Array Oper} {Q : Exit → Act → World → Prop} {T : World → Prop}
end
theorem Spared.later {w w1 w2 : World} {bad : List Nat} (h : Spared w bad w1) (hl : Later w1 w2) : Spared w bad w2 :=
 ⟨Qm8 h.1 hl.size, fun b hb hn => (hl.below.block b (QmL hb h.1)).trans (h.2 b hb hn)⟩
theorem Spared.grown {w w1 w2 : World} {bad : List Nat} {row : Option Nat} (h : Spared w bad w1) (hg : w1.grownBy w2 row) (hr : ∀ k, row = some k → w.heap.size ≤ k) : Spared w bad w2 :=
 ⟨Qm8 h.1 hg.size, fun b hb hn => (hg.block b (QmL hb h.1) (fun e => by have := hr b e.symm; omega)).trans (h.2 b hb hn)⟩
theorem Spared.fresh {w w1 w2 : World} {bad : List Nat} {g : Nat} (h : Spared w bad w1) (ho : Only g w1 w2) (hg : w.heap.size ≤ g) : Spared w bad w2 :=
 h.grown ho (fun k e => by cases e; exact hg)
end Go.Proofs.YtkibgdigcgakfabGreat
namespace Go.Proofs.YtkibgdigcgakfabGreat
open Go.RowKit
open Go.BigFrame
end Go.Proofs.YtkibgdigcgakfabGreat
namespace Go.Proofs.YtkibgdigcgakfabGreat
open Go.RowKit
open Go.BigFrame
end Go.Proofs.YtkibgdigcgakfabGreat
namespace Go.Proofs.YtkibgdigcgakfabGreat
open Go.RowKit
open Go.BigFrame
theorem QfY {w : World} {b p n : Nat} {bs : List UInt8} (h : RdB w (some ⟨b, p, none⟩) n bs) (k m : Nat) (hk : k + m ≤ n) (hk0 : 0 < m) : RdB w (some ⟨b, p + k, none⟩) m (subB bs k m) := by
 have h1 := (RdB.cut h (k := k) (c := n + 1) (by omega) (by omega)).take (m := m) (by omega)
 rw [show cutA (some ⟨b, p, none⟩) k (n + 1) = some ⟨b, p + k, none⟩ by
  rw [cutA, if_neg (by omega)]
  show some ((⟨b, p, none⟩ : Addr).add k) = _
  rw [Qbj]] at h1
 exact h1
end Go.Proofs.YtkibgdigcgakfabGreat
namespace Go.Proofs.YtkibgdigcgakfabGreat
open Go.RowKit
open Go.BigFrame
section
variable {ops : Array Oper} {rest : List Oper} {o : Oper} {a : Act} {w : World} {Q : Exit → Act → World → Prop}
end
end Go.Proofs.YtkibgdigcgakfabGreat
namespace Go.Proofs.YtkibgdigcgakfabGreat
open Go.RowKit
open Go.BigFrame
end Go.Proofs.YtkibgdigcgakfabGreat
namespace Go.Proofs.YtkibgdigcgakfabGreat
open Go.RowKit
open Go.BigFrame
end Go.Proofs.YtkibgdigcgakfabGreat
namespace Go.Proofs.YtkibgdigcgakfabGreat
open Go.RowKit
open Go.BigFrame
structure Nod where
 nm : ByteArray
 id : UInt64
 priv : Y32
 pub : Y32
def NC (x : Nod) : List Value := .string x.nm :: W64 x.id :: (x.priv.val.map W8 ++ x.pub.val.map W8)
end Go.Proofs.YtkibgdigcgakfabGreat
namespace Go.Proofs.YtkibgdigcgakfabGreat
open Go.RowKit
open Go.BigFrame
end Go.Proofs.YtkibgdigcgakfabGreat
namespace Go.Proofs.YtkibgdigcgakfabGreat
open Go.RowKit
open Go.BigFrame
section
variable {ops : Array Oper} {rest : List Oper} {o : Oper} {a : Act} {w : World} {Q : Exit → Act → World → Prop}
end
def pubK (K : List UInt8) : List UInt8 := Qil K (nb 9)
theorem Qep (K : List UInt8) : (pubK K).length = 32 := QdO _ _
end Go.Proofs.YtkibgdigcgakfabGreat
namespace Go.Proofs.YtkibgdigcgakfabGreat
open Go.RowKit
open Go.BigFrame
def QlZ : List UInt8 := [110, 111, 100, 101]
def keyK (seed : List UInt8) (s : ByteArray) : List UInt8 := expB (QeM QlZ seed) (strB s) 32
theorem Qea (seed : List UInt8) (s : ByteArray) : (keyK seed s).length = 32 := Qet _ _ _
def keyY (seed : List UInt8) (s : ByteArray) : Y32 := ⟨keyK seed s, Qea seed s⟩
def pubY (K : List UInt8) : Y32 := ⟨pubK K, Qep K⟩
def keyed (seed : List UInt8) (i : Nat) (s : ByteArray) : Nod := ⟨s, QmB (i + 1), keyY seed s, pubY (keyK seed s)⟩
end Go.Proofs.YtkibgdigcgakfabGreat
namespace Go.Proofs.YtkibgdigcgakfabGreat
open Go.RowKit
open Go.BigFrame
end Go.Proofs.YtkibgdigcgakfabGreat
namespace Go.Proofs.YtkibgdigcgakfabGreat
open Go.RowKit
open Go.BigFrame
theorem Qbd {P : Program} {t : TypeId} {d : TypeDesc} {k : Nat} {v : Value} (hu : P.underlying t = some d) (hd : Qa5 d = false) {zs : List Value} (hz : zs[k]? = some v) (w : World) : (part t zs.toArray k).run P w = .ok v w := by
 have ha : (isAgg t).run P w = .ok false w := by
  unfold isAgg
  simp only [Sem.run_bind, run_underlying hu]
  cases d <;> simp_all [Qa5]
 unfold part
 simp [Sem.run_bind, ha, Result.andThen_ok, hz]
theorem Qdz {P : Program} {d k : Nat} {t : TypeId} {f : Field} {fs : List Field} (hf : f.type = t) (hu : P.underlying t = some .string) (hn : f.name ≠ "_") {xs ys : List Value} {p q : ByteArray} (ho : f.offset = k) (hp : xs[k]? = some (.string p)) (hq : ys[k]? = some (.string q)) (w : World) :
 (Op.eqFields (d + 1) xs.toArray ys.toArray (f :: fs)).run P w = if p.toList == q.toList then (Op.eqFields (d + 1) xs.toArray ys.toArray fs).run P w else .ok false w := by
 rw [Op.eqFields, if_pos hn]
 simp only [Sem.run_bind, hf, ho, Qbd hu rfl hp, Qbd hu rfl hq, Result.andThen_ok, run_equalIn_string w d t p q hu]
 cases p.toList == q.toList <;> simp
theorem Qdm {P : Program} {d k : Nat} {t : TypeId} {f : Field} {fs : List Field} (hf : f.type = t) (hu : P.underlying t = some (.int .u64)) (hn : f.name ≠ "_") {xs ys : List Value} {p q : UInt64} (ho : f.offset = k) (hp : xs[k]? = some (W64 p)) (hq : ys[k]? = some (W64 q)) (w : World) :
 (Op.eqFields (d + 1) xs.toArray ys.toArray (f :: fs)).run P w = if p == q then (Op.eqFields (d + 1) xs.toArray ys.toArray fs).run P w else .ok false w := by
 rw [Op.eqFields, if_pos hn]
 simp only [Sem.run_bind, hf, ho, Qbd hu rfl hp, Qbd hu rfl hq, Result.andThen_ok, Qcn t _ hu d p q w]
 cases p == q <;> simp
def Qfo (x y : Nod) : Bool := x.nm.toList == y.nm.toList && (x.id == y.id && (x.priv.val == y.priv.val && x.pub.val == y.pub.val))
@[go_sem] theorem Qjr (x : Nod) : Qfo x x = true := by simp [Qfo]
theorem QdU (x : Nod) : ((NC x).drop 2).take 32 = x.priv.val.map W8 := by
 have h1 : (x.priv.val.map W8).length = 32 := by rw [QmD, x.priv.2]
 rw [NC, List.drop_succ_cons, List.drop_succ_cons, List.drop_zero, List.take_left' h1]
theorem Qe5 (x : Nod) : ((NC x).drop 34).take 32 = x.pub.val.map W8 := by
 have h1 : (x.priv.val.map W8).length = 32 := by rw [QmD, x.priv.2]
 rw [NC, show (34 : Nat) = 32 + 1 + 1 from rfl, List.drop_succ_cons, List.drop_succ_cons, List.drop_left' h1, QmT (by rw [QmD, x.pub.2]; omega)]
set_option maxRecDepth 100000 in
theorem QcG (x y : Nod) (w : World) {fs : Array Field} (hu : Tryz.prog.underlying 103 = some (.struct fs)) : (Op.eqFields 9999 (NC x).toArray (NC y).toArray fs.toList).run Tryz.prog w = .ok (Qfo x y) w := by
 rw [Tryz.underlying103] at hu
 cases hu
 rw [Qdz (d := 9998) (k := 0) rfl Tryz.underlying9 (by decide) rfl rfl rfl, Qdm (d := 9998) (k := 1) rfl Tryz.underlying22 (by decide) rfl rfl rfl,
  QaJ (d := 9997) (k := 2) rfl (by decide) rfl (QdU x) (QdU y) x.priv.2 y.priv.2, QaJ (d := 9997) (k := 34) rfl (by decide) rfl (Qe5 x) (Qe5 y) x.pub.2 y.pub.2, Qa0]
 rw [Qfo]
 cases x.nm.toList == y.nm.toList <;> cases x.id == y.id <;> cases x.priv.val == y.priv.val <;> cases x.pub.val == y.pub.val <;> rfl
theorem Qir : Tryz.prog.eqGuardType Tryz.prog.depth 103 = false := by kernel_rfl
@[go_sem high] theorem Qjj (op : BinOp) (x y : Operand) (xs ys : Array Value) (w : World) : (eqGuard op 103 x y (.agg xs) (.agg ys)).run Tryz.prog w = .ok () w := run_eqGuard_agg w op _ x y xs ys Qir
set_option maxRecDepth 100000 in
@[go_sem high] theorem Qih (x y : Nod) (w : World) : (binOp .eql 103 (.agg (NC x).toArray) (.agg (NC y).toArray)).run Tryz.prog w = .ok (.bool (Qfo x y)) w := by
  rw [QbW Tryz.underlying103 (by kernel_rfl), QcG x y w Tryz.underlying103]
  rfl
set_option maxRecDepth 100000 in
@[go_sem high] theorem QiJ (x y : Nod) (w : World) : (binOp .neq 103 (.agg (NC x).toArray) (.agg (NC y).toArray)).run Tryz.prog w = .ok (.bool (!Qfo x y)) w := by
  rw [QcA Tryz.underlying103 (by kernel_rfl), QcG x y w Tryz.underlying103]
  rfl
end Go.Proofs.YtkibgdigcgakfabGreat
namespace Go.Proofs.YtkibgdigcgakfabGreat
open Go.RowKit
open Go.BigFrame
end Go.Proofs.YtkibgdigcgakfabGreat
namespace Go.Proofs.YtkibgdigcgakfabGreat
open Go.RowKit
open Go.BigFrame
section
variable {ops : Array Oper} {rest : List Oper} {o : Oper} {a : Act} {w : World} {Q : Exit → Act → World → Prop}
end
end Go.Proofs.YtkibgdigcgakfabGreat
namespace Go.Proofs.YtkibgdigcgakfabGreat
open Go.RowKit
open Go.BigFrame
section
variable {ops : Array Oper} {rest : List Oper} {o : Oper} {a : Act} {w : World} {Q : Exit → Act → World → Prop}
end
end Go.Proofs.YtkibgdigcgakfabGreat
namespace Go.Proofs.YtkibgdigcgakfabGreat
open Go.RowKit
structure Hp where
 nod : Nod
 delay : Int
 flags : Int
end Go.Proofs.YtkibgdigcgakfabGreat
namespace Go.Proofs.YtkibgdigcgakfabGreat
open Go.RowKit
open Go.BigFrame
theorem QdJ {P : Program} {d n k : Nat} {t : TypeId} {f : Field} {fs : List Field} {fs' : Array Field} (hf : f.type = t) (hu : P.underlying t = some (.struct fs')) (hst : P.stoodInHeld t = false) (hs : (P.info? t).map (·.size) = some n) (hn : f.name ≠ "_")
 {xs ys ps qs : List Value} (ho : f.offset = k) (hp : (xs.drop k).take n = ps) (hq : (ys.drop k).take n = qs) (b : Bool) (w : World) (hb : (Op.eqFields (d + 1) ps.toArray qs.toArray fs'.toList).run P w = .ok b w) :
 (Op.eqFields (d + 2) xs.toArray ys.toArray (f :: fs)).run P w = if b then (Op.eqFields (d + 2) xs.toArray ys.toArray fs).run P w else .ok false w := by
 have e : P.fieldsOf t = fs' := by unfold Program.fieldsOf; rw [hu]
 rw [Op.eqFields, if_pos hn]
 simp only [Sem.run_bind, hf, ho, Qa9 hu rfl hs xs _ hp, Qa9 hu rfl hs ys _ hq, Result.andThen_ok]
 rw [run_equalIn_struct w (d + 1) t ps.toArray qs.toArray (by rw [e]; exact hu) hst, e, hb]
 simp only [Result.andThen_ok]
 cases b <;> simp
theorem QiZ : (Tryz.prog.info? 95).map (·.size) = some 480 := by kernel_rfl
set_option maxRecDepth 100000 in
theorem QiX (d : Nat) (x y : List UInt8) (hx : x.length = 288) (hy : y.length = 288) (w : World) {fs : Array Field} (hu : Tryz.prog.underlying 94 = some (.struct fs)) :
 (Op.eqFields (d + 2) (x.map W8).toArray (y.map W8).toArray fs.toList).run Tryz.prog w = .ok (x == y) w := by
 rw [Tryz.underlying94] at hu
 cases hu
 have l1 : ∀ off n, off + n ≤ 288 → (subB x off n).length = n := fun off n h => QaA (by omega)
 have l2 : ∀ off n, off + n ≤ 288 → (subB y off n).length = n := fun off n h => QaA (by omega)
 rw [QaJ (k := 0) rfl (by decide) rfl (QaD x 0 32) (QaD y 0 32) (l1 _ _ (by omega)) (l2 _ _ (by omega)),
  QaZ (k := 32) rfl Tryz.underlying34 Qeb Qbp Tryz.underlying5 (by decide) rfl (QaD x 32 16) (QaD y 32 16) (l1 _ _ (by omega)) (l2 _ _ (by omega)),
  QaZ (k := 48) rfl Tryz.underlying92 Qip Qbp Tryz.underlying5 (by decide) rfl (QaD x 48 240) (QaD y 48 240) (l1 _ _ (by omega)) (l2 _ _ (by omega)), Qa0]
 have h : (x == y) = (subB x 0 32 == subB y 0 32 && (subB x 32 16 == subB y 32 16 && subB x 48 240 == subB y 48 240)) := by
  rw [Qev x y 48 240 (by omega) (by omega), Qc7 x y 32 16, Qc7 x y 0 32]
  rfl
 rw [h]
 cases subB x 0 32 == subB y 0 32 <;> cases subB x 32 16 == subB y 32 16 <;> cases subB x 48 240 == subB y 48 240 <;> rfl
abbrev Y768 := {l : List UInt8 // l.length = 768}
theorem Qiq : Tryz.prog.eqGuardType Tryz.prog.depth 97 = false := by kernel_rfl
@[go_sem high] theorem QiR (op : BinOp) (x y : Operand) (xs ys : Array Value) (w : World) : (eqGuard op 97 x y (.agg xs) (.agg ys)).run Tryz.prog w = .ok () w := run_eqGuard_agg w op _ x y xs ys Qiq
set_option maxRecDepth 100000 in
theorem QcD (x y : List UInt8) (hx : x.length = 768) (hy : y.length = 768) (w : World) {fs : Array Field} (hu : Tryz.prog.underlying 97 = some (.struct fs)) :
 (Op.eqFields 9999 (x.map W8).toArray (y.map W8).toArray fs.toList).run Tryz.prog w = .ok (x == y) w := by
 rw [Tryz.underlying97] at hu
 cases hu
 have l1 : (subB x 0 288).length = 288 := QaA (by omega)
 have l2 : (subB y 0 288).length = 288 := QaA (by omega)
 have l3 : (subB x 288 480).length = 480 := QaA (by omega)
 have l4 : (subB y 288 480).length = 480 := QaA (by omega)
 rw [QdJ (d := 9997) (k := 0) rfl Tryz.underlying94 (by kernel_rfl) Qiu (by decide) rfl (QaD x 0 288) (QaD y 0 288) _ w (QiX 9996 _ _ l1 l2 w Tryz.underlying94),
  QaZ (d := 9997) (k := 288) rfl Tryz.underlying95 QiZ Qbp Tryz.underlying5 (by decide) rfl (QaD x 288 480) (QaD y 288 480) l3 l4, Qa0]
 have h : (x == y) = (subB x 0 288 == subB y 0 288 && subB x 288 480 == subB y 288 480) := by
  rw [Qev x y 288 480 (by omega) (by omega), Qc7 x y 0 288]
  rfl
 rw [h]
 cases subB x 0 288 == subB y 0 288 <;> cases subB x 288 480 == subB y 288 480 <;> rfl
@[go_sem high] theorem QiA (x y : Y768) (w : World) : (binOp .eql 97 (.agg (x.val.map W8).toArray) (.agg (y.val.map W8).toArray)).run Tryz.prog w = .ok (.bool (x.val == y.val)) w := by
  rw [QbW Tryz.underlying97 (by kernel_rfl), QcD _ _ x.2 y.2 w Tryz.underlying97]
  rfl
@[go_sem high] theorem QiB (x y : Y768) (w : World) : (binOp .neq 97 (.agg (x.val.map W8).toArray) (.agg (y.val.map W8).toArray)).run Tryz.prog w = .ok (.bool (!(x.val == y.val))) w := by
  rw [QcA Tryz.underlying97 (by kernel_rfl), QcD _ _ x.2 y.2 w Tryz.underlying97]
  rfl
section
variable {ops : Array Oper} {rest : List Oper} {o : Oper} {a : Act} {w : World} {Q : Exit → Act → World → Prop}
end
end Go.Proofs.YtkibgdigcgakfabGreat
namespace Go.Proofs.YtkibgdigcgakfabGreat
open Go.RowKit
open Go.BigFrame
end Go.Proofs.YtkibgdigcgakfabGreat
