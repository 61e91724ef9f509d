/-
  Lemmas for the last text of this claim (part 8 of 20).
-/
import Derived.BigQuiet
import Derived.BigRegion
import Derived.ChangeOld
import Derived.Deep.RegionWith
import Derived.DeepKeys4
import Derived.JoinedCond
import Derived.LaidMore
import Derived.Laws.CopyOwn
import Derived.Laws.Externs
import Derived.Laws.IdiomStrings
import Derived.Laws.Tables
import Derived.Lib.AppendStr
import Derived.Lib.AppendZerosOnto
import Derived.Lib.Mul64
import Derived.Lib.SlBytesConst
import Derived.LoopN
import Derived.Maps.OwnSet
import Derived.OpenShut
import Derived.OrdersHeld
import Derived.ProofKit
import Derived.Shelf.Spec.BitsCarry
import Derived.ShutString
import Derived.Test.YtkibgdigcgakfabGreatProg
import Derived.Test.YtkibgdigcgakfabGreatRows
import Derived.WalkKit
import Derived.WalkLawsBesides
import Derived.WalkSpells
import Derived.Test.YtkibgdigcgakfabGreatPC
import Derived.Test.YtkibgdigcgakfabGreatPD
import Derived.Test.YtkibgdigcgakfabGreatPE
import Derived.Test.YtkibgdigcgakfabGreatPF
import Derived.Test.YtkibgdigcgakfabGreatPG
open BitVec renaming toNat_ushiftRight → Qng
open Bool renaming eq_iff_iff → QmY
open List renaming getElem?_eq_getElem → Qmw, getD_eq_getElem?_getD → QmA, replicate → QmC, length_map → QmD, cons_append → QmK, nil_append → QmN, getElem?_eq_some_iff → QmO, length_append → QmP, getElem?_map → QmR, getElem?_append_left → QmS, take_of_length_le → QmT, mem_cons → QmV, length_take → QmW, append_assoc → Qm3, getElem?_take → Qm4, eq_nil_of_length_eq_zero → Qm6, length_drop → Qnb, range → Qnf, length_cons → Qnl, mem_of_getElem? → Qno, getElem?_drop → Qnv, map_append → Qnx
open Nat renaming le_refl → Qmx, lt_of_lt_of_le → QmL, zero_add → QmU, mod_eq_of_lt → Qm0, shiftRight_eq_div_pow → Qne, lt_or_ge → Qnk, mod_lt → Qny
open UInt32 renaming ofNat → QmM
open UInt8 renaming ofNat → QmJ, ofInt → QmZ
namespace Go.Proofs.YtkibgdigcgakfabGreat
open Go.RowKit
theorem Qb5 : ∀ (vs : List Value) (k off : Nat) (cells : List Value), off + vs.length ≤ cells.length →
 (vs.zipIdx k).foldl (fun (cs : Array Value) (x : Value × Nat) => cs.setIfInBounds (off - k + x.2) x.1) cells.toArray = (Qan cells off vs).toArray ∨ off < k
 | [], k, off, cells, _ => .inl (by simp [Qan])
 | v :: vs, k, off, cells, h => by
   rcases Qnk off k with hk | hk
   · exact .inr hk
   left
   simp only [Qnl] at h
   have ih := Qb5 vs (k + 1) (off + 1) (cells.set off v) (by simp; omega)
   rcases ih with ih | ih
   · rw [List.zipIdx_cons, List.foldl_cons, show off - k + k = off by omega]
     simp only [List.setIfInBounds_toArray]
     rw [show off + 1 - (k + 1) = off - k by omega] at ih
     rw [ih]
     congr 1
     rw [Qan, Qan, List.take_succ_eq_append_getElem (by simp; omega), List.drop_set_of_lt (by omega)]
     simp only [List.take_set_of_le (Qmx off), List.getElem_set_self, Qm3, QmK, QmN, Qnl, show off + 1 + vs.length = off + (vs.length + 1) by omega]
   · omega
theorem QfA (vs cells : List Value) (off : Nat) (h : off + vs.length ≤ cells.length) :
 vs.toArray.zipIdx.foldl (fun (cs : Array Value) (x : Value × Nat) => cs.setIfInBounds (off + x.2) x.1) cells.toArray = (Qan cells off vs).toArray := by
 rcases Qb5 vs 0 off cells h with h | h
 · rw [← Array.foldl_toList, Array.toList_zipIdx]
   simpa using h
 · omega
end Go.Proofs.YtkibgdigcgakfabGreat
namespace Go.Proofs.YtkibgdigcgakfabGreat
open Go.RowKit
theorem QaN {P : Program} {t : TypeId} {zs : List Value} {fs : Array Field} {pl : List (Nat × Nat)} (hu : P.underlying t = some (.struct fs)) (hz : (P.info? t).bind (·.zero) = some (.agg zs.toArray))
 (hp : (fs.toList.mapM fun f => (P.info? f.type).map fun i => (f.offset, i.size)) = some pl) (parts : List (Nat × Value)) : P.built t parts = Instr.fill (pl.toArray[·]?) zs.toArray parts := by
 cases hq : P.info? t with
 | none => simp [hq] at hz
 | some it =>
   have hz' : it.zero = some (.agg zs.toArray) := by simpa [hq] using hz
   have hc2 : (Value.agg zs.toArray).cells = zs.toArray := rfl
   unfold Program.built
   rw [hq, hu]
   simp only [hz', hp, hc2]
theorem Qaw {place : Nat → Option (Nat × Nat)} {i off : Nat} {cells vs : List Value} {v : Value} {rest : List (Nat × Value)} (hv : v.cells = vs.toArray) (hpi : place i = some (off, vs.length)) (hfit : off + vs.length ≤ cells.length) :
 Instr.fill place cells.toArray ((i, v) :: rest) = Instr.fill place (Qan cells off vs).toArray rest := by
 simp only [Instr.fill, hpi, hv, List.size_toArray]
 rw [if_neg (by simp; omega), QfA _ _ _ hfit]
theorem Qbf {place : Nat → Option (Nat × Nat)} {cells : Array Value} : Instr.fill place cells [] = some cells := rfl
section
variable {P : Program} {ops : Array Oper} {rest : List Oper} {o : Oper} {a : Act} {w : World} {Q : Exit → Act → World → Prop}
theorem Qaf (hw : Region.wanted o (yielded ops a.tmps) = true) (ty : TypeId) (x : Operand) (ho : o.op = .load ty x) (g off : Nat) (vs : List Value) (hc : ∀ j v, vs[j]? = some v → w.cell? ⟨g, off + j, none⟩ = some v)
 (hx : a.eval x = .pointer (some ⟨g, off, none⟩)) (d : TypeDesc) (hu : P.underlying ty = some d) (hd : Qa5 d = true) (hi : (P.info? ty).map (·.size) = some vs.length)
 (h : wpList P ops Q rest (a.put o.dst (.agg vs.toArray)) w) : wpList P ops Q (o :: rest) a w := by
 refine BigFrame.wpList_want hw fun K hK => ?_
 unfold Oper.wp
 simp only [execOp, ho, hx, Instr.loadAt, Instr.sureAddr, Sem.run_bind, Sem.run_pure, Result.andThen_ok, Qbr w g off ty vs d hc hu hd hi]
 exact hK _ _ h
theorem Qad (hw : Region.wanted o (yielded ops a.tmps) = true) (t : TypeId) (parts : Array (Nat × Operand)) (ho : o.op = .build t parts) (vs : List Value) (hb : P.built t (parts.map fun (i, x) => (i, a.eval x)).toList = some vs.toArray)
 (h : wpList P ops Q rest (a.put o.dst (.agg vs.toArray)) w) : wpList P ops Q (o :: rest) a w :=
 BigFrame.wpList_want hw fun K hK => wp_build t parts ho (by rw [hb]; rfl) (by rw [hb]; exact hK _ _ h)
end
theorem Qio : (Tryz.prog.info? 91).map (·.size) = some 32 := by kernel_rfl
theorem Qa9 {P : Program} {t : TypeId} {n k : Nat} {d : TypeDesc} (hu : P.underlying t = some d) (hd : Qa5 d = true) (hs : (P.info? t).map (·.size) = some n) (zs r : List Value) (hz : (zs.drop k).take n = r) (w : World) :
 (part t zs.toArray k).run P w = .ok (.agg r.toArray) w := by
 have hs : (sizeOf t).run P w = .ok n w := by
  cases hq : P.info? t with
  | none => simp [hq] at hs
  | some inf =>
    have hsz : inf.size = n := by simpa [hq] using hs
    simp [sizeOf, typeInfo, hq, hsz]
 have ha : (isAgg t).run P w = .ok true w := by
  unfold isAgg
  simp only [Sem.run_bind, run_underlying hu]
  cases d <;> simp_all [Qa5]
 unfold part
 simp only [Sem.run_bind, ha, Result.andThen_ok, if_true, hs, Sem.run_pure]
 rw [← hz]
 simp
theorem QaZ {P : Program} {d n k : Nat} {t e : TypeId} {f : Field} {fs : List Field} (hf : f.type = t) (hu : P.underlying t = some (.array n e)) (hs : (P.info? t).map (·.size) = some n) (hs1 : (P.info? e).map (·.size) = some 1) (he : P.underlying e = some (.int .u8))
 (hn : f.name ≠ "_") {xs ys : List Value} {p q : List UInt8} (ho : f.offset = k) (hp : (xs.drop k).take n = p.map W8) (hq : (ys.drop k).take n = q.map W8) (hpl : p.length = n) (hql : q.length = n) (w : World) :
 (Op.eqFields (d + 2) xs.toArray ys.toArray (f :: fs)).run P w = if p == q then (Op.eqFields (d + 2) xs.toArray ys.toArray fs).run P w else .ok false w := by
 rw [Op.eqFields, if_pos hn]
 simp only [Sem.run_bind, hf, ho, Qa9 hu rfl hs xs _ hp, Qa9 hu rfl hs ys _ hq, Result.andThen_ok]
 rw [Qax w 0 W8 d t e n hu hs1 he rfl (QcZ _ _ he) p q hpl hql]
 simp only [Result.andThen_ok]
 cases p == q <;> simp
theorem QaJ {d : Nat} {f : Field} {fs : List Field} (hf : f.type = 91) (hn : f.name ≠ "_") {xs ys : List Value} {p q : List UInt8} {k : Nat} (ho : f.offset = k) (hp : (xs.drop k).take 32 = p.map W8) (hq : (ys.drop k).take 32 = q.map W8) (hpl : p.length = 32) (hql : q.length = 32) (w : World) :
 (Op.eqFields (d + 2) xs.toArray ys.toArray (f :: fs)).run Tryz.prog w = if p == q then (Op.eqFields (d + 2) xs.toArray ys.toArray fs).run Tryz.prog w else .ok false w :=
 QaZ hf Tryz.underlying91 Qio Qbp Tryz.underlying5 hn ho hp hq hpl hql w
theorem QbW {P : Program} {t : TypeId} {fs : Array Field} (hu : P.underlying t = some (.struct fs)) (hp : P.stoodInHeld t = false) (xs ys : Array Value) (w : World) :
 (binOp .eql t (.agg xs) (.agg ys)).run P w = ((Op.eqFields 9999 xs ys fs.toList).run P w).andThen fun b w' => .ok (.bool b) w' := by
 have e : P.fieldsOf t = fs := by unfold Program.fieldsOf; rw [hu]
 rw [run_eql_struct, run_equalIn_struct w 9999 t xs ys (by rw [e]; exact hu) hp, e]
theorem QcA {P : Program} {t : TypeId} {fs : Array Field} (hu : P.underlying t = some (.struct fs)) (hp : P.stoodInHeld t = false) (xs ys : Array Value) (w : World) :
 (binOp .neq t (.agg xs) (.agg ys)).run P w = ((Op.eqFields 9999 xs ys fs.toList).run P w).andThen fun b w' => .ok (.bool (!b)) w' := by
 have e : P.fieldsOf t = fs := by unfold Program.fieldsOf; rw [hu]
 rw [run_neq_struct, run_equalIn_struct w 9999 t xs ys (by rw [e]; exact hu) hp, e]
theorem Qa0 {d : Nat} {xs ys : Array Value} (w : World) : (Op.eqFields d xs ys []).run Tryz.prog w = .ok true w := by
 rw [Op.eqFields]
 simp
end Go.Proofs.YtkibgdigcgakfabGreat
namespace Go.Proofs.YtkibgdigcgakfabGreat
open Go.RowKit
def subB (bs : List UInt8) (off n : Nat) : List UInt8 := (bs.drop off).take n
def putB (bs : List UInt8) (off : Nat) (vs : List UInt8) : List UInt8 := bs.take off ++ vs ++ bs.drop (off + vs.length)
theorem QaA {bs : List UInt8} {off n : Nat} (h : off + n ≤ bs.length) : (subB bs off n).length = n := by
 rw [subB, QmW, Qnb]
 omega
theorem Qd6 {bs vs : List UInt8} {off : Nat} (h : off + vs.length ≤ bs.length) : (putB bs off vs).length = bs.length := by
 rw [putB, QmP, QmP, QmW, Qnb]
 omega
theorem Qg9 (bs vs : List UInt8) (off : Nat) : Qan (bs.map W8) off (vs.map W8) = (putB bs off vs).map W8 := by
 rw [Qan, putB, QmD, Qnx, Qnx, List.map_take, List.map_drop]
theorem Qhy {bs : List UInt8} {off n j : Nat} {v : UInt8} (h : (subB bs off n)[j]? = some v) : bs[off + j]? = some v := by
 rw [subB, Qm4] at h
 split at h
 · rwa [Qnv] at h
 · cases h
theorem QdA (p q r v : List UInt8) (off : Nat) (hp : p.length = off) (hq : q.length = v.length) : putB (p ++ (q ++ r)) off v = p ++ (v ++ r) := by
 rw [putB, List.take_left' hp, ← List.drop_drop, List.drop_left' hp, List.drop_left' hq, Qm3]
section
variable {P : Program} {ops : Array Oper} {rest : List Oper} {o : Oper} {a : Act} {w : World} {Q : Exit → Act → World → Prop}
end
end Go.Proofs.YtkibgdigcgakfabGreat
namespace Go.Proofs.YtkibgdigcgakfabGreat
open Go.RowKit
open Go.BigFrame
end Go.Proofs.YtkibgdigcgakfabGreat
namespace Go.Proofs.YtkibgdigcgakfabGreat
open Go.RowKit
open Go.BigFrame
section
variable {ops : Array Oper} {rest : List Oper} {o : Oper} {a : Act} {w : World} {Q : Exit → Act → World → Prop}
end
end Go.Proofs.YtkibgdigcgakfabGreat
namespace Go.Proofs.YtkibgdigcgakfabGreat
open Go.RowKit
open Go.BigFrame
end Go.Proofs.YtkibgdigcgakfabGreat
namespace Go.Proofs.YtkibgdigcgakfabGreat
open Go.RowKit
open Go.BigFrame
end Go.Proofs.YtkibgdigcgakfabGreat
namespace Go.Proofs.YtkibgdigcgakfabGreat
def small (n : Nat) : Bool := decide (2 ≤ n) && (Qnf n).all fun d => d ≤ 1 || n % d != 0
end Go.Proofs.YtkibgdigcgakfabGreat
namespace Go.Proofs.YtkibgdigcgakfabGreat
open Go.RowKit
def num (bs : List UInt8) : Nat := val 256 (bs.map UInt8.toNat)
end Go.Proofs.YtkibgdigcgakfabGreat
namespace Go.Proofs.YtkibgdigcgakfabGreat
open Go.RowKit
def pinv (a : Nat) : Nat := a ^ (P25 - 2) % P25
def RdE (w : World) (A : Option Addr) (n : Nat) (ns : List Nat) : Prop :=
 ns.length = n ∧ (0 < n → ∃ b o, A = some ⟨b, o, none⟩ ∧ b < w.heap.size ∧ ∀ j i v, j < n → (EL (ns.getD j 0))[i]? = some v → w.cell? ⟨b, o + j * 4 + i, none⟩ = some v)
theorem RdE.later {w w' : World} {A : Option Addr} {n : Nat} {ns : List Nat} (h : RdE w A n ns) (hl : Later w w') : RdE w' A n ns := by
 refine ⟨h.1, fun hn => ?_⟩
 obtain ⟨b, o, hA, hb, hc⟩ := h.2 hn
 exact ⟨b, o, hA, QmL hb hl.size, fun j i v hj hv => (hl.below.cell (p := ⟨b, o + j * 4 + i, none⟩) hb).trans (hc j i v hj hv)⟩
end Go.Proofs.YtkibgdigcgakfabGreat
namespace Go.Proofs.YtkibgdigcgakfabGreat
open Go.RowKit
def nb (n : Nat) : List UInt8 := (dig 256 32 n).map QmJ
theorem Qgw (n : Nat) : (nb n).length = 32 := by rw [nb, QmD, QaH]
end Go.Proofs.YtkibgdigcgakfabGreat
namespace Go.Proofs.YtkibgdigcgakfabGreat
open Go.RowKit
@[go_sem] theorem Qkm (T : TypeId) (x : Nat) (hx : x < B64) (k : UInt64) : binOp .shr T (n64 x) (W64 k) = pure (n64 (x / 2 ^ (cnt k))) := by
  have := QiU T x hx .u64 (k.toNat : Int) (by omega)
  rw [Int.toNat_natCast] at this
  exact this
@[go_sem] theorem QlT (T : TypeId) (x : Nat) (hx : x < B64) (y : UInt64) : binOp .or T (n64 x) (W64 y) = pure (n64 (x ||| y.toNat)) := by
  rw [n64, Qf7, Qce]
  rw [UInt64.toNat_or, tn64 hx, Qm0 (show (x ||| y.toNat) < B64 from Nat.or_lt_two_pow (n := 64) hx y.toNat_lt)]
def Qjy (bs : List UInt8) : Nat := if bs.length = 32 then num bs % T255 % P25 else 0
end Go.Proofs.YtkibgdigcgakfabGreat
namespace Go.Proofs.YtkibgdigcgakfabGreat
open Go.RowKit
@[go_sem] theorem QlJ (T : TypeId) (x : Nat) (hx : x < B32) (yk : IntKind) (k : Int) (h0 : 0 ≤ k) : binOp .shr T (n32 x) (.int yk k) = pure (n32 (x / 2 ^ k.toNat)) := by
  rw [n32, Qdh _ _ _ _ h0, Qho]
  rw [Qcb]
  show (BitVec.toNat _) = _
  rw [Qng]
  show (QmM x).toNat >>> _ = _
  rw [tn32 hx, Qne]
  have : x / 2 ^ k.toNat < B32 := Nat.lt_of_le_of_lt (Nat.div_le_self _ _) hx
  rw [Qm0 this]
@[go_sem] theorem QeK {P : Program} (w : World) (S D : TypeId) (x : Nat) (hs : (P.underlying S).isSome = true) (hd : P.underlying D = some (.int .u8)) : (convert S D (n32 x)).run P w = .ok (n8 x) w := by
  rw [n32, QbT _ _ _ _ hs hd, n8_w]
  rw [UInt32.toNat_toUInt8, UInt32.toNat_ofNat']
  omega
end Go.Proofs.YtkibgdigcgakfabGreat
namespace Go.Proofs.YtkibgdigcgakfabGreat
open Go.RowKit
@[go_sem] theorem Qkp (T : TypeId) (x : Nat) (y : UInt64) : binOp .mul T (n64 x) (W64 y) = pure (n64 (x * y.toNat)) := by
  rw [Ql4 y, QeA]
@[go_sem] theorem QlA (T : TypeId) (x : Nat) (hx : x < B32) : binOp .rem T (n32 x) (.int .u32 2147483648) = pure (n32 (x % 2147483648)) := by
  rw [n32, QeP _ _ _ (by omega) (by omega) (by decide), Qho]
  rw [UInt32.toNat_mod, tn32 hx]
  have : x % 2147483648 < B32 := by unfold B32; omega
  rw [Qm0 this]
  rfl
end Go.Proofs.YtkibgdigcgakfabGreat
namespace Go.Proofs.YtkibgdigcgakfabGreat
open Go.RowKit
open Go.BigFrame
end Go.Proofs.YtkibgdigcgakfabGreat
namespace Go.Proofs.YtkibgdigcgakfabGreat
open Go.RowKit
open Go.BigFrame
end Go.Proofs.YtkibgdigcgakfabGreat
namespace Go.Proofs.YtkibgdigcgakfabGreat
open Go.RowKit
open Go.BigFrame
end Go.Proofs.YtkibgdigcgakfabGreat
namespace Go.Proofs.YtkibgdigcgakfabGreat
open Go.RowKit
open Go.BigFrame
end Go.Proofs.YtkibgdigcgakfabGreat
namespace Go.Proofs.YtkibgdigcgakfabGreat
open Go.RowKit
open Go.BigFrame
def xorB (xs ys : List UInt8) : List UInt8 := List.zipWith (· ^^^ ·) xs ys
end Go.Proofs.YtkibgdigcgakfabGreat
namespace Go.Proofs.YtkibgdigcgakfabGreat
open Go.RowKit
def Qjz (key : List UInt8) : List UInt8 := if 64 < key.length then QeL key else key
def Qc4 (key : List UInt8) : List UInt8 := Qjz key ++ QmC (64 - (Qjz key).length) 0
def Qht (k : List UInt8) (m : UInt8) : List UInt8 := k.map (· ^^^ m)
def Qmg (key bs : List UInt8) : List UInt8 := QeL (Qht (Qc4 key) 54 ++ bs)
def QeM (key bs : List UInt8) : List UInt8 := QeL (Qht (Qc4 key) 92 ++ Qmg key bs)
theorem Qdr (key bs : List UInt8) : (QeM key bs).length = 32 := Qdu _
end Go.Proofs.YtkibgdigcgakfabGreat
namespace Go.Proofs.YtkibgdigcgakfabGreat
open Go.RowKit
end Go.Proofs.YtkibgdigcgakfabGreat
namespace Go.Proofs.YtkibgdigcgakfabGreat
open Go.RowKit
def TagAt (w : World) (g : Nat) (key bs : List UInt8) : Prop := HashAt w g 207 ((Qc4 key).map W8) (Qht (Qc4 key) 54 ++ bs)
end Go.Proofs.YtkibgdigcgakfabGreat
namespace Go.Proofs.YtkibgdigcgakfabGreat
open Go.RowKit
theorem TagAt.write {w : World} {g : Nat} {key bs x : List UInt8} (h : HashAt w g 207 ((Qc4 key).map W8) ((Qht (Qc4 key) 54 ++ bs) ++ x)) : TagAt w g key (bs ++ x) := by
 unfold TagAt
 rw [← Qm3]
 exact h
end Go.Proofs.YtkibgdigcgakfabGreat
namespace Go.Proofs.YtkibgdigcgakfabGreat
open Go.RowKit
end Go.Proofs.YtkibgdigcgakfabGreat
namespace Go.Proofs.YtkibgdigcgakfabGreat
open Go.RowKit
end Go.Proofs.YtkibgdigcgakfabGreat
namespace Go.Proofs.YtkibgdigcgakfabGreat
open Go.RowKit
end Go.Proofs.YtkibgdigcgakfabGreat
namespace Go.Proofs.YtkibgdigcgakfabGreat
open Go.RowKit
end Go.Proofs.YtkibgdigcgakfabGreat
namespace Go.Proofs.YtkibgdigcgakfabGreat
open Go.RowKit
end Go.Proofs.YtkibgdigcgakfabGreat
namespace Go.Proofs.YtkibgdigcgakfabGreat
open Go.RowKit
theorem Qis {w : World} {g n : Nat} {t : TypeId} {vs rest : List Value} (h : Blk w g t (vs ++ rest)) (hn : vs.length = n) : Rd w (some ⟨g, 0, none⟩) n vs :=
 ⟨hn, fun _ => ⟨g, 0, rfl, h.lt, fun j u hu => by rw [QmU]; exact h.cellD j (by rw [QmS (QmO.1 hu).1]; exact hu)⟩⟩
def hkT (key info : List UInt8) : Nat → List UInt8
 | 0 => []
 | i + 1 => QeM key (hkT key info i ++ info ++ [QmZ (i : Int) + 1])
def hkO (key info : List UInt8) : Nat → List UInt8
 | 0 => []
 | i + 1 => hkO key info i ++ hkT key info (i + 1)
theorem Qfv (key info : List UInt8) (i : Nat) : (hkO key info i).length = 32 * i := by
 induction i with
 | zero => rfl
 | succ i ih => rw [hkO, QmP, ih, hkT, Qdr]; omega
def expB (key info : List UInt8) (n : Nat) : List UInt8 := (hkO key info ((n + 31) / 32)).take n
theorem Qet (key info : List UInt8) (n : Nat) : (expB key info n).length = n := by
 rw [expB, QmW, Qfv]
 omega
set_option maxRecDepth 100000 in
set_option maxHeartbeats 1000000 in
theorem QgP (A : Option Addr) (n c : Nat) (ps : List (List UInt8)) (w : World) (hx : Parts w (fun _ => False) A n ps) (hm : n ≤ 140737488355328) (hp : ps.flatten.length ≤ 140737488355328) :
 Calls Tryz.prog 32 #[.slice A n c] w fun e w' => ∃ A' c', e = .returned (.slice A' ps.flatten.length c') ∧ OwnB w' w.heap.size A' ps.flatten.length c' ps.flatten ∧ Later w w' := by
 have hpl := hx.len
 go_enter Tryz.func32, Tryz.ntmps32
 go_wp2
 go_loopw [3, 11] (fun tot i wr => ∃ k : Nat, k ≤ n ∧ i = .int .i64 k ∧ tot = .int .i64 ((ps.take k).flatten.length : Nat) ∧ Later w wr) (fun _ i _ => n - (intOf i).toNat)
 case atStart => exact ⟨0, by omega, rfl, rfl, Later.refl w⟩
 case round =>
  obtain ⟨k, hk, rfl, rfl, hl⟩ := hrel
  by_cases hlt : k < n
  · obtain ⟨b, o, Ak, nk, ck, rfl, hb, hck, hcap, hrd, _⟩ := (hx.later hl).at_ hlt
    have hle := Qbv ps (k + 1)
    have hql := hrd.len
    have hs' : (ps.take (k + 1)).flatten = (ps.take k).flatten ++ ps.getD k [] := by rw [QbH ps k (by omega)]; simp
    have hll : (ps.take (k + 1)).flatten.length = (ps.take k).flatten.length + nk := by rw [hs', QmP, hql]
    have HL := hid hll
    rw [hll] at hle
    clear hs' hll
    generalize (ps.take k).flatten.length = fl at *
    generalize ps.getD k [] = q at *
    go_wp2
    refine ⟨⟨k + 1, by omega, by go_num, by rw [HL.out]; go_num, hl⟩, by simp only [intOf]; omega⟩
  · have hkn : k = n := by omega
    subst hkn
    have hfe : (ps.take k).flatten.length = ps.flatten.length := by rw [QmT (by omega)]
    rw [hfe]
    have HF := hid hfe
    clear hfe
    generalize hFl : ps.flatten.length = fl at *
    go_wp2_with (first
     | (refine Qct rfl _ _ _ rfl 5 _ 1 Tryz.underlying23 Qga rfl _ _ _ _ 0 fl rfl rfl ?hL ?hC (by omega) (by omega) (by omega) ?_; (case hL => rfl); (case hC => rfl); intro w1 hown1 hl1))
    go_loopw [6, 24] (fun out i w2 => ∃ (j : Nat) (A' : Option Addr) (m c' : Nat), j ≤ k ∧ i = .int .i64 j ∧ out = .slice A' m c' ∧ OwnB w2 w.heap.size A' m c' (ps.take j).flatten ∧ Later w w2) (fun _ i _ => k - (intOf i).toNat)
    case atStart => exact ⟨0, _, _, _, by omega, rfl, rfl, QaY hown1 hl.size, hl.trans hl1⟩
    case round =>
     clear hown1 hl1
     obtain ⟨j, A', m, c', hj, rfl, rfl, hown, hl2⟩ := hrel
     by_cases hlt2 : j < k
     · obtain ⟨b, o, Ak, nk, ck, rfl, hb, hck, hcap, hrd, _⟩ := (hx.later hl2).at_ hlt2
       have hml := hown.len
       have hle := Qbv ps (j + 1)
       have hlen := hrd.len
       have hs' : (ps.take (j + 1)).flatten = (ps.take j).flatten ++ ps.getD j [] := by rw [QbH ps j (by omega)]; simp
       rw [hs', QmP] at hle
       have HS := hid hs'
       clear hs'
       generalize ps.getD j [] = q at *
       generalize (ps.take j).flatten = F at *
       go_wp2_with (first
        | (refine Qbn rfl _ _ _ rfl 5 _ 1 Tryz.underlying23 Qga rfl w _ m _ hown hl2 Ak nk ck _ hrd (Qc8 _) rfl rfl (by omega) (by omega) ?_; intro A2 c2 w2' hown2 hl2' hg2 _))
       refine ⟨⟨j + 1, A2, m + nk, c2, by omega, by go_num, rfl, ?_, hl2'⟩, by simp only [intOf]; omega⟩
       rw [HS.out]
       exact QiT hown2 rfl rfl
     · have hjk : j = k := by omega
       rw [hjk, QmT (by omega)] at hown
       have hml := hown.len
       rw [hFl] at hml
       subst hml
       go_wp2
       go_ret
       exact ⟨_, _, by rw [hFl]; rfl, by rw [hFl]; exact hown, hl2⟩
end Go.Proofs.YtkibgdigcgakfabGreat
namespace Go.Proofs.YtkibgdigcgakfabGreat
open Go.RowKit
def Front (w : World) (base : Nat) (A : Option Addr) (n : Nat) (bs : List UInt8) : Prop :=
 bs.length = n ∧ ((A = none ∧ n = 0) ∨ ∃ g rest, A = some ⟨g, 0, none⟩ ∧ base ≤ g ∧ Blk w g 5 (bs.map W8 ++ rest))
theorem Front.rd {w : World} {base : Nat} {A : Option Addr} {n : Nat} {bs : List UInt8} (h : Front w base A n bs) : RdB w A n bs := by
 obtain ⟨h1, h2⟩ := h
 rcases h2 with ⟨rfl, rfl⟩ | ⟨g, rest, rfl, _, hb⟩
 · obtain rfl : bs = [] := Qm6 h1
   exact Qdn w
 · exact Qis hb (by simpa using h1)
theorem Front.later {w w' : World} {base : Nat} {A : Option Addr} {n : Nat} {bs : List UInt8} (h : Front w base A n bs) (hl : Later w w') : Front w' base A n bs := by
 obtain ⟨h1, h2⟩ := h
 exact ⟨h1, h2.imp id fun ⟨g, rest, e, hb, hk⟩ => ⟨g, rest, e, hb, hk.later hl⟩⟩
def LastAt (w : World) (v : Value) (k : Nat) (T : List UInt8) : Prop :=
 (k = 0 ∧ v = .slice none 0 0 ∧ T = []) ∨ ∃ g, 0 < k ∧ v = .slice (some ⟨g, 0, none⟩) 32 32 ∧ T.length = 32 ∧ Blk w g 91 (T.map W8)
theorem LastAt.rd {w : World} {v : Value} {k : Nat} {T : List UInt8} (h : LastAt w v k T) : ∃ A n c, v = .slice A n c ∧ n ≤ c ∧ RdB w A n T := by
 rcases h with ⟨_, rfl, rfl⟩ | ⟨g, _, rfl, hl, hb⟩
 · exact ⟨none, 0, 0, rfl, Qmx _, Qdn w⟩
 · exact ⟨_, 32, 32, rfl, Qmx _, hb.rd (by simpa using hl)⟩
end Go.Proofs.YtkibgdigcgakfabGreat
namespace Go.Proofs.YtkibgdigcgakfabGreat
open Go.RowKit
end Go.Proofs.YtkibgdigcgakfabGreat
namespace Go.Proofs.YtkibgdigcgakfabGreat
open Go.RowKit
end Go.Proofs.YtkibgdigcgakfabGreat
namespace Go.Proofs.YtkibgdigcgakfabGreat
open Go.RowKit
section
variable {P : Program} {ops : Array Oper} {rest : List Oper} {o : Oper} {a : Act} {w : World} {Q : Exit → Act → World → Prop}
end
def Qhe : List UInt8 := [115, 104, 97, 108, 108, 111, 116]
def derB (secret : List UInt8) (s : ByteArray) : List UInt8 := expB (QeM Qhe secret) (strB s) 32
def Strs (w : World) (A : Option Addr) (n : Nat) (ss : List ByteArray) : Prop := Rd w A n (ss.map Value.string)
theorem Strs.at_ {w : World} {A : Option Addr} {n : Nat} {ss : List ByteArray} (h : Strs w A n ss) {k : Nat} (hk : k < n) :
 ∃ b o, A = some ⟨b, o, none⟩ ∧ b < w.heap.size ∧ w.cell? ⟨b, o + k, none⟩ = some (.string (ss.getD k .empty)) := by
 have hl : ss.length = n := by simpa using h.1
 obtain ⟨b, o, rfl, hb, hc⟩ := h.2 (by omega)
 refine ⟨b, o, rfl, hb, hc k _ ?_⟩
 rw [QmR, QmA, Qmw (by omega)]
 rfl
theorem Strs.later {w w' : World} {A : Option Addr} {n : Nat} {ss : List ByteArray} (h : Strs w A n ss) (hl : Later w w') : Strs w' A n ss := Rd.later h hl
end Go.Proofs.YtkibgdigcgakfabGreat
namespace Go.Proofs.YtkibgdigcgakfabGreat
open Go.RowKit
end Go.Proofs.YtkibgdigcgakfabGreat
namespace Go.Proofs.YtkibgdigcgakfabGreat
open Go.RowKit
theorem QiO (a : Nat) : pinv a < P25 := Qny _ Qd2
theorem Qj6 (a : Nat) : pinv a < T256 := Nat.lt_trans (QiO a) (by decide)
@[go_sem] theorem QlR (a : Nat) : (pinv a < T256) = True := eq_true (Qj6 a)
@[go_sem] theorem one_T : (1 < T256) = True := eq_true (by decide)
@[go_sem] theorem Qms : (0 < T256) = True := eq_true (by decide)
@[go_sem] theorem T37 : (37 < T256) = True := eq_true (by decide)
section
variable {ops : Array Oper} {rest : List Oper} {o : Oper} {a : Act} {w : World} {Q : Exit → Act → World → Prop}
end
section
variable {ops : Array Oper} {rest : List Oper} {o : Oper} {a : Act} {w : World} {Q : Exit → Act → World → Prop}
end
end Go.Proofs.YtkibgdigcgakfabGreat
namespace Go.Proofs.YtkibgdigcgakfabGreat
open Go.RowKit
end Go.Proofs.YtkibgdigcgakfabGreat
namespace Go.Proofs.YtkibgdigcgakfabGreat
open Go.RowKit
end Go.Proofs.YtkibgdigcgakfabGreat
namespace Go.Proofs.YtkibgdigcgakfabGreat
open Go.RowKit
open Go.BigFrame
@[go_sem] theorem QjS (T : TypeId) (x : Nat) (hx : x < B32) : binOp .rem T (n32 x) (.int .u32 2) = pure (n32 (x % 2)) := by
  rw [n32, QeP _ _ _ (by omega) (by omega) (by decide), Qho]
  rw [UInt32.toNat_mod, tn32 hx]
  have : x % 2 < B32 := by unfold B32; omega
  rw [Qm0 this]
  rfl
@[go_sem] theorem QkJ (T : TypeId) (x : Nat) (k : Int) (hx : x < B32) (h0 : 0 ≤ k) (h1 : k < 4294967296) : binOp .eql T (n32 x) (.int .u32 k) = pure (.bool (x == k.toNat)) := by
  rw [QiG k h0 h1, n32, n32, Qez]
  congr 2
  rw [QmY]
  simp only [beq_iff_eq, ← UInt32.toNat_inj, tn32 hx]
  rw [tn32 (show k.toNat < B32 by unfold B32; omega)]
end Go.Proofs.YtkibgdigcgakfabGreat
namespace Go.Proofs.YtkibgdigcgakfabGreat
open Go.RowKit
open Go.BigFrame
def fadd (a b : Nat) : Nat := (a + b) % P25
def fsub (a b : Nat) : Nat := (a + (P25 - b % P25)) % P25
def fmul (a b : Nat) : Nat := a * b % P25
section
variable {ops : Array Oper} {rest : List Oper} {o : Oper} {a : Act} {w : World} {Q : Exit → Act → World → Prop}
end
end Go.Proofs.YtkibgdigcgakfabGreat
namespace Go.Proofs.YtkibgdigcgakfabGreat
open Go.RowKit
end Go.Proofs.YtkibgdigcgakfabGreat
namespace Go.Proofs.YtkibgdigcgakfabGreat
open Go.RowKit
open Go.BigFrame
theorem Only.past {g j : Nat} {a b c : World} (h : Only g a b) (k : Only j b c) (hj : a.heap.size ≤ j) : Only g a c :=
 World.grownBy.andThen h k (fun i e => .inl (by injection e with e; omega))
section
variable {ops : Array Oper} {o : Oper} {a : Act}
end
structure St (w0 wk : World) (g : Nat) (t : TypeId) (l : List Value) (ls : List (Nat × Nat)) : Prop where
 only : Only g w0 wk
 blk : Blk wk g t l
 loc : ∀ p ∈ ls, Blk wk p.1 144 (EL p.2) ∧ w0.heap.size ≤ p.1
 gl : g < w0.heap.size
section
variable {w0 wk v : World} {g : Nat} {t : TypeId} {l : List Value} {ls : List (Nat × Nat)}
theorem St.nth (h : St w0 wk g t l ls) (i : Nat) {k n : Nat} (hi : ls[i]? = some (k, n)) : Blk wk k 144 (EL n) := (h.loc (k, n) (Qno hi)).1
theorem St.later (h : St w0 wk g t l ls) (k : Later wk v) : St w0 v g t l ls :=
 ⟨h.only.later k, h.blk.later k, fun p hp => ⟨(h.loc p hp).1.later k, (h.loc p hp).2⟩, h.gl⟩
theorem St.drew (h : St w0 wk g t l ls) : St w0 wk.drew g t l ls := h.later (Qak _)
theorem St.write {l' : List Value} (h : St w0 wk g t l ls) (k : Only g wk v) (hb : Blk v g t l') : St w0 v g t l' ls :=
 ⟨h.only.trans k, hb, fun p hp => ⟨(h.loc p hp).1.only k (by have := (h.loc p hp).2; have := h.gl; omega), (h.loc p hp).2⟩, h.gl⟩
theorem St.one {v1 : World} {k n : Nat} (h : St w0 wk g t l ls) (j : Later wk v) (hk : wk.heap.size ≤ k) (o : Only k v v1) (hb : Blk v1 k 144 (EL n)) : St w0 v1 g t l ((k, n) :: ls) := by
 have h1 := h.later j
 have hs := h.only.size
 refine ⟨h1.only.past o (by omega), h1.blk.only o (by have := h.blk.lt; omega), ?_, h.gl⟩
 intro p hp
 rcases QmV.1 hp with rfl | hp
 · exact ⟨hb, by show w0.heap.size ≤ k; omega⟩
 · exact ⟨(h1.loc p hp).1.only o (by have := (h.loc p hp).1.lt; omega), (h.loc p hp).2⟩
theorem St.two {v1 v2 : World} {k1 k2 n1 n2 : Nat} (h : St w0 wk g t l ls) (j : Later wk v) (hk1 : wk.heap.size ≤ k1) (hk2 : wk.heap.size ≤ k2) (hne : k1 ≠ k2) (o1 : Only k1 v v1) (hb1 : Blk v1 k1 144 (EL n1)) (o2 : Only k2 v1 v2) (hb2 : Blk v2 k2 144 (EL n2)) : St w0 v2 g t l ((k1, n1) :: (k2, n2) :: ls) := by
 have h1 := h.later j
 have hs := h.only.size
 refine ⟨(h1.only.past o1 (by omega)).past o2 (by omega), (h1.blk.only o1 (by have := h.blk.lt; omega)).only o2 (by have := h.blk.lt; omega), ?_, h.gl⟩
 intro p hp
 rcases QmV.1 hp with rfl | hp
 · exact ⟨hb1.only o2 hne, by show w0.heap.size ≤ k1; omega⟩
 rcases QmV.1 hp with rfl | hp
 · exact ⟨hb2, by show w0.heap.size ≤ k2; omega⟩
 · exact ⟨((h1.loc p hp).1.only o1 (by have := (h.loc p hp).1.lt; omega)).only o2 (by have := (h.loc p hp).1.lt; omega), (h.loc p hp).2⟩
end
end Go.Proofs.YtkibgdigcgakfabGreat
namespace Go.Proofs.YtkibgdigcgakfabGreat
open Go.RowKit
open Go.BigFrame
def Qic (bs : List UInt8) : List UInt8 := if bs.length = 32 then (bs.set 0 (bs.getD 0 0 &&& 248)).set 31 (((bs.getD 31 0) &&& 127) ||| 64) else QmC 32 0
end Go.Proofs.YtkibgdigcgakfabGreat
namespace Go.Proofs.YtkibgdigcgakfabGreat
open Go.RowKit
open Go.BigFrame
end Go.Proofs.YtkibgdigcgakfabGreat
namespace Go.Proofs.YtkibgdigcgakfabGreat
open Go.RowKit
open Go.BigFrame
structure Lad where
 x2 : Nat
 z2 : Nat
 x3 : Nat
 z3 : Nat
def Lad.swap (s : Lad) : Lad := ⟨s.x3, s.z3, s.x2, s.z2⟩
def Lad.step (x1 : Nat) (s : Lad) : Lad :=
 ⟨fmul (fmul (fadd s.x2 s.z2) (fadd s.x2 s.z2)) (fmul (fsub s.x2 s.z2) (fsub s.x2 s.z2)),
  fmul (fsub (fmul (fadd s.x2 s.z2) (fadd s.x2 s.z2)) (fmul (fsub s.x2 s.z2) (fsub s.x2 s.z2))) (fadd (fmul (fadd s.x2 s.z2) (fadd s.x2 s.z2)) (fmul 121665 (fsub (fmul (fadd s.x2 s.z2) (fadd s.x2 s.z2)) (fmul (fsub s.x2 s.z2) (fsub s.x2 s.z2))))),
  fmul (fadd (fmul (fsub s.x3 s.z3) (fadd s.x2 s.z2)) (fmul (fadd s.x3 s.z3) (fsub s.x2 s.z2))) (fadd (fmul (fsub s.x3 s.z3) (fadd s.x2 s.z2)) (fmul (fadd s.x3 s.z3) (fsub s.x2 s.z2))),
  fmul x1 (fmul (fsub (fmul (fsub s.x3 s.z3) (fadd s.x2 s.z2)) (fmul (fadd s.x3 s.z3) (fsub s.x2 s.z2))) (fsub (fmul (fsub s.x3 s.z3) (fadd s.x2 s.z2)) (fmul (fadd s.x3 s.z3) (fsub s.x2 s.z2))))⟩
def Lad.round (x1 : Nat) (b : Bool) (s : Lad) : Lad := if b then (s.swap.step x1).swap else s.step x1
def kbit (K : List UInt8) (t : Nat) : Bool := decide ((K.getD (t / 8) 0).toNat / 2 ^ (t % 8) % 2 = 1)
def Lad.at (x1 : Nat) (K : List UInt8) : Nat → Lad
 | 0 => ⟨1, 0, x1, 1⟩
 | k + 1 => (Lad.at x1 K k).round x1 (kbit K (254 - k))
def Ql6 (ks us : List UInt8) : Nat := fmul (Lad.at (Qjy us) (Qic ks) 255).x2 (pinv (Lad.at (Qjy us) (Qic ks) 255).z2)
def Qil (ks us : List UInt8) : List UInt8 := if ks.length = 32 ∧ us.length = 32 then nb (Ql6 ks us) else QmC 32 0
theorem QdO (ks us : List UInt8) : (Qil ks us).length = 32 := by
 unfold Qil
 split
 · exact Qgw _
 · simp
theorem Qcw {P : Program} {C : World → Prop} {a : Act} {o : Oper} {K : Act → Prop} (t : TypeId) (parts : Array (Nat × Operand)) (ho : o.op = .build t parts) (vs : List Value) (hb : P.built t (parts.map fun (i, x) => (i, a.eval x)).toList = some vs.toArray)
 (h : K (a.put o.dst (.agg vs.toArray))) : o.quiet P a C K :=
 ⟨.agg vs.toArray, fun w hw => by
   unfold Oper.quietAt execOp
   simp only [ho, Sem.run_bind, run_build w t _ _ hb, Result.andThen_ok]
   exact ⟨rfl, rfl⟩, h⟩
end Go.Proofs.YtkibgdigcgakfabGreat
namespace Go.Proofs.YtkibgdigcgakfabGreat
open Go.RowKit
open Go.BigFrame
end Go.Proofs.YtkibgdigcgakfabGreat
namespace Go.Proofs.YtkibgdigcgakfabGreat
open Go.RowKit
open Go.BigFrame
end Go.Proofs.YtkibgdigcgakfabGreat
namespace Go.Proofs.YtkibgdigcgakfabGreat
open Go.RowKit
open Go.BigFrame
def okR (rs : List Int) : Prop := ∀ r ∈ rs, 1 ≤ r ∧ r ≤ 4
instance (rs : List Int) : Decidable (okR rs) := by unfold okR; infer_instance
def fitW (key bs : List UInt8) : Prop := key.length = 32 ∧ 32 ≤ bs.length ∧ bs.length ≤ 4096
instance (key bs : List UInt8) : Decidable (fitW key bs) := by unfold fitW; infer_instance
end Go.Proofs.YtkibgdigcgakfabGreat
namespace Go.Proofs.YtkibgdigcgakfabGreat
open Go.RowKit
open Go.BigFrame
end Go.Proofs.YtkibgdigcgakfabGreat
namespace Go.Proofs.YtkibgdigcgakfabGreat
open Go.RowKit
open Go.BigFrame
end Go.Proofs.YtkibgdigcgakfabGreat
namespace Go.Proofs.YtkibgdigcgakfabGreat
open Go.RowKit
open Go.BigFrame
end Go.Proofs.YtkibgdigcgakfabGreat
namespace Go.Proofs.YtkibgdigcgakfabGreat
open Go.RowKit
open Go.BigFrame
end Go.Proofs.YtkibgdigcgakfabGreat
