/-
  Lemmas for the last text of this claim (part 13 of 20).
-/
import Derived.BigQuiet
import Derived.BigRegion
import Derived.ChangeOld
import Derived.Deep.RegionWith
import Derived.DeepKeys4
import Derived.JoinedCond
import Derived.LaidMore
import Derived.Laws.CopyOwn
import Derived.Laws.Externs
import Derived.Laws.IdiomStrings
import Derived.Laws.Tables
import Derived.Lib.AppendStr
import Derived.Lib.AppendZerosOnto
import Derived.Lib.Mul64
import Derived.Lib.SlBytesConst
import Derived.LoopN
import Derived.Maps.OwnSet
import Derived.OpenShut
import Derived.OrdersHeld
import Derived.ProofKit
import Derived.Shelf.Spec.BitsCarry
import Derived.ShutString
import Derived.Test.YtkibgdigcgakfabGreatProg
import Derived.Test.YtkibgdigcgakfabGreatRows
import Derived.WalkKit
import Derived.WalkLawsBesides
import Derived.WalkSpells
import Derived.Test.YtkibgdigcgakfabGreatPC
import Derived.Test.YtkibgdigcgakfabGreatPD
import Derived.Test.YtkibgdigcgakfabGreatPI
import Derived.Test.YtkibgdigcgakfabGreatPK
import Derived.Test.YtkibgdigcgakfabGreatPL
open List renaming length_map → QmD, getElem?_eq_some_iff → QmO, length_append → QmP, getElem?_append_left → QmS, mem_cons → QmV, getElem?_append_right → QmX, mem_append → Qnr
open UInt64 renaming toNat_inj → Qnn
namespace Go.Proofs.YtkibgdigcgakfabGreat
open Go.RowKit
structure Arv where
 ar : Arr
 va : Value
def av0 : Arv := ⟨⟨prt0, 0, 0, 0, QaC⟩, .slice none 0 0⟩
def AvC (x : Arv) : List Value := PaC x.ar.pt x.va ++ (W8 x.ar.kd :: W64 x.ar.to :: .int .i64 x.ar.tk :: x.ar.ma.val.map W8)
theorem Qac (x : Arv) : (AvC x).length = 24 := by simp [AvC, PaC, x.ar.ma.2]
def AvOk (w : World) (x : Arv) : Prop := ∃ A n c, x.va = .slice A n c ∧ n ≤ c ∧ RdB w A n x.ar.pt.da
theorem AvOk.later {w w' : World} {x : Arv} (h : AvOk w x) (hl : Later w w') : AvOk w' x := by
 obtain ⟨A, n, c, h1, h2, h3⟩ := h
 exact ⟨A, n, c, h1, h2, h3.later hl⟩
structure Vst where
 cm : Cmd
 id : UInt64
 tk : Int
def vst0 : Vst := ⟨cmd0, 0, 0⟩
def VC (x : Vst) : List Value := CC x.cm ++ [W64 x.id, .int .i64 x.tk]
theorem Qag (x : Vst) : (VC x).length = 22 := by simp [VC, QaB]
end Go.Proofs.YtkibgdigcgakfabGreat
namespace Go.Proofs.YtkibgdigcgakfabGreat
open Go.RowKit
def QaO (vs : List Vst) : Vst := vs.getD (vs.length - 1) vst0
def arr0 : Arr := ⟨prt0, 0, 0, 0, QaC⟩
def arvE (vs : List Vst) (b : List UInt8) : Nat :=
 if vs.length = 0 ∨ b.length ≠ 480 then 2 else if (QaO vs).cm.kd = 4 then 0 else if (QaO vs).cm.kd ≠ 2 ∧ (QaO vs).cm.kd ≠ 3 then 3
 else if parE b ≠ 0 then parE b else if (parP b).kd ≠ (if (QaO vs).cm.kd = 3 then 2 else 1) then 10 else 0
def arvA (vs : List Vst) (b : List UInt8) (tk : Int) : Arr :=
 if arvE vs b ≠ 0 then arr0 else if (QaO vs).cm.kd = 4 then ⟨prt0, 4, (QaO vs).id, tk, (QaO vs).cm.ma⟩ else ⟨parP b, (QaO vs).cm.kd, (QaO vs).id, tk, QaC⟩
theorem Qcj {vs : List Vst} {b : List UInt8} {tk : Int} (h : arvE vs b ≠ 0) : arvA vs b tk = arr0 := if_pos h
section
variable {vs : List Vst} {b : List UInt8} (tk : Int)
theorem Qci (h : vs.length = 0 ∨ b.length ≠ 480) : arvE vs b = 2 ∧ arvA vs b tk = arr0 := by
 have e : arvE vs b = 2 := if_pos h
 exact ⟨e, Qcj (by rw [e]; decide)⟩
theorem QdP (h : ¬(vs.length = 0 ∨ b.length ≠ 480)) (hk : (QaO vs).cm.kd = 4) : arvE vs b = 0 ∧ arvA vs b tk = ⟨prt0, (QaO vs).cm.kd, (QaO vs).id, tk, (QaO vs).cm.ma⟩ := by
 have e : arvE vs b = 0 := by rw [arvE, if_neg h, if_pos hk]
 exact ⟨e, by rw [arvA, if_neg (by rw [e]; decide), if_pos hk, hk]⟩
theorem Qfg (h : ¬(vs.length = 0 ∨ b.length ≠ 480)) (h4 : (QaO vs).cm.kd ≠ 4) (h2 : (QaO vs).cm.kd ≠ 2) (h3 : (QaO vs).cm.kd ≠ 3) : arvE vs b = 3 ∧ arvA vs b tk = arr0 := by
 have e : arvE vs b = 3 := by rw [arvE, if_neg h, if_neg h4, if_pos ⟨h2, h3⟩]
 exact ⟨e, Qcj (by rw [e]; decide)⟩
theorem Qgc (h : ¬(vs.length = 0 ∨ b.length ≠ 480)) (h23 : (QaO vs).cm.kd = 2 ∨ (QaO vs).cm.kd = 3) (hp : parE b ≠ 0) : arvE vs b = parE b ∧ arvA vs b tk = arr0 := by
 have e : arvE vs b = parE b := by
  rw [arvE, if_neg h, if_neg (by rcases h23 with h | h <;> rw [h] <;> decide), if_neg (by rcases h23 with h | h <;> rw [h] <;> decide), if_pos hp]
 exact ⟨e, Qcj (by rw [e]; exact hp)⟩
theorem QeQ (h : ¬(vs.length = 0 ∨ b.length ≠ 480)) (h23 : (QaO vs).cm.kd = 2 ∨ (QaO vs).cm.kd = 3) (hp : parE b = 0) (ht : (parP b).kd ≠ (if (QaO vs).cm.kd = 3 then 2 else 1)) : arvE vs b = 10 ∧ arvA vs b tk = arr0 := by
 have e : arvE vs b = 10 := by
  rw [arvE, if_neg h, if_neg (by rcases h23 with h | h <;> rw [h] <;> decide), if_neg (by rcases h23 with h | h <;> rw [h] <;> decide), if_neg (not_not_intro hp), if_pos ht]
 exact ⟨e, Qcj (by rw [e]; decide)⟩
theorem Qfa (h : ¬(vs.length = 0 ∨ b.length ≠ 480)) (h23 : (QaO vs).cm.kd = 2 ∨ (QaO vs).cm.kd = 3) (hp : parE b = 0) (ht : (parP b).kd = (if (QaO vs).cm.kd = 3 then 2 else 1)) : arvE vs b = 0 ∧ arvA vs b tk = ⟨parP b, (QaO vs).cm.kd, (QaO vs).id, tk, QaC⟩ := by
 have e : arvE vs b = 0 := by
  rw [arvE, if_neg h, if_neg (by rcases h23 with h | h <;> rw [h] <;> decide), if_neg (by rcases h23 with h | h <;> rw [h] <;> decide), if_neg (not_not_intro hp), if_neg (not_not_intro ht)]
 exact ⟨e, by rw [arvA, if_neg (by rw [e]; decide), if_neg (by rcases h23 with h | h <;> rw [h] <;> decide)]⟩
end
theorem Qay {w : World} {g : Nat} {t : TypeId} {v : Vst} (h : Blk w g t (VC v)) : w.cell? ⟨g, 0, none⟩ = some (W8 v.cm.kd) ∧ w.cell? ⟨g, 20, none⟩ = some (W64 v.id) ∧ ∀ j u, (v.cm.ma.val.map W8)[j]? = some u → w.cell? ⟨g, 4 + j, none⟩ = some u := by
 have hc := QaB v.cm
 refine ⟨h.cellD 0 rfl, h.cellD 20 ?_, fun j u hu => h.cellD (4 + j) ?_⟩
 · rw [VC, QmX (by omega), hc]
   rfl
 · have hj := (QmO.1 hu).1
   rw [QmD, v.cm.ma.2] at hj
   rw [VC, QmS (by omega), show (4 + j) = j + 1 + 1 + 1 + 1 by omega]
   exact hu
theorem QdZ (p : Prt) (kd : UInt8) (to : UInt64) (tk : Int) (m m' : Y16) (v : Value) : Qan (AvC ⟨⟨p, kd, to, tk, m⟩, v⟩) 8 (m'.val.map W8) = AvC ⟨⟨p, kd, to, tk, m'⟩, v⟩ := by
 simp [AvC, PaC, Qan, m.2, m'.2]
theorem Qcl (p p' : Prt) (kd : UInt8) (to : UInt64) (tk : Int) (m : Y16) (v v' : Value) : Qan (AvC ⟨⟨p, kd, to, tk, m⟩, v⟩) 0 (PaC p' v') = AvC ⟨⟨p', kd, to, tk, m⟩, v'⟩ := by
 simp [AvC, PaC, Qan]
end Go.Proofs.YtkibgdigcgakfabGreat
namespace Go.Proofs.YtkibgdigcgakfabGreat
open Go.RowKit Go.Maps
def ptrV : Option Nat → Value
 | none => .pointer none
 | some b => .pointer (some ⟨b, 0, none⟩)
def ptrD : Option Nat → DataW Unit
 | none => .lit (.bool false)
 | some b => .lit (.int .i64 b)
def ptrR (v : Value) : Option (DataW Unit × List MemPlace) :=
 match v with
 | .pointer none => some (ptrD none, [])
 | .pointer (some ⟨b, 0, none⟩) => some (ptrD (some b), [])
 | _ => none
theorem QgK (x : Option Nat) : ptrR (ptrV x) = some (ptrD x, []) := by cases x <;> rfl
theorem Qe9 {x y : Option Nat} (h : ptrD x = ptrD y) : x = y := by
 cases x <;> cases y <;> simp [ptrD] at h <;> first | rfl | (subst h; rfl) | (have : (_ : Int) = _ := h; congr 1; omega)
theorem QhE {v : Value} {x : Option Nat} {ps : List MemPlace} (h : ptrR v = some (ptrD x, ps)) : v = ptrV x := by
 unfold ptrR at h
 split at h
 · simp only [Option.some.injEq, Prod.mk.injEq] at h
   rw [← Qe9 h.1]
   rfl
 · simp only [Option.some.injEq, Prod.mk.injEq] at h
   rw [← Qe9 h.1]
   rfl
 · cases h
structure PKey (P : Program) (k : TypeId) (α : Type) where
 kv : α → Value
 kl : α → Lit
 ok : ∀ x, keyOf P k (kv x) = some (kl x)
 inj : ∀ x y, kv x = kv y → x = y
 law : Keyed P k
def PMap {P : Program} {k : TypeId} {α : Type} (w : World) (K : PKey P k α) (b n : Nat) (f : α → Option Nat) : Prop :=
 ∃ D : DataW Unit, w.ownsMap P k ptrR b n D ∧ ∀ x, D.atKey (K.kl x) (ptrD none) = ptrD (f x)
section
variable {P : Program} {k t e : TypeId} {α : Type} {w w' : World} {K : PKey P k α} {b n : Nat} {f : α → Option Nat}
theorem PKey.kl_inj (K : PKey P k α) {x y : α} (h : K.kl x = K.kl y) : x = y := K.inj x y (K.law.inj (K.ok x) (h ▸ K.ok y))
theorem PMap.made (w : World) (K : PKey P k α) : PMap (w.alloc (.map #[] 0)) K w.heap.size 0 (fun _ => none) := ⟨_, World.ownsMap_made w P k ptrR, fun _ => rfl⟩
theorem PMap.only (h : PMap w K b n f) {g : Nat} (ho : Only g w w') (hne : b ≠ g) : PMap w' K b n f := by
 obtain ⟨D, h1, h2⟩ := h
 exact ⟨D, h1.kept ho (by simpa using hne), h2⟩
theorem PMap.grown (h : PMap w K b n f) {row : Option Nat} (ho : w.grownBy w' row) (hne : some b ≠ row) : PMap w' K b n f := by
 obtain ⟨D, h1, h2⟩ := h
 exact ⟨D, h1.kept ho hne, h2⟩
theorem PMap.lt (h : PMap w K b n f) : b < w.heap.size := let ⟨_, h1, _⟩ := h; h1.lt
theorem PMap.later (h : PMap w K b n f) (hl : Later w w') : PMap w' K b n f := by
 refine h.only (hl.onlyAny (b + 1)) (by omega)
theorem PMap.look (h : PMap w K b n f) (ht : P.underlying t = some (.map k e)) (hz : (zeroValue e).run P w = .ok (.pointer none) w) (x : α) :
 (Instr.lookup t (.map (some b)) (K.kv x) false).run P w = .ok (ptrV (f x)) w := by
 obtain ⟨D, h1, h2⟩ := h
 obtain ⟨v, ps, hrun, hv⟩ := h1.lookup K.law ht hz (QgK none) (K.ok x)
 rw [h2] at hv
 rw [hrun, QhE hv]
theorem PMap.put [DecidableEq α] (h : PMap w K b n f) (ht : P.underlying t = some (.map k e)) (hn : n < maxLen) (x : α) (g : Nat) :
 ∃ w', (Instr.mapUpdate t (.map (some b)) (K.kv x) (.pointer (some ⟨g, 0, none⟩))).run P w = .ok () w' ∧ PMap w' K b (n + 1) (fun y => if y = x then some g else f y) ∧ Only b w w' := by
 obtain ⟨D, h1, h2⟩ := h
 obtain ⟨w', hrun, h3, h4⟩ := h1.update K.law ht hn (K.ok x) (QgK (some g))
 refine ⟨w', hrun, ⟨_, h3, fun y => ?_⟩, h4⟩
 by_cases hyx : y = x
 · subst hyx
   simp only [if_true]
   exact atKey_put_same h1.isMap (K.law.key (K.ok y)) _ _
 · simp only [hyx, if_false]
   rw [atKey_put_other (fun hc => hyx (K.kl_inj hc))]
   exact h2 y
variable {ops : Array Oper} {rest : List Oper} {o : Oper} {a : Act} {Q : Exit → Act → World → Prop}
theorem QcI (hg : o.guard = none) (m x : Operand) (hop : o.op = Op.lookup t m x false) (ht : P.underlying t = some (.map k e)) (hz : (zeroValue e).run P w = .ok (.pointer none) w)
 (hm : a.eval m = .map (some b)) (h : PMap w K b n f) (y : α) (hx : a.eval x = K.kv y) (hK : wpList P ops Q rest (a.put o.dst (ptrV (f y))) w) : wpList P ops Q (o :: rest) a w := by
 refine wpList_plain hg fun K' hK' => ?_
 unfold Oper.wp
 simp [execOp, hop, hm, hx, h.look ht hz y, Result.andThen]
 exact hK' _ _ hK
theorem Qfw [DecidableEq α] (hg : o.guard = none) (m x v : Operand) (hop : o.op = Op.mapUpdate t m x v) (ht : P.underlying t = some (.map k e)) (hm : a.eval m = .map (some b)) (h : PMap w K b n f) (hn : n < maxLen) (y : α) (g : Nat)
 (hx : a.eval x = K.kv y) (hv : a.eval v = .pointer (some ⟨g, 0, none⟩)) (hK : ∀ w', PMap w' K b (n + 1) (fun z => if z = y then some g else f z) → Only b w w' → wpList P ops Q rest (a.put o.dst undef) w') : wpList P ops Q (o :: rest) a w := by
 refine wpList_plain hg fun K' hK' => ?_
 obtain ⟨w', hrun, r1, r2⟩ := h.put ht hn y g
 unfold Oper.wp
 simp [execOp, hop, hm, hx, hv, hrun, Result.andThen]
 exact hK' _ _ (hK w' r1 r2)
end
end Go.Proofs.YtkibgdigcgakfabGreat
namespace Go.Proofs.YtkibgdigcgakfabGreat
open Go.RowKit Go.Maps
theorem QjC : (66 : Nat) < Tryz.prog.types.size := of_decide_eq_true (by kernel_rfl)
theorem QjU : Tryz.prog.keyTypeAt (Tryz.prog.types.size + 1) 66 = true := by kernel_rfl
theorem Qki : (match Tryz.prog.underlying 66 with | some (.array _ _) | some (.struct _) => true | _ => false) = true := by kernel_rfl
theorem QjX : laidOutB Tryz.prog = true := by kernel_rfl
set_option maxRecDepth 100000 in
theorem Qmc : Keyed Tryz.prog 66 := Keyed.of_law (deep_law_laid QjX (m := 3) (by omega) QjC (by kernel_rfl) Qki)
theorem Qgz : Tryz.prog.cellsOf 66 = 2 := by kernel_rfl
theorem Qi3 : Tryz.prog.cellsOf 22 = 1 := by kernel_rfl
theorem wf64 (x : UInt64) : (Lit.int .u64 (x.toNat : Int)).wf = true := by
 have := x.toNat_lt
 simp [Lit.wf, IntKind.min, IntKind.max, IntKind.signed, IntKind.bits]
 omega
theorem Qgo (d : Nat) (x : UInt64) : Tryz.prog.keyLits (d + 1) 22 [W64 x] = some [.int .u64 (x.toNat : Int)] := by
 unfold Program.keyLits
 rw [Tryz.underlying22]
 simp [W64, wf64]
theorem Qgb (d : Nat) (x y : UInt64) : Tryz.prog.keyLits (d + 2) 66 [W64 x, W64 y] = some [.int .u64 (x.toNat : Int), .int .u64 (y.toNat : Int)] := by
 unfold Program.keyLits
 rw [Tryz.underlying66]
 simp [Qgz, Qi3, Qgo]
def Qjl : PKey Tryz.prog 66 (UInt64 × UInt64) where
 kv x := .agg #[W64 x.1, W64 x.2]
 kl x := .string (keyBytes [.int .u64 (x.1.toNat : Int), .int .u64 (x.2.toNat : Int)])
 ok x := by
  have hf : (Value.agg #[W64 x.1, W64 x.2]).formed Tryz.prog 66 = true := by
   simp [Value.formed, Tryz.underlying66, Qgz]
  unfold keyOf
  rw [Tryz.underlying66]
  have hk : Tryz.prog.keyType 66 = true := QjU
  obtain ⟨d, hd⟩ : ∃ d, Tryz.prog.types.size + 1 = d + 2 := ⟨Tryz.prog.types.size - 1, by have := QjC; omega⟩
  simp only [hk, hf, Bool.and_self, if_true, hd]
  show (Tryz.prog.keyLits (d + 2) 66 [W64 x.1, W64 x.2]).map _ = _
  rw [Qgb]
  rfl
 inj x y h := by
  have h1 : [W64 x.1, W64 x.2] = [W64 y.1, W64 y.2] := congrArg Array.toList (Value.agg.inj h)
  have h2 : W64 x.1 = W64 y.1 := (List.cons.inj h1).1
  have h3 : W64 x.2 = W64 y.2 := (List.cons.inj (List.cons.inj h1).2).1
  have e : ∀ a b : UInt64, W64 a = W64 b → a = b := fun a b h => by
   have : (a.toNat : Int) = b.toNat := by simpa [W64] using h
   exact Qnn.1 (by omega)
  exact Prod.ext (e _ _ h2) (e _ _ h3)
 law := Qmc
end Go.Proofs.YtkibgdigcgakfabGreat
namespace Go.Proofs.YtkibgdigcgakfabGreat
open Go.RowKit
open Go.BigFrame
theorem KeptOk.small {ks : List Prt} (h : KeptOk ks) : ks.length ≤ 16 := by
 by_cases hne : ks = []
 · simp [hne]
 · have := h.ct hne
   omega
structure Ltv where
 lt : Ltr
 va : Option Addr
 vn : Nat
 vc : Nat
def LtC (y : Ltv) : List Value := [W64 y.lt.to, W64 y.lt.id, .int .i64 y.lt.tk, .slice y.va y.vn y.vc]
def lv0 : Ltv := ⟨⟨0, 0, 0, []⟩, none, 0, 0⟩
theorem QiK (y : Ltv) : ∀ u ∈ LtC y, u.oneCell' = true := by
 intro u hu
 simp only [LtC, QmV, List.not_mem_nil, or_false] at hu
 rcases hu with rfl | rfl | rfl | rfl <;> rfl
theorem QcT (y : Ltv) : (LtC y).length = 4 := rfl
section
variable {w w' : World} {base sz n : Nat} {e : TypeId} {v : Value} {vs : List Value}
theorem Qd1 {k : Nat} {es : Array MapEntry} {ck : Nat} (h : w.ownsRow base e sz v n vs) (hb : w.heap[k]? = some (.map es ck)) (ho : Only k w w') : w'.ownsRow base e sz v n vs := by
 refine h.kept ho ?_
 rcases h.2 with ⟨rfl, _⟩ | ⟨g2, c2, cur2, rfl, _, hh2, _⟩
 · exact .inl rfl
 · refine .inr ?_
   intro hc
   have : k = g2 := by simpa [Value.ownBlock] using hc.symm
   subst this
   rw [hb] at hh2
   cases hh2
theorem Qcu {k g : Nat} {t : TypeId} {l : List Value} {es : Array MapEntry} {ck : Nat} (h : Blk w g t l) (hb : w.heap[k]? = some (.map es ck)) (ho : Only k w w') : Blk w' g t l := by
 refine h.only ho fun e => ?_
 subst e
 rw [Blk, hb] at h
 cases h
end
structure LSt (w wr : World) (bm n : Nat) (f : UInt64 × UInt64 → Option Nat) (K : UInt64 × UInt64 → List Prt) (v3 : Value) (ys : List Ltv) : Prop where
 lat : Later w wr
 map : PMap wr Qjl bm n f
 low : w.heap.size ≤ bm
 msg : ∀ x g, f x = some g → ∃ pv, MsgAt wr w.heap.size g x.2 (K x) pv
 non : ∀ x, f x = none → K x = []
 inj : ∀ x y g, f x = some g → f y = some g → x = y
 own : wr.ownsRow w.heap.size 40 4 v3 ys.length (ys.flatMap LtC)
 txt : ∀ y ∈ ys, OwnB wr w.heap.size y.va y.vn y.vc y.lt.tx
section
variable {w wr w' : World} {bm n : Nat} {f : UInt64 × UInt64 → Option Nat} {K : UInt64 × UInt64 → List Prt} {v3 : Value} {ys : List Ltv}
theorem PMap.obj {P : Program} {k : TypeId} {α : Type} {w : World} {M : PKey P k α} {b n : Nat} {f : α → Option Nat} (h : PMap w M b n f) : ∃ es ck, w.heap[b]? = some (.map es ck) := by
 obtain ⟨_, ⟨es, ck, h1, _⟩, _⟩ := h
 exact ⟨es, ck, h1⟩
theorem LSt.later (h : LSt w wr bm n f K v3 ys) (hl : Later wr w') : LSt w w' bm n f K v3 ys :=
 ⟨h.lat.trans hl, h.map.later hl, h.low, fun x g hx => (h.msg x g hx).imp fun _ hm => hm.later hl, h.non, h.inj, Qbi h.own hl, fun y hy => QaK (h.txt y hy) hl⟩
theorem MsgAt.onlyM {base g k : Nat} {id : UInt64} {ks : List Prt} {pv : List Value} {es : Array MapEntry} {ck : Nat} (h : MsgAt wr base g id ks pv) (hb : wr.heap[k]? = some (.map es ck)) (ho : Only k wr w') : MsgAt w' base g id ks pv :=
 ⟨Qcu h.blk hb ho, h.low, h.len, fun i v hv => (h.pcs i v hv).imp (fun h => h) fun ⟨gp, h1, h2, h3⟩ => ⟨gp, h1, h2, Qcu h3 hb ho⟩⟩
theorem MsgAt.onlyO {base g k : Nat} {id : UInt64} {ks : List Prt} {pv : List Value} {l : List Value} (h : MsgAt wr base g id ks pv) (hb : Blk wr k 71 l) (hne : g ≠ k) (ho : Only k wr w') : MsgAt w' base g id ks pv :=
 ⟨h.blk.only ho hne, h.low, h.len, fun i v hv => (h.pcs i v hv).only hb (by decide) ho⟩
theorem MsgAt.grown {base g b sz m : Nat} {e : TypeId} {v : Value} {vs : List Value} {id : UInt64} {ks : List Prt} {pv : List Value} (h : MsgAt wr base g id ks pv) (hr : wr.ownsRow b e sz v m vs) (h1 : (71 : TypeId) ≠ e) (h2 : (5 : TypeId) ≠ e) (hg : wr.grownBy w' v.ownBlock) : MsgAt w' base g id ks pv :=
 ⟨Qb2 h.blk hr h1 hg, h.low, h.len, fun i v hv => (h.pcs i v hv).imp (fun h => h) fun ⟨gp, k1, k2, k3⟩ => ⟨gp, k1, k2, Qb2 k3 hr h2 hg⟩⟩
theorem LSt.put (h : LSt w wr bm n f K v3 ys) {x0 : UInt64 × UInt64} {g : Nat} {pv : List Value} (hx : f x0 = none) (hm : MsgAt wr w.heap.size g x0.2 [] pv) (hf : ∀ x, f x ≠ some g) (hp : PMap w' Qjl bm (n + 1) (fun x => if x = x0 then some g else f x)) (ho : Only bm wr w') :
 LSt w w' bm (n + 1) (fun x => if x = x0 then some g else f x) K v3 ys := by
 obtain ⟨es, ck, hb⟩ := h.map.obj
 refine ⟨h.lat.only ho h.low, hp, h.low, fun x g' hx' => ?_, fun x hx' => ?_, fun x y g' hx' hy' => ?_, Qd1 h.own hb ho, fun y hy => ?_⟩
 · by_cases hxx : x = x0
   · subst hxx
     simp only [if_true, Option.some.injEq] at hx'
     subst hx'
     exact ⟨pv, by rw [h.non x hx]; exact hm.onlyM hb ho⟩
   · simp only [hxx, if_false] at hx'
     exact (h.msg x g' hx').imp fun _ hm => hm.onlyM hb ho
 · by_cases hxx : x = x0
   · subst hxx
     simp at hx'
   · simp only [hxx, if_false] at hx'
     exact h.non x hx'
 · by_cases hxx : x = x0 <;> by_cases hyy : y = x0
   · exact hxx.trans hyy.symm
   · simp only [hxx, hyy, if_true, if_false, Option.some.injEq] at hx' hy'
     subst hx'
     exact absurd hy' (hf y)
   · simp only [hxx, hyy, if_true, if_false, Option.some.injEq] at hx' hy'
     subst hy'
     exact absurd hx' (hf x)
   · simp only [hxx, hyy, if_false] at hx' hy'
     exact h.inj x y g' hx' hy'
 · exact Qd1 (h.txt y hy) hb ho
theorem LSt.took (h : LSt w wr bm n f K v3 ys) {x0 : UInt64 × UInt64} {g : Nat} {pv : List Value} {k' : List Prt} (hx : f x0 = some g) (hm : MsgAt w' w.heap.size g x0.2 k' pv) (ho : Only g wr w') : LSt w w' bm n f (fun x => if x = x0 then k' else K x) v3 ys := by
 obtain ⟨pv0, hm0⟩ := h.msg x0 g hx
 obtain ⟨es, ck, hb⟩ := h.map.obj
 have hgb : bm ≠ g := fun e => by
  subst e
  have := hm0.blk
  rw [Blk, hb] at this
  cases this
 refine ⟨h.lat.only ho hm0.low, h.map.only ho hgb, h.low, fun x g' hx' => ?_, fun x hx' => ?_, h.inj, QaT h.own hm0.blk (by decide) ho, fun y hy => ?_⟩
 · by_cases hxx : x = x0
   · subst hxx
     obtain rfl : g = g' := Option.some.inj (hx.symm.trans hx')
     simp only [if_true]
     exact ⟨pv, hm⟩
   · simp only [hxx, if_false]
     refine (h.msg x g' hx').imp fun _ hm => hm.onlyO hm0.blk (fun e => hxx (h.inj x x0 g' hx' (by rw [e]; exact hx))) ho
 · by_cases hxx : x = x0
   · subst hxx
     rw [hx] at hx'
     cases hx'
   · simp only [hxx, if_false]
     exact h.non x hx'
 · exact QaT (h.txt y hy) hm0.blk (by decide) ho
theorem LSt.wrote (h : LSt w wr bm n f K v3 ys) {y : Ltv} {v3' : Value} (hown : w'.ownsRow w.heap.size 40 4 v3' (ys.length + 1) (ys.flatMap LtC ++ LtC y)) (hg : wr.grownBy w' v3.ownBlock) (hl : Later w w')
 (ht : OwnB wr w.heap.size y.va y.vn y.vc y.lt.tx) : LSt w w' bm n f K v3' (ys ++ [y]) := by
 obtain ⟨es, ck, hb⟩ := h.map.obj
 have hbm : some bm ≠ v3.ownBlock := by
  rcases h.own.2 with ⟨rfl, _⟩ | ⟨g2, c2, cur2, rfl, _, hh2, _⟩
  · simp [Value.ownBlock]
  · intro e
    have : bm = g2 := by simpa [Value.ownBlock] using e
    subst this
    rw [hb] at hh2
    cases hh2
 have txt : ∀ y : Ltv, OwnB wr w.heap.size y.va y.vn y.vc y.lt.tx → OwnB w' w.heap.size y.va y.vn y.vc y.lt.tx := fun y h2 => QcU h2 h.own (by decide) hg
 refine ⟨hl, h.map.grown hg hbm, h.low, fun x g hx => (h.msg x g hx).imp fun _ hm => hm.grown h.own (by decide) (by decide) hg, h.non, h.inj, ?_, fun z hz => ?_⟩
 · rw [QmP, List.length_singleton, List.flatMap_append]
   simpa using hown
 · rcases Qnr.1 hz with hz | hz
   · exact txt z (h.txt z hz)
   · obtain rfl : z = y := by simpa using hz
     exact txt z ht
end
end Go.Proofs.YtkibgdigcgakfabGreat
