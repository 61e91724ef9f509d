/-
  Lemmas for the last text of this claim (part 13 of 20).
-/
import Derived.BigQuiet
import Derived.BigRegion
import Derived.ChangeOld
import Derived.Deep.RegionWith
import Derived.JoinedCond
import Derived.LaidMore
import Derived.Laws.CopyOwn
import Derived.Laws.Externs
import Derived.Laws.IdiomStrings
import Derived.Laws.Tables
import Derived.Lib.AppendStr
import Derived.Lib.AppendZerosOnto
import Derived.Lib.Mul64
import Derived.Lib.SlBytesConst
import Derived.LoopN
import Derived.OpenShut
import Derived.OrdersHeld
import Derived.ProofKit
import Derived.Shelf.Spec.BitsCarry
import Derived.ShutString
import Derived.Test.YtadfeclgoclalaaGreatProg
import Derived.Test.YtadfeclgoclalaaGreatRows
import Derived.WalkKit
import Derived.WalkLawsBesides
import Derived.WalkSpells
import Derived.Test.YtadfeclgoclalaaGreatPB
import Derived.Test.YtadfeclgoclalaaGreatPE
import Derived.Test.YtadfeclgoclalaaGreatPH
import Derived.Test.YtadfeclgoclalaaGreatPI
import Derived.Test.YtadfeclgoclalaaGreatPK
import Derived.Test.YtadfeclgoclalaaGreatPL
open List renaming replicate → QCK, getElem?_cons_succ → QCL, getElem?_cons_zero → QCM, cons_append → QCO, length_map → QCP, nil_append → QCQ, getElem?_eq_getElem → QCR, getD_eq_getElem?_getD → QCS, length_replicate → QCY, take_of_length_le → QCZ, map_toArray → QC0, mem_cons → QC2, getElem?_append_right → QC4, getElem?_map → QC6, getElem?_append_left → QC8, map_nil → QC9, getElem?_eq_some_iff → QDa, length_take → QDe, map_cons → QDh, take_append_drop → QDi, drop_left' → QDt, range → QDw, getElem?_eq_none → QDz, length_cons → QDC, drop_eq_getElem_cons → QDE, mem_map → QDI, take_left' → QDR, getElem?_drop → QDW, drop_of_length_le → QDZ, getElem_mem → QD6, drop_succ_cons → QEl, getElem?_range → QEm, drop_zero → QEu, getElem?_take → QEx, mem_append → QEz, range_succ → QEA
open Nat renaming le_refl → QCX, mod_eq_of_lt → QC5, zero_add → QDf, mod_lt → QDg, div_div_eq_div_mul → QDu, pow_succ → QDJ, min_eq_left → QDO, div_add_mod → QDP, mul_comm → QDQ, lt_or_ge → QDS, mul_assoc → QD0, mul_add → QD1, mul_mod → QD4, pow_add → QD9, mul_le_mul_left → QEe, mod_mod → QEf, mul_one → QEv, pow_succ' → QEB, add_comm → QEE, zero_mod → QEK, zero_mul → QEP, pow_zero → QEX, add_mod → QEY, mod_one → QE0
open Option renaming toList_some → QCN, map_some → QEt, getD_some → QEL
open UInt64 renaming ofNat → QDd
open UInt8 renaming ofNat → QDo, toNat_ofNat' → QDV, toNat → QE1
namespace Go.Proofs.YtadfeclgoclalaaGreat
open Go.RowKit
open Go.BigFrame
theorem QpH (w : World) : Calls Tryz.prog 22 #[NN 9] w fun e w' => e = .returned (.agg ((nb 9).map W8).toArray) ∧ Later w w' := by
 have := QiT 9 (by decide) w
 rwa [show 9 % P25 = 9 by decide, BB] at this
theorem Qvf : Program.built Tryz.prog 81 [(0, Value.int .u32 9)] = some (NL 9).toArray := by kernel_rfl
set_option maxRecDepth 100000 in
set_option maxHeartbeats 2000000 in
theorem QjV (A : Option Addr) (n c : Nat) (ks : List UInt8) (w : World) (hk : RdB w A n ks) (hn : n ≤ 140737488355328) :
 Calls Tryz.prog 6 #[.slice A n c] w fun e w' => e = .returned (.tuple #[.agg ((QbF ks (nb 9)).map W8).toArray, .int .i64 (Qbe ks (nb 9) : Nat)]) ∧ Later w w' := by
 have B0 := Qbg w 31 (QCK 32 (Value.int .u8 0))
 have cM := hid (fun (w : World) g d h1 h2 => Qk4 A (some ⟨g, 0, none⟩) n c 32 d ks (nb 9) w h1 h2 hn (by omega))
 have hml := Qa2 ks (nb 9)
 have h9 := Qcd 9
 have cB := hid QpH
 generalize QbF ks (nb 9) = M at *
 generalize Qbe ks (nb 9) = e9 at *
 generalize nb 9 = N9 at *
 go_enter Tryz.func6, Tryz.ntmps6
 go_wp2_with (first
  | (refine Qan rfl 81 _ rfl (NL 9) ?hb ?_; (case hb => simp only [QC0, QDh, QC9]; exact Qvf))
  | fail)
 generalize hW : w.alloc _ = w0
 replace B0 : Bag w w0 [(w.heap.size, 31, QCK 32 (Value.int .u8 0))] := by rw [← hW]; exact Qbg w 31 (QCK 32 (Value.int .u8 0))
 clear hW
 (with_reducible refine (cB.out _).mono ?_); rintro e w2 ⟨rfl, hl2⟩
 go_wp2_with (first
  | (refine QaR rfl rfl _ _ rfl (Blk.new w2 _ (QCK 32 (.int .u8 0))) rfl rfl h9 rfl ?_; intro w3 hb3 ho3)
  | fail)
 have B1 := B0.push (hl2.trans (Qaa w2 _)) hl2.size ho3 hb3
 (with_reducible refine (cM.out _ _ _ (hk.later B1.lat) (Qe7 (B1.nth 0 rfl) h9)).mono ?_); rintro e w4 ⟨rfl, hl4⟩
 go_wp2_with (first
  | (refine QaR rfl rfl _ _ rfl ((B1.later hl4).nth 1 rfl) rfl rfl hml rfl ?_; intro w5 hb5 ho5)
  | fail)
 exact bodyPost_ret (Qai rfl _ _ _ _ _ _ hb5 rfl Tryz.underlying31 rfl (by rw [QCP, hml]; exact Qbj)) rfl ⟨rfl, ((B1.later hl4).write 1 rfl ho5 hb5).lat⟩
end Go.Proofs.YtadfeclgoclalaaGreat
namespace Go.Proofs.YtadfeclgoclalaaGreat
open Go.RowKit
open Go.BigFrame
end Go.Proofs.YtadfeclgoclalaaGreat
namespace Go.Proofs.YtadfeclgoclalaaGreat
open Go.RowKit
open Go.BigFrame
end Go.Proofs.YtadfeclgoclalaaGreat
namespace Go.Proofs.YtadfeclgoclalaaGreat
open Go.RowKit
open Go.BigFrame
def Qew : List (List UInt8) → List UInt8 → List UInt8 × Nat
 | [], at_ => (at_, 0)
 | k :: ks, at_ => if Qbe k at_ = 0 then Qew ks (QbF k at_) else (QCK 32 0, Qbe k at_)
def QcD (us : List UInt8) (ps : List (List UInt8)) : List UInt8 × Nat :=
 if us.length = 32 ∧ ∀ p ∈ ps, p.length = 32 then Qew ps (nb (Qcs us)) else (QCK 32 0, 2)
theorem Qgg : ∀ (ps : List (List UInt8)) (at_ : List UInt8), at_.length = 32 → (Qew ps at_).1.length = 32
 | [], _, h => h
 | k :: ks, at_, _ => by
   unfold Qew
   split
   · exact Qgg ks _ (Qa2 _ _)
   · simp
theorem Qk0 (us : List UInt8) (ps : List (List UInt8)) : (QcD us ps).1.length = 32 := by
 unfold QcD
 split
 · exact Qgg _ _ (Qcd _)
 · simp
theorem Qyb (us : List UInt8) : Qcs us < P25 := by
 unfold Qcs
 split
 · exact QDg _ Qbo
 · exact Qbo
theorem QsW (ps : List (List UInt8)) (k : Nat) (h : k < ps.length) : ps.drop k = ps.getD k [] :: ps.drop (k + 1) := by
 rw [QDE h, QCS, QCR h]
 rfl
theorem Qpf (ps : List (List UInt8)) (h : ∀ j, j < ps.length → (ps.getD j []).length = 32) : ∀ p ∈ ps, p.length = 32 := by
 intro p hp
 obtain ⟨j, hj, e⟩ := List.getElem_of_mem hp
 have := h j hj
 rw [QCS, QCR hj] at this
 rw [← e]
 exact this
theorem QpP (us : List UInt8) (ps : List (List UInt8)) (k : Nat) (h : k < ps.length) (hk : (ps.getD k []).length ≠ 32) : QcD us ps = (QCK 32 0, 2) := by
 rw [QcD, if_neg]
 rintro ⟨_, ha⟩
 apply hk
 rw [QCS, QCR h]
 exact ha _ (QD6 h)
end Go.Proofs.YtadfeclgoclalaaGreat
namespace Go.Proofs.YtadfeclgoclalaaGreat
open Go.RowKit
open Go.BigFrame
end Go.Proofs.YtadfeclgoclalaaGreat
namespace Go.Proofs.YtadfeclgoclalaaGreat
open Go.RowKit
open Go.BigFrame
structure Nod where
 nm : ByteArray
 id : UInt64
 priv : Y32
 pub : Y32
def QhC : Y32 := ⟨QCK 32 0, by simp⟩
def nod0 : Nod := ⟨.empty, 0, QhC, QhC⟩
def NC (x : Nod) : List Value := .string x.nm :: W64 x.id :: (x.priv.val.map W8 ++ x.pub.val.map W8)
theorem Qa9 (x : Nod) : (NC x).length = 66 := by simp [NC, x.priv.2, x.pub.2]
theorem Qy4 (x : Nod) : ∀ u ∈ NC x, u.oneCell' = true := by
 intro u hu
 simp only [NC, QC2, QEz, QDI] at hu
 rcases hu with rfl | rfl | ⟨b, _, rfl⟩ | ⟨b, _, rfl⟩ <;> rfl
theorem Qts (x : Nod) {j : Nat} {v : Value} (h : (x.priv.val.map W8)[j]? = some v) : (NC x)[2 + j]? = some v := by
 have hj : j < (x.priv.val.map W8).length := (QDa.1 h).1
 rw [NC, show 2 + j = j + 1 + 1 by omega, QCL, QCL, QC8 hj]
 exact h
theorem QwK (x : Nod) {j : Nat} {v : Value} (h : (x.pub.val.map W8)[j]? = some v) : (NC x)[34 + j]? = some v := by
 have hp : (x.priv.val.map W8).length = 32 := by rw [QCP, x.priv.2]
 rw [NC, show 34 + j = j + 32 + 1 + 1 by omega, QCL, QCL, QC4 (by omega), hp, Nat.add_sub_cancel]
 exact h
theorem Qhh {p : Nat → Prop} {k : Nat} (h : ∀ j, j < k → p j) (hk : p k) : ∀ j, j < k + 1 → p j := by
 intro j hj
 rcases QDS j k with h1 | h1
 · exact h j h1
 · obtain rfl : j = k := by omega
   exact hk
end Go.Proofs.YtadfeclgoclalaaGreat
namespace Go.Proofs.YtadfeclgoclalaaGreat
open Go.RowKit
open Go.BigFrame
end Go.Proofs.YtadfeclgoclalaaGreat
namespace Go.Proofs.YtadfeclgoclalaaGreat
open Go.RowKit
open Go.BigFrame
section
variable {ops : Array Oper} {rest : List Oper} {o : Oper} {a : Act} {w : World} {Q : Exit → Act → World → Prop}
theorem Qgt (hgd : Region.wanted o (yielded ops a.tmps) = true) (x : Operand) (ho : o.op = .load 31 x) {g off : Nat} {K : List UInt8} (hc : ∀ j v, (K.map W8)[j]? = some v → w.cell? ⟨g, off + j, none⟩ = some v) (hl : K.length = 32) (hx : a.eval x = .pointer (some ⟨g, off, none⟩))
 (h : wpList Tryz.prog ops Q rest (a.put o.dst (.agg (K.map W8).toArray)) w) : wpList Tryz.prog ops Q (o :: rest) a w :=
 QaN hgd _ x ho g off _ hc hx _ Tryz.underlying31 rfl (by rw [QCP, hl]; exact Qbj) h
theorem QoX {J : Act → Prop} (x : Operand) (ho : o.op = .load 31 x) {w0 : World} {g off : Nat} {K : List UInt8} (hc : ∀ j v, (K.map W8)[j]? = some v → w0.cell? ⟨g, off + j, none⟩ = some v) (hg : g < w0.heap.size) (hl : K.length = 32) (hx : a.eval x = .pointer (some ⟨g, off, none⟩)) (h : J (a.put o.dst (.agg (K.map W8).toArray))) :
 o.quiet Tryz.prog a (fun w' => ∃ x, w' = grow w0 x) J :=
 Qa0 _ x ho g off (K.map W8) (fun w' hw j v hv => by obtain ⟨y, rfl⟩ := hw; exact ((Later.below ⟨y, rfl⟩).cell (p := ⟨g, off + j, none⟩) hg).trans (hc j v hv)) hx _ Tryz.underlying31 rfl (by rw [QCP, hl]; exact Qbj) h
end
theorem Qdn {w : World} {b off n : Nat} {K : List UInt8} (hb : b < w.heap.size) (hc : ∀ j v, (K.map W8)[j]? = some v → w.cell? ⟨b, off + j, none⟩ = some v) (hn : K.length = n) : RdB w (some ⟨b, off, none⟩) n K :=
 ⟨by rw [QCP, hn], fun _ => ⟨b, off, rfl, hb, hc⟩⟩
end Go.Proofs.YtadfeclgoclalaaGreat
namespace Go.Proofs.YtadfeclgoclalaaGreat
open Go.RowKit
open Go.BigFrame
theorem QB4 (x : Nod) (s : ByteArray) : NC { x with nm := s } = QaB (NC x) 0 [.string s] := by simp [NC, QaB]
theorem QB5 (x : Nod) (i : UInt64) : NC { x with id := i } = QaB (NC x) 1 [W64 i] := by simp [NC, QaB]
end Go.Proofs.YtadfeclgoclalaaGreat
namespace Go.Proofs.YtadfeclgoclalaaGreat
open Go.RowKit
open Go.BigFrame
end Go.Proofs.YtadfeclgoclalaaGreat
namespace Go.Proofs.YtadfeclgoclalaaGreat
open Go.RowKit
open Go.BigFrame
theorem Qel {P : Program} {t : TypeId} {d : TypeDesc} {k : Nat} {v : Value} (hu : P.underlying t = some d) (hd : QbV d = false) {zs : List Value} (hz : zs[k]? = some v) (w : World) : (part t zs.toArray k).run P w = .ok v w := by
 have ha : (isAgg t).run P w = .ok false w := by
  unfold isAgg
  simp only [Sem.run_bind, run_underlying hu]
  cases d <;> simp_all [QbV]
 unfold part
 simp [Sem.run_bind, ha, Result.andThen_ok, hz]
theorem QmF {P : Program} {d k : Nat} {t : TypeId} {f : Field} {fs : List Field} (hf : f.type = t) (hu : P.underlying t = some .string) (hn : f.name ≠ "_") {xs ys : List Value} {p q : ByteArray} (ho : f.offset = k) (hp : xs[k]? = some (.string p)) (hq : ys[k]? = some (.string q)) (w : World) :
 (Op.eqFields (d + 1) xs.toArray ys.toArray (f :: fs)).run P w = if p.toList == q.toList then (Op.eqFields (d + 1) xs.toArray ys.toArray fs).run P w else .ok false w := by
 rw [Op.eqFields, if_pos hn]
 simp only [Sem.run_bind, hf, ho, Qel hu rfl hp, Qel hu rfl hq, Result.andThen_ok, run_equalIn_string w d t p q hu]
 cases p.toList == q.toList <;> simp
theorem QkP {P : Program} {d k : Nat} {t : TypeId} {f : Field} {fs : List Field} (hf : f.type = t) (hu : P.underlying t = some (.int .u64)) (hn : f.name ≠ "_") {xs ys : List Value} {p q : UInt64} (ho : f.offset = k) (hp : xs[k]? = some (W64 p)) (hq : ys[k]? = some (W64 q)) (w : World) :
 (Op.eqFields (d + 1) xs.toArray ys.toArray (f :: fs)).run P w = if p == q then (Op.eqFields (d + 1) xs.toArray ys.toArray fs).run P w else .ok false w := by
 rw [Op.eqFields, if_pos hn]
 simp only [Sem.run_bind, hf, ho, Qel hu rfl hp, Qel hu rfl hq, Result.andThen_ok, QiQ t _ hu d p q w]
 cases p == q <;> simp
def QqJ (x y : Nod) : Bool := x.nm.toList == y.nm.toList && (x.id == y.id && (x.priv.val == y.priv.val && x.pub.val == y.pub.val))
@[go_sem] theorem QyY (x : Nod) : QqJ x x = true := by simp [QqJ]
theorem Qms (x : Nod) : ((NC x).drop 2).take 32 = x.priv.val.map W8 := by
 have h1 : (x.priv.val.map W8).length = 32 := by rw [QCP, x.priv.2]
 rw [NC, QEl, QEl, QEu, QDR h1]
theorem Qpo (x : Nod) : ((NC x).drop 34).take 32 = x.pub.val.map W8 := by
 have h1 : (x.priv.val.map W8).length = 32 := by rw [QCP, x.priv.2]
 rw [NC, show (34 : Nat) = 32 + 1 + 1 from rfl, QEl, QEl, QDt h1, QCZ (by rw [QCP, x.pub.2]; omega)]
set_option maxRecDepth 100000 in
theorem Qi2 (x y : Nod) (w : World) {fs : Array Field} (hu : Tryz.prog.underlying 33 = some (.struct fs)) : (Op.eqFields 9999 (NC x).toArray (NC y).toArray fs.toList).run Tryz.prog w = .ok (QqJ x y) w := by
 rw [Tryz.underlying33] at hu
 cases hu
 rw [QmF (d := 9998) (k := 0) rfl Tryz.underlying9 (by decide) rfl rfl rfl, QkP (d := 9998) (k := 1) rfl Tryz.underlying23 (by decide) rfl rfl rfl,
  Qca (d := 9997) (k := 2) rfl (by decide) rfl (Qms x) (Qms y) x.priv.2 y.priv.2, Qca (d := 9997) (k := 34) rfl (by decide) rfl (Qpo x) (Qpo y) x.pub.2 y.pub.2, Qdm]
 rw [QqJ]
 cases x.nm.toList == y.nm.toList <;> cases x.id == y.id <;> cases x.priv.val == y.priv.val <;> cases x.pub.val == y.pub.val <;> rfl
theorem QxC : Tryz.prog.eqGuardType Tryz.prog.depth 33 = false := by kernel_rfl
@[go_sem high] theorem Qw8 (op : BinOp) (x y : Operand) (xs ys : Array Value) (w : World) : (eqGuard op 33 x y (.agg xs) (.agg ys)).run Tryz.prog w = .ok () w := run_eqGuard_agg w op _ x y xs ys QxC
set_option maxRecDepth 100000 in
@[go_sem high] theorem QxD (x y : Nod) (w : World) : (binOp .eql 33 (.agg (NC x).toArray) (.agg (NC y).toArray)).run Tryz.prog w = .ok (.bool (QqJ x y)) w := by
  rw [QgN Tryz.underlying33 (by kernel_rfl), Qi2 x y w Tryz.underlying33]
  rfl
set_option maxRecDepth 100000 in
@[go_sem high] theorem Qyt (x y : Nod) (w : World) : (binOp .neq 33 (.agg (NC x).toArray) (.agg (NC y).toArray)).run Tryz.prog w = .ok (.bool (!QqJ x y)) w := by
  rw [QiJ Tryz.underlying33 (by kernel_rfl), Qi2 x y w Tryz.underlying33]
  rfl
section
variable {P : Program} {ops : Array Oper} {rest : List Oper} {o : Oper} {a : Act} {w : World} {Q : Exit → Act → World → Prop}
theorem Qhq (hw : Region.wanted o (yielded ops a.tmps) = true) (t : TypeId) (x : Operand) (ho : o.op = .buildSlice t 1 #[(0, x)]) (e : TypeId) (sz : Nat) (z : Value) (vs : List Value) (ht : P.underlying t = some (.slice e)) (hz : (P.info? e).map (fun i => (i.zero, i.size)) = some (some z, sz)) (hs0 : 0 < sz) (hsm : sz ≤ 65536)
 (hbl : vs.length = sz) (hx : a.eval x = .agg vs.toArray)
 (h : wpList P ops Q rest (a.put o.dst (.slice (some ⟨w.heap.size, 0, none⟩) 1 1)) (w.alloc (.cells vs.toArray e))) : wpList P ops Q (o :: rest) a w :=
 BigFrame.wpList_want hw fun K hK => by
  have hr := QjG (v := .agg vs.toArray) ht hz hs0 hsm rfl hbl w
  unfold Oper.wp
  simp only [execOp, ho, QC0, QDh, QC9, hx, Sem.run_bind, hr, Result.andThen_ok, Sem.run_pure]
  exact hK _ _ h
end
theorem QBP : (Tryz.prog.info? 33).bind (·.zero) = some (.agg (NC nod0).toArray) := by kernel_rfl
theorem QpU (s : ByteArray) (i : UInt64) : Tryz.prog.built 33 [(0, .string s), (1, W64 i)] = some (NC ⟨s, i, QhC, QhC⟩).toArray := by
 rw [Qa8 (pl := [(0, 1), (1, 1), (2, 32), (34, 32)]) Tryz.underlying33 QBP (by kernel_rfl), Qbr (vs := [.string s]) (off := 0) rfl rfl (by rw [Qa9]; simp), ← QB4, Qbr (vs := [W64 i]) (off := 1) rfl rfl (by rw [Qa9]; simp), Qcv, ← QB5]
 rfl
end Go.Proofs.YtadfeclgoclalaaGreat
namespace Go.Proofs.YtadfeclgoclalaaGreat
open Go.RowKit
open Go.BigFrame
end Go.Proofs.YtadfeclgoclalaaGreat
namespace Go.Proofs.YtadfeclgoclalaaGreat
open Go.RowKit
open Go.BigFrame
section
variable {ops : Array Oper} {rest : List Oper} {o : Oper} {a : Act} {w : World} {Q : Exit → Act → World → Prop}
end
end Go.Proofs.YtadfeclgoclalaaGreat
namespace Go.Proofs.YtadfeclgoclalaaGreat
open Go.RowKit
open Go.BigFrame
theorem QBJ : (Tryz.prog.info? 71).bind (·.zero) = some (.agg (NC nod0).toArray) := by kernel_rfl
theorem Qxm : (Tryz.prog.info? 71).map (·.size) = some 66 := by kernel_rfl
theorem QqN (l : List Value) (x : Nod) (h : l.length = 66) : QaB l 0 (NC x) = NC x := Qam _ _ (by rw [Qa9, h])
theorem QmZ (x : Nod) : Tryz.prog.built 71 [(0, .agg (NC x).toArray)] = some (NC x).toArray := by
 rw [Qa8 (pl := [(0, 66)]) Tryz.underlying71 QBJ (by kernel_rfl), Qbr (vs := NC x) (off := 0) rfl (by rw [Qa9]; rfl) (by rw [Qa9, Qa9]; omega), Qcv, QqN _ _ (Qa9 _)]
section
variable {ops : Array Oper} {rest : List Oper} {o : Oper} {a : Act} {w : World} {Q : Exit → Act → World → Prop}
theorem QpZ (hgd : Region.wanted o (yielded ops a.tmps) = true) (x : Operand) (ho : o.op = .load 71 x) {g off : Nat} {y : Nod} (hc : ∀ i v, (NC y)[i]? = some v → w.cell? ⟨g, off + i, none⟩ = some v) (hx : a.eval x = .pointer (some ⟨g, off, none⟩))
 (h : wpList Tryz.prog ops Q rest (a.put o.dst (.agg (NC y).toArray)) w) : wpList Tryz.prog ops Q (o :: rest) a w :=
 QaN hgd _ x ho g off _ hc hx _ Tryz.underlying71 rfl (by rw [Qa9]; exact Qxm) h
end
theorem QsM {w : World} {g : Nat} {t : TypeId} {y : Nod} (h : Blk w g t (NC y)) : ∀ i v, (NC y)[i]? = some v → w.cell? ⟨g, 0 + i, none⟩ = some v := fun i v hv => by
 rw [QDf]
 exact h.cellD i hv
end Go.Proofs.YtadfeclgoclalaaGreat
namespace Go.Proofs.YtadfeclgoclalaaGreat
open Go.RowKit
open Go.BigFrame
end Go.Proofs.YtadfeclgoclalaaGreat
namespace Go.Proofs.YtadfeclgoclalaaGreat
namespace Ed
instance neP : NeZero P25 := ⟨by decide⟩
abbrev Fp := Fin P25
def toF (n : Nat) : Fp := Fin.ofNat P25 n
theorem Qcj (n : Nat) : (toF n).val = n % P25 := rfl
theorem QsU (a : Fp) : toF a.val = a := Fin.ext (QC5 a.isLt)
theorem QkK (n : Nat) : toF (n % P25) = toF n := Fin.ext (QEf _ _)
theorem QyK (a b : Nat) : toF (a + b) = toF a + toF b := Fin.ext (by rw [Fin.val_add, Qcj, Qcj, Qcj, ← QEY])
theorem Qkj (a b : Nat) : toF (a * b) = toF a * toF b := Fin.ext (by rw [Fin.val_mul, Qcj, Qcj, Qcj, ← QD4])
theorem Qld (a b : Nat) : toF (fadd a b) = toF a + toF b := by rw [fadd, QkK, QyK]
theorem Qg5 (a b : Nat) : toF (fmul a b) = toF a * toF b := by rw [fmul, QkK, Qkj]
theorem Qlb (a b : Nat) : toF (fsub a b) = toF a - toF b := by
 rw [fsub, QkK]
 apply Fin.ext
 rw [Fin.sub_def, Qcj]
 show _ = ((P25 - (toF b).val) + (toF a).val) % P25
 rw [Qcj, Qcj, QEE, Nat.add_mod_mod]
theorem QgD : toF 0 = 0 := rfl
theorem QiC {a : Nat} : toF a = 0 ↔ a % P25 = 0 := by
 rw [← QgD, Fin.ext_iff, Qcj, Qcj, QEK]
theorem Qyd {a b : Nat} (h : toF a = toF b) : a % P25 = b % P25 := by
 rw [Fin.ext_iff, Qcj, Qcj] at h
 exact h
theorem Qiz {a : Fp} (h : a ≠ 0) : a.val % P25 ≠ 0 := by
 intro h0
 apply h
 rw [← QsU a]
 exact QiC.2 h0
def finv (a : Fp) : Fp := toF (pinv a.val)
theorem QaX {a : Fp} (h : a ≠ 0) : a * finv a = 1 := by
 have h1 := Qux a.val (Qiz h)
 have h2 : toF (a.val * pinv a.val) = toF 1 := Fin.ext (by rw [Qcj, Qcj, h1]; rfl)
 rw [Qkj, QsU] at h2
 exact h2
theorem QoK : (1 : Fp) ≠ 0 := by decide
theorem QjX : (2 : Fp) ≠ 0 := by decide
theorem Qdz {a b : Fp} (h : a * b = 0) : a = 0 ∨ b = 0 := by
 by_cases ha : a = 0
 · exact .inl ha
 · have := QaX ha
   right
   grobner
theorem Qa1 {a b : Fp} (ha : a ≠ 0) (hb : b ≠ 0) : a * b ≠ 0 := fun h => (Qdz h).elim ha hb
theorem Qfd {a b c : Fp} (hc : c ≠ 0) (h : a * c = b * c) : a = b := by
 have := QaX hc
 grobner
theorem QwH {a : Fp} (h : a * a = 1) : a = 1 ∨ a = -1 := by
 have : (a - 1) * (a + 1) = 0 := by grobner
 rcases Qdz this with h | h
 · left; grobner
 · right; grobner
def fpow (a : Fp) (n : Nat) : Fp := toF (a.val ^ n)
theorem QfY (a : Fp) (m n : Nat) : fpow a (m + n) = fpow a m * fpow a n := by rw [fpow, QD9, Qkj, fpow, fpow]
theorem QvC (a : Fp) : fpow a 1 = a := by rw [fpow, Nat.pow_one, QsU]
theorem QcW (a b : Fp) (n : Nat) : fpow (a * b) n = fpow a n * fpow b n := by
 rw [fpow, fpow, fpow, ← Qkj, ← Nat.mul_pow]
 apply Fin.ext
 rw [Qcj, Qcj, Fin.val_mul, ← Nat.pow_mod]
theorem Qjd {a : Fp} (h : a ≠ 0) : fpow a (P25 - 1) = 1 := Fin.ext (by rw [fpow, Qcj, Qwb _ (Qiz h)]; rfl)
def isSq (a : Fp) : Prop := ∃ r : Fp, r * r = a
def Hp : Nat := 28948022309329048855892746252171976963317496166410141009864396001978282409974
def Qp : Nat := 14474011154664524427946373126085988481658748083205070504932198000989141204987
def Op : Nat := 7237005577332262213973186563042994240829374041602535252466099000494570602494
theorem QsK {a : Fp} (h : a ≠ 0) : fpow a Hp = 1 ∨ fpow a Hp = -1 := by
 apply QwH
 rw [← QfY, show Hp + Hp = P25 - 1 by decide]
 exact Qjd h
theorem Qs8 {a : Fp} (h : a ≠ 0) (hs : isSq a) : fpow a Hp = 1 := by
 obtain ⟨r, rfl⟩ := hs
 have hr : r ≠ 0 := by rintro rfl; exact h (by decide)
 rw [QcW, ← QfY, show Hp + Hp = P25 - 1 by decide]
 exact Qjd hr
theorem Qrs {i : Fp} (hi : i * i = -1) {a : Fp} (h : fpow a Hp = 1) : isSq a := by
 have h1 : fpow a Qp * fpow a Qp = 1 := by rw [← QfY, show Qp + Qp = Hp by decide]; exact h
 have h2 : fpow a Op * fpow a Op = a * fpow a Qp := by
  rw [← QfY, show Op + Op = 1 + Qp by decide, QfY, QvC]
 rcases QwH h1 with h3 | h3
 · exact ⟨fpow a Op, by rw [h2, h3]; grobner⟩
 · exact ⟨i * fpow a Op, by rw [h3] at h2; grobner⟩
def Qg6 (δ : Fp) : Prop := ∀ r : Fp, r * r ≠ δ
@[ext] structure Pt (δ : Fp) where
  x : Fp
  y : Fp
  on : x * x + y * y = 1 + δ * x * x * y * y
theorem Qit {δ z w : Fp} (hδ : Qg6 δ) (h : w * w = δ * (z * z)) : z = 0 := by
 by_cases hz : z = 0
 · exact hz
 · have := QaX hz
   exact absurd (show (w * finv z) * (w * finv z) = δ by grobner) (hδ _)
theorem QoC {δ : Fp} (hδ : Qg6 δ) {x1 y1 x2 y2 ε : Fp} (h1 : x1 * x1 + y1 * y1 = 1 + δ * x1 * x1 * y1 * y1) (h2 : x2 * x2 + y2 * y2 = 1 + δ * x2 * x2 * y2 * y2)
 (ht : δ * x1 * x2 * y1 * y2 = ε) (he : ε * ε = 1) : False := by
 have a1 : (x1 + ε * y1) * (x1 + ε * y1) = δ * ((x1 * y1 * (x2 + y2)) * (x1 * y1 * (x2 + y2))) := by grobner
 have a2 : (x1 - ε * y1) * (x1 - ε * y1) = δ * ((x1 * y1 * (x2 - y2)) * (x1 * y1 * (x2 - y2))) := by grobner
 have b1 := Qit hδ a1
 have b2 := Qit hδ a2
 have c : 2 * (x1 * y1 * x2) = 0 := by grobner
 have hn : 2 * (x1 * y1 * x2) ≠ 0 := by
  refine Qa1 QjX ?_
  intro h0
  have : ε = 0 := by rw [← ht]; grobner
  rw [this] at he
  revert he
  decide
 exact hn c
section
variable {δ : Fp}
def tt (P Q : Pt δ) : Fp := δ * P.x * Q.x * P.y * Q.y
theorem QgK (hδ : Qg6 δ) (P Q : Pt δ) : 1 + tt P Q ≠ 0 := fun h => QoC hδ (ε := -1) P.on Q.on (by unfold tt at h; grobner) (by decide)
theorem Qgo (hδ : Qg6 δ) (P Q : Pt δ) : 1 - tt P Q ≠ 0 := fun h => QoC hδ (ε := 1) P.on Q.on (by unfold tt at h; grobner) (by decide)
theorem Qy9 {x1 y1 x2 y2 i j : Fp} (h1 : x1 * x1 + y1 * y1 = 1 + δ * x1 * x1 * y1 * y1) (h2 : x2 * x2 + y2 * y2 = 1 + δ * x2 * x2 * y2 * y2)
 (hi : (1 + δ * x1 * x2 * y1 * y2) * i = 1) (hj : (1 - δ * x1 * x2 * y1 * y2) * j = 1) :
 ((x1 * y2 + x2 * y1) * i) * ((x1 * y2 + x2 * y1) * i) + ((y1 * y2 - x1 * x2) * j) * ((y1 * y2 - x1 * x2) * j) = 1 + δ * ((x1 * y2 + x2 * y1) * i) * ((x1 * y2 + x2 * y1) * i) * ((y1 * y2 - x1 * x2) * j) * ((y1 * y2 - x1 * x2) * j) := by
 have key : (x1 * y2 + x2 * y1) * (x1 * y2 + x2 * y1) * ((1 - δ * x1 * x2 * y1 * y2) * (1 - δ * x1 * x2 * y1 * y2)) + (y1 * y2 - x1 * x2) * (y1 * y2 - x1 * x2) * ((1 + δ * x1 * x2 * y1 * y2) * (1 + δ * x1 * x2 * y1 * y2))
  = (1 + δ * x1 * x2 * y1 * y2) * (1 + δ * x1 * x2 * y1 * y2) * ((1 - δ * x1 * x2 * y1 * y2) * (1 - δ * x1 * x2 * y1 * y2)) + δ * ((x1 * y2 + x2 * y1) * (x1 * y2 + x2 * y1)) * ((y1 * y2 - x1 * x2) * (y1 * y2 - x1 * x2)) := by grobner
 generalize x1 * y2 + x2 * y1 = X at *
 generalize y1 * y2 - x1 * x2 = Y at *
 generalize 1 + δ * x1 * x2 * y1 * y2 = A at *
 generalize 1 - δ * x1 * x2 * y1 * y2 = B at *
 have k2 : (X * X * (B * B) + Y * Y * (A * A)) * (i * i * (j * j)) = (A * A * (B * B) + δ * (X * X) * (Y * Y)) * (i * i * (j * j)) := by rw [key]
 have hi2 : A * A * (i * i) = 1 := by grobner
 have hj2 : B * B * (j * j) = 1 := by grobner
 clear key h1 h2 hi hj
 grobner
def Pt.add (hδ : Qg6 δ) (P Q : Pt δ) : Pt δ :=
 ⟨(P.x * Q.y + Q.x * P.y) * finv (1 + tt P Q), (P.y * Q.y - P.x * Q.x) * finv (1 - tt P Q), Qy9 P.on Q.on (QaX (QgK hδ P Q)) (QaX (Qgo hδ P Q))⟩
variable (hδ : Qg6 δ)
theorem Qjs (P Q : Pt δ) : (P.add hδ Q).x * (1 + tt P Q) = P.x * Q.y + Q.x * P.y := by
 have := QaX (QgK hδ P Q)
 show (P.x * Q.y + Q.x * P.y) * finv (1 + tt P Q) * (1 + tt P Q) = _
 grobner
theorem QgH (P Q : Pt δ) : (P.add hδ Q).y * (1 - tt P Q) = P.y * Q.y - P.x * Q.x := by
 have := QaX (Qgo hδ P Q)
 show (P.y * Q.y - P.x * Q.x) * finv (1 - tt P Q) * (1 - tt P Q) = _
 grobner
def Pt.zero : Pt δ := ⟨0, 1, by grobner⟩
def Pt.neg (P : Pt δ) : Pt δ := ⟨-P.x, P.y, by have := P.on; grobner⟩
theorem Qli (P Q : Pt δ) : P.add hδ Q = Q.add hδ P := by
 have ht : tt P Q = tt Q P := by unfold tt; grobner
 apply Pt.ext
 · apply Qfd (QgK hδ P Q)
   rw [Qjs, ht, Qjs]
   grobner
 · apply Qfd (Qgo hδ P Q)
   rw [QgH, ht, QgH]
   grobner
theorem QgQ (P : Pt δ) : P.add hδ Pt.zero = P := by
 have ht : tt P (Pt.zero) = 0 := by unfold tt Pt.zero; grobner
 apply Pt.ext
 · apply Qfd (QgK hδ P Pt.zero)
   rw [Qjs, ht]
   simp only [Pt.zero]
   grobner
 · apply Qfd (Qgo hδ P Pt.zero)
   rw [QgH, ht]
   simp only [Pt.zero]
   grobner
theorem QvH (P : Pt δ) : P.add hδ P.neg = Pt.zero := by
 have h := P.on
 apply Pt.ext
 · apply Qfd (QgK hδ P P.neg)
   rw [Qjs]
   simp only [Pt.zero, Pt.neg]
   grobner
 · apply Qfd (Qgo hδ P P.neg)
   rw [QgH]
   simp only [Pt.zero, Pt.neg, tt]
   grobner
end
theorem QxB {d x1 y1 x2 y2 x3 y3 : Fp} (h1 : x1 * x1 + y1 * y1 = 1 + d * x1 * x1 * y1 * y1) (h2 : x2 * x2 + y2 * y2 = 1 + d * x2 * x2 * y2 * y2) (h3 : x3 * x3 + y3 * y3 = 1 + d * x3 * x3 * y3 * y3) :
 ((x1*y2+x2*y1)*(1-d*x1*x2*y1*y2)*y3+(y1*y2-x1*x2)*(1+d*x1*x2*y1*y2)*x3)*((1+d*x2*x3*y2*y3)*(1-d*x2*x3*y2*y3)+d*x1*y1*(x2*y3+x3*y2)*(y2*y3-x2*x3))
 = (x1*(y2*y3-x2*x3)*(1+d*x2*x3*y2*y3)+y1*(x2*y3+x3*y2)*(1-d*x2*x3*y2*y3))*((1+d*x1*x2*y1*y2)*(1-d*x1*x2*y1*y2)+d*(x1*y2+x2*y1)*(y1*y2-x1*x2)*x3*y3) := by grobner
theorem Qw6 {d x1 y1 x2 y2 x3 y3 : Fp} (h1 : x1 * x1 + y1 * y1 = 1 + d * x1 * x1 * y1 * y1) (h2 : x2 * x2 + y2 * y2 = 1 + d * x2 * x2 * y2 * y2) (h3 : x3 * x3 + y3 * y3 = 1 + d * x3 * x3 * y3 * y3) :
 ((y1*y2-x1*x2)*(1+d*x1*x2*y1*y2)*y3-(x1*y2+x2*y1)*(1-d*x1*x2*y1*y2)*x3)*((1+d*x2*x3*y2*y3)*(1-d*x2*x3*y2*y3)-d*x1*y1*(x2*y3+x3*y2)*(y2*y3-x2*x3))
 = (y1*(y2*y3-x2*x3)*(1+d*x2*x3*y2*y3)-x1*(x2*y3+x3*y2)*(1-d*x2*x3*y2*y3))*((1+d*x1*x2*y1*y2)*(1-d*x1*x2*y1*y2)-d*(x1*y2+x2*y1)*(y1*y2-x1*x2)*x3*y3) := by grobner
theorem QAp {L q X Y x3 y3 xa ya p m : Fp} (l : L * q = xa * y3 + x3 * ya) (h1 : xa * p = X) (h2 : ya * m = Y) : L * (p * m * q) = X * m * y3 + Y * p * x3 := by grobner
theorem Qwr {L q X Y x3 y3 xa ya p m : Fp} (l : L * q = ya * y3 - xa * x3) (h1 : xa * p = X) (h2 : ya * m = Y) : L * (p * m * q) = Y * p * y3 - X * m * x3 := by grobner
theorem QzN {d X Y x3 y3 xa ya p m : Fp} (h1 : xa * p = X) (h2 : ya * m = Y) : p * m * (1 + d * xa * x3 * ya * y3) = p * m + d * X * Y * x3 * y3 := by grobner
theorem Qv8 {d X Y x3 y3 xa ya p m : Fp} (h1 : xa * p = X) (h2 : ya * m = Y) : p * m * (1 - d * xa * x3 * ya * y3) = p * m - d * X * Y * x3 * y3 := by grobner
theorem Qzn {L M d1 d2 n1 n2 : Fp} (hd1 : d1 ≠ 0) (hd2 : d2 ≠ 0) (h1 : L * d1 = n1) (h2 : M * d2 = n2) (h : n1 * d2 = n2 * d1) : L = M := by
 apply Qfd (Qa1 hd1 hd2)
 clear hd1 hd2
 grobner
section
variable {δ : Fp} (hδ : Qg6 δ)
theorem QjW (P Q R : Pt δ) : (P.add hδ Q).add hδ R = P.add hδ (Q.add hδ R) := by
 have a1 := Qjs hδ P Q
 have a2 := QgH hδ P Q
 have b1 := Qjs hδ Q R
 have b2 := QgH hδ Q R
 have ex := QxB P.on Q.on R.on
 have ey := Qw6 P.on Q.on R.on
 apply Pt.ext
 · refine Qzn (Qa1 (Qa1 (QgK hδ P Q) (Qgo hδ P Q)) (QgK hδ (P.add hδ Q) R)) (Qa1 (Qa1 (QgK hδ Q R) (Qgo hδ Q R)) (QgK hδ P (Q.add hδ R)))
    (QAp (Qjs hδ (P.add hδ Q) R) a1 a2) (QAp ((Qjs hδ P (Q.add hδ R)).trans (show _ = (Q.add hδ R).x * P.y + P.x * (Q.add hδ R).y by clear a1 a2 b1 b2 ex ey; grobner)) b1 b2) ?_
   rw [show (1 + tt P Q) * (1 - tt P Q) * (1 + tt (P.add hδ Q) R) = _ from QzN a1 a2, show (1 + tt Q R) * (1 - tt Q R) * (1 + tt P (Q.add hδ R)) = _ from (show _ = (1 + tt Q R) * (1 - tt Q R) * (1 + δ * (Q.add hδ R).x * P.x * (Q.add hδ R).y * P.y) by unfold tt; clear a1 a2 b1 b2 ex ey; grobner).trans (QzN b1 b2)]
   clear a1 a2 b1 b2 ey
   simp only [tt]
   refine Eq.trans ?_ (ex.trans ?_)
   · clear ex; grobner
   · clear ex; grobner
 · refine Qzn (Qa1 (Qa1 (QgK hδ P Q) (Qgo hδ P Q)) (Qgo hδ (P.add hδ Q) R)) (Qa1 (Qa1 (QgK hδ Q R) (Qgo hδ Q R)) (Qgo hδ P (Q.add hδ R)))
    (Qwr (QgH hδ (P.add hδ Q) R) a1 a2) (Qwr ((QgH hδ P (Q.add hδ R)).trans (show _ = (Q.add hδ R).y * P.y - (Q.add hδ R).x * P.x by clear a1 a2 b1 b2 ex ey; grobner)) b1 b2) ?_
   rw [show (1 + tt P Q) * (1 - tt P Q) * (1 - tt (P.add hδ Q) R) = _ from Qv8 a1 a2, show (1 + tt Q R) * (1 - tt Q R) * (1 - tt P (Q.add hδ R)) = _ from (show _ = (1 + tt Q R) * (1 - tt Q R) * (1 - δ * (Q.add hδ R).x * P.x * (Q.add hδ R).y * P.y) by unfold tt; clear a1 a2 b1 b2 ex ey; grobner).trans (Qv8 b1 b2)]
   clear a1 a2 b1 b2 ex
   simp only [tt]
   refine Eq.trans ?_ (ey.trans ?_)
   · clear ey; grobner
   · clear ey; grobner
def Pt.mul (P : Pt δ) : Nat → Pt δ
 | 0 => Pt.zero
 | n + 1 => (Pt.mul P n).add hδ P
theorem Qmd (P : Pt δ) : Pt.zero.add hδ P = P := by rw [Qli, QgQ]
theorem Qed (P : Pt δ) (m : Nat) : ∀ n, P.mul hδ (m + n) = (P.mul hδ m).add hδ (P.mul hδ n)
 | 0 => by rw [Pt.mul, QgQ]; rfl
 | n + 1 => by
   show (P.mul hδ (m + n)).add hδ P = (P.mul hδ m).add hδ ((P.mul hδ n).add hδ P)
   rw [Qed P m n, QjW]
theorem Qh3 (P : Pt δ) : P.mul hδ 1 = P := Qmd hδ P
theorem QgI (P : Pt δ) (m : Nat) : ∀ n, P.mul hδ (m * n) = (P.mul hδ m).mul hδ n
 | 0 => rfl
 | n + 1 => by
   rw [Nat.mul_succ, Qed, QgI P m n]
   rfl
theorem QtP (P Q : Pt δ) : (P.add hδ Q).add hδ Q.neg = P := by rw [QjW, QvH, QgQ]
end
def Par (s δ : Fp) : Prop := (s = 1 ∧ δ * 121666 = 121665) ∨ (s = -1 ∧ δ * 121665 = 121666)
def Rep {δ : Fp} (s X Z : Fp) (P : Pt δ) : Prop := ∃ k : Fp, k ≠ 0 ∧ X = k * (1 + P.y) ∧ Z = k * s * (1 - P.y)
theorem QhB {s δ : Fp} (h : Par s δ) : s * s = 1 := by
 rcases h with ⟨rfl, _⟩ | ⟨rfl, _⟩ <;> grobner
section
variable {δ : Fp} (hδ : Qg6 δ)
include hδ in
theorem QeD (z : Fp) : 1 - δ * z * z ≠ 0 := by
 intro h
 have h1 : (1 : Fp) * 1 = δ * (z * z) := by grobner
 have := Qit hδ h1
 subst this
 revert h
 grobner
include hδ in
theorem QiD : 1 - δ ≠ 0 := by
 have := QeD hδ 1
 grobner
theorem Qu0 {δ x y y2 k X Z : Fp} (on : x * x + y * y = 1 + δ * x * x * y * y) (h : δ * 121666 = 121665) (hy : y2 * (1 - δ * x * x * y * y) = y * y - x * x) (hX : X = k * (1 + y)) (hZ : Z = k * 1 * (1 - y)) :
 (X + Z) * (X + Z) * ((X - Z) * (X - Z)) = 8 * k * k * k * k * 121666 * (1 - δ * y * y) * (1 - δ * x * x * y * y) * (1 + y2) ∧
 ((X + Z) * (X + Z) - (X - Z) * (X - Z)) * ((X + Z) * (X + Z) + 121665 * ((X + Z) * (X + Z) - (X - Z) * (X - Z))) = 8 * k * k * k * k * 121666 * (1 - δ * y * y) * (1 - δ * x * x * y * y) * 1 * (1 - y2) := by
 have e1 : (X + Z) * (X + Z) = 4 * (k * k) := by rw [hX, hZ]; clear on h hy hX hZ; grobner
 have e2 : (X - Z) * (X - Z) = 4 * (k * k) * (y * y) := by rw [hX, hZ]; clear on h hy hX hZ; grobner
 rw [e1, e2]
 clear hX hZ e1 e2
 constructor
 · have : (1 - δ * y * y) * ((1 - δ * x * x * y * y) * (1 + y2)) = 2 * (y * y) * (1 - δ) := by clear h; grobner
   clear on hy
   grobner
 · have : (1 - δ * y * y) * ((1 - δ * x * x * y * y) * (1 - y2)) = 2 * (1 - y * y) * (1 - δ * y * y) := by clear h; grobner
   clear on hy
   grobner
theorem Qun {δ x y y2 k X Z : Fp} (on : x * x + y * y = 1 + δ * x * x * y * y) (h : δ * 121665 = 121666) (hy : y2 * (1 - δ * x * x * y * y) = y * y - x * x) (hX : X = k * (1 + y)) (hZ : Z = k * (-1) * (1 - y)) :
 (X + Z) * (X + Z) * ((X - Z) * (X - Z)) = -8 * k * k * k * k * 121665 * (1 - δ * y * y) * (1 - δ * x * x * y * y) * (1 + y2) ∧
 ((X + Z) * (X + Z) - (X - Z) * (X - Z)) * ((X + Z) * (X + Z) + 121665 * ((X + Z) * (X + Z) - (X - Z) * (X - Z))) = -8 * k * k * k * k * 121665 * (1 - δ * y * y) * (1 - δ * x * x * y * y) * (-1) * (1 - y2) := by
 have e1 : (X - Z) * (X - Z) = 4 * (k * k) := by rw [hX, hZ]; clear on h hy hX hZ; grobner
 have e2 : (X + Z) * (X + Z) = 4 * (k * k) * (y * y) := by rw [hX, hZ]; clear on h hy hX hZ; grobner
 rw [e1, e2]
 clear hX hZ e1 e2
 constructor
 · have : (1 - δ * y * y) * ((1 - δ * x * x * y * y) * (1 + y2)) = 2 * (y * y) * (1 - δ) := by clear h; grobner
   clear on hy
   grobner
 · have : (1 - δ * y * y) * ((1 - δ * x * x * y * y) * (1 - y2)) = 2 * (1 - y * y) * (1 - δ * y * y) := by clear h; grobner
   clear on hy
   grobner
theorem c8 : (8 : Fp) ≠ 0 := by decide
theorem c8' : (-8 : Fp) ≠ 0 := by decide
theorem c65 : (121665 : Fp) ≠ 0 := by decide
theorem c66 : (121666 : Fp) ≠ 0 := by decide
theorem Qx7 {s X Z : Fp} {P : Pt δ} (hp : Par s δ) (h : Rep s X Z P) :
 Rep s ((X + Z) * (X + Z) * ((X - Z) * (X - Z))) (((X + Z) * (X + Z) - (X - Z) * (X - Z)) * ((X + Z) * (X + Z) + 121665 * ((X + Z) * (X + Z) - (X - Z) * (X - Z)))) (P.add hδ P) := by
 obtain ⟨k, hk, hX, hZ⟩ := h
 have hy := QgH hδ P P
 have n1 : 1 - δ * P.x * P.x * P.y * P.y ≠ 0 := Qgo hδ P P
 have n2 := QeD hδ P.y
 rcases hp with ⟨rfl, hd⟩ | ⟨rfl, hd⟩
 · obtain ⟨a, b⟩ := Qu0 P.on hd (by simpa only [tt] using hy) hX hZ
   exact ⟨_, Qa1 (Qa1 (Qa1 (Qa1 (Qa1 (Qa1 (Qa1 c8 hk) hk) hk) hk) c66) n2) n1, a, b⟩
 · obtain ⟨a, b⟩ := Qun P.on hd (by simpa only [tt] using hy) hX hZ
   exact ⟨_, Qa1 (Qa1 (Qa1 (Qa1 (Qa1 (Qa1 (Qa1 c8' hk) hk) hk) hk) c65) n2) n1, a, b⟩
theorem Qyo {δ x2 y2 x3 y3 yp ym : Fp} (on2 : x2 * x2 + y2 * y2 = 1 + δ * x2 * x2 * y2 * y2) (on3 : x3 * x3 + y3 * y3 = 1 + δ * x3 * x3 * y3 * y3)
 (hp : yp * (1 - δ * x2 * x3 * y2 * y3) = y2 * y3 - x2 * x3) (hm : ym * (1 + δ * x2 * x3 * y2 * y3) = y2 * y3 + x2 * x3) :
 (y2 + y3) * (y2 + y3) * ((1 - δ) * (1 - δ * (y2 * y3) * (y2 * y3))) = (1 + yp) * (1 + ym) * ((1 - δ * x2 * x3 * y2 * y3) * (1 + δ * x2 * x3 * y2 * y3) * (1 - δ * y2 * y2) * (1 - δ * y3 * y3)) ∧
 (y2 - y3) * (y2 - y3) * ((1 - δ) * (1 - δ * (y2 * y3) * (y2 * y3))) = (1 - yp) * (1 - ym) * ((1 - δ * x2 * x3 * y2 * y3) * (1 + δ * x2 * x3 * y2 * y3) * (1 - δ * y2 * y2) * (1 - δ * y3 * y3)) := by
 have u2 : x2 * x2 * (1 - δ * y2 * y2) = 1 - y2 * y2 := by clear on3 hp hm; grobner
 have u3 : x3 * x3 * (1 - δ * y3 * y3) = 1 - y3 * y3 := by clear u2 on2 hp hm; grobner
 have p1 : (1 + yp) * (1 - δ * x2 * x3 * y2 * y3) = (1 - δ * x2 * x3 * y2 * y3) + (y2 * y3 - x2 * x3) := by clear on2 on3 hm u2 u3; grobner
 have m1 : (1 + ym) * (1 + δ * x2 * x3 * y2 * y3) = (1 + δ * x2 * x3 * y2 * y3) + (y2 * y3 + x2 * x3) := by clear on2 on3 u2 u3 hp; grobner
 have p2 : (1 - yp) * (1 - δ * x2 * x3 * y2 * y3) = (1 - δ * x2 * x3 * y2 * y3) - (y2 * y3 - x2 * x3) := by clear on2 on3 hm u2 u3; grobner
 have m2 : (1 - ym) * (1 + δ * x2 * x3 * y2 * y3) = (1 + δ * x2 * x3 * y2 * y3) - (y2 * y3 + x2 * x3) := by clear on2 on3 u2 u3 hp; grobner
 clear on2 on3 hp hm
 constructor
 · have : (1 + yp) * (1 + ym) * ((1 - δ * x2 * x3 * y2 * y3) * (1 + δ * x2 * x3 * y2 * y3) * (1 - δ * y2 * y2) * (1 - δ * y3 * y3)) = ((1 + yp) * (1 - δ * x2 * x3 * y2 * y3)) * ((1 + ym) * (1 + δ * x2 * x3 * y2 * y3)) * ((1 - δ * y2 * y2) * (1 - δ * y3 * y3)) := by clear u2 u3 p1 m1 p2 m2; grobner
   rw [this, p1, m1]
   clear this p1 m1 p2 m2
   grobner
 · have : (1 - yp) * (1 - ym) * ((1 - δ * x2 * x3 * y2 * y3) * (1 + δ * x2 * x3 * y2 * y3) * (1 - δ * y2 * y2) * (1 - δ * y3 * y3)) = ((1 - yp) * (1 - δ * x2 * x3 * y2 * y3)) * ((1 - ym) * (1 + δ * x2 * x3 * y2 * y3)) * ((1 - δ * y2 * y2) * (1 - δ * y3 * y3)) := by clear u2 u3 p1 m1 p2 m2; grobner
   rw [this, p2, m2]
   clear this p1 m1 p2 m2
   grobner
theorem Qvu {s k2 k3 y2 y3 yp ym x1 D E X2 Z2 X3 Z3 w : Fp} (hs : s * s = 1) (hx : x1 * (1 - ym) = s * (1 + ym)) (a : (y2 + y3) * (y2 + y3) * D = (1 + yp) * (1 + ym) * E) (b : (y2 - y3) * (y2 - y3) * D = (1 - yp) * (1 - ym) * E) (hw : D * w = 1)
 (hX2 : X2 = k2 * (1 + y2)) (hZ2 : Z2 = k2 * s * (1 - y2)) (hX3 : X3 = k3 * (1 + y3)) (hZ3 : Z3 = k3 * s * (1 - y3)) :
 ((X3 - Z3) * (X2 + Z2) + (X3 + Z3) * (X2 - Z2)) * ((X3 - Z3) * (X2 + Z2) + (X3 + Z3) * (X2 - Z2)) = 16 * k2 * k2 * k3 * k3 * E * w * (1 + ym) * (1 + yp) ∧
 x1 * (((X3 - Z3) * (X2 + Z2) - (X3 + Z3) * (X2 - Z2)) * ((X3 - Z3) * (X2 + Z2) - (X3 + Z3) * (X2 - Z2))) = 16 * k2 * k2 * k3 * k3 * E * w * (1 + ym) * s * (1 - yp) := by
 have e1 : (X3 - Z3) * (X2 + Z2) + (X3 + Z3) * (X2 - Z2) = 4 * (k2 * k3) * (y2 + y3) := by rw [hX2, hX3, hZ2, hZ3]; clear a b hx hw hX2 hX3 hZ2 hZ3; grobner
 have e2 : (X3 - Z3) * (X2 + Z2) - (X3 + Z3) * (X2 - Z2) = -4 * s * (k2 * k3) * (y2 - y3) := by rw [hX2, hX3, hZ2, hZ3]; clear a b hx hw hX2 hX3 hZ2 hZ3; grobner
 rw [e1, e2]
 clear hX2 hX3 hZ2 hZ3 e1 e2
 have a' : (y2 + y3) * (y2 + y3) = (1 + yp) * (1 + ym) * E * w := by
  have : (y2 + y3) * (y2 + y3) * (D * w) = (1 + yp) * (1 + ym) * E * w := by clear b hx hs hw; grobner
  rw [hw] at this
  clear a b hx hs hw
  grobner
 have b' : (y2 - y3) * (y2 - y3) = (1 - yp) * (1 - ym) * E * w := by
  have : (y2 - y3) * (y2 - y3) * (D * w) = (1 - yp) * (1 - ym) * E * w := by clear a hx hs hw; grobner
  rw [hw] at this
  clear a b hx hs hw
  grobner
 clear a b hw
 constructor
 · clear b' hx
   grobner
 · clear a'
   have : x1 * ((y2 - y3) * (y2 - y3)) = s * (1 + ym) * ((1 - yp) * E * w) := by rw [b', ← hx]; clear b' hs hx; grobner
   clear b' hx
   grobner
theorem c16 : (16 : Fp) ≠ 0 := by decide
theorem Qxc {s X2 Z2 X3 Z3 x1 ym : Fp} {P Q : Pt δ} (hp : Par s δ) (h2 : Rep s X2 Z2 P) (h3 : Rep s X3 Z3 Q) (hm : (Q.add hδ P.neg).y = ym) (hx : x1 * (1 - ym) = s * (1 + ym)) (hym : 1 + ym ≠ 0) :
 Rep s (((X3 - Z3) * (X2 + Z2) + (X3 + Z3) * (X2 - Z2)) * ((X3 - Z3) * (X2 + Z2) + (X3 + Z3) * (X2 - Z2))) (x1 * (((X3 - Z3) * (X2 + Z2) - (X3 + Z3) * (X2 - Z2)) * ((X3 - Z3) * (X2 + Z2) - (X3 + Z3) * (X2 - Z2)))) (P.add hδ Q) := by
 obtain ⟨k2, hk2, hX2, hZ2⟩ := h2
 obtain ⟨k3, hk3, hX3, hZ3⟩ := h3
 have hy := QgH hδ P Q
 have hy' := QgH hδ Q P.neg
 rw [hm] at hy'
 have ne1 : 1 - δ * P.x * Q.x * P.y * Q.y ≠ 0 := Qgo hδ P Q
 have ne2 : 1 + δ * P.x * Q.x * P.y * Q.y ≠ 0 := QgK hδ P Q
 obtain ⟨a, b⟩ := Qyo P.on Q.on (by simpa only [tt] using hy) (ym := ym) (by simp only [tt, Pt.neg] at hy'; clear hX2 hX3 hZ2 hZ3 hy hm hx hk2 hk3 ne1 ne2 hym; grobner)
 have hD : (1 - δ) * (1 - δ * (P.y * Q.y) * (P.y * Q.y)) ≠ 0 := Qa1 (QiD hδ) (QeD hδ _)
 obtain ⟨c, d⟩ := Qvu (QhB hp) hx a b (QaX hD) hX2 hZ2 hX3 hZ3
 refine ⟨_, ?_, c, d⟩
 refine Qa1 (Qa1 (Qa1 (Qa1 (Qa1 (Qa1 (Qa1 c16 hk2) hk2) hk3) hk3) (Qa1 (Qa1 (Qa1 ne1 ne2) (QeD hδ _)) (QeD hδ _))) ?_) hym
 intro h0
 have := QaX hD
 rw [h0] at this
 revert this
 grobner
end
theorem QzO : toF 121665 = 121665 := rfl
section
variable {δ : Fp} (hδ : Qg6 δ)
def LRep (s : Fp) (l : Lad) (P Q : Pt δ) : Prop := Rep s (toF l.x2) (toF l.z2) P ∧ Rep s (toF l.x3) (toF l.z3) Q
theorem Qos {s ym : Fp} {x1 : Nat} {l : Lad} {P Q : Pt δ} (hp : Par s δ) (h : LRep s l P Q) (hm : (Q.add hδ P.neg).y = ym) (hx : toF x1 * (1 - ym) = s * (1 + ym)) (hym : 1 + ym ≠ 0) :
 LRep s (l.step x1) (P.add hδ P) (P.add hδ Q) := by
 have a := Qx7 hδ hp h.1
 have b := Qxc hδ hp h.1 h.2 hm hx hym
 refine ⟨?_, ?_⟩
 · simpa only [Lad.step, Qg5, Qld, Qlb, QzO] using a
 · simpa only [Lad.step, Qg5, Qld, Qlb] using b
theorem Qp3 (P Q : Pt δ) : (Q.add hδ P.neg).y = (P.add hδ Q.neg).y := by
 have a := QgH hδ Q P.neg
 have b := QgH hδ P Q.neg
 have n := Qgo hδ Q P.neg
 apply Qfd n
 rw [a]
 have e : tt Q P.neg = tt P Q.neg := by simp only [tt, Pt.neg]; clear a b n; grobner
 rw [e, b]
 simp only [Pt.neg]
 clear a b n e
 grobner
def kval (K : List UInt8) : Nat → Nat
 | 0 => 0
 | j + 1 => 2 * kval K j + (kbit K (254 - j)).toNat
theorem Qpj (G : Pt δ) (n : Nat) : ((G.mul hδ (n + 1)).add hδ (G.mul hδ n).neg) = G := by
 show (((G.mul hδ n).add hδ G).add hδ (G.mul hδ n).neg) = G
 rw [Qli hδ (G.mul hδ n) G, QtP]
theorem Qsj {s : Fp} {x1 : Nat} {G : Pt δ} (hp : Par s δ) (hx : toF x1 * (1 - G.y) = s * (1 + G.y)) (hy : 1 + G.y ≠ 0) (K : List UInt8) :
 ∀ j, LRep s (Lad.at x1 K j) (G.mul hδ (kval K j)) (G.mul hδ (kval K j + 1))
 | 0 => by
   have hs := QhB hp
   have hy1 : 1 - G.y ≠ 0 := by
    intro h0
    rw [h0] at hx
    have : s * (s * (1 + G.y)) = 0 := by rw [← hx]; clear hx hs hp hy; grobner
    have h1 : 1 + G.y = 0 := by clear hx hp h0 hy; grobner
    exact hy h1
   refine ⟨⟨finv 2, ?_, ?_, ?_⟩, ⟨s * finv (1 - G.y), ?_, ?_, ?_⟩⟩
   · intro h0
     have := QaX QjX
     rw [h0] at this
     revert this
     decide
   · have := QaX QjX
     show (1 : Fp) = finv 2 * (1 + 1)
     grobner
   · show (0 : Fp) = finv 2 * s * (1 - 1)
     grobner
   · intro h0
     have := QaX hy1
     have : s * s = 0 := by
      have h1 : s * (s * finv (1 - G.y)) = 0 := by rw [h0]; clear h0 this hs hx hp hy; grobner
      clear hx hp hy h0
      grobner
     rw [hs] at this
     exact QoK this
   · rw [show G.mul hδ (kval K 0 + 1) = G from Qh3 hδ G]
     show toF x1 = _
     have := QaX hy1
     clear hp hy hy1
     grobner
   · rw [show G.mul hδ (kval K 0 + 1) = G from Qh3 hδ G]
     show (1 : Fp) = _
     have := QaX hy1
     clear hp hy hy1 hx
     grobner
 | j + 1 => by
   have ih := Qsj hp hx hy K j
   have hsub : ((G.mul hδ (kval K j + 1)).add hδ (G.mul hδ (kval K j)).neg).y = G.y := by rw [Qpj]
   have hsub' : ((G.mul hδ (kval K j)).add hδ (G.mul hδ (kval K j + 1)).neg).y = G.y := by rw [Qp3, Qpj]
   have e0 : kval K (j + 1) = 2 * kval K j + (kbit K (254 - j)).toNat := rfl
   rw [e0]
   show LRep s (Lad.round x1 (kbit K (254 - j)) (Lad.at x1 K j)) _ _
   generalize kval K j = n at *
   cases kbit K (254 - j)
   · have := Qos hδ hp ih hsub hx hy
     rw [← Qed, ← Qed] at this
     rw [show 2 * n + false.toNat = n + n by simp; omega, show n + n + 1 = n + (n + 1) by omega]
     exact this
   · have := Qos hδ hp (show LRep s (Lad.at x1 K j).swap (G.mul hδ (n + 1)) (G.mul hδ n) from ⟨ih.2, ih.1⟩) hsub' hx hy
     rw [← Qed, ← Qed] at this
     rw [show 2 * n + true.toNat = n + 1 + n by simp; omega, show n + 1 + n + 1 = n + 1 + (n + 1) by omega]
     exact ⟨this.2, this.1⟩
def Pt.u (s : Fp) (Q : Pt δ) : Fp := if 1 - Q.y = 0 then 0 else s * (1 + Q.y) * finv (1 - Q.y)
theorem QCr {x y d : Fp} (h : x = 0) (on : x * x + y * y = 1 + d * x * x * y * y) : (1 + y) * (1 - y) = 0 := by grobner
theorem QCn {a b : Fp} (h : a = 0) (k : b = 0) (y z t : Fp) : a * y + b * z = 0 * t := by grobner
theorem Qwq {c d i r : Fp} (h : r * r = c * i) (hi : d * i = 1) : d * r * (d * r) = c * d := by grobner
theorem QBX {u a : Fp} (h : u * u + a * u + 1 = 0) : (2 * u + a) * (2 * u + a) = a * a - 4 := by grobner
theorem QzR {u a : Fp} (h : u + 1 = 0) : u * (u * u + a * u + 1) = a - 2 := by grobner
theorem Qzs {u a : Fp} (h : u - 1 = 0) : u * (u * u + a * u + 1) = a + 2 := by grobner
theorem Qlz {a : Nat} (ha : a = 0) (n m : Nat) (h : 0 < n) : a ^ n % m = 0 := by rw [ha, Nat.zero_pow h, QEK]
theorem Qsm (a : Nat) (ha : a = 0) : pinv a = 0 := Qlz ha _ _ (by unfold P25; omega)
theorem QlV : finv 0 = 0 := by
 unfold finv
 rw [Qsm _ (show (0 : Fp).val = 0 from rfl)]
 rfl
theorem QoS (n : Nat) : toF (pinv n) = finv (toF n) := by
 show toF (n ^ (P25 - 2) % P25) = toF ((n % P25) ^ (P25 - 2) % P25)
 rw [← Nat.pow_mod]
theorem QCa {s X Z : Fp} {Q : Pt δ} (hp : Par s δ) (h : Rep s X Z Q) : X * finv Z = Q.u s := by
 obtain ⟨k, hk, hX, hZ⟩ := h
 have hs := QhB hp
 unfold Pt.u
 split
 · rename_i h0
   rw [h0] at hZ
   have : Z = 0 := by rw [hZ]; clear hs hp hX hZ h0; grobner
   rw [this, QlV]
   clear hs hp hX hZ h0 this
   grobner
 · rename_i h0
   have hsn : s ≠ 0 := by rintro rfl; revert hs; decide
   have hz : Z ≠ 0 := by rw [hZ]; exact Qa1 (Qa1 hk hsn) h0
   have i1 := QaX hz
   have i2 := QaX h0
   have i3 := QaX hk
   apply Qfd hz
   have e1 : X * finv Z * Z = X := by clear hX hZ hs hp i2 i3; grobner
   have e2 : s * (1 + Q.y) * finv (1 - Q.y) * Z = k * (1 + Q.y) := by rw [hZ]; clear hX hZ hp i1 i3 e1; grobner
   rw [e1, e2, hX]
def multN (x1 : Nat) (K : List UInt8) : Nat := fmul (Lad.at x1 K 255).x2 (pinv (Lad.at x1 K 255).z2)
theorem Qnn {s : Fp} {x1 : Nat} {G : Pt δ} (hp : Par s δ) (hx : toF x1 * (1 - G.y) = s * (1 + G.y)) (hy : 1 + G.y ≠ 0) (K : List UInt8) :
 toF (multN x1 K) = (G.mul hδ (kval K 255)).u s := by
 rw [multN, Qg5, QoS]
 exact QCa hp (Qsj hδ hp hx hy K 255).1
include hδ in
theorem QrL {s : Fp} (hp : Par s δ) {Q : Pt δ} : Q.u s = 0 ↔ Q.x = 0 := by
 have hs := QhB hp
 have hsn : s ≠ 0 := by rintro rfl; revert hs; decide
 have on := Q.on
 unfold Pt.u
 constructor
 · intro h
   have hy : Q.y * Q.y = 1 := by
    split at h
    · rename_i h0
      clear h on hs hp hsn
      grobner
    · rename_i h0
      have hf : finv (1 - Q.y) ≠ 0 := by
       intro h1
       have := QaX h0
       rw [h1] at this
       clear h on hs hp
       have h2 : (1 : Fp) = 0 := by grobner
       exact QoK h2
      rcases Qdz h with h1 | h1
      · rcases Qdz h1 with h2 | h2
        · exact absurd h2 hsn
        · clear h h1 on hs hp hsn hf
          grobner
      · exact absurd h1 hf
   have : Q.x * Q.x * (1 - δ) = 0 := by clear h hs hp hsn; grobner
   rcases Qdz this with h1 | h1
   · exact (Qdz h1).elim id id
   · exact absurd h1 (QiD hδ)
 · intro h
   have : (1 + Q.y) * (1 - Q.y) = 0 := QCr h on
   rcases Qdz this with h1 | h1
   · split
     · rfl
     · rw [h1]
       clear this on hs hp hsn h h1
       grobner
   · rw [if_pos h1]
theorem Qo7 {Q : Pt δ} (h : Q.x = 0) : ∀ n, (Q.mul hδ n).x = 0
 | 0 => rfl
 | n + 1 => by
   have ih := Qo7 h n
   apply Qfd (QgK hδ (Q.mul hδ n) Q)
   exact (Qjs hδ (Q.mul hδ n) Q).trans (QCn ih h _ _ _)
theorem QwX {s : Fp} (hp : Par s δ) {Q : Pt δ} (h : Q.u s ≠ 0) : Q.u s * (1 - Q.y) = s * (1 + Q.y) ∧ 1 + Q.y ≠ 0 := by
 have hs := QhB hp
 unfold Pt.u at h ⊢
 split at h
 · exact absurd rfl h
 · rename_i h0
   have := QaX h0
   rw [if_neg h0]
   refine ⟨by clear h hs hp; grobner, fun h1 => h ?_⟩
   rw [h1]
   clear h hs hp this
   grobner
end
theorem Qib (a : Fp) (n : Nat) (h : n < 2 ^ 256) : fpow a n = toF (pwm P25 256 a.val n) := by rw [Qoh P25 256 a.val n h, QkK]; rfl
theorem h66 : fpow 121666 Hp = 1 := by rw [Qib _ _ (by decide)]; decide +kernel
theorem h65 : fpow 121665 Hp = -1 := by rw [Qib _ _ (by decide)]; decide +kernel
theorem h2 : fpow 2 Hp = -1 := by rw [Qib _ _ (by decide)]; decide +kernel
theorem h4 : fpow 4 Hp = 1 := by rw [Qib _ _ (by decide)]; decide +kernel
theorem hm1 : (1 : Fp) ≠ -1 := by decide
theorem QjQ (r : Fp) : r * r ≠ 121665 * 121666 := by
 intro h
 have h0 : (121665 * 121666 : Fp) ≠ 0 := Qa1 c65 c66
 have := Qs8 h0 ⟨r, h⟩
 rw [QcW, h65, h66] at this
 revert this
 decide
theorem Qxy : ∃ i : Fp, i * i = -1 := ⟨fpow 2 Qp, by rw [← QfY, show Qp + Qp = Hp by decide, h2]⟩
theorem Qy7 : Qg6 (121665 * finv 121666) := by
 intro r h
 have := QaX c66
 exact QjQ (121666 * r) (Qwq h this)
theorem Qzv : Qg6 (121666 * finv 121665) := by
 intro r h
 have := QaX c65
 exact QjQ (121665 * r) ((Qwq h this).trans (by decide))
theorem par1 : Par 1 (121665 * finv 121666) := .inl ⟨rfl, by have := QaX c66; grobner⟩
theorem par2 : Par (-1) (121666 * finv 121665) := .inr ⟨rfl, by have := QaX c65; grobner⟩
theorem Qx1 (u : Fp) : u * u + 486662 * u + 1 ≠ 0 := by
 intro h
 have e : (2 * u + 486662) * (2 * u + 486662) = 4 * 4 * (121665 * 121666) := (QBX h).trans (by decide)
 have n0 : (4 * 4 * (121665 * 121666) : Fp) ≠ 0 := by decide
 have := Qs8 n0 ⟨_, e⟩
 rw [QcW, QcW, QcW, h4, h65, h66] at this
 revert this
 decide
theorem Qxj {u h m n r d : Fp} (hh : h = u * u + 486662 * u + 1) (hn : h * n = 1) (hm : (u + 1) * m = 1) (hr : r * r = 121666 * (u * h)) (hd : d * 121666 = 121665) :
 2 * r * n * (2 * r * n) + (u - 1) * m * ((u - 1) * m) = 1 + d * (2 * r * n) * (2 * r * n) * ((u - 1) * m) * ((u - 1) * m) := by
 have ex : 2 * r * n * (2 * r * n) = 4 * 121666 * u * n := by clear hm hd hh; grobner
 have ex2 : d * (2 * r * n) * (2 * r * n) = 4 * 121665 * u * n := by clear hm hh hn hr; grobner
 rw [ex, ex2]
 have key : 4 * 121666 * u * ((u + 1) * (u + 1)) + (u - 1) * (u - 1) * h = h * ((u + 1) * (u + 1)) + 4 * 121665 * u * ((u - 1) * (u - 1)) := by rw [hh]; clear hn hm hr hd ex ex2 hh; grobner
 have k2 : (4 * 121666 * u * ((u + 1) * (u + 1)) + (u - 1) * (u - 1) * h) * (n * (m * m)) = (h * ((u + 1) * (u + 1)) + 4 * 121665 * u * ((u - 1) * (u - 1))) * (n * (m * m)) := by rw [key]
 have hm2 : (u + 1) * (u + 1) * (m * m) = 1 := by clear key k2 ex ex2 hn hr hd hh; grobner
 clear key ex ex2 hr hd hh
 generalize (u + 1) * (u + 1) = v at *
 clear hm
 grobner
theorem Qxz {u h m n r d : Fp} (hh : h = u * u + 486662 * u + 1) (hn : h * n = 1) (hm : (u - 1) * m = 1) (hr : r * r = 121665 * (u * h)) (hd : d * 121665 = 121666) :
 2 * r * n * (2 * r * n) + (u + 1) * m * ((u + 1) * m) = 1 + d * (2 * r * n) * (2 * r * n) * ((u + 1) * m) * ((u + 1) * m) := by
 have ex : 2 * r * n * (2 * r * n) = 4 * 121665 * u * n := by clear hm hd hh; grobner
 have ex2 : d * (2 * r * n) * (2 * r * n) = 4 * 121666 * u * n := by clear hm hh hn hr; grobner
 rw [ex, ex2]
 have key : 4 * 121665 * u * ((u - 1) * (u - 1)) + (u + 1) * (u + 1) * h = h * ((u - 1) * (u - 1)) + 4 * 121666 * u * ((u + 1) * (u + 1)) := by rw [hh]; clear hn hm hr hd ex ex2 hh; grobner
 have k2 : (4 * 121665 * u * ((u - 1) * (u - 1)) + (u + 1) * (u + 1) * h) * (n * (m * m)) = (h * ((u - 1) * (u - 1)) + 4 * 121666 * u * ((u + 1) * (u + 1))) * (n * (m * m)) := by rw [key]
 have hm2 : (u - 1) * (u - 1) * (m * m) = 1 := by clear key k2 ex ex2 hn hr hd hh; grobner
 clear key ex ex2 hr hd hh
 generalize (u - 1) * (u - 1) = v at *
 clear hm
 grobner
theorem QlG {u : Fp} (hu : u ≠ 0) : ∃ (s δ : Fp) (_ : Qg6 δ) (_ : Par s δ) (P : Pt δ), u * (1 - P.y) = s * (1 + P.y) ∧ 1 + P.y ≠ 0 := by
 obtain ⟨i, hi⟩ := Qxy
 have hq := Qx1 u
 have hg : u * (u * u + 486662 * u + 1) ≠ 0 := Qa1 hu hq
 have hn := QaX hq
 rcases QsK hg with h1 | h1
 · obtain ⟨r, hr⟩ := Qrs hi (show fpow (121666 * (u * (u * u + 486662 * u + 1))) Hp = 1 by rw [QcW, h66, h1]; decide)
   have hu1 : u + 1 ≠ 0 := by
    intro h0
    have : u * (u * u + 486662 * u + 1) = 4 * 121665 := (QzR h0).trans (by decide)
    rw [this, QcW, h4, h65] at h1
    revert h1
    decide
   have hm := QaX hu1
   refine ⟨1, _, Qy7, par1, ⟨_, _, Qxj rfl hn hm hr (by have := QaX c66; clear hr hm hn h1 hi; grobner)⟩, ?_, ?_⟩
   · show u * (1 - (u - 1) * finv (u + 1)) = 1 * (1 + (u - 1) * finv (u + 1))
     clear hr hn h1 hi
     grobner
   · show 1 + (u - 1) * finv (u + 1) ≠ 0
     have e : 1 + (u - 1) * finv (u + 1) = 2 * u * finv (u + 1) := by clear hr hn h1 hi; grobner
     rw [e]
     refine Qa1 (Qa1 QjX hu) fun h0 => ?_
     rw [h0] at hm
     exact QoK (by clear hr hn h1 hi e; grobner)
 · obtain ⟨r, hr⟩ := Qrs hi (show fpow (121665 * (u * (u * u + 486662 * u + 1))) Hp = 1 by rw [QcW, h65, h1]; decide)
   have hu1 : u - 1 ≠ 0 := by
    intro h0
    have : u * (u * u + 486662 * u + 1) = 4 * 121666 := (Qzs h0).trans (by decide)
    rw [this, QcW, h4, h66] at h1
    revert h1
    decide
   have hm := QaX hu1
   refine ⟨-1, _, Qzv, par2, ⟨_, _, Qxz rfl hn hm hr (by have := QaX c65; clear hr hm hn h1 hi; grobner)⟩, ?_, ?_⟩
   · show u * (1 - (u + 1) * finv (u - 1)) = -1 * (1 + (u + 1) * finv (u - 1))
     clear hr hn h1 hi
     grobner
   · show 1 + (u + 1) * finv (u - 1) ≠ 0
     have e : 1 + (u + 1) * finv (u - 1) = 2 * u * finv (u - 1) := by clear hr hn h1 hi; grobner
     rw [e]
     refine Qa1 (Qa1 QjX hu) fun h0 => ?_
     rw [h0] at hm
     exact QoK (by clear hr hn h1 hi e; grobner)
theorem Qh2 (x1 : Nat) (K : List UInt8) : multN x1 K < P25 := QDg _ Qbo
theorem QlW {x1 : Nat} (h : toF x1 = 0) (K : List UInt8) : ∀ j, toF (Lad.at x1 K j).x2 * toF (Lad.at x1 K j).z2 = 0 ∧ toF (Lad.at x1 K j).x3 * toF (Lad.at x1 K j).z3 = 0
 | 0 => ⟨by show toF 1 * toF 0 = 0; rw [QgD]; grobner, by show toF x1 * toF 1 = 0; rw [h]; grobner⟩
 | j + 1 => by
   have st : ∀ l : Lad, toF l.x2 * toF l.z2 = 0 → toF (l.step x1).x2 * toF (l.step x1).z2 = 0 ∧ toF (l.step x1).x3 * toF (l.step x1).z3 = 0 := by
    intro l hl
    simp only [Lad.step, Qg5, Qld, Qlb, h]
    generalize toF l.x2 = a at *
    generalize toF l.z2 = b at *
    generalize toF l.x3 = c at *
    generalize toF l.z3 = d at *
    constructor
    · have e : (a + b) * (a + b) - (a - b) * (a - b) = 0 := by grobner
      rw [e]
      clear e hl
      grobner
    · clear hl
      grobner
   have ih := QlW h K j
   have e0 : Lad.at x1 K (j + 1) = Lad.round x1 (kbit K (254 - j)) (Lad.at x1 K j) := rfl
   rw [e0]
   unfold Lad.round
   cases kbit K (254 - j)
   · exact st _ ih.1
   · have := st (Lad.at x1 K j).swap ih.2
     exact ⟨this.2, this.1⟩
theorem QsE {n : Nat} (hn : n < P25) (h : toF n = 0) : n = 0 := by
 have := QiC.1 h
 rwa [QC5 hn] at this
theorem Qdu {x1 : Nat} (h : toF x1 = 0) (K : List UInt8) : multN x1 K = 0 := by
 apply QsE (Qh2 _ _)
 rw [multN, Qg5, QoS]
 rcases Qdz (QlW h K 255).1 with h0 | h0
 · rw [h0]
   grobner
 · rw [h0, QlV]
   grobner
theorem multN_comm (x1 : Nat) (K L : List UInt8) : multN (multN x1 K) L = multN (multN x1 L) K := by
 by_cases h0 : toF x1 = 0
 · rw [Qdu h0, Qdu h0, Qdu QgD, Qdu QgD]
 · obtain ⟨s, δ, hδ, hp, G, hx, hy⟩ := QlG h0
   have half : ∀ K L, toF (multN (multN x1 K) L) = (G.mul hδ (kval K 255 * kval L 255)).u s := by
    intro K L
    have e1 := Qnn hδ hp hx hy K
    rw [QgI]
    by_cases h1 : toF (multN x1 K) = 0
    · rw [Qdu h1]
      have h2 : (G.mul hδ (kval K 255)).x = 0 := (QrL hδ hp).1 (by rw [← e1]; exact h1)
      exact ((QrL hδ hp).2 (Qo7 hδ h2 _)).symm
    · have h2 : (G.mul hδ (kval K 255)).u s ≠ 0 := by rw [← e1]; exact h1
      obtain ⟨b1, b2⟩ := QwX hp h2
      exact Qnn hδ hp (by rw [e1]; exact b1) b2 L
   have := (half K L).trans ((by rw [QDQ] : _ = _).trans (half L K).symm)
   have := Qyd this
   rwa [QC5 (Qh2 _ _), QC5 (Qh2 _ _)] at this
end Ed
end Go.Proofs.YtadfeclgoclalaaGreat
namespace Go.Proofs.YtadfeclgoclalaaGreat
namespace Ed
theorem Qtx (K : List UInt8) (hK : K.length = 32) : ∀ j, j ≤ 255 → kval K j = num K / 2 ^ (255 - j) % 2 ^ j
 | 0, _ => by rw [QEX, QE0]; rfl
 | j + 1, hj => by
   have ih := Qtx K hK j (by omega)
   have hb := Qr0 K (254 - j) (by omega)
   have e1 : (kbit K (254 - j)).toNat = num K / 2 ^ (254 - j) % 2 := by
    unfold kbit
    rw [hb]
    rcases Nat.mod_two_eq_zero_or_one ((K.getD ((254 - j) / 8) 0).toNat / 2 ^ ((254 - j) % 8)) with h | h <;> rw [h] <;> rfl
   show 2 * kval K j + (kbit K (254 - j)).toNat = _
   rw [e1, ih, show 255 - (j + 1) = 254 - j by omega, show 255 - j = (254 - j) + 1 by omega, QDJ, ← QDu, QDJ]
   generalize num K / 2 ^ (254 - j) = X
   rw [QDQ (2 ^ j) 2, Nat.mod_mul]
   omega
theorem Qug (K : List UInt8) (hK : K.length = 32) : kval K 255 = num K % 2 ^ 255 := by
 rw [Qtx K hK 255 (QCX _)]
 simp
theorem QrK (bs : List UInt8) : num (QaT bs) % 8 = 0 ∨ bs.length ≠ 32 := by
 by_cases h : bs.length = 32
 · left
   have h1 := Qoi (QaT bs) 0 (by rw [QbH]; omega)
   rw [QEu] at h1
   have h2 : (QaT bs).getD 0 0 = bs.getD 0 0 &&& 248 := by
    rw [QaT, if_pos h, QCS, List.getElem?_set_ne (by omega), List.getElem?_set_self (by omega)]
    rfl
   have h3 := (Qia ⟨(bs.getD 0 0).toNat, (bs.getD 0 0).toNat_lt⟩).1
   simp only at h3
   rw [h1, h2, UInt8.toNat_and, show QE1 248 = 248 from rfl, h3]
   omega
 · exact .inr h
theorem QtF (bs : List UInt8) (h : bs.length = 32) : 2 ^ 254 ≤ num (QaT bs) ∧ num (QaT bs) < 2 ^ 255 := by
 have h1 := Qkp (QaT bs) 31 (by rw [QbH]; omega)
 rw [QCZ (by rw [QbH]; omega)] at h1
 have h2 : (QaT bs).getD 31 0 = (bs.getD 31 0 &&& 127) ||| 64 := by
  rw [QaT, if_pos h, QCS, List.getElem?_set_self (by simp; omega)]
  rfl
 have h3 := (Qia ⟨(bs.getD 31 0).toNat, (bs.getD 31 0).toNat_lt⟩).2
 simp only at h3
 have h4 : ((QaT bs).getD 31 0).toNat = (bs.getD 31 0).toNat % 64 + 64 := by
  rw [h2, UInt8.toNat_or, UInt8.toNat_and, show QE1 127 = 127 from rfl, show QE1 64 = 64 from rfl, h3]
 have h5 := QlT ((QaT bs).take 31)
 rw [QDe, QbH] at h5
 rw [h4] at h1
 have e : (256 : Nat) ^ 31 * 64 = 2 ^ 254 := by decide
 have e2 : (256 : Nat) ^ 31 * 128 = 2 ^ 255 := by decide
 have h6 : (256 : Nat) ^ 31 * 64 ≤ 256 ^ 31 * ((bs.getD 31 0).toNat % 64 + 64) := QEe _ (by omega)
 have h7 : (256 : Nat) ^ 31 * ((bs.getD 31 0).toNat % 64 + 64) + 256 ^ 31 ≤ 256 ^ 31 * 128 := by
  have hy : (bs.getD 31 0).toNat % 64 + 64 + 1 ≤ 128 := by omega
  generalize (bs.getD 31 0).toNat % 64 + 64 = y at hy
  have := QEe (256 ^ 31) hy
  rw [QD1, QEv] at this
  exact this
 rw [QDO (by omega)] at h5
 omega
def ellN : Nat := 7237005577332262213973186563042994240857116359379907606001950938285454250989
def Kl : List UInt8 := [237, 211, 245, 92, 26, 99, 18, 88, 214, 156, 247, 162, 222, 249, 222, 20, 0, 0, 0, 0, 0, 0, 0, 0, 0, 0, 0, 0, 0, 0, 0, 16]
theorem Qzx : kval Kl 255 = ellN := by decide +kernel
set_option maxRecDepth 100000 in
theorem ord9 : (Lad.at 9 Kl 255).z2 = 0 := by decide +kernel
theorem Qzq {x y d : Fp} (h : x = 0) (on : x * x + y * y = 1 + d * x * x * y * y) : y * y = 1 := by grobner
theorem QBy {x y d : Fp} (h : x = 0) : d * x * x * y * y = 0 := by grobner
theorem Qzg {x y t : Fp} (h : x = 0) : x * y + x * y = 0 * t := by grobner
theorem Qzy {x y : Fp} (h : x = 0) (hy : y * y = 1) : y * y - x * x = 1 := by grobner
section
variable {δ : Fp} (hδ : Qg6 δ)
include hδ in
theorem Qyp {Q : Pt δ} (h : 1 - Q.y = 0) : Q = Pt.zero := by
 have on := Q.on
 have hy : Q.y = 1 := by clear on; grobner
 have : Q.x * Q.x * (1 - δ) = 0 := by clear h; grobner
 have hx : Q.x = 0 := by
  rcases Qdz this with h1 | h1
  · exact (Qdz h1).elim id id
  · exact absurd h1 (QiD hδ)
 exact Pt.ext hx hy
theorem Qt1 {Q : Pt δ} (h : Q.x = 0) : Q.add hδ Q = Pt.zero := by
 have hy : Q.y * Q.y = 1 := Qzq h Q.on
 have ht : tt Q Q = 0 := QBy h
 apply Pt.ext
 · apply Qfd (QgK hδ Q Q)
   rw [Qjs]
   exact Qzg h
 · apply Qfd (Qgo hδ Q Q)
   rw [QgH, ht]
   exact (Qzy h hy).trans (show (1 : Fp) = 1 * (1 - 0) by decide)
theorem zero_mul (n : Nat) : (Pt.zero : Pt δ).mul hδ n = Pt.zero := by
 induction n with
 | zero => rfl
 | succ n ih => show ((Pt.zero : Pt δ).mul hδ n).add hδ Pt.zero = Pt.zero; rw [ih, QgQ]
structure Ell (L : Nat) : Prop where
 kl : kval Kl 255 = L
 inv : ∀ n, n % L ≠ 0 → ∃ m, n * m % L = 1
 dbl : ∀ n, n % L ≠ 0 → (n + n) % L ≠ 0
 one : 1 % L ≠ 0
 clamp : ∀ bs : List UInt8, bs.length = 32 → kval (QaT bs) 255 % L ≠ 0
theorem Qw0 {L : Nat} (hL : Ell L) {s : Fp} {G : Pt δ} (hp : Par s δ) (hx : toF 9 * (1 - G.y) = s * (1 + G.y)) (hy : 1 + G.y ≠ 0) : G.mul hδ L = Pt.zero := by
 have h := (Qsj hδ hp hx hy Kl 255).1
 rw [hL.kl] at h
 obtain ⟨k, hk, _, hZ⟩ := h
 rw [ord9, QgD] at hZ
 have hs := QhB hp
 have hsn : s ≠ 0 := by rintro rfl; revert hs; decide
 rcases Qdz hZ.symm with h1 | h1
 · exact absurd h1 (Qa1 hk hsn)
 · exact Qyp hδ h1
theorem Qlw {L : Nat} (hL : Ell L) {s : Fp} {G : Pt δ} (hp : Par s δ) (hx : toF 9 * (1 - G.y) = s * (1 + G.y)) (hy : 1 + G.y ≠ 0) {n : Nat} (hn : n % L ≠ 0) : (G.mul hδ n).x ≠ 0 := by
 intro h0
 have h1 := Qt1 hδ h0
 rw [← Qed] at h1
 obtain ⟨m, hm⟩ := hL.inv _ (hL.dbl n hn)
 have h3 : G.mul hδ ((n + n) * m) = Pt.zero := by rw [QgI, h1, zero_mul]
 have h4 : (n + n) * m = L * ((n + n) * m / L) + 1 := by
  have := QDP ((n + n) * m) L
  omega
 rw [h4, Qed, QgI, Qw0 hδ hL hp hx hy, zero_mul, Qmd, Qh3] at h3
 have hs := QhB hp
 rw [h3] at hx hy
 have h5 : s * 2 = 0 := by
  have : toF 9 * (1 - 1) = s * (1 + 1) := hx
  clear hx hy hs hp h0 h1
  grobner
 rcases Qdz h5 with h6 | h6
 · subst h6
   revert hs
   decide
 · exact QjX h6
end
theorem QpV {p n : Nat} (h : ∀ a, a % p ≠ 0 → a ^ (p - 1) % p = 1) (hp : 2 ≤ p) (hn : n % p ≠ 0) : ∃ m, n * m % p = 1 := by
 refine ⟨n ^ (p - 2), ?_⟩
 rw [← QEB, show (p - 2).succ = p - 1 by omega]
 exact h n hn
theorem Qu1 (a : Nat) (h : a % ellN ≠ 0) : a ^ (ellN - 1) % ellN = 1 := by
 have := QBT.2 a (by unfold ellN at h; exact h)
 unfold ellN
 exact this
theorem QnZ {n : Nat} (hn : n % ellN ≠ 0) : ∃ m, n * m % ellN = 1 := QpV (p := ellN) Qu1 (by unfold ellN; omega) hn
theorem QtB (bs : List UInt8) (h : bs.length = 32) : kval (QaT bs) 255 % ellN ≠ 0 := by
 rw [Qug _ (QbH bs)]
 have h1 := QtF bs h
 have h2 := (QrK bs).resolve_right (fun e => e h)
 rw [QC5 h1.2]
 intro h0
 obtain ⟨m, hm⟩ : ∃ m, num (QaT bs) = 8 * m := ⟨num (QaT bs) / 8, by omega⟩
 rw [hm] at h0 h1
 have h3 : m < ellN := by unfold ellN; omega
 have h4 : m % ellN ≠ 0 := by rw [QC5 h3]; omega
 obtain ⟨r, hr⟩ := QnZ h4
 have h5 : (8 * m) * r % ellN = 0 := by rw [QD4, h0, QEP, QEK]
 rw [QD0, QD4, hr] at h5
 revert h5
 decide
theorem QyJ (n : Nat) (h : n % ellN ≠ 0) : (n + n) % ellN ≠ 0 := by
 intro h0
 obtain ⟨r, hr⟩ := QnZ (n := 2) (by decide)
 have h1 : n * (2 * r) % ellN = 0 := by rw [← QD0, Nat.mul_two, QD4, h0, QEP, QEK]
 rw [QD4, hr, QEv, QEf] at h1
 exact h h1
theorem ell : ∃ L, Ell L :=
 ⟨ellN, Qzx, fun _ h => QnZ h, QyJ, by decide, QtB⟩
theorem Ell.prod {L n m : Nat} (hL : Ell L) (hn : n % L ≠ 0) (hm : m % L ≠ 0) : n * m % L ≠ 0 := by
 intro h0
 obtain ⟨r, hr⟩ := hL.inv n hn
 have h1 : n * r * m % L = 0 := by rw [show n * r * m = n * m * r by rw [QD0, QDQ r m, QD0], QD4, h0, QEP, QEK]
 rw [QD4, hr, Nat.one_mul, QEf] at h1
 exact hm h1
def From9 (q : Nat) : Prop := q < P25 ∧ ∃ (L : Nat) (_ : Ell L) (s δ : Fp) (hδ : Qg6 δ) (_ : Par s δ) (G : Pt δ) (n : Nat), toF 9 * (1 - G.y) = s * (1 + G.y) ∧ 1 + G.y ≠ 0 ∧ n % L ≠ 0 ∧ toF q = (G.mul hδ n).u s
theorem from9_ne {q : Nat} (h : From9 q) : q ≠ 0 := by
 obtain ⟨_, L, hL, s, δ, hδ, hp, G, n, hx, hy, hn, he⟩ := h
 rintro rfl
 exact Qlw hδ hL hp hx hy hn ((QrL hδ hp).1 he.symm)
theorem from9_nine : From9 9 := by
 obtain ⟨s, δ, hδ, hp, G, hx, hy⟩ := QlG (u := toF 9) (by decide)
 obtain ⟨L, hL⟩ := ell
 refine ⟨by decide, L, hL, s, δ, hδ, hp, G, 1, hx, hy, hL.one, ?_⟩
 rw [Qh3]
 have h1 : 1 - G.y ≠ 0 := by
  intro h0
  have hs := QhB hp
  have hsn : s ≠ 0 := by rintro rfl; revert hs; decide
  rw [h0] at hx
  have : s * (1 + G.y) = 0 := by rw [← hx]; clear hx hs hp hy; grobner
  exact Qa1 hsn hy this
 unfold Pt.u
 rw [if_neg h1, ← hx]
 have := QaX h1
 clear hx hy hp h1
 grobner
theorem from9_step {q : Nat} (h : From9 q) (ks : List UInt8) (hk : ks.length = 32) : From9 (multN q (QaT ks)) := by
 have hne := from9_ne h
 obtain ⟨hq, L, hL, s, δ, hδ, hp, G, n, hx, hy, hn, he⟩ := h
 have h0 : toF q ≠ 0 := fun h => hne (QsE hq h)
 rw [he] at h0
 obtain ⟨b1, b2⟩ := QwX hp h0
 refine ⟨Qh2 _ _, L, hL, s, δ, hδ, hp, G, n * kval (QaT ks) 255, hx, hy, hL.prod hn (hL.clamp ks hk), ?_⟩
 rw [QgI]
 exact Qnn hδ hp (by rw [he]; exact b1) b2 (QaT ks)
end Ed
end Go.Proofs.YtadfeclgoclalaaGreat
namespace Go.Proofs.YtadfeclgoclalaaGreat
open Go.RowKit
open Go.BigFrame
section
variable {ops : Array Oper} {rest : List Oper} {o : Oper} {a : Act} {w : World} {Q : Exit → Act → World → Prop}
end
theorem QuD (ks : List UInt8) (q : Nat) (h : q < P25) : QhU ks (nb q) = Ed.multN q (QaT ks) := by
 rw [QhU, Qpc q h]
 rfl
theorem Qg7 (ks : List UInt8) (q : Nat) (hk : ks.length = 32) (h : q < P25) : QbF ks (nb q) = nb (Ed.multN q (QaT ks)) ∧ Qbe ks (nb q) = if Ed.multN q (QaT ks) = 0 then 5 else 0 := by
 unfold QbF Qbe
 rw [QuD ks q h, if_pos ⟨hk, Qcd q⟩, if_pos ⟨hk, Qcd q⟩]
 exact ⟨rfl, rfl⟩
theorem QzL : 9 < P25 := by decide
end Go.Proofs.YtadfeclgoclalaaGreat
namespace Go.Proofs.YtadfeclgoclalaaGreat
open Go.RowKit
open Go.BigFrame
set_option maxRecDepth 100000 in
set_option maxHeartbeats 4000000 in
theorem Qsb (A B : Option Addr) (n c m d : Nat) (us : List UInt8) (ps : List (List UInt8)) (w : World) (hu : RdB w A n us) (hp : Parts w (fun _ => False) B m ps) (hn : n ≤ 140737488355328) (hm : m ≤ 140737488355328) :
 Calls Tryz.prog 53 #[.slice A n c, .slice B m d] w fun e w' => e = .returned (.tuple #[.agg ((QcD us ps).1.map W8).toArray, .int .i64 ((QcD us ps).2 : Nat)]) ∧ Later w w' := by
 have hul := hu.len
 have hpl := hp.len
 have B0 := Qbg w 31 (QCK 32 (Value.int .u8 0))
 have cU := hid (fun w h => QoF A n c us w h hn)
 by_cases hn32 : n = 32
 · subst hn32
   have eU : Qb5 us = 0 := by rw [Qb5, if_pos (by omega)]
   rw [eU] at cU
   have cB : Hid (∀ w, Calls Tryz.prog 22 #[NN (Qcs us)] w fun e w' => e = .returned (.agg ((nb (Qcs us)).map W8).toArray) ∧ Later w w') := hid (by
    intro w
    have := QiT (Qcs us) (QnS us) w
    rwa [QC5 (Qyb us), BB] at this)
   have hR := hid (fun (h : ∀ p ∈ ps, p.length = 32) => show QcD us ps = Qew ps (nb (Qcs us)) by rw [QcD, if_pos ⟨hul, h⟩])
   have hbad := hid (fun k h hk => QpP us ps k h hk)
   generalize hCR : QcD us ps = CR at *
   generalize Qcs us = x1 at *
   go_enter Tryz.func53, Tryz.ntmps53
   go_wp2_with fail
   generalize hW : w.alloc _ = w0
   replace B0 : Bag w w0 [(w.heap.size, 31, QCK 32 (Value.int .u8 0))] := by rw [← hW]; exact Qbg w 31 (QCK 32 (Value.int .u8 0))
   clear hW
   (with_reducible refine (cU.out _ (hu.later B0.lat)).mono ?_); rintro e w1 ⟨rfl, j1⟩
   go_wp2_with (first
    | (refine Qar rfl rfl _ _ rfl (Blk.new w1 _ (QCK 8 (.int .u32 0))) rfl rfl rfl ?_; intro w2 hb2 ho2)
    | fail)
   have B1 := B0.push (j1.trans (Qaa w1 _)) j1.size ho2 hb2
   clear j1 hb2 ho2 B0 cU hCR
   generalize w1.heap.size = g6 at *
   go_loopw [8] (fun i wr => ∃ k : Nat, k ≤ m ∧ i = .int .i64 k ∧ Hid (∀ j, j < k → (ps.getD j []).length = 32) ∧ Bag w wr [(g6, 81, NL x1), (w.heap.size, 31, QCK 32 (Value.int .u8 0))]) (fun i _ => m - (intOf i).toNat)
   case atStart => exact ⟨0, by omega, rfl, hid (fun j h => by omega), B1⟩
   case round =>
    clear B1
    obtain ⟨k, hk, rfl, hall, B1⟩ := hrel
    by_cases hlt : k < m
    · obtain ⟨b, o, Ak, nk, ck, rfl, hb, hck, hcap, hrd, _⟩ := (hp.later B1.lat).at_ hlt
      have hlen := hrd.len
      have hb2 := hid (fun h => hbad.out k (by omega) h)
      rw [hlen] at hb2
      have hstep : Hid (nk = 32 → ∀ j, j < k + 1 → (ps.getD j []).length = 32) := hid (fun h j hj => by
       by_cases e : j = k
       · rw [e, hlen, h]
       · exact hall.out j (by omega))
      clear hrd hlen
      by_cases h32 : nk = 32
      · have hne : ((nk : Int) != 32) = false := by simp; omega
        go_wp2_with fail
        go_roundw
        case rel => exact ⟨k + 1, by omega, by go_num, hid (hstep.out h32), B1⟩
        case measure => simp [intOf]; omega
      · have hne : ((nk : Int) != 32) = true := by simp; omega
        go_wp2_with (first
         | (refine Qan rfl 31 _ rfl (QCK 32 (W8 0)) ?hb ?_; (case hb => kernel_rfl))
         | (refine QaR (bs := QCK 32 0) rfl rfl _ _ rfl (B1.nth 1 rfl) rfl (by kernel_rfl) rfl rfl ?_; intro w9 hb9 ho9)
         | fail)
        exact bodyPost_ret (Qai rfl _ _ _ _ _ _ hb9 rfl Tryz.underlying31 rfl (by rw [QCP, QCY]; exact Qbj)) rfl ⟨by rw [hb2.out h32]; rfl, (B1.write 1 rfl ho9 hb9).lat⟩
    · have hall' := hid (Qpf ps (fun j hj => hall.out j (by omega)))
      have hCR := hR.out hall'.out
      have hnl := Qcd x1
      have HC := hid hCR
      clear hCR hR hbad hall
      generalize nb x1 = N0 at *
      go_wp2_with (first
       | (refine QaW rfl _ rfl (B1.nth 0 rfl) rfl ?_)
       | (go_at_call 22; (with_reducible refine (cB.out _).mono ?_); rintro e w3 ⟨rfl, j3⟩)
       | (refine QaR rfl rfl _ _ rfl (Blk.new w3 _ (QCK 32 (.int .u8 0))) rfl rfl hnl rfl ?_; intro w4 hb4 ho4)
       | fail)
      have B2 := B1.push (j3.trans (Qaa w3 _)) j3.size ho4 hb4
      clear j3 hb4 ho4 B1 cB
      generalize w3.heap.size = g10 at *
      go_loopw [10] (fun i wr => ∃ (k : Nat) (at_ : List UInt8), k ≤ m ∧ i = .int .i64 k ∧ at_.length = 32 ∧ Hid (CR = Qew (ps.drop k) at_) ∧ Bag w wr [(g10, 31, at_.map W8), (g6, 81, NL x1), (w.heap.size, 31, QCK 32 (Value.int .u8 0))]) (fun i _ => m - (intOf i).toNat)
      case atStart => exact ⟨0, N0, by omega, rfl, hnl, hid (by rw [QEu]; exact HC.out), B2⟩
      case round =>
       clear B2
       obtain ⟨k, at_, hk, rfl, hal, hch, B2⟩ := hrel
       by_cases hlt : k < m
       · obtain ⟨b, o, Ak, nk, ck, rfl, hb, hck, hcap, hrd, _⟩ := (hp.later B2.lat).at_ hlt
         have hd := QsW ps k (by omega)
         have hlen := hrd.len
         have hl32 : (ps.getD k []).length = 32 := by
          rw [QCS, QCR (by omega)]
          exact hall'.out _ (QD6 _)
         have hch' := hch.out
         rw [hd, Qew] at hch'
         have HCH := hid hch'
         clear hch hch' hd
         generalize ps.getD k [] = p at *
         obtain rfl : nk = 32 := by omega
         have cM := hid (Qk4 Ak (some ⟨g10, 0, none⟩) 32 ck 32 32 p at_ wr.drew (hrd.later (Qab _)) (Qe7 (B2.drew.nth 0 rfl) hal) (by omega) (by omega))
         have hml := Qa2 p at_
         generalize QbF p at_ = M at *
         by_cases he : Qbe p at_ = 0
         · have HE := HCH.out
           rw [if_pos he] at HE
           replace HE := hid HE
           rw [he] at cM
           clear HCH he
           go_wp2_with fail
           refine Qad [([0, 1, 2, 3, 4], 5)] [6, 7, 8] [9, 10] (by as_aux_lemma => kernel_rfl) (by as_aux_lemma => kernel_rfl) (by intro _ _ d _ _ h; cases d <;> exact h) ?_
           simp only [Qag, pick, QCL, QCM, QCN, QCO, QCQ]
           repeat (go_big_quiet_step (fail))
           refine wpQuiet_nil ?_
           go_wp2_with fail
           (with_reducible refine cM.out.mono ?_); rintro e w5 ⟨rfl, j5⟩
           replace j5 := (Qab _).trans j5
           go_wp2_with fail
           try refine ⟨by first | assumption | exact Qab _ | exact Qaa _ _ | exact Later.refl _, ?_⟩
           try simp only [Qag, pick, QCL, QCM, QCN, QCO, QCQ]
           repeat (go_big_quiet_step (fail))
           refine wpQuiet_nil ?_
           go_wp2_with (first
            | (refine QaR rfl rfl _ _ rfl ((B2.later j5).nth 0 rfl) rfl rfl hml (by rw [QCP, hal]) ?_; intro w6 hb6 ho6)
            | fail)
           go_roundw
           case rel => exact ⟨k + 1, M, by omega, by go_num, hml, HE, (B2.later j5).write 0 rfl ho6 hb6⟩
           case measure => simp [intOf]; omega
         · have HE := HCH.out
           rw [if_neg he] at HE
           replace HE := hid HE
           generalize Qbe p at_ = e5 at *
           have hne : ((e5 : Int) != 0) = true := by simp; omega
           clear HCH
           go_wp2_with fail
           refine Qad [([0, 1, 2, 3, 4], 5)] [6, 7, 8] [9, 10] (by as_aux_lemma => kernel_rfl) (by as_aux_lemma => kernel_rfl) (by intro _ _ d _ _ h; cases d <;> exact h) ?_
           simp only [Qag, pick, QCL, QCM, QCN, QCO, QCQ]
           repeat (go_big_quiet_step (fail))
           refine wpQuiet_nil ?_
           go_wp2_with fail
           (with_reducible refine cM.out.mono ?_); rintro e w5 ⟨rfl, j5⟩
           replace j5 := (Qab _).trans j5
           go_wp2_with fail
           try refine ⟨by first | assumption | exact Qab _ | exact Qaa _ _ | exact Later.refl _, ?_⟩
           try simp only [Qag, pick, QCL, QCM, QCN, QCO, QCQ]
           repeat (go_big_quiet_step (fail))
           refine wpQuiet_nil ?_
           go_wp2_with (first
            | (refine QaR rfl rfl _ _ rfl ((B2.later j5).nth 0 rfl) rfl rfl hml (by rw [QCP, hal]) ?_; intro w6 hb6 ho6
               have B3 := (B2.later j5).write 0 rfl ho6 hb6)
            | (refine Qan rfl 31 _ rfl (QCK 32 (W8 0)) ?hb ?_; (case hb => kernel_rfl))
            | (refine QaR (bs := QCK 32 0) rfl rfl _ _ rfl (B3.nth 2 rfl) rfl (by kernel_rfl) rfl rfl ?_; intro w9 hb9 ho9)
            | fail)
           exact bodyPost_ret (Qai rfl _ _ _ _ _ _ hb9 rfl Tryz.underlying31 rfl (by rw [QCP, QCY]; exact Qbj)) rfl ⟨by rw [HE.out]; rfl, (B3.write 2 rfl ho9 hb9).lat⟩
       · have hd : ps.drop k = [] := QDZ (by omega)
         have hch' := hch.out
         rw [hd, Qew] at hch'
         have HE := hid hch'
         clear hch' hch hd
         go_wp2_with (first
          | (refine Qfc rfl _ rfl (B2.nth 0 rfl) hal rfl ?_)
          | (refine QaR rfl rfl _ _ rfl (B2.nth 2 rfl) rfl rfl hal rfl ?_; intro w9 hb9 ho9)
          | fail)
         exact bodyPost_ret (Qai rfl _ _ _ _ _ _ hb9 rfl Tryz.underlying31 rfl (by rw [QCP, hal]; exact Qbj)) rfl ⟨by rw [HE.out]; rfl, (B2.write 2 rfl ho9 hb9).lat⟩
 · have eU : Qb5 us = 2 := by rw [Qb5, if_neg (by omega)]
   rw [eU] at cU
   have hR := hid (show QcD us ps = (QCK 32 0, 2) by rw [QcD, if_neg (by rintro ⟨h, _⟩; omega)])
   generalize QcD us ps = CR at *
   generalize Qcs us = x1 at *
   go_enter Tryz.func53, Tryz.ntmps53
   go_wp2_with fail
   generalize hW : w.alloc _ = w0
   replace B0 : Bag w w0 [(w.heap.size, 31, QCK 32 (Value.int .u8 0))] := by rw [← hW]; exact Qbg w 31 (QCK 32 (Value.int .u8 0))
   clear hW
   (with_reducible refine (cU.out _ (hu.later B0.lat)).mono ?_); rintro e w1 ⟨rfl, j1⟩
   go_wp2_with (first
    | (refine Qar rfl rfl _ _ rfl (Blk.new w1 _ (QCK 8 (.int .u32 0))) rfl rfl rfl ?_; intro w2 hb2 ho2
       have B1 := B0.push (j1.trans (Qaa w1 _)) j1.size ho2 hb2)
    | (refine Qan rfl 31 _ rfl (QCK 32 (W8 0)) ?hb ?_; (case hb => kernel_rfl))
    | (refine QaR (bs := QCK 32 0) rfl rfl _ _ rfl (B1.nth 1 rfl) rfl (by kernel_rfl) rfl rfl ?_; intro w9 hb9 ho9)
    | fail)
   exact bodyPost_ret (Qai rfl _ _ _ _ _ _ hb9 rfl Tryz.underlying31 rfl (by rw [QCP, QCY]; exact Qbj)) rfl ⟨by rw [hR.out]; rfl, (B1.write 1 rfl ho9 hb9).lat⟩
end Go.Proofs.YtadfeclgoclalaaGreat
namespace Go.Proofs.YtadfeclgoclalaaGreat
open Go.ChangeShapes Go.WideShapes Go.ChangeAt Go.RowKit
end Go.Proofs.YtadfeclgoclalaaGreat
namespace Go.Proofs.YtadfeclgoclalaaGreat
open Go.ChangeShapes Go.WideShapes Go.ChangeAt Go.RowKit
open _root_.Go.Proofs.YtadfeclgoclalaaGreat.Rows (uptoBulk uptoBulkAll uptoSmall)
theorem QvK {H : Type} (d : DataW H) : 1 ≤ uptoBulk d := by
 cases d with
 | lit l => cases l <;> simp [uptoBulk]
 | _ => simp [uptoBulk]
theorem QoZ {H : Type} {d : DataW H} {l : List (DataW H)} (h : d ∈ l) : uptoBulk d ≤ uptoBulkAll l := by
 induction l with
 | nil => cases h
 | cons x r ih =>
   simp only [uptoBulkAll]
   cases QC2.1 h with
   | inl e => subst e; omega
   | inr e => have := ih e; omega
theorem Qo5 {H : Type} (l : List (DataW H)) : l.length ≤ uptoBulkAll l := by
 induction l with
 | nil => simp [uptoBulkAll]
 | cons x r ih => have := QvK x; simp only [uptoBulkAll, QDC]; omega
theorem Qp1 {H : Type} {l : List (DataW H)} (hk : uptoSmall H l = true) : uptoBulkAll l ≤ 1048576 := of_decide_eq_true hk
section
variable {H : Type} {enc : TypeId × Value → H} {P : Program} {w : World} {base : Nat} {sp : Nat → Bool} {held : Bool}
theorem Qt3 {a : Addr} {c : List Value} (h : w.cells? base a 1 = some c) : ∃ u, c = [u] ∧ w.cell? a = some u := by
 have e0 : a.add 0 = a := by simp [Addr.add]
 unfold World.cells? at h
 split at h
 · simp only [QEA, List.range_zero, QCQ, List.mapM_cons, List.mapM_nil, e0] at h
   cases hcc : w.cell? a with
   | none => simp [hcc] at h
   | some u => simp [hcc] at h; exact ⟨u, h.symm, rfl⟩
 · cases h
theorem Qlk {a : Addr} {u : Value} (h : w.cell? a = some u) : a.spot = none ∧ a.block < w.heap.size := by
 unfold World.cell? at h
 split at h
 · rename_i c t fz hc
   refine ⟨?_, (Array.getElem?_eq_some_iff.1 hc).1⟩
   cases hs : a.spot with
   | none => rfl
   | some x => simp [hs] at h
 · cases h
theorem QvQ {t e : TypeId} {fuel : Nat} {v : Value} {x : DataW H × List MemPlace} (ht : P.underlying t = some (.slice e)) (hc : P.cellsOf e = 1) (h : DataW.trod enc P w base sp held fuel t [v] = some x) :
 ∃ A n c, ∃ (vs : List Value) (xs : List (DataW H × List MemPlace)), v = .slice A n c ∧ n ≤ c ∧ c ≤ maxLen ∧ Rd w A n vs ∧ xs.length = n ∧
   (∀ (j : Nat) u, vs[j]? = some u → ∃ y f, xs[j]? = some y ∧ DataW.trod enc P w base sp held f e [u] = some y) ∧ uptoBulkAll (xs.map (·.1)) + 1 ≤ uptoBulk x.1 := by
 rcases DataW.trod_slice ht h with ⟨hcs, rfl⟩ | ⟨a, len, cap, elems, rest, n, rfl, hcs, rfl, hb, hl, hm, hlen, hel, hsp, hns⟩
 · obtain rfl : v = .slice none 0 0 := by simpa using hcs
   exact ⟨none, 0, 0, [], [], rfl, QCX _, Nat.zero_le _, ⟨rfl, fun h => absurd h (by omega)⟩, rfl, fun j u hu => by simp at hu, by simp [uptoBulk, uptoBulkAll]⟩
 · obtain rfl : v = .slice (some a) len cap := by simpa using hcs
   have each : ∀ i, i < len → ∃ u y, w.cell? (a.add i) = some u ∧ elems[i]? = some y ∧ DataW.trod enc P w base sp held n e [u] = some y := by
    intro i hi
    have hE := hel i hi
    rw [hc, QEv] at hE
    have hy : elems[i]? = some (elems[i]'(by omega)) := QCR _
    rw [hy, Option.bind_eq_some_iff] at hE
    obtain ⟨c1, hc1, hy1⟩ := hE
    obtain ⟨u, rfl, hu⟩ := Qt3 hc1
    exact ⟨u, _, hu, hy, hy1⟩
   refine ⟨some a, len, cap, (QDw len).map fun i => (w.cell? (a.add i)).getD undef, elems, rfl, hl, hm, ⟨by simp, fun h0 => ?_⟩, hlen, fun j u hu => ?_, ?_⟩
   · obtain ⟨u, y, hu, _, _⟩ := each 0 h0
     have e0 : a.add 0 = a := by simp [Addr.add]
     rw [e0] at hu
     obtain ⟨h1, h2⟩ := Qlk hu
     obtain ⟨b, o, s⟩ := a
     simp only at h1
     subst h1
     refine ⟨b, o, rfl, h2, fun j v hv => ?_⟩
     rw [QC6] at hv
     have hj : j < len := by
      rcases QDS j len with h | h
      · exact h
      · rw [QDz (by simpa using h)] at hv
        cases hv
     obtain ⟨u', y', hu', _, _⟩ := each j hj
     rw [QEm hj] at hv
     simp only [QEt, Option.some.injEq, hu', QEL] at hv
     rw [← Qdr, hu', hv]
   · rw [QC6] at hu
     have hj : j < len := by
      rcases QDS j len with h | h
      · exact h
      · rw [QDz (by simpa using h)] at hu
        cases hu
     obtain ⟨u', y', hu', hy', ht'⟩ := each j hj
     rw [QEm hj] at hu
     simp only [QEt, Option.some.injEq, hu', QEL] at hu
     exact ⟨y', n, hy', hu ▸ ht'⟩
   · simp only [uptoBulk]
     omega
theorem QjR {t e : TypeId} {fuel : Nat} {v : Value} {x : DataW H × List MemPlace} (ht : P.underlying t = some (.slice e)) (he : P.underlying e = some (.int .u8)) (hc : P.cellsOf e = 1) (h : DataW.trod enc P w base sp held fuel t [v] = some x) :
 ∃ A n c bs, v = .slice A n c ∧ n ≤ c ∧ c ≤ maxLen ∧ RdB w A n bs ∧ bs.length + 1 ≤ uptoBulk x.1 := by
 obtain ⟨A, n, c, vs, xs, rfl, h1, h2, h3, h4, h5, h6⟩ := QvQ ht hc h
 have hb : ∀ (j : Nat) u, vs[j]? = some u → ∃ b : UInt8, u = W8 b := by
  intro j u hu
  obtain ⟨y, f, _, hy⟩ := h5 j u hu
  obtain ⟨m, hm, rfl, hw⟩ := DataW.trod_int he hy
  obtain rfl : u = .int .u8 m := by simpa using hm
  have hr : 0 ≤ m ∧ m ≤ 255 := by simpa [Lit.wf, IntKind.min, IntKind.max, IntKind.signed, IntKind.bits] using hw
  exact ⟨QDo m.toNat, by rw [W8, QDV]; congr 1; omega⟩
 have hl : ∀ l : List Value, (∀ (j : Nat) u, l[j]? = some u → ∃ b : UInt8, u = W8 b) → ∃ bs : List UInt8, l = bs.map W8 := by
  intro l
  induction l with
  | nil => exact fun _ => ⟨[], rfl⟩
  | cons u l ih =>
    intro hl
    obtain ⟨b, rfl⟩ := hl 0 u rfl
    obtain ⟨bs, rfl⟩ := ih fun j v hv => hl (j + 1) v (by simpa using hv)
    exact ⟨b :: bs, rfl⟩
 obtain ⟨bs, rfl⟩ := hl vs hb
 refine ⟨A, n, c, bs, rfl, h1, h2, h3, ?_⟩
 have e1 : bs.length = n := by have := h3.1; simpa using this
 have e2 := Qo5 (xs.map (·.1))
 rw [QCP, h4] at e2
 omega
end
theorem QwE : Tryz.prog.cellsOf 5 = 1 := by kernel_rfl
section
variable {H : Type} {enc : TypeId × Value → H} {w : World} {base b0 : Nat} {sp : Nat → Bool} {held : Bool} {r : Reach}
set_option maxRecDepth 100000 in
theorem Qpt {t : TypeId} {v : Value} {d : DataW H} {ps : List MemPlace} (ht : Tryz.prog.underlying t = some (.slice 5)) (hval : Value.okWide Tryz.prog w r b0 t v) (h : DataW.Trod enc Tryz.prog w base sp held t v d ps) :
 ∃ A n c bs, v = .slice A n c ∧ n ≤ c ∧ c ≤ maxLen ∧ RdB w A n bs ∧ bs.length + 1 ≤ uptoBulk d := by
 obtain ⟨A, n, c, rfl⟩ := okWide_slice ht hval
 obtain ⟨f, hf⟩ := h
 obtain ⟨A', n', c', bs, h1, h2⟩ := QjR ht Tryz.underlying5 QwE hf
 exact ⟨A', n', c', bs, h1, h2⟩
end
end Go.Proofs.YtadfeclgoclalaaGreat
namespace Go.Proofs.YtadfeclgoclalaaGreat
open Go.ChangeShapes Go.WideShapes Go.ChangeAt Go.RowKit
open _root_.Go.Proofs.YtadfeclgoclalaaGreat.Rows (uptoBulk uptoBulkAll uptoSmall)
section
variable {H : Type} {enc : TypeId × Value → H} {P : Program} {w : World} {base b0 : Nat} {sp : Nat → Bool} {held : Bool} {r : Reach}
end
end Go.Proofs.YtadfeclgoclalaaGreat
namespace Go.Proofs.YtadfeclgoclalaaGreat
open Go.ChangeShapes Go.WideShapes Go.ChangeAt Go.RowKit
open _root_.Go.Proofs.YtadfeclgoclalaaGreat.Rows (uptoBulk uptoBulkAll uptoSmall)
theorem Qpg {α β : Type} (f : α → Option β) : ∀ (l : List α) (ys : List β), l.mapM f = some ys → ys.length = l.length ∧ ∀ (i : Nat) x, l[i]? = some x → f x = ys[i]?
 | [], ys, h => by
   simp only [List.mapM_nil, pure, Option.some.injEq] at h
   subst h
   exact ⟨rfl, fun i x hx => by simp at hx⟩
 | a :: l, ys, h => by
   rw [List.mapM_cons] at h
   simp only [bind, Option.bind_eq_some_iff, pure, Option.some.injEq] at h
   obtain ⟨y, hy, ys', h', rfl⟩ := h
   obtain ⟨h1, h2⟩ := Qpg f l ys' h'
   refine ⟨by simp [h1], fun i x hx => ?_⟩
   cases i with
   | zero =>
     obtain rfl : a = x := by simpa using hx
     simpa using hy
   | succ i => simpa using h2 i x (by simpa using hx)
theorem Qkh {w : World} {base k : Nat} {a : Addr} {cs : List Value} (h : w.cells? base a k = some cs) : cs.length = k ∧ ∀ i, i < k → w.cell? (a.add i) = cs[i]? := by
 unfold World.cells? at h
 split at h
 · obtain ⟨h1, h2⟩ := Qpg _ _ _ h
   exact ⟨by simpa using h1, fun i hi => h2 i i (by rw [QEm hi])⟩
 · cases h
theorem QeH {l : List Value} {i : Nat} {v : Value} (h : (l.drop i).take 1 = [v]) : l[i]? = some v := by
 have := congrArg (·[0]?) h
 simpa [QEx, QDW] using this
section
variable {H : Type} {enc : TypeId × Value → H} {w : World} {base : Nat} {sp : Nat → Bool} {held : Bool}
theorem QoM {fuel : Nat} {cs : List Value} {x : DataW H × List MemPlace} (h : DataW.trod enc Tryz.prog w base sp held fuel 31 cs = some x) : ∃ K : Y32, cs = K.val.map W8 := by
 obtain ⟨xs, m, rfl, rfl, hl, hxl, he⟩ := DataW.trod_array Tryz.underlying31 h
 have hn : Tryz.prog.cellsOf 31 = 32 := by kernel_rfl
 have h1 : Tryz.prog.cellsOf 5 = 1 := by kernel_rfl
 rw [hn] at hl
 rw [h1] at he
 have each : ∀ i, ∃ b : UInt8, i < 32 → cs[i]? = some (W8 b) := by
  intro i
  by_cases hi : i < 32
  · have := he i hi
    rw [QCR (by omega), QEv] at this
    obtain ⟨z, hz, _, hw⟩ := DataW.trod_int Tryz.underlying5 this
    have hr : 0 ≤ z ∧ z ≤ 255 := by simpa [Lit.wf, IntKind.min, IntKind.max, IntKind.signed, IntKind.bits] using hw
    exact ⟨_, fun _ => by rw [QeH hz, QbK z hr.1 (by omega)]⟩
  · exact ⟨0, fun h => absurd h hi⟩
 obtain ⟨f, hf⟩ := Classical.axiomOfChoice each
 refine ⟨⟨(QDw 32).map f, by simp⟩, ?_⟩
 apply List.ext_getElem?
 intro i
 rcases QDS i 32 with hi | hi
 · rw [hf i hi, QC6, QC6, QEm hi]
   rfl
 · rw [QDz (by omega), QDz (by simp; omega)]
set_option maxRecDepth 100000 in
theorem QuV {fuel : Nat} {cs : List Value} {x : DataW H × List MemPlace} (h : DataW.trod enc Tryz.prog w base sp held fuel 33 cs = some x) : ∃ y : Nod, cs = NC y ∧ y.nm.size ≤ uptoBulk x.1 := by
 obtain ⟨xs, m, rfl, rfl, hl, hxl, he⟩ := DataW.trod_struct Tryz.underlying33 h
 have hn : Tryz.prog.cellsOf 33 = 66 := by kernel_rfl
 have hS : Tryz.prog.cellsOf 9 = 1 := by kernel_rfl
 have hU : Tryz.prog.cellsOf 23 = 1 := by kernel_rfl
 have hB : Tryz.prog.cellsOf 31 = 32 := by kernel_rfl
 rw [hn] at hl
 have hxl4 : xs.length = 4 := hxl
 have e0 : DataW.trod enc Tryz.prog w base sp held m 9 ((cs.drop 0).take (Tryz.prog.cellsOf 9)) = xs[0]? := he 0 _ rfl
 have e1 : DataW.trod enc Tryz.prog w base sp held m 23 ((cs.drop 1).take (Tryz.prog.cellsOf 23)) = xs[1]? := he 1 _ rfl
 have e2 : DataW.trod enc Tryz.prog w base sp held m 31 ((cs.drop 2).take (Tryz.prog.cellsOf 31)) = xs[2]? := he 2 _ rfl
 have e3 : DataW.trod enc Tryz.prog w base sp held m 31 ((cs.drop 34).take (Tryz.prog.cellsOf 31)) = xs[3]? := he 3 _ rfl
 rw [hS, QCR (by omega)] at e0
 rw [hU, QCR (by omega)] at e1
 rw [hB, QCR (by omega)] at e2 e3
 obtain ⟨s, hs, hx0, _⟩ := DataW.trod_string Tryz.underlying9 e0
 obtain ⟨z, hz, _, hw⟩ := DataW.trod_int Tryz.underlying23 e1
 obtain ⟨K, hK⟩ := QoM e2
 obtain ⟨P, hP⟩ := QoM e3
 have hr : 0 ≤ z ∧ z ≤ 18446744073709551615 := by simpa [Lit.wf, IntKind.min, IntKind.max, IntKind.signed, IntKind.bits] using hw
 have c0 := QeH hs
 have c1 := QeH hz
 rw [Qbc z hr.1 (by omega)] at c1
 refine ⟨⟨s, QDd z.toNat, K, P⟩, ?_, ?_⟩
 · match cs, hl, c0, c1, hK, hP with
   | a :: b :: r, hl, c0, c1, hK, hP =>
     have hrl : r.length = 64 := by simpa using hl
     rw [QEl, QEl, QEu] at hK
     rw [show (34 : Nat) = 32 + 1 + 1 from rfl, QEl, QEl, QCZ (by simp; omega)] at hP
     obtain rfl : a = .string s := by simpa using c0
     obtain rfl : b = W64 (QDd z.toNat) := by simpa using c1
     rw [NC, ← hK, ← hP, QDi]
 · have hb : xs[0].1 = .lit (.string s.data.toList) := by rw [hx0]
   have := QoZ (d := xs[0].1) (l := xs.map (·.1)) (QDI.2 ⟨_, QD6 _, rfl⟩)
   rw [hb] at this
   simp only [uptoBulk] at this ⊢
   have hsz : s.data.toList.length = s.size := by simp
   show s.size ≤ _
   omega
end
end Go.Proofs.YtadfeclgoclalaaGreat
