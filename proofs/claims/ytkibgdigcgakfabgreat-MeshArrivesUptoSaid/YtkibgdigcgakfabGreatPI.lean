/-
  Lemmas for the last text of this claim (part 9 of 20).
-/
import Derived.BigQuiet
import Derived.BigRegion
import Derived.ChangeOld
import Derived.Deep.RegionWith
import Derived.DeepKeys4
import Derived.JoinedCond
import Derived.LaidMore
import Derived.Laws.CopyOwn
import Derived.Laws.Externs
import Derived.Laws.IdiomStrings
import Derived.Laws.Tables
import Derived.Lib.AppendStr
import Derived.Lib.AppendZerosOnto
import Derived.Lib.Mul64
import Derived.Lib.SlBytesConst
import Derived.LoopN
import Derived.Maps.OwnSet
import Derived.OpenShut
import Derived.OrdersHeld
import Derived.ProofKit
import Derived.Shelf.Spec.BitsCarry
import Derived.ShutString
import Derived.Test.YtkibgdigcgakfabGreatProg
import Derived.Test.YtkibgdigcgakfabGreatRows
import Derived.WalkKit
import Derived.WalkLawsBesides
import Derived.WalkSpells
import Derived.Test.YtkibgdigcgakfabGreatPB
import Derived.Test.YtkibgdigcgakfabGreatPE
import Derived.Test.YtkibgdigcgakfabGreatPH
open List renaming getElem?_eq_getElem → Qmw, getD_eq_getElem?_getD → QmA, replicate → QmC, length_map → QmD, map_nil → QmG, cons_append → QmK, map_cons → QmQ, getElem?_map → QmR, take_of_length_le → QmT, mem_map → Qm5, length_drop → Qnb, range → Qnf, length_cons → Qnl, mem_append → Qnr, getElem?_drop → Qnv, map_append → Qnx
open Nat renaming le_refl → Qmx, shiftLeft_eq → Qnu
open Option renaming getD_some → Qnz
open UInt64 renaming ofNat → QmB, toNat_ofNat' → QmF, toNat_inj → Qnn
namespace Go.Proofs.YtkibgdigcgakfabGreat
open Go.RowKit
structure Prt where
 kd : UInt8
 id : UInt64
 ix : Int
 ct : Int
 da : List UInt8
def prt0 : Prt := ⟨0, 0, 0, 0, []⟩
def PaC (p : Prt) (v : Value) : List Value := [W8 p.kd, W64 p.id, .int .i64 p.ix, .int .i64 p.ct, v]
def prtE (p : Prt) : Nat :=
 if p.kd < 1 ∨ 3 < p.kd then 1 else if 450 < p.da.length then 2 else if p.ct < 1 ∨ 16 < p.ct ∨ p.ix < 0 ∨ p.ct ≤ p.ix then 3
 else if p.kd ≠ 1 ∧ p.ct ≠ 1 then 3 else if p.kd = 2 ∧ (p.id ≠ 0 ∨ p.da.length ≠ 0) then 3 else 0
abbrev Y16 := {l : List UInt8 // l.length = 16}
structure Cmd where
 kd : UInt8
 fl : UInt8
 dl : UInt32
 nx : UInt64
 ma : Y16
def QaC : Y16 := ⟨QmC 16 0, by simp⟩
def cmd0 : Cmd := ⟨0, 0, 0, 0, QaC⟩
def CC (c : Cmd) : List Value := W8 c.kd :: W8 c.fl :: W32 c.dl :: W64 c.nx :: c.ma.val.map W8
theorem QaB (c : Cmd) : (CC c).length = 20 := by simp [CC, c.ma.2]
theorem Qij (c : Cmd) : (CC c).drop 4 = c.ma.val.map W8 := rfl
end Go.Proofs.YtkibgdigcgakfabGreat
namespace Go.Proofs.YtkibgdigcgakfabGreat
open Go.RowKit
open Go.BigFrame
def beN : List UInt8 → Nat → Nat
 | [], n => n
 | b :: r, n => beN r (n * 256 + b.toNat)
theorem QbY : ∀ (p q : List UInt8) (n : Nat), beN (p ++ q) n = beN q (beN p n)
 | [], _, _ => rfl
 | b :: r, q, n => by rw [QmK, beN, QbY r q]; rfl
theorem QgU : ∀ (p : List UInt8) (n k : Nat), n < k → beN p n < k * 256 ^ p.length
 | [], n, k, h => by simpa [beN] using h
 | b :: r, n, k, h => by
   have hb := b.toNat_lt
   have := QgU r (n * 256 + b.toNat) (k * 256) (by omega)
   rw [beN, Qnl, Nat.pow_succ, Nat.mul_comm (256 ^ _), ← Nat.mul_assoc]
   exact this
theorem QdM (bs : List UInt8) (k : Nat) (h : k < bs.length) : bs.take (k + 1) = bs.take k ++ [bs.getD k 0] := by
 rw [List.take_succ_eq_append_getElem h, QmA, Qmw h, Qnz]
theorem QhD (bs : List UInt8) (k : Nat) (h : k < bs.length) : beN (bs.take (k + 1)) 0 = beN (bs.take k) 0 * 256 + (bs.getD k 0).toNat := by
 rw [QdM bs k h, QbY]
 rfl
theorem Qj9 (x : Nat) (b : UInt8) : QdK (QmB x) 8 ||| b.toUInt64 = QmB (x * 256 + b.toNat) := by
 apply Qnn.1
 have e1 : (QdK (QmB x) 8).toNat = (x % 2 ^ 64 * 256) % 2 ^ 64 := by
  show ((QmB x).toBitVec <<< 8).toNat = _
  rw [BitVec.toNat_shiftLeft, Qnu]
  rfl
 have hb := b.toNat_lt
 rw [UInt64.toNat_or, e1, UInt8.toNat_toUInt64, QmF]
 have e2 : (x % 2 ^ 64 * 256) % 2 ^ 64 = (x % 2 ^ 56) <<< 8 := by
  rw [Qnu]
  omega
 rw [e2, ← Nat.shiftLeft_add_eq_or_of_lt (by omega), Qnu]
 omega
theorem Qj0 (x : Nat) (b : UInt8) : QmB x * 256 + b.toUInt64 = QmB (x * 256 + b.toNat) := by
 apply Qnn.1
 rw [UInt64.toNat_add, UInt64.toNat_mul, QmF, QmF, UInt8.toNat_toUInt64]
 show (x % 2 ^ 64 * 256 % 2 ^ 64 + b.toNat) % 2 ^ 64 = _
 omega
end Go.Proofs.YtkibgdigcgakfabGreat
namespace Go.Proofs.YtkibgdigcgakfabGreat
open Go.RowKit
open Go.BigFrame
set_option maxRecDepth 100000 in
theorem Qfi (k : Nat) (hk : 1 ≤ k) (h8 : k ≤ 8) (w : World) : Calls Tryz.prog 42 #[.int .i64 2, .int .i64 (k : Int)] w fun e w' => e = .returned (.bool true) ∧ Later w w' := by
 have h1 : decide ((1 : Int) ≤ (k : Int)) = true := decide_eq_true (by omega)
 have h2 : decide ((k : Int) ≤ 8) = true := decide_eq_true (by omega)
 go_enter Tryz.func42, Tryz.ntmps42
 go_wp2
 go_ret
 exact ⟨rfl, Later.refl w⟩
theorem Qbe (bs : List UInt8) (o k : Nat) (h : o + k < bs.length) : beN (subB bs o (k + 1)) 0 = beN (subB bs o k) 0 * 256 + (bs.getD (o + k) 0).toNat := by
 rw [subB, QhD _ _ (by rw [Qnb]; omega)]
 show _ = beN ((bs.drop o).take k) 0 * 256 + _
 congr 2
 rw [QmA, QmA, Qnv]
set_option maxRecDepth 100000 in
set_option maxHeartbeats 4000000 in
theorem Qe7 (A : Option Addr) (n c o k : Nat) (bs : List UInt8) (w : World) (hb : RdB w A n bs) (hn : n ≤ 140737488355328) (hk : 1 ≤ k) (h8 : k ≤ 8) (ho : o + k ≤ n) :
 Calls Tryz.prog 34 #[.int .i64 2, .slice A n c, .int .i64 (o : Int), .int .i64 (k : Int)] w fun e w' => e = .returned (.tuple #[W64 (QmB (beN (subB bs o k) 0)), .int .i64 0]) ∧ Later w w' := by
 have hbl := hb.len
 have h1 : decide ((n : Int) < (o : Int)) = false := decide_eq_false (by omega)
 have h2 : decide ((n : Int) - (o : Int) < (k : Int)) = false := decide_eq_false (by omega)
 have h3 : decide ((o : Int) < 0) = false := decide_eq_false (by omega)
 have hs := hid (fun j => Qbe bs o j)
 have hr := hid (fun j => Qj9 (beN (subB bs o j) 0))
 have h0 : beN (subB bs o 0) 0 = 0 := rfl
 go_enter Tryz.func34, Tryz.ntmps34
 go_wp2_with fail
 refine (Qfi k hk h8 _).mono ?_
 rintro e w1 ⟨rfl, L1⟩
 go_wp2_with fail
 go_loopw [10, 11] (fun v i wr => ∃ j : Nat, j ≤ k ∧ i = .int .i64 j ∧ v = W64 (QmB (beN (subB bs o j) 0)) ∧ Later w wr) (fun _ i _ => k - (intOf i).toNat)
 case atStart => exact ⟨0, by omega, rfl, by rw [h0]; rfl, L1⟩
 case round =>
  clear L1
  obtain ⟨j, hj, rfl, rfl, L⟩ := hrel
  by_cases hlt : j < k
  · have hrd := hb.later L
    have hs' := hs.out j (by omega)
    have hr' := hr.out j (bs.getD (o + j) 0)
    rw [← hs'] at hr'
    replace hr' := hid hr'
    clear hs' hs hr
    obtain ⟨b, p, rfl, hlb, hc⟩ := hrd.2 (by omega)
    have hcell := hc (o + j) (W8 (bs.getD (o + j) 0)) (by rw [QmR, QmA, Qmw (by omega)]; rfl)
    generalize bs.getD (o + j) 0 = z at *
    go_wp2
    exact ⟨⟨j + 1, by omega, by go_num, by rw [← hr'.out], L⟩, by simp [intOf]; omega⟩
  · obtain rfl : j = k := by omega
    go_wp2
    go_ret2
    exact ⟨rfl, L⟩
def x2 (xs ys : List UInt8) : Nat → List UInt8
 | 0 => QmC xs.length 0
 | 1 => xs
 | _ => xorB xs ys
end Go.Proofs.YtkibgdigcgakfabGreat
namespace Go.Proofs.YtkibgdigcgakfabGreat
open Go.RowKit
open Go.BigFrame
theorem Qeb : (Tryz.prog.info? 34).map (·.size) = some 16 := by kernel_rfl
theorem Qkd : Tryz.prog.eqGuardType Tryz.prog.depth 34 = false := by kernel_rfl
@[go_sem high] theorem Qje (op : BinOp) (x y : Operand) (xs ys : Array Value) (w : World) : (eqGuard op 34 x y (.agg xs) (.agg ys)).run Tryz.prog w = .ok () w := run_eqGuard_agg w op _ x y xs ys Qkd
@[go_sem high] theorem Qjo (x y : Y16) (w : World) : (binOp .eql 34 (.agg (x.val.map W8).toArray) (.agg (y.val.map W8).toArray)).run Tryz.prog w = .ok (.bool (x.val == y.val)) w := by
  rw [run_eql_struct, Qax w 0 W8 9998 34 5 16 Tryz.underlying34 Qbp Tryz.underlying5 rfl (QcZ _ _ Tryz.underlying5) _ _ x.2 y.2]
  rfl
@[go_sem high] theorem Qjs (x y : Y16) (w : World) : (binOp .neq 34 (.agg (x.val.map W8).toArray) (.agg (y.val.map W8).toArray)).run Tryz.prog w = .ok (.bool (x.val != y.val)) w := by
  rw [run_neq_struct, Qax w 0 W8 9998 34 5 16 Tryz.underlying34 Qbp Tryz.underlying5 rfl (QcZ _ _ Tryz.underlying5) _ _ x.2 y.2]
  rfl
theorem Qa4 {P : Program} {t : TypeId} {d : TypeDesc} {k : Nat} {v : Value} (hu : P.underlying t = some d) (hd : Qa5 d = false) {zs : List Value} (hz : zs[k]? = some v) (w : World) : (part t zs.toArray k).run P w = .ok v w := by
 have ha : (isAgg t).run P w = .ok false w := by
  unfold isAgg
  simp only [Sem.run_bind, run_underlying hu]
  cases d <;> simp_all [Qa5]
 unfold part
 simp [Sem.run_bind, ha, Result.andThen_ok, hz]
theorem QcL {P : Program} {d k : Nat} {t : TypeId} {f : Field} {fs : List Field} (hf : f.type = t) (hu : P.underlying t = some (.int .u64)) (hn : f.name ≠ "_") {xs ys : List Value} {p q : UInt64} (ho : f.offset = k) (hp : xs[k]? = some (W64 p)) (hq : ys[k]? = some (W64 q)) (w : World) :
 (Op.eqFields (d + 1) xs.toArray ys.toArray (f :: fs)).run P w = if p == q then (Op.eqFields (d + 1) xs.toArray ys.toArray fs).run P w else .ok false w := by
 rw [Op.eqFields, if_pos hn]
 simp only [Sem.run_bind, hf, ho, Qa4 hu rfl hp, Qa4 hu rfl hq, Result.andThen_ok, Qcn t _ hu d p q w]
 cases p == q <;> simp
theorem Qb7 {P : Program} {d k : Nat} {t : TypeId} {f : Field} {fs : List Field} (hf : f.type = t) (hu : P.underlying t = some (.int .u8)) (hn : f.name ≠ "_") {xs ys : List Value} {p q : UInt8} (ho : f.offset = k) (hp : xs[k]? = some (W8 p)) (hq : ys[k]? = some (W8 q)) (w : World) :
 (Op.eqFields (d + 1) xs.toArray ys.toArray (f :: fs)).run P w = if p == q then (Op.eqFields (d + 1) xs.toArray ys.toArray fs).run P w else .ok false w := by
 rw [Op.eqFields, if_pos hn]
 simp only [Sem.run_bind, hf, ho, Qa4 hu rfl hp, Qa4 hu rfl hq, Result.andThen_ok, QcZ t _ hu d p q w]
 cases p == q <;> simp
theorem QcJ {P : Program} {d k : Nat} {t : TypeId} {f : Field} {fs : List Field} (hf : f.type = t) (hu : P.underlying t = some (.int .u32)) (hn : f.name ≠ "_") {xs ys : List Value} {p q : UInt32} (ho : f.offset = k) (hp : xs[k]? = some (W32 p)) (hq : ys[k]? = some (W32 q)) (w : World) :
 (Op.eqFields (d + 1) xs.toArray ys.toArray (f :: fs)).run P w = if p == q then (Op.eqFields (d + 1) xs.toArray ys.toArray fs).run P w else .ok false w := by
 rw [Op.eqFields, if_pos hn]
 simp only [Sem.run_bind, hf, ho, Qa4 hu rfl hp, Qa4 hu rfl hq, Result.andThen_ok, Qiz t _ hu d p q w]
 cases p == q <;> simp
def Qfh (x y : Cmd) : Bool := x.kd == y.kd && (x.fl == y.fl && (x.dl == y.dl && (x.nx == y.nx && x.ma.val == y.ma.val)))
@[go_sem] theorem Qju (x : Cmd) : Qfh x x = true := by simp [Qfh]
theorem QdD (x : Cmd) : ((CC x).drop 4).take 16 = x.ma.val.map W8 := by rw [Qij, QmT (by rw [QmD, x.ma.2]; omega)]
set_option maxRecDepth 100000 in
theorem Qco (x y : Cmd) (w : World) {fs : Array Field} (hu : Tryz.prog.underlying 78 = some (.struct fs)) : (Op.eqFields 9999 (CC x).toArray (CC y).toArray fs.toList).run Tryz.prog w = .ok (Qfh x y) w := by
 rw [Tryz.underlying78] at hu
 cases hu
 rw [Qb7 (d := 9998) (k := 0) rfl Tryz.underlying5 (by decide) rfl rfl rfl, Qb7 (d := 9998) (k := 1) rfl Tryz.underlying5 (by decide) rfl rfl rfl, QcJ (d := 9998) (k := 2) rfl Tryz.underlying76 (by decide) rfl rfl rfl,
  QcL (d := 9998) (k := 3) rfl Tryz.underlying22 (by decide) rfl rfl rfl, QaZ (d := 9997) (k := 4) rfl Tryz.underlying34 Qeb Qbp Tryz.underlying5 (by decide) rfl (QdD x) (QdD y) x.ma.2 y.ma.2, Qa0]
 rw [Qfh]
 cases x.kd == y.kd <;> cases x.fl == y.fl <;> cases x.dl == y.dl <;> cases x.nx == y.nx <;> cases x.ma.val == y.ma.val <;> rfl
theorem QiM : Tryz.prog.eqGuardType Tryz.prog.depth 78 = false := by kernel_rfl
@[go_sem high] theorem Qii (op : BinOp) (x y : Operand) (xs ys : Array Value) (w : World) : (eqGuard op 78 x y (.agg xs) (.agg ys)).run Tryz.prog w = .ok () w := run_eqGuard_agg w op _ x y xs ys QiM
set_option maxRecDepth 100000 in
@[go_sem high] theorem QiC (x y : Cmd) (w : World) : (binOp .eql 78 (.agg (CC x).toArray) (.agg (CC y).toArray)).run Tryz.prog w = .ok (.bool (Qfh x y)) w := by
  rw [QbW Tryz.underlying78 (by kernel_rfl), Qco x y w Tryz.underlying78]
  rfl
set_option maxRecDepth 100000 in
@[go_sem high] theorem QiV (x y : Cmd) (w : World) : (binOp .neq 78 (.agg (CC x).toArray) (.agg (CC y).toArray)).run Tryz.prog w = .ok (.bool (!Qfh x y)) w := by
  rw [QcA Tryz.underlying78 (by kernel_rfl), Qco x y w Tryz.underlying78]
  rfl
section
variable {ops : Array Oper} {rest : List Oper} {o : Oper} {a : Act} {w : World} {Q : Exit → Act → World → Prop}
theorem Qgd (hw : Region.wanted o (yielded ops a.tmps) = true) (x : Operand) (ho : o.op = .load 34 x) {g off : Nat} {y : Y16} (hc : ∀ j v, (y.val.map W8)[j]? = some v → w.cell? ⟨g, off + j, none⟩ = some v) (hx : a.eval x = .pointer (some ⟨g, off, none⟩))
 (h : wpList Tryz.prog ops Q rest (a.put o.dst (.agg (y.val.map W8).toArray)) w) : wpList Tryz.prog ops Q (o :: rest) a w :=
 Qaf hw _ x ho g off _ hc hx _ Tryz.underlying34 rfl (by rw [QmD, y.2]; exact Qeb) h
end
end Go.Proofs.YtkibgdigcgakfabGreat
namespace Go.Proofs.YtkibgdigcgakfabGreat
open Go.RowKit
abbrev pid (q : Prt) : Prt := q
section
variable {α : Type} (pr : α → Prt)
def tkE (id : UInt64) (ks : List α) (p : Prt) : Nat :=
 if p.kd ≠ 1 ∨ prtE p ≠ 0 then 3 else if p.id ≠ id then 4 else if ks.any (fun q => (pr q).ct != p.ct || (pr q).ix == p.ix) then 3 else 0
def tkK (id : UInt64) (ks : List α) (x : α) : List α := if tkE pr id ks (pr x) = 0 then ks ++ [x] else ks
def tksK (id : UInt64) (ks xs : List α) : List α := xs.foldl (tkK pr id) ks
theorem QfH (id : UInt64) (ks xs : List α) (x : α) : tksK pr id ks (xs ++ [x]) = tkK pr id (tksK pr id ks xs) x := by simp [tksK]
end
structure KeptOk (ks : List Prt) : Prop where
 good : ∀ q ∈ ks, q.kd = 1 ∧ prtE q = 0
 same : ∀ q ∈ ks, ∀ r ∈ ks, q.ct = r.ct
 nd : (ks.map (·.ix)).Nodup
theorem Qfs : KeptOk [] := ⟨by simp, by simp, by simp⟩
theorem Qcs {p : Prt} (h : prtE p = 0) : 1 ≤ p.ct ∧ p.ct ≤ 16 ∧ 0 ≤ p.ix ∧ p.ix < p.ct ∧ p.da.length ≤ 450 := by
 unfold prtE at h
 split at h
 · cases h
 split at h
 · cases h
 split at h
 · cases h
 rename_i h1 h2 h3
 omega
theorem Qdg {id : UInt64} {ks : List Prt} {p : Prt} (h : tkE pid id ks p = 0) : p.kd = 1 ∧ prtE p = 0 ∧ p.id = id ∧ (∀ q ∈ ks, q.ct = p.ct ∧ q.ix ≠ p.ix) := by
 unfold tkE at h
 split at h
 · cases h
 split at h
 · cases h
 split at h
 · cases h
 rename_i h1 h2 h3
 refine ⟨Classical.not_not.1 fun hc => h1 (.inl hc), Classical.not_not.1 fun hc => h1 (.inr hc), Classical.not_not.1 h2, fun q hq => ?_⟩
 have h4 : (q.ct != p.ct || q.ix == p.ix) = false := by
  cases hb : (q.ct != p.ct || q.ix == p.ix) with
  | false => rfl
  | true => exact absurd (List.any_eq_true.2 ⟨q, hq, hb⟩) h3
 simp only [Bool.or_eq_false_iff, bne_eq_false_iff_eq, beq_eq_false_iff_ne] at h4
 exact h4
theorem KeptOk.snoc {id : UInt64} {ks : List Prt} {p : Prt} (h : KeptOk ks) : KeptOk (tkK pid id ks p) := by
 unfold tkK
 split
 · rename_i h0
   obtain ⟨h1, h2, _, h4⟩ := Qdg h0
   refine ⟨fun q hq => ?_, fun q hq r hr => ?_, ?_⟩
   · rcases Qnr.1 hq with hq | hq
     · exact h.good q hq
     · obtain rfl : q = p := by simpa using hq
       exact ⟨h1, h2⟩
   · rcases Qnr.1 hq with hq | hq <;> rcases Qnr.1 hr with hr | hr
     · exact h.same q hq r hr
     · have e : r = p := by simpa using hr
       rw [e]
       exact (h4 q hq).1
     · have e : q = p := by simpa using hq
       rw [e]
       exact (h4 r hr).1.symm
     · have e : q = p := by simpa using hq
       have e' : r = p := by simpa using hr
       rw [e, e']
   · rw [Qnx, List.nodup_append]
     refine ⟨h.nd, by simp, fun a ha b hb => ?_⟩
     obtain rfl : b = p.ix := by simpa using hb
     obtain ⟨q, hq, rfl⟩ := Qm5.1 ha
     exact (h4 q hq).2
 · exact h
theorem Qfq {id : UInt64} (xs : List Prt) : ∀ {ks : List Prt}, KeptOk ks → KeptOk (tksK pid id ks xs) := by
 induction xs with
 | nil => exact fun h => h
 | cons x xs ih => exact fun h => ih h.snoc
theorem Qcr : ∀ (n : Nat) (l : List Int), l.Nodup → (∀ i ∈ l, 0 ≤ i ∧ i < n) → l.length ≤ n
 | 0, l, _, h => by
   cases l with
   | nil => exact Qmx _
   | cons i l => have := h i (by simp); omega
 | n + 1, l, hn, h => by
   have hb : (l.erase (n : Int)).length ≤ n := by
    refine Qcr n _ (hn.erase _) fun i hi => ?_
    have h1 := h i (List.mem_of_mem_erase hi)
    have h2 : i ≠ (n : Int) := fun e => by subst e; exact (List.Nodup.not_mem_erase hn) hi
    omega
   have := List.length_erase_of_mem (a := (n : Int)) (l := l)
   by_cases hm : (n : Int) ∈ l
   · rw [this hm] at hb
     omega
   · rw [List.erase_of_not_mem hm] at hb
     omega
theorem KeptOk.le {ks : List Prt} (h : KeptOk ks) {c : Int} (hc : ∀ q ∈ ks, q.ct = c) (h0 : 0 ≤ c) : (ks.length : Int) ≤ c := by
 have := Qcr c.toNat (ks.map (·.ix)) h.nd (fun i hi => by
  obtain ⟨q, hq, rfl⟩ := Qm5.1 hi
  have := Qcs (h.good q hq).2
  have := hc q hq
  omega)
 rw [QmD] at this
 omega
def daAt (ks : List Prt) (i : Nat) : List UInt8 := ((ks.find? (fun q => q.ix == (i : Int))).map (·.da)).getD []
def Qel (ks : List Prt) : List UInt8 := (Qnf ks.length).flatMap fun (i : Nat) => (ks.filter (fun q => q.ix == (i : Int))).flatMap (·.da)
theorem Qc0 {i : Int} : ∀ {ks : List Prt}, (ks.map (·.ix)).Nodup → (ks.filter (fun q => q.ix == i)).flatMap (·.da) = ((ks.find? (fun q => q.ix == i)).map (·.da)).getD []
 | [], _ => rfl
 | q :: ks, h => by
   rw [QmQ, List.nodup_cons] at h
   by_cases hq : q.ix = i
   · have hno : ks.filter (fun q => q.ix == i) = [] := by
      rw [List.filter_eq_nil_iff]
      intro r hr hc
      exact h.1 (Qm5.2 ⟨r, hr, (by simpa using hc : r.ix = i).trans hq.symm⟩)
     simp [hq, hno]
   · have hb : (q.ix == i) = false := by simpa using hq
     rw [List.filter_cons, List.find?_cons, hb]
     exact Qc0 h.2
theorem Qhs {ks : List Prt} (h : KeptOk ks) : Qel ks = (Qnf ks.length).flatMap (daAt ks) := by
 unfold Qel daAt
 congr 1
 funext i
 exact Qc0 h.nd
structure Arr where
 pt : Prt
 kd : UInt8
 to : UInt64
 tk : Int
 ma : Y16
structure Ltr where
 to : UInt64
 id : UInt64
 tk : Int
 tx : List UInt8
def mine (x : UInt64 × UInt64) (a : Arr) : Bool := a.kd == 2 && a.pt.kd == 1 && a.to == x.1 && a.pt.id == x.2
def Qba (qas : List Arr) (x : UInt64 × UInt64) : List Prt := tksK pid x.2 [] ((qas.filter (mine x)).map (·.pt))
def Qey (qas : List Arr) (a : Arr) : List Ltr :=
 if a.kd = 2 ∧ a.pt.kd = 1 ∧ tkE pid a.pt.id (Qba qas (a.to, a.pt.id)) a.pt = 0 ∧ ((Qba qas (a.to, a.pt.id)).length : Int) + 1 = a.pt.ct then [⟨a.to, a.pt.id, a.tk, Qel (Qba qas (a.to, a.pt.id) ++ [a.pt])⟩] else []
def ltrs (qas : List Arr) (k : Nat) : List Ltr := (Qnf k).flatMap fun i => match qas[i]? with | some a => Qey (qas.take i) a | none => []
theorem QgE (qas : List Arr) (k : Nat) (a : Arr) (h : qas[k]? = some a) : ltrs qas (k + 1) = ltrs qas k ++ Qey (qas.take k) a := by
 unfold ltrs
 rw [List.range_succ, List.flatMap_append]
 simp [h]
theorem QfT (qas : List Arr) (x : UInt64 × UInt64) : KeptOk (Qba qas x) := Qfq _ Qfs
theorem QeC (qas : List Arr) (x : UInt64 × UInt64) (a : Arr) : Qba (qas ++ [a]) x = if mine x a then tkK pid x.2 (Qba qas x) a.pt else Qba qas x := by
 unfold Qba
 rw [List.filter_append, Qnx]
 by_cases h : mine x a = true
 · rw [if_pos h]
   simp only [List.filter_cons, h, if_true, List.filter_nil, QmQ, QmG]
   exact QfH pid _ _ _ _
 · rw [if_neg h]
   simp [h]
end Go.Proofs.YtkibgdigcgakfabGreat
