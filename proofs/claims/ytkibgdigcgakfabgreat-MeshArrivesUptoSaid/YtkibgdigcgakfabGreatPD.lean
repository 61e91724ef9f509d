/-
  Lemmas for the last text of this claim (part 4 of 20).
-/
import Derived.BigQuiet
import Derived.BigRegion
import Derived.ChangeOld
import Derived.Deep.RegionWith
import Derived.DeepKeys4
import Derived.JoinedCond
import Derived.LaidMore
import Derived.Laws.CopyOwn
import Derived.Laws.Externs
import Derived.Laws.IdiomStrings
import Derived.Laws.Tables
import Derived.Lib.AppendStr
import Derived.Lib.AppendZerosOnto
import Derived.Lib.Mul64
import Derived.Lib.SlBytesConst
import Derived.LoopN
import Derived.Maps.OwnSet
import Derived.OpenShut
import Derived.OrdersHeld
import Derived.ProofKit
import Derived.Shelf.Spec.BitsCarry
import Derived.ShutString
import Derived.Test.YtkibgdigcgakfabGreatProg
import Derived.Test.YtkibgdigcgakfabGreatRows
import Derived.WalkKit
import Derived.WalkLawsBesides
import Derived.WalkSpells
import Derived.Test.YtkibgdigcgakfabGreatPC
open Bool renaming eq_iff_iff → QmY
open Int renaming natCast_mul → Qnq
open List renaming getElem?_eq_getElem → Qmw, getElem?_cons_succ → Qmz, getD_eq_getElem?_getD → QmA, replicate → QmC, getElem?_cons_zero → QmE, cons_append → QmK, nil_append → QmN, getElem?_eq_some_iff → QmO, length_append → QmP, getElem?_append_left → QmS, getElem?_append_right → QmX, take_append_drop → Qm9, range → Qnf, length_cons → Qnl, all_cons → Qnm
open Nat renaming le_refl → Qmx, zero_add → QmU, le_trans → Qm8, lt_or_ge → Qnk
open Option renaming toList_some → QmI
open UInt64 renaming toNat_inj → Qnn
open UInt8 renaming toNat_inj → Qm7
namespace Go.Proofs.YtkibgdigcgakfabGreat
open Go.RowKit
theorem Qga : (Tryz.prog.info? 5).map (fun i => (i.zero, i.size, i.bytes)) = some (some (.int .u8 0), 1, 1) := by kernel_rfl
theorem Qbp : (Tryz.prog.info? 5).map (·.size) = some 1 := by kernel_rfl
@[go_sem high] theorem cut8 (A : Option Addr) (n c : Nat) (kl kh : IntKind) (l h : Nat) (h1 : l ≤ h) (h2 : h ≤ c) (W : World) :
   (Instr.sliceAt 23 (.slice A n c) (some (.int kl (l : Int))) (some (.int kh (h : Int))) none).run Tryz.prog W = .ok (.slice (cutA A l c) (h - l) (c - l)) W := Qen Tryz.underlying23 Qbp A n c kl kh l h h1 h2 W
@[go_sem high] theorem QjQ (A : Option Addr) (n c : Nat) (kl : IntKind) (l : Nat) (h1 : l ≤ n) (W : World) :
   (Instr.sliceAt 23 (.slice A n c) (some (.int kl (l : Int))) none none).run Tryz.prog W = .ok (.slice (cutA A l c) (n - l) (c - l)) W := QdW Tryz.underlying23 Qbp A n c kl l h1 W
@[go_sem high] theorem QlG (A : Option Addr) (n c : Nat) (kh : IntKind) (h : Nat) (h2 : h ≤ c) (W : World) :
   (Instr.sliceAt 23 (.slice A n c) none (some (.int kh (h : Int))) none).run Tryz.prog W = .ok (.slice A h c) W := Qfm Tryz.underlying23 Qbp A n c kh h h2 W
@[go_sem high] theorem Qjn (b o : Nat) (kl : IntKind) (l : Nat) (h1 : l < 64) (W : World) :
   (Instr.sliceAt 203 (.pointer (some ⟨b, o, none⟩)) (some (.int kl (l : Int))) none none).run Tryz.prog W = .ok (.slice (some ⟨b, o + l, none⟩) (64 - l) (64 - l)) W := QdH Tryz.underlying203 Qbp b o kl l h1 W
@[go_sem high] theorem Qj7 (b o : Nat) (W : World) :
   (Instr.sliceAt 203 (.pointer (some ⟨b, o, none⟩)) none none none).run Tryz.prog W = .ok (.slice (some ⟨b, o, none⟩) 64 64) W := Qcp Tryz.underlying203 Qbp b o W
@[go_sem high] theorem QjB (b o : Nat) (W : World) :
   (Instr.sliceAt 91 (.pointer (some ⟨b, o, none⟩)) none none none).run Tryz.prog W = .ok (.slice (some ⟨b, o, none⟩) 32 32) W := Qcp Tryz.underlying91 Qbp b o W
theorem Qds {b c : Bool} (h : b = c) : Ending.returned (.bool b) = .returned (.bool c) := by rw [h]
theorem Qby (l : List UInt8) (i : Nat) (x : UInt8) : (l.map W8).set i (W8 x) = (l.set i x).map W8 := by rw [List.map_set]
set_option maxRecDepth 100000 in
set_option maxHeartbeats 400000 in
theorem QcB (A B : Option Addr) (n m c d : Nat) (xs ys : List UInt8) (w : World) (hx : RdB w A n xs) (hy : RdB w B m ys) (hn : n ≤ 140737488355328) (hm : m ≤ 140737488355328) :
 Calls Tryz.prog 9 #[.slice A n c, .slice B m d] w fun e w' => e = .returned (.bool (decide (xs = ys))) ∧ Later w w' := by
 have lx := hx.len
 have ly := hy.len
 by_cases hnm : n = m
 · subst hnm
   have hr : ∀ b : Bool, (b = true ↔ xs = ys) → decide (xs = ys) = b := by
    intro b hb
    cases b
    · exact decide_eq_false (fun h => by have := hb.2 h; cases this)
    · exact decide_eq_true (hb.1 rfl)
   have HR := hid hr
   clear hr
   generalize decide (xs = ys) = R at *
   go_enter Tryz.func9, Tryz.ntmps9
   go_wp2
   go_loopw [5] (fun i wr => ∃ k : Nat, k ≤ n ∧ i = .int .i64 k ∧ Later w wr ∧ Hid (∀ j, j < k → xs.getD j 0 = ys.getD j 0)) (fun i _ => n - (intOf i).toNat)
   case atStart => exact ⟨0, by omega, rfl, Later.refl w, hid (fun j hj => absurd hj (by omega))⟩
   case round =>
    obtain ⟨k, hk, rfl, hl, he⟩ := hrel
    by_cases hlt : k < n
    · obtain ⟨b1, o1, rfl, hb1, hc1⟩ := hx.at_ (by omega)
      obtain ⟨b2, o2, rfl, hb2, hc2⟩ := hy.at_ (by omega)
      have c1 : wr.cell? ⟨b1, o1 + k, none⟩ = some (W8 (xs.getD k 0)) := (hl.below.cell (p := ⟨b1, o1 + k, none⟩) hb1).trans (hc1 k hlt)
      have c2 : wr.cell? ⟨b2, o2 + k, none⟩ = some (W8 (ys.getD k 0)) := (hl.below.cell (p := ⟨b2, o2 + k, none⟩) hb2).trans (hc2 k hlt)
      clear hc1 hc2 hx hy
      generalize hX : xs.getD k 0 = X at *
      generalize hY : ys.getD k 0 = Y at *
      have HX := hid hX
      have HY := hid hY
      clear hX hY
      go_wp2
      refine Qaj [] [0, 1, 2, 3, 4, 5, 6, 7, 8] [] (by as_aux_lemma => kernel_rfl) (by as_aux_lemma => kernel_rfl) (by intro _ _ d _ _ h; cases d <;> exact h) ?_
      simp only [QaF, pick, Qmz, QmE, QmI, QmK, QmN]
      repeat (go_big_quiet_step (fail))
      refine wpQuiet_nil ?_
      go_wp2
      · go_ret
        refine ⟨Qds (HR.out false ⟨fun h => (by cases h), fun h => ?_⟩).symm, hl.drew⟩
        have hne : (X != Y) = true := by assumption
        rw [← HX.out, ← HY.out, h] at hne
        simp at hne
      · go_roundw
        case rel =>
         have hne : (X != Y) = false := by assumption
         refine ⟨k + 1, by omega, by go_num, hl.drew, hid fun j hj => ?_⟩
         by_cases hjk : j = k
         · subst hjk
           rw [HX.out, HY.out]
           simpa using hne
         · exact he.out j (by omega)
        case measure => simp [intOf]; omega
    · go_wp2
      go_ret
      refine ⟨Qds (HR.out true ⟨fun _ => ?_, fun _ => rfl⟩).symm, hl⟩
      apply List.ext_getElem (by omega)
      intro j h1 h2
      have := he.out j (by omega)
      rw [QmA, QmA, Qmw h1, Qmw h2] at this
      exact this
 · have hne : ((n : Int) != (m : Int)) = true := by simp; omega
   have hf : decide (xs = ys) = false := decide_eq_false (fun h => hnm (by rw [← lx, ← ly, h]))
   have HF := hid hf
   clear hf
   generalize decide (xs = ys) = R at *
   go_enter Tryz.func9, Tryz.ntmps9
   go_wp2
   go_ret
   exact ⟨Qds HF.out.symm, Later.refl w⟩
theorem QjE {w : World} {base : Nat} {e : TypeId} {v : Value} {n m : Nat} {xs ys : List Value} (h : w.ownsRow base e 1 v n xs) (hn : n = m) (hx : xs = ys) : w.ownsRow base e 1 v m ys := by subst hn; subst hx; exact h
def OwnB (w : World) (base : Nat) (A : Option Addr) (n c : Nat) (bs : List UInt8) : Prop := w.ownsRow base 5 1 (.slice A n c) n (bs.map W8)
theorem OwnB.rd {w : World} {base : Nat} {A : Option Addr} {n c : Nat} {bs : List UInt8} (h : OwnB w base A n c bs) : RdB w A n bs := Qh2 h
theorem OwnB.later {w w' : World} {base : Nat} {A : Option Addr} {n c : Nat} {bs : List UInt8} (h : OwnB w base A n c bs) (hl : Later w w') : OwnB w' base A n c bs := QaK h hl
theorem OwnB.mono {w : World} {base base' : Nat} {A : Option Addr} {n c : Nat} {bs : List UInt8} (h : OwnB w base A n c bs) (hb : base' ≤ base) : OwnB w base' A n c bs := QaY h hb
theorem OwnB.len {w : World} {base : Nat} {A : Option Addr} {n c : Nat} {bs : List UInt8} (h : OwnB w base A n c bs) : bs.length = n := h.rd.len
set_option maxHeartbeats 400000 in
theorem QeE (A : Option Addr) (n c : Nat) (bs : List UInt8) (w : World) (hr : RdB w A n bs) (hn : n ≤ 140737488355328) :
 Calls Tryz.prog 7 #[.slice A n c] w fun e w' => ∃ A' c', e = .returned (.slice A' n c') ∧ OwnB w' w.heap.size A' n c' bs ∧ Later w w' := by
 go_enter Tryz.func7, Tryz.ntmps7
 go_wp2_with (first
  | (refine Qbn rfl _ _ _ rfl 5 _ 1 Tryz.underlying23 Qga rfl w _ 0 [] (Qi1 w _ [] (by simp)) (Qaa _ _) A n c (bs.map W8) (Rd.later hr (Qaa _ _)) (Qc8 _) rfl rfl (by omega) (by omega) ?_; intro A' c' w' hown hl _ _))
 go_ret
 exact ⟨A', c', rfl, QjE (by rwa [QmU] at hown) rfl (by simp), hl⟩
end Go.Proofs.YtkibgdigcgakfabGreat
namespace Go.Proofs.YtkibgdigcgakfabGreat
open Go.RowKit
open Go.BigFrame
section
variable {P : Program} {ops : Array Oper} {C : World → Prop} {Q : Act → Prop} {a : Act} {o : Oper} {rest : List Oper}
end
section
variable {P : Program} {ops : Array Oper} {rest : List Oper} {o : Oper} {a : Act} {w : World} {Q : Exit → Act → World → Prop}
theorem Qct (hgd : o.guard = none) (l c : Operand) (t : TypeId) (ho : o.op = Op.makeSlice t l c) (e : TypeId) (z : Value) (bytes : Nat) (ht : P.underlying t = some (.slice e))
 (hinfo : (P.info? e).map (fun i => (i.zero, i.size, i.bytes)) = some (some z, 1, bytes)) (hz1 : z.cells = #[z]) (kl kc : IntKind) (L C : Int) (n m : Nat) (hl : a.eval l = .int kl L) (hc : a.eval c = .int kc C) (hL : L = (n : Int)) (hC : C = (m : Int))
 (hnm : n ≤ m) (hby : 0 < bytes) (hsz : m * bytes ≤ 140737488355328) (h : ∀ w', w'.ownsRow w.heap.size e 1 (.slice (some ⟨w.heap.size, 0, none⟩) n m) n (QmC n z) → Later w w' → wpList P ops Q rest (a.put o.dst (.slice (some ⟨w.heap.size, 0, none⟩) n m)) w') :
 wpList P ops Q (o :: rest) a w := by
 obtain ⟨i, hi, hz, hsize, hbytes⟩ := info_parts hinfo
 have hn : m ≤ 140737488355328 := Qm8 (Nat.le_mul_of_pos_right _ hby) hsz
 refine wpList_plain hgd fun K hK => ?_
 have hb : ((i.bytes : Int) * (m : Int)) ≤ 281474976710656 := by
  rw [hbytes, ← Qnq, Nat.mul_comm]
  omega
 have hr := run_make (P := P) w t e i z ht hi hz kl kc n m (by omega) (by omega) hb (by omega)
 simp only [Int.toNat_natCast, hsize, Nat.mul_one, hz1] at hr
 subst hL
 subst hC
 unfold Oper.wp
 simp only [execOp, ho, hl, hc, Sem.run_bind, hr, Result.andThen_ok, Sem.run_pure]
 refine hK _ _ (h _ ?_ (Qaa _ _))
 have hm : madeCells #[z] m = (QmC m z).toArray := by
  apply Array.toList_inj.1
  rw [toList_madeCells_one]
 rw [hm]
 have := World.ownsRow_lit (e := e) (size := 1) w (QmC m z).toArray m (Qmx _) (by unfold maxLen; omega) (by simp)
 refine ⟨by simp, .inr ⟨w.heap.size, m, (QmC m z).toArray, rfl, Qmx _, Blk.new w e _, hnm, by unfold maxLen; omega, by simp, ?_⟩⟩
 simp [List.take_replicate, hnm]
end
@[go_sem high] theorem Qlj (A : Option Addr) (n c : Nat) (kl kh : IntKind) (l h : Int) (h0 : 0 ≤ l) (h1 : l ≤ h) (h2 : h ≤ c) (W : World) :
   (Instr.sliceAt 23 (.slice A n c) (some (.int kl l)) (some (.int kh h)) none).run Tryz.prog W = .ok (.slice (cutA A l.toNat c) (h.toNat - l.toNat) (c - l.toNat)) W := QbP Tryz.underlying23 Qbp A n c kl kh l h h0 h1 h2 W
theorem Qd0 {w w' : World} {b1 b2 : Nat} {e1 e2 : TypeId} {v1 v2 : Value} {n1 n2 : Nat} {x1 x2 : List Value} (h1 : w.ownsRow b1 e1 1 v1 n1 x1) (h2 : w.ownsRow b2 e2 1 v2 n2 x2) (hne : e1 ≠ e2) (hg : w.grownBy w' v2.ownBlock) :
 w'.ownsRow b1 e1 1 v1 n1 x1 := by
 refine h1.kept hg ?_
 rcases h1.2 with ⟨rfl, _⟩ | ⟨g1, c1, cur1, rfl, _, hh1, _⟩
 · exact .inl rfl
 · right
   rcases h2.2 with ⟨rfl, _⟩ | ⟨g2, c2, cur2, rfl, _, hh2, _⟩
   · simp [Value.ownBlock]
   · intro hb
     simp only [Value.ownBlock, Option.some.injEq] at hb
     subst hb
     rw [hh1] at hh2
     injection hh2 with hh2
     injection hh2 with _ h
     exact hne h
def OwnParts (w : World) (base : Nat) (A : Option Addr) (n c : Nat) (ps : List (List UInt8)) : Prop :=
 ∃ vs : List Value, w.ownsRow base 23 1 (.slice A n c) n vs ∧ vs.length = ps.length ∧ ∀ (j : Nat) v p, vs[j]? = some v → ps[j]? = some p → ∃ A' n' c', v = .slice A' n' c' ∧ OwnB w base A' n' c' p
theorem OwnParts.later {w w' : World} {base : Nat} {A : Option Addr} {n c : Nat} {ps : List (List UInt8)} (h : OwnParts w base A n c ps) (hl : Later w w') : OwnParts w' base A n c ps := by
 obtain ⟨vs, h1, h2, h3⟩ := h
 exact ⟨vs, QaK h1 hl, h2, fun j v p hv hp => by obtain ⟨A', n', c', e1, e2⟩ := h3 j v p hv hp; exact ⟨A', n', c', e1, e2.later hl⟩⟩
theorem OwnParts.len {w : World} {base : Nat} {A : Option Addr} {n c : Nat} {ps : List (List UInt8)} (h : OwnParts w base A n c ps) : ps.length = n := by
 obtain ⟨vs, h1, h2, _⟩ := h
 rw [← h2]
 simpa using h1.1
theorem QbS {α : Type} [BEq α] [LawfulBEq α] (z : α) : ∀ (xs ys : List α), xs.length = ys.length → ((Qnf xs.length).all fun i => xs.getD i z == ys.getD i z) = (xs == ys)
 | [], [], _ => rfl
 | x :: xs, y :: ys, h => by
   have ih := QbS z xs ys (by simpa using h)
   rw [Qnl, List.range_succ_eq_map, Qnm, List.all_map]
   simp only [List.getD_cons_zero, Function.comp_def, List.getD_cons_succ, ih]
   simp [List.cons_beq_cons]
 | [], _ :: _, h => by simp at h
 | _ :: _, [], h => by simp at h
section
variable {P : Program} (w : World)
theorem Qax {α : Type} [BEq α] [LawfulBEq α] (z : α) (f : α → Value) (d : Nat) (t e : TypeId) (n : Nat) (ht : P.underlying t = some (.array n e)) (hs : (P.info? e).map (·.size) = some 1) {d0 : TypeDesc} (he : P.underlying e = some d0) (hd : Qa5 d0 = false)
 (heq : ∀ d x y w, (Op.equalIn (d + 1) e (f x) (f y)).run P w = .ok (x == y) w) (xs ys : List α) (hx : xs.length = n) (hy : ys.length = n) :
 (Op.equalIn (d + 2) t (.agg (xs.map f).toArray) (.agg (ys.map f).toArray)).run P w = .ok (xs == ys) w := by
 have hsz : ∀ w, (sizeOf e).run P w = .ok 1 w := by
  intro w
  cases hq : P.info? e with
  | none => simp [hq] at hs
  | some inf =>
    have hsz : inf.size = 1 := by simpa [hq] using hs
    simp [sizeOf, typeInfo, hq, hsz]
 have hagg : ∀ w, (isAgg e).run P w = .ok false w := by
  intro w
  unfold isAgg
  rw [Sem.run_bind, run_underlying he w]
  cases d0 <;> first | (simp; done) | (cases hd)
 rw [← QbS z xs ys (hx.trans hy.symm), hx, List.range_eq_range', Op.equalIn]
 simp only [Sem.run_bind, run_underlying ht, Result.andThen_ok, hsz, Std.Legacy.Range.forIn_eq_forIn_range', Std.Legacy.Range.size, Nat.sub_zero, Nat.add_sub_cancel, Nat.div_one]
 have hl : ∀ i ∈ List.range' 0 n 1, i < n := fun i hi => by simpa using (List.mem_range'_1.1 hi).2
 generalize List.range' 0 n 1 = l at hl ⊢
 induction l with
 | nil => simp
 | cons i l ih =>
   have hi : i < n := hl i (by simp)
   have px : (part e (xs.map f).toArray (i * 1)).run P w = .ok (f (xs.getD i z)) w := by
    simp [part, Sem.run_bind, hagg, List.getD, Qmw (show i < xs.length by omega)]
   have py : (part e (ys.map f).toArray (i * 1)).run P w = .ok (f (ys.getD i z)) w := by
    simp [part, Sem.run_bind, hagg, List.getD, Qmw (show i < ys.length by omega)]
   have pe := heq d (xs.getD i z) (ys.getD i z) w
   simp only [List.forIn_cons, Sem.run_bind, px, py, pe, Result.andThen_ok, Qnm]
   cases hb : (xs.getD i z == ys.getD i z)
   · simp
   · simp only [Bool.not_true, Bool.false_eq_true, if_false, Sem.run_pure, Result.andThen_ok, Bool.true_and]
     exact ih fun j hj => hl j (by simp [hj])
theorem QcZ (e : TypeId) (k : IntKind) (he : P.underlying e = some (.int k)) (d : Nat) (x y : UInt8) (w : World) : (Op.equalIn (d + 1) e (W8 x) (W8 y)).run P w = .ok (x == y) w := by
 rw [W8, W8, run_equalIn_int w d e .u8 k _ _ he]
 congr 1
 rw [QmY]
 simp [← Qm7]
 omega
theorem Qiz (e : TypeId) (k : IntKind) (he : P.underlying e = some (.int k)) (d : Nat) (x y : UInt32) (w : World) : (Op.equalIn (d + 1) e (W32 x) (W32 y)).run P w = .ok (x == y) w := by
 rw [W32, W32, run_equalIn_int w d e .u32 k _ _ he]
 congr 1
 rw [QmY]
 simp [← UInt32.toNat_inj]
 omega
theorem Qcn (e : TypeId) (k : IntKind) (he : P.underlying e = some (.int k)) (d : Nat) (x y : UInt64) (w : World) : (Op.equalIn (d + 1) e (W64 x) (W64 y)).run P w = .ok (x == y) w := by
 rw [W64, W64, run_equalIn_int w d e .u64 k _ _ he]
 congr 1
 rw [QmY]
 simp [← Qnn]
 omega
end
theorem Qjx : Tryz.prog.eqGuardType Tryz.prog.depth 91 = false := by kernel_rfl
theorem Qcm (xs ys : List UInt8) (hx : xs.length = 32) (hy : ys.length = 32) (w : World) : (binOp .eql 91 (.agg (xs.map W8).toArray) (.agg (ys.map W8).toArray)).run Tryz.prog w = .ok (.bool (xs == ys)) w := by
 rw [run_eql_struct, Qax w 0 W8 9998 91 5 32 Tryz.underlying91 Qbp Tryz.underlying5 rfl (QcZ _ _ Tryz.underlying5) xs ys hx hy]
 rfl
theorem Qcy (xs ys : List UInt8) (hx : xs.length = 32) (hy : ys.length = 32) (w : World) : (binOp .neq 91 (.agg (xs.map W8).toArray) (.agg (ys.map W8).toArray)).run Tryz.prog w = .ok (.bool (xs != ys)) w := by
 rw [run_neq_struct, Qax w 0 W8 9998 91 5 32 Tryz.underlying91 Qbp Tryz.underlying5 rfl (QcZ _ _ Tryz.underlying5) xs ys hx hy]
 rfl
@[go_sem high] theorem Qiv (op : BinOp) (x y : Operand) (xs ys : Array Value) (w : World) : (eqGuard op 91 x y (.agg xs) (.agg ys)).run Tryz.prog w = .ok () w := run_eqGuard_agg w op _ x y xs ys Qjx
attribute [go_sem high] Qcm Qcy
section
variable {P : Program} {ops : Array Oper} {rest : List Oper} {o : Oper} {a : Act} {w : World} {Q : Exit → Act → World → Prop}
end
theorem Qdn (w : World) : RdB w none 0 [] := ⟨rfl, fun h => absurd h (by omega)⟩
end Go.Proofs.YtkibgdigcgakfabGreat
namespace Go.Proofs.YtkibgdigcgakfabGreat
open Go.RowKit
theorem QiI {w : World} {base : Nat} {e : TypeId} {A : Option Addr} {n c : Nat} {vs : List Value} (h : w.ownsRow base e 1 (.slice A n c) n vs) : n ≤ c := by
 rcases h.2 with ⟨_, h0⟩ | ⟨g, cap, cur, hv, _, _, hnc, _⟩
 · omega
 · cases hv
   exact hnc
theorem OwnB.cap {w : World} {base : Nat} {A : Option Addr} {n c : Nat} {bs : List UInt8} (h : OwnB w base A n c bs) : n ≤ c := QiI h
def Avoid (bad : Nat → Prop) (A : Option Addr) (n : Nat) : Prop := 0 < n → ∀ ad, A = some ad → ¬ bad ad.block
theorem Avoid.off {bad : Nat → Prop} {A : Option Addr} {n : Nat} (h : Avoid bad A n) {g : Nat} (hg : bad g) (hn : 0 < n) : Off A g := fun ad hd e => h hn ad hd (e ▸ hg)
def Part (w : World) (bad : Nat → Prop) (v : Value) (p : List UInt8) : Prop := ∃ A n c, v = .slice A n c ∧ n ≤ c ∧ RdB w A n p ∧ Avoid bad A n
def Parts (w : World) (bad : Nat → Prop) (A : Option Addr) (n : Nat) (ps : List (List UInt8)) : Prop :=
 ∃ vs : List Value, Rd w A n vs ∧ Avoid bad A n ∧ vs.length = ps.length ∧ ∀ (j : Nat) v p, vs[j]? = some v → ps[j]? = some p → Part w bad v p
theorem Part.later {w w' : World} {bad : Nat → Prop} {v : Value} {p : List UInt8} (h : Part w bad v p) (hl : Later w w') : Part w' bad v p := by
 obtain ⟨A, n, c, h1, h2, h3, h4⟩ := h
 exact ⟨A, n, c, h1, h2, h3.later hl, h4⟩
theorem Rd.onlyAvoid {w w' : World} {A : Option Addr} {n : Nat} {vs : List Value} {g : Nat} {bad : Nat → Prop} (h : Rd w A n vs) (hv : Avoid bad A n) (ho : Only g w w') (hg : bad g) : Rd w' A n vs := by
 by_cases hn : 0 < n
 · exact h.onlyOff ho (hv.off hg hn)
 · exact ⟨h.1, fun h' => absurd h' hn⟩
theorem Part.only {w w' : World} {bad : Nat → Prop} {v : Value} {p : List UInt8} {g : Nat} (h : Part w bad v p) (ho : Only g w w') (hg : bad g) : Part w' bad v p := by
 obtain ⟨A, n, c, h1, h2, h3, h4⟩ := h
 exact ⟨A, n, c, h1, h2, Rd.onlyAvoid h3 h4 ho hg, h4⟩
theorem Parts.later {w w' : World} {bad : Nat → Prop} {A : Option Addr} {n : Nat} {ps : List (List UInt8)} (h : Parts w bad A n ps) (hl : Later w w') : Parts w' bad A n ps := by
 obtain ⟨vs, h1, h2, h3, h4⟩ := h
 exact ⟨vs, h1.later hl, h2, h3, fun j v p hv hp => (h4 j v p hv hp).later hl⟩
theorem Parts.only {w w' : World} {bad : Nat → Prop} {A : Option Addr} {n : Nat} {ps : List (List UInt8)} {g : Nat} (h : Parts w bad A n ps) (ho : Only g w w') (hg : bad g) : Parts w' bad A n ps := by
 obtain ⟨vs, h1, h2, h3, h4⟩ := h
 exact ⟨vs, h1.onlyAvoid h2 ho hg, h2, h3, fun j v p hv hp => (h4 j v p hv hp).only ho hg⟩
theorem Avoid.more {w : World} {bad bad' : Nat → Prop} {A : Option Addr} {n : Nat} {vs : List Value} (h : Avoid bad A n) (hr : Rd w A n vs) (hb : ∀ b, bad' b → bad b ∨ w.heap.size ≤ b) : Avoid bad' A n := by
 intro hn ad hd hbad
 rcases hb _ hbad with h1 | h1
 · exact h hn ad hd h1
 · obtain ⟨b, o, rfl, hlt, _⟩ := hr.2 hn
   cases hd
   exact absurd hlt (by simpa using h1)
theorem Parts.more {w : World} {bad bad' : Nat → Prop} {A : Option Addr} {n : Nat} {ps : List (List UInt8)} (h : Parts w bad A n ps) (hb : ∀ b, bad' b → bad b ∨ w.heap.size ≤ b) : Parts w bad' A n ps := by
 obtain ⟨vs, h1, h2, h3, h4⟩ := h
 refine ⟨vs, h1, h2.more h1 hb, h3, fun j v p hv hp => ?_⟩
 obtain ⟨A', n', c', e1, e2, e3, e4⟩ := h4 j v p hv hp
 exact ⟨A', n', c', e1, e2, e3, e4.more e3 hb⟩
theorem Parts.len {w : World} {bad : Nat → Prop} {A : Option Addr} {n : Nat} {ps : List (List UInt8)} (h : Parts w bad A n ps) : ps.length = n := by
 obtain ⟨vs, h1, _, h3, _⟩ := h
 rw [← h3, h1.1]
theorem Qbv (ps : List (List UInt8)) (k : Nat) : (ps.take k).flatten.length ≤ ps.flatten.length := by
 have : ps.flatten = (ps.take k).flatten ++ (ps.drop k).flatten := by rw [← List.flatten_append, Qm9]
 rw [this, QmP]
 omega
end Go.Proofs.YtkibgdigcgakfabGreat
namespace Go.Proofs.YtkibgdigcgakfabGreat
open Go.RowKit
theorem QeZ : (5 : TypeId) ≠ 23 := by decide
theorem OwnParts.snoc {w w' : World} {base : Nat} {A A' A1 : Option Addr} {n c c' n1 c1 : Nat} {ps : List (List UInt8)} {p : List UInt8} {us : List Value}
 (h1 : w.ownsRow base 23 1 (.slice A n c) n us) (h2 : us.length = ps.length)
 (h3 : ∀ (j : Nat) v p, us[j]? = some v → ps[j]? = some p → ∃ A' n' c', v = .slice A' n' c' ∧ OwnB w base A' n' c' p) (hp : OwnB w base A1 n1 c1 p) (hg : w.grownBy w' (Value.slice A n c).ownBlock)
 (hown : w'.ownsRow base 23 1 (.slice A' (n + 1) c') (n + 1) (us ++ [.slice A1 n1 c1])) : OwnParts w' base A' (n + 1) c' (ps ++ [p]) := by
 refine ⟨_, hown, by simp [h2], fun j v q hv hq => ?_⟩
 rcases Qnk j us.length with hj | hj
 · rw [QmS hj] at hv
   rw [QmS (by omega)] at hq
   obtain ⟨B, m, d, e1, e2⟩ := h3 j v q hv hq
   exact ⟨B, m, d, e1, Qd0 e2 h1 QeZ hg⟩
 · rw [QmX hj] at hv
   rw [QmX (by omega)] at hq
   have hj0 : j - us.length = 0 := by
    have := (QmO.1 hv).1
    simp at this
    omega
   rw [hj0] at hv
   rw [← h2, hj0] at hq
   simp only [QmE, Option.some.injEq] at hv hq
   subst hv
   subst hq
   exact ⟨_, _, _, rfl, Qd0 hp h1 QeZ hg⟩
theorem Parts.at_ {w : World} {bad : Nat → Prop} {A : Option Addr} {n : Nat} {ps : List (List UInt8)} (h : Parts w bad A n ps) {k : Nat} (hk : k < n) :
 ∃ b o A' n' c', A = some ⟨b, o, none⟩ ∧ b < w.heap.size ∧ w.cell? ⟨b, o + k, none⟩ = some (.slice A' n' c') ∧ n' ≤ c' ∧ RdB w A' n' (ps.getD k []) ∧ Avoid bad A' n' := by
 have hl := h.len
 obtain ⟨vs, hr, _, hvl, hparts⟩ := h
 obtain ⟨b, o, rfl, hb, hc⟩ := hr.at_ (by omega)
 have hck := hc k hk
 obtain ⟨A', n', c', hv, h2, h3, h4⟩ := hparts k _ _ (Qmw (by omega)) (Qmw (by omega))
 rw [hv] at hck
 refine ⟨b, o, A', n', c', rfl, hb, hck, h2, ?_, h4⟩
 rw [QmA, Qmw (by omega)]
 exact h3
theorem QbH (ps : List (List UInt8)) (k : Nat) (h : k < ps.length) : ps.take (k + 1) = ps.take k ++ [ps.getD k []] := by
 rw [List.take_succ_eq_append_getElem h, QmA, Qmw h]
 rfl
def PartAll (w : World) (bad : Nat → Prop) : List Value → List (List UInt8) → Prop
 | [], [] => True
 | v :: vs, p :: ps => Part w bad v p ∧ PartAll w bad vs ps
 | _, _ => False
theorem PartAll.at_ {w : World} {bad : Nat → Prop} : ∀ {vs : List Value} {ps : List (List UInt8)}, PartAll w bad vs ps → vs.length = ps.length ∧ ∀ (j : Nat) v p, vs[j]? = some v → ps[j]? = some p → Part w bad v p
 | [], [], _ => ⟨rfl, fun j v p hv => by simp at hv⟩
 | v :: vs, p :: ps, h => by
   obtain ⟨h1, h2⟩ := h
   obtain ⟨h3, h4⟩ := PartAll.at_ h2
   refine ⟨by simp [h3], fun j u q hu hq => ?_⟩
   cases j with
   | zero =>
     simp only [QmE, Option.some.injEq] at hu hq
     subst hu
     subst hq
     exact h1
   | succ j => exact h4 j u q (by simpa using hu) (by simpa using hq)
 | [], _ :: _, h => h.elim
 | _ :: _, [], h => h.elim
theorem Qcq (A : Option Addr) (n : Nat) : Avoid (fun _ => False) A n := fun _ _ _ h => h
theorem Blk.rd {w : World} {g : Nat} {t : TypeId} {l : List Value} {n : Nat} (h : Blk w g t l) (hn : l.length = n) : Rd w (some ⟨g, 0, none⟩) n l :=
 ⟨hn, fun _ => ⟨g, 0, rfl, h.lt, fun j u hu => by rw [QmU]; exact h.cellD j hu⟩⟩
theorem OwnParts.parts {w : World} {base : Nat} {A : Option Addr} {n c : Nat} {ps : List (List UInt8)} (h : OwnParts w base A n c ps) : Parts w (fun _ => False) A n ps := by
 obtain ⟨vs, h1, h2, h3⟩ := h
 exact ⟨vs, Qh2 h1, Qcq A n, h2, fun j v p hv hp => by obtain ⟨A', n', c', e1, e2⟩ := h3 j v p hv hp; exact ⟨A', n', c', e1, e2.cap, e2.rd, Qcq _ _⟩⟩
section
variable {P : Program} {ops : Array Oper} {rest : List Oper} {o : Oper} {a : Act} {w : World} {Q : Exit → Act → World → Prop}
theorem Qab (hgd : o.guard = none) (hd : o.dst = none) (ty : TypeId) (x y : Operand) (ho : o.op = .store ty x y) (g : Nat) (t : TypeId) (l vs : List Value) (hg : Blk w g t l)
 (hx : a.eval x = .pointer (some ⟨g, 0, none⟩)) (hy : a.eval y = .agg vs.toArray) (k : Nat) (hi : (P.info? ty).map (·.size) = some k) (hvl : vs.length = k) (hl : l.length = k) (h1 : ∀ v ∈ vs, v.oneCell' = true)
 (h : ∀ w', Blk w' g t vs → Only g w w' → wpList P ops Q rest a w') : wpList P ops Q (o :: rest) a w :=
 Qaz hgd hd ty x y ho g 0 t l vs hg hx hy (by rw [hvl]; exact hi) (by omega) h1 fun w' hb ho => h w' (by rwa [Qbk _ _ (by omega)] at hb) ho
end
theorem Qda {p : Nat → Prop} {k : Nat} (h : ∀ j, j < k → p j) (hk : p k) : ∀ j, j < k + 1 → p j := by
 intro j hj
 rcases Qnk j k with h1 | h1
 · exact h j h1
 · obtain rfl : j = k := by omega
   exact hk
end Go.Proofs.YtkibgdigcgakfabGreat
