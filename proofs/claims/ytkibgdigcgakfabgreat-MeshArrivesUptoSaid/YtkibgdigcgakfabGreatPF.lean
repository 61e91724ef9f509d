/-
  Lemmas for the last text of this claim (part 6 of 20).
-/
import Derived.BigQuiet
import Derived.BigRegion
import Derived.ChangeOld
import Derived.Deep.RegionWith
import Derived.DeepKeys4
import Derived.JoinedCond
import Derived.LaidMore
import Derived.Laws.CopyOwn
import Derived.Laws.Externs
import Derived.Laws.IdiomStrings
import Derived.Laws.Tables
import Derived.Lib.AppendStr
import Derived.Lib.AppendZerosOnto
import Derived.Lib.Mul64
import Derived.Lib.SlBytesConst
import Derived.LoopN
import Derived.Maps.OwnSet
import Derived.OpenShut
import Derived.OrdersHeld
import Derived.ProofKit
import Derived.Shelf.Spec.BitsCarry
import Derived.ShutString
import Derived.Test.YtkibgdigcgakfabGreatProg
import Derived.Test.YtkibgdigcgakfabGreatRows
import Derived.WalkKit
import Derived.WalkLawsBesides
import Derived.WalkSpells
import Derived.Test.YtkibgdigcgakfabGreatPA
import Derived.Test.YtkibgdigcgakfabGreatPC
open Array renaming getElem?_eq_none → Qnd
open Bool renaming and_eq_true → QmH
open List renaming getElem?_eq_getElem → Qmw, map_cons → QmQ, mem_cons → QmV, mem_map → Qm5, eq_nil_of_length_eq_zero → Qm6, length_cons → Qnl, all_cons → Qnm, all_eq_true → Qnt
open Nat renaming le_refl → Qmx, lt_of_lt_of_le → QmL, zero_add → QmU, le_trans → Qm8, lt_or_ge → Qnk
open Option renaming toList_some → QmI, map_some → Qnp, getD_some → Qnz
namespace Go.Proofs.YtkibgdigcgakfabGreat
open Go.RowKit
def Makes (P : Program) (ops : Array Oper) (o : Oper) (v : Nat → Value) (O : Obj) (a : Act) : Prop :=
 Region.wanted o (yielded ops a.tmps) = true ∧ ∀ w, (execOp a.eval o).run P w = .ok (.value (v w.heap.size)) (w.alloc O)
section
variable {P : Program} {ops : Array Oper} {Q : Exit → Act → World → Prop}
theorem Makes.of_same {o : Oper} {v : Nat → Value} {O : Obj} {a a' : Act} (h : Makes P ops o v O a) (he : execOp a'.eval o = execOp a.eval o) (hw : Region.wanted o (yielded ops a'.tmps) = Region.wanted o (yielded ops a.tmps)) : Makes P ops o v O a' := by
 unfold Makes at *
 rw [he, hw]
 exact h
theorem QgM {j : Nat} {oi oj : Oper} {v : Nat → Value} {O : Obj} {u : Value} (hj : ops[j]? = some oj) (hap : oi.apart ops oj = true)
 (hsi : ∀ cs b, oi.op ≠ .select cs b) (hsj : ∀ cs b, oj.op ≠ .select cs b) (hQ : ∀ c a w, Q (.panic c) a w → Q (.panic c) (a.put oi.dst u) w) {K : Act → World → Prop} {a : Act} {w : World}
 (hm : Makes P ops oi v O a) (h : wpOp P ops Q j K a w) :
 wpOp P ops Q j (fun a' w' => ∃ a0, a' = a0.put oi.dst u ∧ Makes P ops oi v O a0 ∧ K a0 w') (a.put oi.dst u) w := by
 obtain ⟨h1, h2, h3⟩ := Oper.apart_spec hap
 have keep : ∀ (a : Act), Makes P ops oi v O a → ∀ x, Makes P ops oi v O (a.put oj.dst x) := fun a hy x =>
  hy.of_same (execOp_put oi hsi a oj.dst x h3) (wanted_put oi a oj.dst x h3)
 have keepD : ∀ d, Makes P ops oi v O { a with defers := d :: a.defers } := fun d => hm.of_same rfl rfl
 unfold wpOp at *
 simp only [hj] at *
 rw [wanted_put oj a oi.dst u h1]
 split
 · rename_i hw
   simp only [hw, if_true] at h
   rcases h with h | ⟨hasks, hlets⟩
   case inr => exact .inr ⟨by unfold Oper.asks at *; rw [execOp_put oj hsj a oi.dst u h1]; exact hasks, hlets⟩
   refine .inl ?_
   unfold Oper.wp at *
   rw [execOp_put oj hsj a oi.dst u h1]
   generalize (execOp a.eval oj).run P w = r at *
   cases r with
   | ok n w' =>
     cases n <;> simp only [Oper.upon] at h ⊢
     case value x => exact ⟨_, Act.put_comm a u x h2, keep a hm x, h⟩
     case skip => exact ⟨_, Act.put_comm a u undef h2, keep a hm _, h⟩
     case defer d =>
      refine ⟨_, ?_, keep _ (keepD d) undef, h⟩
      rw [← Act.put_comm _ u undef h2]
      unfold Act.put
      cases oi.dst <;> cases oj.dst <;> rfl
     case enter f args =>
      refine Calls.mono h fun e w'' he => ?_
      cases e with
      | returned x => exact ⟨_, Act.put_comm a u x h2, keep a hm x, he⟩
      | panicked c => exact hQ _ _ _ he
      | outgrown => exact he
     case row row args => exact Rows.mono h fun x w'' he => ⟨_, Act.put_comm a u x h2, keep a hm x, he⟩
   | halt x w' =>
     cases x <;> simp only [Oper.upon] at h ⊢
     case panic x => exact hQ _ _ _ h
 · rename_i hw
   simp only [hw] at h
   exact ⟨_, Act.put_comm a u undef h2, keep a hm _, h⟩
def wpM (P : Program) (ops : Array Oper) (Q : Exit → Act → World → Prop) (base : Nat) (mk : Nat → (Nat → Value) × Obj) : (Nat → Prop) → Bool → List (Nat × Nat) → Act → World → Prop
 | _, _, [], a, w => Q .normal a w
 | S, fz, (i, 0) :: r, a, w => ∃ o, ops[i]? = some o ∧ if Region.wanted o (yielded ops a.tmps) then o.quiet P a (Later w) (fun a' => wpM P ops Q base mk S fz r a' w) else wpM P ops Q base mk S fz r (a.put o.dst undef) w
 | S, fz, (i, 1) :: r, a, w => ∀ w1, Later w w1 → wpOp P ops Q i (fun a' w' => Later w1 w' ∧ wpM P ops Q base mk S fz r a' w') a w1
 | S, fz, (i, 2) :: r, a, w => ∃ o, ops[i]? = some o ∧ ∀ w1 g, Later w w1 → base ≤ g → ¬ S g → w1.heap[g]? = some (mk i).2 → wpM P ops Q base mk (fun n => n = g ∨ S n) fz r (a.put o.dst ((mk i).1 g)) w1
 | S, true, (i, _) :: r, a, w => ∀ w1, Later w w1 → wpOp P ops Q i (fun a' w' => wpM P ops Q base mk S false r a' w') a w1
 | S, false, (i, _) :: r, a, w => wpOp P ops Q i (fun a' w' => wpM P ops Q base mk S false r a' w') a w
theorem Qi8 (S : Nat → Prop) (g h : Nat) : (fun n => n = g ∨ (n = h ∨ S n)) = (fun n => n = h ∨ (n = g ∨ S n)) := by
 funext n
 exact propext ⟨fun x => x.elim (fun e => .inr (.inl e)) fun y => y.elim .inl fun z => .inr (.inr z), fun x => x.elim (fun e => .inr (.inl e)) fun y => y.elim .inl fun z => .inr (.inr z)⟩
theorem QfC {j : Nat} {oj : Oper} (hj : ops[j]? = some oj) {I : Act → Prop} {K : Act → World → Prop} {a : Act} {w : World} (hI : I a) (hput : ∀ a, I a → ∀ x, I (a.put oj.dst x)) (hdef : ∀ a, I a → ∀ d, I { a with defers := d :: a.defers })
 (h : wpOp P ops Q j K a w) : wpOp P ops Q j (fun a' w' => I a' ∧ K a' w') a w := by
 unfold wpOp at *
 simp only [hj] at *
 split
 · rename_i hw
   simp only [hw, if_true] at h
   rcases h with h | h
   case inr => exact .inr h
   refine .inl ?_
   unfold Oper.wp at *
   generalize (execOp a.eval oj).run P w = r at *
   cases r with
   | ok n w' =>
     cases n <;> simp only [Oper.upon] at h ⊢
     case value x => exact ⟨hput a hI x, h⟩
     case skip => exact ⟨hput a hI undef, h⟩
     case defer d => exact ⟨hput _ (hdef a hI d) undef, h⟩
     case enter f args =>
      refine Calls.mono h fun e w'' he => ?_
      cases e with
      | returned x => exact ⟨hput a hI x, he⟩
      | panicked c => exact he
      | outgrown => exact he
     case row row args => exact Rows.mono h fun x w'' he => ⟨hput a hI x, he⟩
   | halt x w' =>
     cases x <;> simp only [Oper.upon] at h ⊢
     case panic x => exact h
 · rename_i hw
   simp only [hw] at h
   exact ⟨hput a hI undef, h⟩
def QaS (i : Nat) : List (Nat × Nat) → List (Nat × Nat)
 | [] => []
 | (k, kd) :: r => if k = i then r else (k, kd) :: QaS i r
def Qbo (ops : Array Oper) (oi : Oper) (i : Nat) : List (Nat × Nat) → Bool
 | [] => false
 | (k, kd) :: r => if k = i then decide (kd = 2) else decide (kd ≤ 2) && ((ops[k]?).map fun ok => oi.apart ops ok && (kd != 0 || calm ok)).getD false && Qbo ops oi i r
theorem Qie {base : Nat} {mk : Nat → (Nat → Value) × Obj} {i g : Nat} {oi : Oper} (hi : ops[i]? = some oi) (hsel : ∀ (j : Nat) (o : Oper) cs b, ops[j]? = some o → o.op ≠ .select cs b)
 (hQ : ∀ c a d v w, Q (.panic c) a w → Q (.panic c) (a.put d v) w) (hb : base ≤ g) :
 ∀ (l : List (Nat × Nat)) (S : Nat → Prop) (a : Act) (w w2 : World), Qbo ops oi i l = true → ¬ S g → wpM P ops Q base mk S true l a w → Makes P ops oi (mk i).1 (mk i).2 a → Later w w2 → w2.heap[g]? = some (mk i).2 →
   wpM P ops Q base mk (fun n => n = g ∨ S n) true (QaS i l) (a.put oi.dst ((mk i).1 g)) w2
 | [], _, _, _, _, hB, _, _, _, _, _ => by simp [Qbo] at hB
 | (k, kd) :: r, S, a, w, w2, hB, hSg, h, hm, hl, hg => by
   unfold Qbo at hB
   unfold QaS
   by_cases hk : k = i
   · subst hk
     rw [if_pos rfl] at hB
     rw [if_pos rfl]
     obtain rfl : kd = 2 := by simpa using hB
     obtain ⟨o, ho, h⟩ := h
     obtain rfl : o = oi := Option.some.inj (ho.symm.trans hi)
     exact h w2 g hl hb hSg hg
   · rw [if_neg hk] at hB
     rw [if_neg hk]
     simp only [QmH, decide_eq_true_eq] at hB
     obtain ⟨⟨hkd, hap⟩, hB⟩ := hB
     obtain ⟨ok, hok⟩ : ∃ ok, ops[k]? = some ok := by
      cases hq : ops[k]? with
      | none => simp [hq] at hap
      | some o => exact ⟨o, rfl⟩
     have hap2 : oi.apart ops ok = true ∧ (kd = 0 → calm ok = true) := by
      simp only [hok, Qnp, Qnz, QmH, Bool.or_eq_true, bne_iff_ne] at hap
      exact ⟨hap.1, fun h => by rcases hap.2 with h' | h' <;> first | exact absurd h h' | exact h'⟩
     obtain ⟨hap', hcalm⟩ := hap2
     obtain ⟨h1, h2, h3⟩ := Oper.apart_spec hap'
     have hsi := fun cs b => hsel i oi cs b hi
     have hsk := fun cs b => hsel k ok cs b hok
     have keep : ∀ (a : Act), Makes P ops oi (mk i).1 (mk i).2 a → ∀ x, Makes P ops oi (mk i).1 (mk i).2 (a.put ok.dst x) := fun a hy x =>
      hy.of_same (execOp_put oi hsi a ok.dst x h3) (wanted_put oi a ok.dst x h3)
     have ih := Qie (mk := mk) hi hsel hQ hb r
     match kd, hkd with
     | 0, _ =>
       obtain ⟨o, ho, h⟩ := h
       obtain rfl : o = ok := Option.some.inj (ho.symm.trans hok)
       refine ⟨o, ho, ?_⟩
       rw [wanted_put o a oi.dst _ h1]
       split
       · rename_i hw
         rw [if_pos hw] at h
         obtain ⟨x, hx1, hx2⟩ := h
         refine ⟨x, fun w' hw' => ?_, ?_⟩
         · have := hx1 w' (hl.trans hw')
           unfold Oper.quietAt at *
           rw [execOp_put o hsk a oi.dst _ h1]
           cases hr : (execOp a.eval o).run P w' with
           | halt e w3 => rw [hr] at this; exact absurd this (by simp [Oper.quietUpon])
           | ok n w3 =>
             rw [hr] at this
             obtain ⟨y, rfl⟩ := QcS (hcalm rfl) hr
             exact this
         · rw [Act.put_comm a _ x h2]
           exact ih _ _ w w2 hB hSg hx2 (keep a hm x) hl hg
       · rename_i hw
         rw [if_neg hw] at h
         rw [Act.put_comm a _ undef h2]
         exact ih _ _ w w2 hB hSg h (keep a hm undef) hl hg
     | 1, _ =>
       intro w1 hl1
       refine wpOp_mono (fun a' w' h' => ?_) (QgM hok hap' hsi hsk (fun c a w => hQ c a _ _ w) hm (h w1 (hl.trans hl1)))
       obtain ⟨a0, rfl, hm0, hl', h'⟩ := h'
       exact ⟨hl', ih _ a0 w' w' hB hSg h' hm0 (Later.refl _) (((hl1.trans hl').below.block g (by
        rcases Qnk g w2.heap.size with hlt | hge
        · exact hlt
        · rw [Qnd hge] at hg
          cases hg)).trans hg)⟩
     | 2, _ =>
       obtain ⟨o, ho, h⟩ := h
       obtain rfl : o = ok := Option.some.inj (ho.symm.trans hok)
       refine ⟨o, ho, fun w1 g' hl1 hb' hS' hg' => ?_⟩
       rw [Act.put_comm a _ _ h2, Qi8]
       exact ih _ _ w1 w1 hB (fun hx => hx.elim (fun e => hS' (.inl e.symm)) hSg) (h w1 g' (hl.trans hl1) hb' (fun hx => hS' (.inr hx)) hg') (keep a hm _) (Later.refl _) ((hl1.below.block g (by
        rcases Qnk g w2.heap.size with hlt | hge
        · exact hlt
        · rw [Qnd hge] at hg
          cases hg)).trans hg)
def mkB (ops : Array Oper) (j : Nat) (l : List (Nat × Nat)) : Bool := ((ops[j]?).map fun oj => Qbo ops oj j l).getD false
theorem QgV {j : Nat} {l : List (Nat × Nat)} (h : mkB ops j l = true) : ∃ oj, ops[j]? = some oj ∧ Qbo ops oj j l = true := by
 unfold mkB at h
 cases hq : ops[j]? with
 | none => simp [hq] at h
 | some o => exact ⟨o, rfl, by simpa [hq] using h⟩
theorem Qc9 {oi : Oper} {i : Nat} : ∀ {l : List (Nat × Nat)}, Qbo ops oi i l = true → (i, 2) ∈ l
 | [], h => by simp [Qbo] at h
 | (k, kd) :: r, h => by
   unfold Qbo at h
   by_cases hk : k = i
   · rw [if_pos hk] at h
     obtain rfl : kd = 2 := by simpa using h
     subst hk
     simp
   · rw [if_neg hk] at h
     simp only [QmH] at h
     exact List.mem_cons_of_mem _ (Qc9 h.2)
theorem Qa7 (i : Nat) : ∀ (l : List (Nat × Nat)) (x : Nat × Nat), x ∈ QaS i l → x ∈ l
 | [], _, h => h
 | (k, kd) :: r, x, h => by
   unfold QaS at h
   split at h
   · exact List.mem_cons_of_mem _ h
   · rcases QmV.1 h with rfl | h
     · exact List.mem_cons_self
     · exact List.mem_cons_of_mem _ (Qa7 i r x h)
theorem QbF {oi : Oper} {i : Nat} : ∀ {l : List (Nat × Nat)}, Qbo ops oi i l = true → (QaS i l).length + 1 = l.length
 | [], h => by simp [Qbo] at h
 | (k, kd) :: r, h => by
   unfold Qbo at h
   unfold QaS
   by_cases hk : k = i
   · rw [if_pos hk]
     rfl
   · rw [if_neg hk] at h
     rw [if_neg hk]
     simp only [QmH] at h
     simp [QbF h.2]
def okM (ops : Array Oper) (tl : Nat → Bool) : Nat → Bool → List (Nat × Nat) → Array Bool → Bool
 | _, _, [], listed => (Region.ready .any ops listed).isEmpty
 | 0, _, _ :: _, _ => false
 | n + 1, fz, (i, kd) :: r, listed =>
   let rd := Region.ready .any ops listed
   if kd = 0 then fz && rd.contains i && Region.free .any ops listed i && ((ops[i]?).map calm).getD false && !tl i && okM ops tl n fz r (listed.setIfInBounds i true)
   else if kd = 1 then fz && !tl i && rd.contains i && rd.all fun j => if j = i then okM ops tl n fz r (listed.setIfInBounds i true) else mkB ops j ((i, kd) :: r) && !tl j && okM ops tl n fz (QaS j ((i, kd) :: r)) (listed.setIfInBounds j true)
   else if kd = 2 then fz && !rd.isEmpty && rd.all fun j => mkB ops j ((i, kd) :: r) && !tl j && okM ops tl n fz (QaS j ((i, kd) :: r)) (listed.setIfInBounds j true)
   else decide (rd = [i]) && tl i && okM ops tl n false r (listed.setIfInBounds i true)
def Sep (ops : Array Oper) (l : List (Nat × Nat)) : Prop :=
 ∀ i oi, (i, 2) ∈ l → ops[i]? = some oi → ∀ k kd ok, (k, kd) ∈ l → k ≠ i → ops[k]? = some ok → ∀ d, ok.dst = some d → d ∉ oi.looksAt ops
theorem Sep.sub {l l' : List (Nat × Nat)} (h : Sep ops l) (hs : ∀ x, x ∈ l' → x ∈ l) : Sep ops l' :=
 fun i oi hi ho k kd ok hk hne hok d hd => h i oi (hs _ hi) ho k kd ok (hs _ hk) hne hok d hd
def Specs (P : Program) (ops : Array Oper) (mk : Nat → (Nat → Value) × Obj) (l : List (Nat × Nat)) (a : Act) : Prop := ∀ i oi, (i, 2) ∈ l → ops[i]? = some oi → Makes P ops oi (mk i).1 (mk i).2 a
theorem Specs.put {mk : Nat → (Nat → Value) × Obj} {l l' : List (Nat × Nat)} {a : Act} {k kd : Nat} {ok : Oper} (h : Specs P ops mk l' a) (hs : ∀ x, x ∈ l' → x ∈ l) (hsep : Sep ops l) (hk : (k, kd) ∈ l) (hok : ops[k]? = some ok) (hnot : k ∉ l'.map (·.1))
 (hsel : ∀ (j : Nat) (o : Oper) cs b, ops[j]? = some o → o.op ≠ .select cs b) (x : Value) : Specs P ops mk l' (a.put ok.dst x) := by
 intro i oi hi ho
 have hne : k ≠ i := fun e => hnot (Qm5.2 ⟨_, hi, e.symm⟩)
 have h3 := hsep i oi (hs _ hi) ho k kd ok hk hne hok
 exact (h i oi hi ho).of_same (execOp_put oi (fun cs b => hsel i oi cs b ho) a ok.dst x h3) (wanted_put oi a ok.dst x h3)
theorem Specs.defers {mk : Nat → (Nat → Value) × Obj} {l : List (Nat × Nat)} {a : Act} (h : Specs P ops mk l a) (d : Deferred) : Specs P ops mk l { a with defers := d :: a.defers } :=
 fun i oi hi ho => (h i oi hi ho).of_same rfl rfl
theorem QbA (w : World) (o : Obj) : Later w (w.alloc o) := .of_below ((Below.refl _ _).alloc (Qmx _) o)
theorem QbU {i : Nat} : ∀ {l : List (Nat × Nat)}, (l.map (·.1)).Nodup → ((QaS i l).map (·.1)).Nodup ∧ i ∉ (QaS i l).map (·.1)
 | [], _ => by simp [QaS]
 | (k, kd) :: r, h => by
   simp only [QmQ, List.nodup_cons] at h
   unfold QaS
   by_cases hk : k = i
   · rw [if_pos hk]
     subst hk
     exact ⟨h.2, h.1⟩
   · rw [if_neg hk]
     obtain ⟨h1, h2⟩ := QbU (i := i) h.2
     refine ⟨?_, ?_⟩
     · simp only [QmQ, List.nodup_cons]
       refine ⟨fun hm => h.1 ?_, h1⟩
       obtain ⟨x, hx, he⟩ := Qm5.1 hm
       exact Qm5.2 ⟨x, Qa7 i r x hx, he⟩
     · simp only [QmQ, QmV, not_or]
       exact ⟨fun e => hk e.symm, h2⟩
theorem sim {base : Nat} {mk : Nat → (Nat → Value) × Obj} {ts : List Nat} (hT : QcO ops ts = true) (hsel : ∀ (j : Nat) (o : Oper) cs b, ops[j]? = some o → o.op ≠ .select cs b)
 (hQ1 : ∀ c a d v w, Q (.panic c) (a.put d v) w → Q (.panic c) a w) (hQ2 : ∀ c a d v w, Q (.panic c) a w → Q (.panic c) (a.put d v) w) :
 ∀ (n : Nat) (S : Nat → Prop) (fz : Bool) (l : List (Nat × Nat)) (listed : Array Bool) (a : Act) (w : World), l.length = n → (l.map (·.1)).Nodup → okM ops ts.contains n fz l listed = true → Closed ops listed → Sep ops l → (fz = true → Specs P ops mk l a ∧ base ≤ w.heap.size ∧ ∀ n, S n → n < w.heap.size) →
   wpM P ops Q base mk S fz l a w → Qbb P ops Q ts.contains n listed a w
 | 0, S, fz, l, listed, a, w, hn, _, hB, _, _, _, h => by
   obtain rfl : l = [] := Qm6 hn
   unfold okM at hB
   exact ⟨by simpa using hB, h⟩
 | n + 1, S, fz, [], _, _, _, hn, _, _, _, _, _, _ => by simp at hn
 | n + 1, S, fz, (i, kd) :: r, listed, a, w, hn, hnd, hB, hcl, hsep, hfzz, h => by
   have hr' : r.length = n := by simpa using hn
   have hnd' := hnd
   simp only [QmQ, List.nodup_cons] at hnd'
   have ih := fun S fz l listed a w => sim (base := base) (mk := mk) hT hsel hQ1 hQ2 n S fz l listed a w
   have hsub : ∀ x, x ∈ r → x ∈ (i, kd) :: r := fun x hx => List.mem_cons_of_mem _ hx
   have hspr : fz = true → Specs P ops mk r a := fun hf k ok hk hok => (hfzz hf).1 k ok (hsub _ hk) hok
   have made : ∀ j, fz = true → mkB ops j ((i, kd) :: r) = true → ts.contains j = false → okM ops ts.contains n fz (QaS j ((i, kd) :: r)) (listed.setIfInBounds j true) = true → j ∈ Region.ready .any ops listed →
    wpOp P ops Q j (fun a' w' => (ts.contains j = false → Later w w') ∧ Qbb P ops Q ts.contains n (listed.setIfInBounds j true) a' w') a w := by
    intro j hfz hmk htj hok hj
    subst hfz
    obtain ⟨hsp, hb, hSb⟩ := hfzz rfl
    obtain ⟨oj, hoj, hah⟩ := QgV hmk
    have hmem := Qc9 hah
    obtain ⟨hw, hrun⟩ := hsp j oj hmem hoj
    have hlen := QbF hah
    have hst := QbU (i := j) hnd
    unfold wpOp
    simp only [hoj, hw, if_true]
    refine .inl ?_
    unfold Oper.wp
    rw [hrun w]
    refine ⟨fun _ => QbA w _, ih (fun n => n = w.heap.size ∨ S n) true _ _ _ _ (by rw [Qnl] at hlen; omega) hst.1 hok (hcl.set hj) (hsep.sub (Qa7 j _)) (fun _ => ⟨?_, Qm8 hb (QbA w _).below.size, fun n hn => by
     have hsz : (w.alloc (mk j).2).heap.size = w.heap.size + 1 := by simp
     rw [hsz]
     rcases hn with rfl | hn
     · omega
     · have := hSb n hn
       omega⟩) ?_⟩
    · exact Specs.put (l := (i, kd) :: r) (fun k ok hk hok' => hsp k ok (Qa7 j _ _ hk) hok') (Qa7 j _) hsep hmem hoj hst.2 hsel _
    · exact Qie hoj hsel hQ2 hb _ S a w _ hah (fun hx => Nat.lt_irrefl _ (hSb _ hx)) h ⟨hw, hrun⟩ (QbA w _) (heap_alloc_new w _)
   unfold okM at hB
   simp only at hB
   by_cases h0 : kd = 0
   · subst h0
     simp only [if_true, QmH] at hB
     obtain ⟨⟨⟨⟨⟨hfz, hrd⟩, hf⟩, hcm⟩, htl⟩, hok⟩ := hB
     subst hfz
     obtain ⟨o, ho, h⟩ := h
     have hri : i ∈ Region.ready .any ops listed := by simpa using hrd
     have hcm' : calm o = true := by simpa [ho] using hcm
     have htl' : ts.contains i = false := by simpa using htl
     have next : ∀ v, YieldsIf P ops (Later w) o v a → wpM P ops Q base mk S true r (a.put o.dst v) w → Qbb P ops Q ts.contains (n + 1) listed a w := fun v hy hnx =>
      Qbs hT ho htl' hsel (fun c a w => hQ1 c a _ _ w) hcl (Region.free_spec ho hf) hri hy
       (ih S true r _ _ w hr' hnd'.2 hok (hcl.set hri) (hsep.sub hsub) (fun _ => ⟨Specs.put (l := (i, 0) :: r) (hspr rfl) hsub hsep List.mem_cons_self ho hnd'.1 hsel v, (hfzz rfl).2⟩) hnx)
     by_cases hw : Region.wanted o (yielded ops a.tmps) = true
     · rw [if_pos hw] at h
       obtain ⟨v, hy, hnx⟩ := QaW hcm' hw h
       exact next v hy hnx
     · rw [if_neg hw] at h
       exact next undef (.inr ⟨by simpa using hw, rfl⟩) h
   · rw [if_neg h0] at hB
     by_cases h1 : kd = 1
     · subst h1
       simp only [if_true, QmH, Bool.not_eq_true'] at hB
       obtain ⟨⟨⟨hfz, htl⟩, hrd⟩, hall⟩ := hB
       subst hfz
       have hri : i ∈ Region.ready .any ops listed := by simpa using hrd
       refine ⟨fun he => (by rw [he] at hri; cases hri), fun j hj => ?_⟩
       have hj2 := Qnt.1 hall j hj
       by_cases hji : j = i
       · subst hji
         rw [if_pos rfl] at hj2
         obtain ⟨_, oi, hoi, _⟩ := mem_ready.1 hri
         refine wpOp_mono (fun a' w' h' => ?_) (QfC hoi (I := Specs P ops mk r) (hspr rfl) (fun a hI x => Specs.put (l := (j, 1) :: r) hI hsub hsep List.mem_cons_self hoi hnd'.1 hsel x) (fun a hI d => hI.defers d) (h w (Later.refl w)))
         obtain ⟨hI, hl', h'⟩ := h'
         exact ⟨fun _ => hl', ih S true r _ a' w' hr' hnd'.2 hj2 (hcl.set hj) (hsep.sub hsub) (fun _ => ⟨hI, Qm8 (hfzz rfl).2.1 hl'.below.size, fun n hn => QmL ((hfzz rfl).2.2 n hn) hl'.below.size⟩) h'⟩
       · rw [if_neg hji] at hj2
         simp only [QmH, Bool.not_eq_true'] at hj2
         exact made j rfl hj2.1.1 hj2.1.2 hj2.2 hj
     · rw [if_neg h1] at hB
       by_cases h2 : kd = 2
       · subst h2
         simp only [if_true, QmH, Bool.not_eq_true'] at hB
         obtain ⟨⟨hfz, hne⟩, hall⟩ := hB
         refine ⟨fun he => (by rw [he] at hne; simp at hne), fun j hj => ?_⟩
         have hj2 := Qnt.1 hall j hj
         simp only [QmH, Bool.not_eq_true'] at hj2
         exact made j hfz hj2.1.1 hj2.1.2 hj2.2 hj
       · rw [if_neg h2] at hB
         simp only [QmH, decide_eq_true_eq] at hB
         obtain ⟨⟨hrd, htl⟩, hok⟩ := hB
         refine ⟨fun he => (by rw [hrd] at he; cases he), fun j hj => ?_⟩
         rw [hrd] at hj
         obtain rfl : j = i := by simpa using hj
         have hri : j ∈ Region.ready .any ops listed := by rw [hrd]; simp
         obtain ⟨_, oi, hoi, _⟩ := mem_ready.1 hri
         have h' : wpOp P ops Q j (fun a' w' => wpM P ops Q base mk S false r a' w') a w := by
          obtain ⟨m, rfl⟩ : ∃ m, kd = m + 3 := ⟨kd - 3, by omega⟩
          cases fz with
          | true => exact h w (Later.refl w)
          | false => exact h
         exact wpOp_mono (fun a' w' h' => ⟨fun hc => (by rw [htl] at hc; cases hc), ih S false r _ a' w' hr' hnd'.2 hok (hcl.set hri) (hsep.sub hsub) (fun hf => by cases hf) h'⟩) h'
end
section
variable {P : Program} {Q : Exit → Act → World → Prop}
def QbC (P : Program) (l : List Oper) (Q : Exit → Act → World → Prop) (base : Nat) (mk : Nat → (Nat → Value) × Obj) (qs ts : List Nat) : (Nat → Prop) → List (List Nat × Nat × Nat) → Act → World → Prop
 | _, [], a, w => wpQuiet P l.toArray (fun w' => ∃ x, w' = grow w x) (fun a' => ∀ w1, Later w w1 → wpList P l.toArray Q (pick l ts) a' w1) (pick l qs) a
 | S, (q, 1, i) :: r, a, w => wpQuiet P l.toArray (fun w' => ∃ x, w' = grow w x) (fun a' => ∀ w1, Later w w1 → wpList P l.toArray (Exit.then (fun a'' w'' => Later w1 w'' ∧ QbC P l Q base mk qs ts S r a'' w'') Q) (pick l [i]) a' w1) (pick l q) a
 | S, (q, _, i) :: r, a, w => wpQuiet P l.toArray (fun w' => ∃ x, w' = grow w x) (fun a' => ∀ w1 g, Later w w1 → base ≤ g → ¬ S g → w1.heap[g]? = some (mk i).2 → QbC P l Q base mk qs ts (fun n => n = g ∨ S n) r (a'.put ((l[i]?).bind (·.dst)) ((mk i).1 g)) w1) (pick l q) a
def Qch (qs ts : List Nat) : List (List Nat × Nat × Nat) → List (Nat × Nat)
 | [] => qs.map (·, 0) ++ ts.map (·, 3)
 | (q, 1, i) :: r => q.map (·, 0) ++ (i, 1) :: Qch qs ts r
 | (q, _, i) :: r => q.map (·, 0) ++ (i, 2) :: Qch qs ts r
theorem QdT {l : List Oper} {base : Nat} {mk : Nat → (Nat → Value) × Obj} {S : Nat → Prop} {Qa : Act → Prop} {r : List (Nat × Nat)} {w : World} (hQa : ∀ a, Qa a → wpM P l.toArray Q base mk S true r a w) : ∀ (qs : List Nat), (qs.all fun i => decide (i < l.length)) = true →
 ∀ a, wpQuiet P l.toArray (Later w) Qa (pick l qs) a → wpM P l.toArray Q base mk S true (qs.map (·, 0) ++ r) a w
 | [], _, a, h => hQa a h
 | i :: qs, hb, a, h => by
   simp only [Qnm, QmH, decide_eq_true_eq] at hb
   have hi : l[i]? = some (l[i]'hb.1) := Qmw hb.1
   refine ⟨l[i]'hb.1, by simp [hb.1], ?_⟩
   simp only [pick, hi, QmI, List.singleton_append, wpQuiet] at h
   by_cases hw : Region.wanted (l[i]'hb.1) (yielded l.toArray a.tmps) = true
   · rw [if_pos hw] at h ⊢
     exact Oper.quiet_mono (fun a' h' => QdT hQa qs hb.2 a' h') h
   · rw [if_neg hw] at h ⊢
     exact QdT hQa qs hb.2 _ h
theorem QiH {l : List Oper} {base : Nat} {mk : Nat → (Nat → Value) × Obj} {S : Nat → Prop} : ∀ (ts : List Nat), (ts.all fun i => decide (i < l.length)) = true →
 ∀ a w, wpList P l.toArray Q (pick l ts) a w → wpM P l.toArray Q base mk S false (ts.map (·, 3)) a w
 | [], _, a, w, h => h
 | i :: ts, hb, a, w, h => by
   simp only [Qnm, QmH, decide_eq_true_eq] at hb
   have hi : l[i]? = some (l[i]'hb.1) := Qmw hb.1
   simp only [pick, hi, QmI, List.singleton_append, wpList] at h
   show wpOp P l.toArray Q i _ a w
   unfold wpOp
   simp only [List.getElem?_toArray, hi]
   by_cases hw : Region.wanted (l[i]'hb.1) (yielded l.toArray a.tmps) = true
   · rw [if_pos hw] at h ⊢
     exact h.imp (Oper.wp_mono fun a w1 h => QiH ts hb.2 a w1 h) id
   · rw [if_neg hw] at h ⊢
     exact QiH ts hb.2 _ _ h
theorem Qkg {l : List Oper} {base : Nat} {mk : Nat → (Nat → Value) × Obj} {S : Nat → Prop} (ts : List Nat) (hb : (ts.all fun i => decide (i < l.length)) = true) (a : Act) (w : World) (h : ∀ w1, Later w w1 → wpList P l.toArray Q (pick l ts) a w1) :
 wpM P l.toArray Q base mk S true (ts.map (·, 3)) a w := by
 cases ts with
 | nil => exact h w (Later.refl w)
 | cons i ts =>
   intro w1 hl
   exact QiH (i :: ts) hb a w1 (h w1 hl)
theorem Qh7 {l : List Oper} {base : Nat} {mk : Nat → (Nat → Value) × Obj} {qs ts : List Nat} (hq : (qs.all fun i => decide (i < l.length)) = true) (ht : (ts.all fun i => decide (i < l.length)) = true) :
 ∀ (segs : List (List Nat × Nat × Nat)), (segs.all fun s => decide (s.2.2 < l.length) && s.1.all fun i => decide (i < l.length)) = true → ∀ S a w, QbC P l Q base mk qs ts S segs a w → wpM P l.toArray Q base mk S true (Qch qs ts segs) a w
 | [], _, S, a, w, h => QdT (fun a h => Qkg ts ht a w h) qs hq a h
 | (q, kd, i) :: r, hb, S, a, w, h => by
   simp only [Qnm, QmH, decide_eq_true_eq] at hb
   have ih := Qh7 (base := base) (mk := mk) hq ht r hb.2
   by_cases h1 : kd = 1
   · subst h1
     refine QdT (fun a h => ?_) q hb.1.2 a h
     intro w1 hl
     exact wpOp_mono (fun a' w' h' => ⟨h'.1, ih S a' w' h'.2⟩) (QbG hb.1.1 (h w1 hl))
   · have e1 : Qch qs ts ((q, kd, i) :: r) = q.map (·, 0) ++ (i, 2) :: Qch qs ts r := by
      match kd, h1 with
      | 0, _ => rfl
      | k + 2, _ => rfl
     rw [e1]
     have h' : wpQuiet P l.toArray (fun w' => ∃ x, w' = grow w x) (fun a' => ∀ w1 g, Later w w1 → base ≤ g → ¬ S g → w1.heap[g]? = some (mk i).2 → QbC P l Q base mk qs ts (fun n => n = g ∨ S n) r (a'.put ((l[i]?).bind (·.dst)) ((mk i).1 g)) w1) (pick l q) a := by
      match kd, h1, h with
      | 0, _, h => exact h
      | k + 2, _, h => exact h
     refine QdT (fun a h => ?_) q hb.1.2 a h'
     have hi : l[i]? = some (l[i]'hb.1.1) := Qmw hb.1.1
     refine ⟨l[i]'hb.1.1, by simp [hb.1.1], fun w1 g hl hg hS hh => ?_⟩
     have := h w1 g hl hg hS hh
     rw [hi] at this
     exact ih _ _ w1 this
def MakesAll (P : Program) (l : List Oper) (mk : Nat → (Nat → Value) × Obj) (a : Act) : List Nat → Prop
 | [] => True
 | i :: r => (∀ o, l[i]? = some o → Makes P l.toArray o (mk i).1 (mk i).2 a) ∧ MakesAll P l mk a r
theorem MakesAll.at_ {l : List Oper} {mk : Nat → (Nat → Value) × Obj} {a : Act} : ∀ {ms : List Nat}, MakesAll P l mk a ms → ∀ i ∈ ms, ∀ o, l[i]? = some o → Makes P l.toArray o (mk i).1 (mk i).2 a
 | [], _, i, hi => by cases hi
 | m :: ms, h, i, hi => by
   rcases QmV.1 hi with rfl | hi
   · exact h.1
   · exact MakesAll.at_ h.2 i hi
def sepB (l : List Oper) (f : List (Nat × Nat)) : Bool :=
 f.all fun x => decide (x.2 ≠ 2) || f.all fun y => decide (y.1 = x.1) || ((l[x.1]?).bind fun oi => (l[y.1]?).map fun ok => match ok.dst with
  | some d => !((oi.looksAt l.toArray).contains d)
  | none => true).getD false
theorem QfX {l : List Oper} {f : List (Nat × Nat)} (h : sepB l f = true) : Sep l.toArray f := by
 intro i oi hi ho k kd ok hk hne hok d hd hmem
 have h1 := Qnt.1 h _ hi
 simp only [ne_eq, not_true_eq_false, decide_false, Bool.false_or] at h1
 have h2 := Qnt.1 h1 _ hk
 have ho' : l[i]? = some oi := by simpa using ho
 have hok' : l[k]? = some ok := by simpa using hok
 simp only [hne, decide_false, Bool.false_or, ho', hok', Option.bind_some, Qnp, Qnz, hd, Bool.not_eq_true'] at h2
 have : (oi.looksAt l.toArray).contains d = true := by simpa using hmem
 rw [this] at h2
 cases h2
def Qhc (l : List Oper) (pre : List Nat) (tl : Nat → Bool) : List Nat → Array Bool → Bool
 | [], _ => true
 | i :: r, listed => (Region.ready .any l.toArray listed).contains i && Region.free .any l.toArray listed i && ((l[i]?).map calm).getD false && !tl i && Qhc l pre tl r (listed.setIfInBounds i true)
def Qdp (l : List Nat) (listed : Array Bool) : Array Bool := l.foldl (fun s i => s.setIfInBounds i true) listed
def Qf0 (l : List Oper) (pre qs ts ms : List Nat) (segs : List (List Nat × Nat × Nat)) : Bool :=
 Region.noSelect l.toArray && QcO l.toArray ts && (pre.all fun i => decide (i < l.length)) && (qs.all fun i => decide (i < l.length)) && (ts.all fun i => decide (i < l.length)) && (segs.all fun s => decide (s.2.2 < l.length) && s.1.all fun i => decide (i < l.length)) &&
 Qhc l pre ts.contains pre (Array.replicate l.length false) && okM l.toArray ts.contains (Qch qs ts segs).length true (Qch qs ts segs) (Qdp pre (Array.replicate l.length false)) &&
 sepB l (Qch qs ts segs) && decide (((Qch qs ts segs).map (·.1)).Nodup) && decide (pre.length + (Qch qs ts segs).length = l.length) && (Qch qs ts segs).all fun x => decide (x.2 ≠ 2) || ms.contains x.1
theorem QdN {l : List Oper} {pre ts : List Nat} {n : Nat} {w : World} {Qa : Act → Prop} (hT : QcO l.toArray ts = true) (hsel : ∀ (j : Nat) (o : Oper) cs b, l.toArray[j]? = some o → o.op ≠ .select cs b)
 (hQ1 : ∀ c a d v w, Q (.panic c) (a.put d v) w → Q (.panic c) a w) : ∀ (p : List Nat) (listed : Array Bool) (a : Act), Closed l.toArray listed → Qhc l pre ts.contains p listed = true → (p.all fun i => decide (i < l.length)) = true →
   wpQuiet P l.toArray (Later w) Qa (pick l p) a → (∀ a', Qa a' → Closed l.toArray (Qdp p listed) → Qbb P l.toArray Q ts.contains n (Qdp p listed) a' w) → Qbb P l.toArray Q ts.contains (p.length + n) listed a w
 | [], listed, a, hcl, _, _, h, hk => by
   rw [List.length_nil, QmU]
   exact hk a h hcl
 | i :: p, listed, a, hcl, hB, hb, h, hk => by
   simp only [Qhc, QmH] at hB
   obtain ⟨⟨⟨⟨hrd, hf⟩, hcm⟩, htl⟩, hB'⟩ := hB
   simp only [Qnm, QmH, decide_eq_true_eq] at hb
   have hi : l[i]? = some (l[i]'hb.1) := Qmw hb.1
   have ho : l.toArray[i]? = some (l[i]'hb.1) := by simp [hb.1]
   have hri : i ∈ Region.ready .any l.toArray listed := by simpa using hrd
   have hcm' : calm (l[i]'hb.1) = true := by rw [hi] at hcm; simpa using hcm
   have htl' : ts.contains i = false := by simpa using htl
   simp only [pick, hi, QmI, List.singleton_append, wpQuiet] at h
   rw [show (i :: p).length + n = (p.length + n) + 1 by simp; omega]
   have next : ∀ v, YieldsIf P l.toArray (Later w) (l[i]'hb.1) v a → wpQuiet P l.toArray (Later w) Qa (pick l p) (a.put (l[i]'hb.1).dst v) → Qbb P l.toArray Q ts.contains (p.length + n + 1) listed a w := fun v hy hnx =>
    Qbs hT ho htl' hsel (fun c a w => hQ1 c a _ _ w) hcl (Region.free_spec ho hf) hri hy (QdN hT hsel hQ1 p _ _ (hcl.set hri) hB' hb.2 hnx hk)
   by_cases hw : Region.wanted (l[i]'hb.1) (yielded l.toArray a.tmps) = true
   · rw [if_pos hw] at h
     obtain ⟨v, hy, hnx⟩ := QaW hcm' hw h
     exact next v hy hnx
   · rw [if_neg hw] at h
     exact next undef (.inr ⟨by simpa using hw, rfl⟩) h
theorem Qcf {id : Nat} {a : Act} {w : World} {l : List Oper} (pre : List Nat) (segs : List (List Nat × Nat × Nat)) (qs ts ms : List Nat) (mk : Nat → (Nat → Value) × Obj) (hm : P.follows .mixedOrders = true) (hB : Qf0 l pre qs ts ms segs = true)
 (hQ1 : ∀ c a d v w, Q (.panic c) (a.put d v) w → Q (.panic c) a w) (hQ2 : ∀ c a d v w, Q (.panic c) a w → Q (.panic c) (a.put d v) w)
 (h : wpQuiet P l.toArray (fun w' => ∃ x, w' = grow w.drew x) (fun a' => MakesAll P l mk a' ms ∧ QbC P l Q w.heap.size mk qs ts (fun _ => False) segs a' w.drew) (pick l pre) a) : (Code.region id l.toArray true).wp P Q a w := by
 simp only [Qf0, QmH, decide_eq_true_eq] at hB
 obtain ⟨⟨⟨⟨⟨⟨⟨⟨⟨⟨⟨hs, hT⟩, hp⟩, hq⟩, ht⟩, hsg⟩, hph⟩, hok⟩, hsep⟩, hnd⟩, hlen⟩, hms⟩ := hB
 refine wp_region_any hm (Qb4 (tl := ts.contains) _ _ _ _ ?_)
 have hsel := Region.noSelect_spec hs
 have := QdN (P := P) (Q := Q) (pre := pre) (n := (Qch qs ts segs).length) (w := w.drew) hT hsel hQ1 pre (Array.replicate l.length false) a (Qb6 l) hph hp h (fun a' ⟨h1, h2⟩ hcl =>
  sim (base := w.heap.size) (mk := mk) hT hsel hQ1 hQ2 _ (fun _ => False) true _ _ a' w.drew rfl hnd hok hcl (QfX hsep)
   (fun _ => ⟨fun i oi hi ho => h1.at_ i (by
     have h3 := Qnt.1 hms _ hi
     simpa using h3) oi (by simpa using ho), Qmx _, fun _ h => h.elim⟩) (Qh7 hq ht segs hsg _ a' w.drew h2))
 rw [hlen] at this
 simpa using this
end
end Go.Proofs.YtkibgdigcgakfabGreat
namespace Go.Proofs.YtkibgdigcgakfabGreat
open Go.RowKit
section
variable {P : Program} {ops : Array Oper} {Q : Exit → Act → World → Prop} {T : World → Prop}
end
section
variable {P : Program} {Q : Exit → Act → World → Prop}
end
end Go.Proofs.YtkibgdigcgakfabGreat
namespace Go.Proofs.YtkibgdigcgakfabGreat
open Go.RowKit
section
variable {P : Program} {ops : Array Oper} {Q : Exit → Act → World → Prop} {w0 : World}
end
end Go.Proofs.YtkibgdigcgakfabGreat
namespace Go.Proofs.YtkibgdigcgakfabGreat
open Go.RowKit
section
variable {P : Program} {ops : Array Oper} {Q : Exit → Act → World → Prop} {Rel : Nat → World → World → Prop}
end
def Spared (w : World) (bad : List Nat) (w' : World) : Prop := w.heap.size ≤ w'.heap.size ∧ ∀ b, b < w.heap.size → (∀ g ∈ bad, b ≠ g) → w'.heap[b]? = w.heap[b]?
theorem Spared.refl (w : World) (bad : List Nat) : Spared w bad w.drew := ⟨Qmx _, fun _ _ _ => rfl⟩
theorem Spared.only {w w1 w2 : World} {bad : List Nat} {g : Nat} (h : Spared w bad w1) (ho : Only g w1 w2) (hg : g ∈ bad) : Spared w bad w2 :=
 ⟨Qm8 h.1 ho.size, fun b hb hn => (ho.block b (QmL hb h.1) (fun e => hn g hg (by injection e))).trans (h.2 b hb hn)⟩
theorem Spared.blk {w w' : World} {bad : List Nat} {g : Nat} {t : TypeId} {l : List Value} (h : Spared w bad w') (hb : Blk w g t l) (hn : ∀ b ∈ bad, g ≠ b) : Blk w' g t l := (h.2 g hb.lt hn).trans hb
section
variable {P : Program} {Q : Exit → Act → World → Prop}
end
end Go.Proofs.YtkibgdigcgakfabGreat
namespace Go.Proofs.YtkibgdigcgakfabGreat
open Go.BigFrame
open Go.RowKit
section
variable {P : Program} {ops : Array Oper} {Q : Exit → Act → World → Prop}
inductive Anc (ops : Array Oper) : Nat → Nat → Prop
 | one {t i : Nat} : QdV ops t i = true → Anc ops t i
 | step {t j i : Nat} : QdV ops t j = true → Anc ops j i → Anc ops t i
end
end Go.Proofs.YtkibgdigcgakfabGreat
