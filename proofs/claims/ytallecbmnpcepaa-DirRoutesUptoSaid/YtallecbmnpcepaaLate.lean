/-
  Regions of quiet operations and stores in a chain, where some stores may come ahead of some quiet operations.
-/
import Derived.Test.YtallecbmnpcepaaFresh
import Derived.Test.YtallecbmnpcepaaMem
namespace Go.Proofs.Ytallecbmnpcepaa
open Go.RowKit

section
variable {P : Program} {ops : Array Oper} {Q : Exit → Act → World → Prop} {Rel : Nat → World → World → Prop}
/-- Whatever order is picked from here on; each operation's world stands in its relation to the one ahead. -/
def wpAnyR (P : Program) (ops : Array Oper) (Q : Exit → Act → World → Prop) (Rel : Nat → World → World → Prop) : Nat → Array Bool → Act → World → Prop
  | 0, listed, a, w => Region.ready .any ops listed = [] ∧ Q .normal a w
  | fuel + 1, listed, a, w =>
    (Region.ready .any ops listed = [] → Q .normal a w) ∧
    ∀ i ∈ Region.ready .any ops listed, wpOp P ops Q i (fun a' w' => Rel i w w' ∧ wpAnyR P ops Q Rel fuel (listed.setIfInBounds i true) a' w') a w
theorem wpAny_of_R : ∀ (fuel : Nat) (listed : Array Bool) (a : Act) (w : World), wpAnyR P ops Q Rel fuel listed a w → wpAny P .any ops Q fuel listed a w
  | 0, _, _, _, h => h
  | fuel + 1, _, _, _, h => ⟨h.1, fun i hi => wpOp_mono (fun a' w' h' => wpAny_of_R fuel _ a' w' h'.2) (h.2 i hi)⟩
theorem wpAnyR_first {S : World → Prop} {i : Nat} {oi : Oper} {v : Value} (hi : ops[i]? = some oi) (hsel : ∀ (j : Nat) (o : Oper) cs b, ops[j]? = some o → o.op ≠ .select cs b)
    (hQ : ∀ c a w, Q (.panic c) (a.put oi.dst v) w → Q (.panic c) a w) (hRi : ∀ w, Rel i w w)
    (hSt : ∀ (listed : Array Bool) (j : Nat) (w w' : World), i ∈ Region.ready .any ops listed → j ∈ Region.ready .any ops listed → j ≠ i → Rel j w w' → S w → S w') :
    ∀ (fuel : Nat) (listed : Array Bool) (a : Act) (w : World),
      (∀ j oj, ops[j]? = some oj → j ≠ i → listed.getD j true = false → (∀ e ∈ oj.after, Region.binds .any e = true → e.on ≠ i) → oi.apart ops oj = true) →
      i ∈ Region.ready .any ops listed → YieldsIf P ops S oi v a → S w →
      wpAnyR P ops Q Rel fuel (listed.setIfInBounds i true) (a.put oi.dst v) w → wpAnyR P ops Q Rel (fuel + 1) listed a w := by
  intro fuel
  induction fuel with
  | zero =>
    intro listed a w _ hr hy hS H
    refine ⟨fun h => (by rw [h] at hr; cases hr), fun j hj => ?_⟩
    by_cases hji : j = i
    · subst hji; exact hy.wpOp hi hS ⟨hRi w, H⟩
    · have := ready_mono hj hji
      rw [H.1] at this
      cases this
  | succ fuel ih =>
    intro listed a w hfree hr hy hS H
    refine ⟨fun h => (by rw [h] at hr; cases hr), fun j hj => ?_⟩
    by_cases hji : j = i
    · subst hji; exact hy.wpOp hi hS ⟨hRi w, H⟩
    · have h1 := H.2 j (ready_mono hj hji)
      obtain ⟨hjun, oj, hoj, hall⟩ := mem_ready.1 hj
      have hiun := (mem_ready.1 hr).1
      have hnot : ∀ e ∈ oj.after, Region.binds .any e = true → e.on ≠ i := fun e he hb heq => by
        have h1 := hall e he hb
        rw [heq, getD_false_of hiun] at h1
        cases h1
      have h2 := wpOp_putIf hoj (hfree j oj hoj hji hjun hnot) (fun cs b => hsel i oi cs b hi) (fun cs b => hsel j oj cs b hoj) hQ hy h1
      have hfree' : ∀ k ok, ops[k]? = some ok → k ≠ i → (listed.setIfInBounds j true).getD k true = false →
          (∀ e ∈ ok.after, Region.binds .any e = true → e.on ≠ i) → oi.apart ops ok = true := fun k ok hk hki hun hno => by
        refine hfree k ok hk hki ?_ hno
        by_cases hjk : j = k
        · subst hjk; exact hjun
        · rw [getD_set_ne true hjk] at hun; exact hun
      refine wpOp_mono (fun a' w' h3 => ⟨h3.2.1, ih (listed.setIfInBounds j true) a' w' hfree' (ready_mono hr (Ne.symm hji)) h3.1 (hSt listed j w w' hr hj hji h3.2.1 hS) ?_⟩) h2
      rw [Array.setIfInBounds_comm _ _ hji]
      exact h3.2.2
end
/-- Of what was there but these blocks has turned. -/
def Spared (w : World) (bad : List Nat) (w' : World) : Prop := w.heap.size ≤ w'.heap.size ∧ ∀ b, b < w.heap.size → (∀ g ∈ bad, b ≠ g) → w'.heap[b]? = w.heap[b]?
theorem Spared.refl (w : World) (bad : List Nat) : Spared w bad w.drew := ⟨Nat.le_refl _, fun _ _ _ => rfl⟩
theorem Spared.only {w w1 w2 : World} {bad : List Nat} {g : Nat} (h : Spared w bad w1) (ho : Only g w1 w2) (hg : g ∈ bad) : Spared w bad w2 :=
  ⟨Nat.le_trans h.1 ho.size, fun b hb hn => (ho.block b (Nat.lt_of_lt_of_le hb h.1) (fun e => hn g hg (by injection e))).trans (h.2 b hb hn)⟩
theorem Spared.blk {w w' : World} {bad : List Nat} {g : Nat} {t : TypeId} {l : List Value} (h : Spared w bad w') (hb : Blk w g t l) (hn : ∀ b ∈ bad, g ≠ b) : Blk w' g t l := (h.2 g hb.lt hn).trans hb
section
variable {P : Program} {Q : Exit → Act → World → Prop}
/-- The stores, one by one: each writes its own block. -/
def wpTailR (P : Program) (l : List Oper) (Q : Exit → Act → World → Prop) (g : Nat → Nat) : List Nat → Act → World → Prop
  | [], a, w => Q .normal a w
  | i :: r, a, w => wpList P l.toArray (Exit.then (fun a' w' => Only (g i) w w' ∧ wpTailR P l Q g r a' w') Q) (pick l [i]) a w
/-- The quiet ones: each yields its value whatever the stores have done that may come ahead of it. -/
def wpLate (P : Program) (l : List Oper) (Q : Exit → Act → World → Prop) (w0 : World) (g : Nat → Nat) (ahead : Nat → List Nat) (ts : List Nat) : List Nat → Act → Prop
  | [], a => wpTailR P l Q g ts a w0.drew
  | i :: r, a => ∃ o, l[i]? = some o ∧ Region.wanted o (yielded l.toArray a.tmps) = true ∧ o.quiet P a (Spared w0 ((ahead i).map g)) (fun a' => wpLate P l Q w0 g ahead ts r a')
def okLt (ops : Array Oper) : List Nat → Array Bool → Bool
  | i :: r, listed => decide (Region.ready .any ops listed = [i]) && okLt ops r (listed.setIfInBounds i true)
  | [], listed => (Region.ready .any ops listed).isEmpty
def okL (ops : Array Oper) (ts : List Nat) : List Nat → Array Bool → Bool
  | i :: r, listed => (Region.ready .any ops listed).contains i && Region.free .any ops listed i && ((ops[i]?).map calm).getD false && okL ops ts r (listed.setIfInBounds i true)
  | [], listed => okLt ops ts listed
def lateB (l : List Oper) (qs ts : List Nat) (ahead : Nat → List Nat) : Bool :=
  Region.noSelect l.toArray && (qs.all fun i => decide (i < l.length) && ts.all fun j => waits l.toArray j i || (ahead i).contains j) && (ts.all fun i => decide (i < l.length) && !qs.contains i) &&
  ((List.range l.length).all fun i => qs.contains i || ts.contains i) && okL l.toArray ts qs (Array.replicate l.length false) && decide (qs.length + ts.length = l.length)
theorem late_tail {l : List Oper} {g : Nat → Nat} {qs0 : List Nat} : ∀ (ts : List Nat), (ts.all fun i => decide (i < l.length) && !qs0.contains i) = true → ∀ (listed : Array Bool) (a : Act) (w : World), okLt l.toArray ts listed = true → wpTailR P l Q g ts a w →
    wpAnyR P l.toArray Q (fun j w w' => if qs0.contains j then w' = w else Only (g j) w w') ts.length listed a w
  | [], _, listed, a, w, hB, h => by
    unfold okLt at hB
    exact ⟨by simpa using hB, h⟩
  | i :: r, hb, listed, a, w, hB, h => by
    simp only [List.all_cons, Bool.and_eq_true, decide_eq_true_eq, Bool.not_eq_true'] at hb
    unfold okLt at hB
    simp only [Bool.and_eq_true, decide_eq_true_eq] at hB
    refine ⟨fun he => (by rw [hB.1] at he; cases he), fun j hj => ?_⟩
    rw [hB.1] at hj
    obtain rfl : j = i := by simpa using hj
    refine wpOp_mono (fun a' w' h' => ⟨?_, late_tail r (by simpa using hb.2) _ a' w' hB.2 h'.2⟩) (wpOp_of_wpList hb.1.1 h)
    simp only [hb.1.2]
    exact h'.1
theorem late_quiet {l : List Oper} {g : Nat → Nat} {ahead : Nat → List Nat} {qs0 ts : List Nat} {w0 : World} (hs : Region.noSelect l.toArray = true) (hQ1 : ∀ c a d v w, Q (.panic c) (a.put d v) w → Q (.panic c) a w)
    (ht : (ts.all fun i => decide (i < l.length) && !qs0.contains i) = true) (hall : ((List.range l.length).all fun i => qs0.contains i || ts.contains i) = true)
    (hq : ∀ i ∈ qs0, i < l.length ∧ ∀ j ∈ ts, waits l.toArray j i = true ∨ j ∈ ahead i) :
    ∀ (qs : List Nat), (∀ i ∈ qs, i ∈ qs0) → ∀ (listed : Array Bool) (a : Act), okL l.toArray ts qs listed = true → wpLate P l Q w0 g ahead ts qs a →
      wpAnyR P l.toArray Q (fun j w w' => if qs0.contains j then w' = w else Only (g j) w w') (qs.length + ts.length) listed a w0.drew
  | [], _, listed, a, hB, h => by
    rw [List.length_nil, Nat.zero_add]
    exact late_tail ts ht listed a _ hB h
  | i :: r, hsub, listed, a, hB, h => by
    unfold okL at hB
    simp only [Bool.and_eq_true] at hB
    obtain ⟨⟨⟨hrd, hf⟩, hcm⟩, hok⟩ := hB
    obtain ⟨o, ho, hw, hquiet⟩ := h
    have ho' : l.toArray[i]? = some o := by simpa using ho
    have hri : i ∈ Region.ready .any l.toArray listed := by simpa using hrd
    have hcm' : calm o = true := by simpa [ho] using hcm
    have hi0 := hsub i (by simp)
    obtain ⟨v, hy, hn⟩ := yieldsIf_of_quietT hcm' hw hquiet
    have e : (i :: r).length + ts.length = (r.length + ts.length) + 1 := by simp; omega
    rw [e]
    refine wpAnyR_first (S := Spared w0 ((ahead i).map g)) ho' (Region.noSelect_spec hs) (fun c a w => hQ1 c a _ _ w) (fun w => ?_) ?_ _ listed a w0.drew (Region.free_spec ho' hf) hri hy (Spared.refl _ _)
      (late_quiet hs hQ1 ht hall hq r (fun k hk => hsub k (by simp [hk])) _ _ hok hn)
    · simp [hi0]
    · intro listed' j w w' hir hjr hji hrel hS
      by_cases hj : qs0.contains j = true
      · rw [if_pos hj] at hrel
        subst hrel
        exact hS
      · rw [if_neg hj] at hrel
        obtain ⟨_, oj, hoj, hwt⟩ := mem_ready.1 hjr
        have hjl : j < l.length := by simpa using (Array.getElem?_eq_some_iff.1 hoj).1
        have hjt : j ∈ ts := by
          have := List.all_eq_true.1 hall j (List.mem_range.2 hjl)
          simp only [Bool.or_eq_true] at this
          rcases this with h1 | h1
          · exact absurd h1 hj
          · simpa using h1
        refine hS.only hrel ?_
        rcases (hq i hi0).2 j hjt with h1 | h1
        · obtain ⟨ok, hok', e, he, hb, hon⟩ := waits_spec h1
          have : ok = oj := Option.some.inj (hok'.symm.trans hoj)
          subst this
          have h2 := hwt e he hb
          have h3 := (mem_ready.1 hir).1
          rw [hon, getD_false_of h3] at h2
          cases h2
        · exact List.mem_map.2 ⟨j, h1, rfl⟩
/-- **Quiet operations and a chain of stores, some of which may come early.** -/
theorem wp_region_late {id : Nat} {a : Act} {w : World} {l : List Oper} (qs ts : List Nat) (ahead : Nat → List Nat) (g : Nat → Nat) (hm : P.follows .mixedOrders = true) (hB : lateB l qs ts ahead = true)
    (hQ1 : ∀ c a d v w, Q (.panic c) (a.put d v) w → Q (.panic c) a w) (h : wpLate P l Q w g ahead ts qs a) : (Code.region id l.toArray true).wp P Q a w := by
  simp only [lateB, Bool.and_eq_true, decide_eq_true_eq] at hB
  obtain ⟨⟨⟨⟨⟨hs, hq⟩, ht⟩, hall⟩, hok⟩, hlen⟩ := hB
  refine wp_region_any hm (wpAny_of_R (Rel := fun j w w' => if qs.contains j then w' = w else Only (g j) w w') _ _ _ _ ?_)
  have := late_quiet (P := P) (Q := Q) (g := g) (ahead := ahead) (qs0 := qs) (ts := ts) (w0 := w) hs hQ1 ht hall (fun i hi => by
    have h1 := List.all_eq_true.1 hq i hi
    simp only [Bool.and_eq_true, decide_eq_true_eq] at h1
    refine ⟨h1.1, fun j hj => ?_⟩
    have h2 := List.all_eq_true.1 h1.2 j hj
    simpa using h2) qs (fun _ h => h) (Array.replicate l.length false) a hok h
  rw [hlen] at this
  simpa using this
end
end Go.Proofs.Ytallecbmnpcepaa
