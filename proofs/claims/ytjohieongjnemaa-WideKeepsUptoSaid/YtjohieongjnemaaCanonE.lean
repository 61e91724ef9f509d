/-
  A region that draws its order, in one canonical order; with a list of operations that may come at any time, even between the tail's (their values must hang on no world).
-/
import Derived.Test.YtjohieongjnemaaCanon
import Derived.Test.YtjohieongjnemaaFresh
namespace Go.Proofs.Ytjohieongjnemaa
open Go.RowKit

section
variable {P : Program} {ops : Array Oper} {Q : Exit → Act → World → Prop} {w0 : World}
/-- Every operation ahead of the tail (but the excused) is waited for, step by step, by the tail's first; the tail's operations wait one for the other. -/
def tailBE (ops : Array Oper) (ex ts : List Nat) : Bool :=
  match ts with
  | [] => true
  | t :: r =>
    ((List.range ops.size).all fun i => ts.contains i || ex.contains i || (List.range ops.size).any fun j => (j == t || (!ts.contains j && !ex.contains j && decide (i < j))) && waits ops j i) &&
    (List.zip (t :: r) r).all fun (p, q) => waits ops q p
theorem tail_not_readyE {ex : List Nat} {t : Nat} {r : List Nat} (hB : tailBE ops ex (t :: r) = true) {listed : Array Bool} (hc : Closed ops listed) :
    ∀ (d i : Nat), ops.size - i = d → i < ops.size → (t :: r).contains i = false → ex.contains i = false → listed.getD i true = false → listed.getD t false = false ∧ t ∉ Region.ready .any ops listed := by
  intro d
  induction d using Nat.strongRecOn with
  | _ d ih =>
    intro i hd hi hti hex hun
    simp only [tailBE, Bool.and_eq_true] at hB
    have h1 := List.all_eq_true.1 hB.1 i (List.mem_range.2 hi)
    rw [hti, hex, Bool.false_or, Bool.false_or] at h1
    obtain ⟨j, hj, hj2⟩ := List.any_eq_true.1 h1
    simp only [Bool.and_eq_true, Bool.or_eq_true, beq_iff_eq, decide_eq_true_eq, Bool.not_eq_true'] at hj2
    obtain ⟨hjt, hw⟩ := hj2
    obtain ⟨oj, hoj, e, he, hb, hon⟩ := waits_spec hw
    have hjl : listed.getD j false = false := by
      cases hl : listed.getD j false with
      | false => rfl
      | true =>
        have h2 := hc.2 j oj hoj hl e he hb
        rw [hon, getD_false_of hun] at h2
        cases h2
    rcases hjt with hjt | ⟨⟨hjt, hje⟩, hij⟩
    · subst hjt
      refine ⟨hjl, fun hr => ?_⟩
      obtain ⟨_, o', ho', hall⟩ := mem_ready.1 hr
      have : o' = oj := Option.some.inj (ho'.symm.trans hoj)
      subst this
      have h2 := hall e he hb
      rw [hon, getD_false_of hun] at h2
      cases h2
    · have hjs : j < ops.size := List.mem_range.1 hj
      exact ih (ops.size - j) (by omega) j rfl hjs hjt hje (getD_true_of (by rw [hc.1]; exact hjs) hjl)
/-- While an operation ahead of the tail may come up, nothing of the tail may. -/
theorem no_tailE {ex ts : List Nat} (hT : tailBE ops ex ts = true) {i : Nat} (hti : ts.contains i = false) (hex : ex.contains i = false) {listed : Array Bool} (hcl : Closed ops listed) (hr : i ∈ Region.ready .any ops listed)
    {j : Nat} (hj : j ∈ Region.ready .any ops listed) : ts.contains j = false := by
  obtain ⟨hiun, oi, hi, _⟩ := mem_ready.1 hr
  cases htj : ts.contains j with
  | false => rfl
  | true =>
    cases ts with
    | nil => simp at htj
    | cons t r =>
      have hin : i < ops.size := (Array.getElem?_eq_some_iff.1 hi).1
      obtain ⟨h3, h4⟩ := tail_not_readyE hT hcl _ i rfl hin hti hex hiun
      simp only [tailBE, Bool.and_eq_true] at hT
      exact absurd hj (chain_not_ready hcl r t hT.2 h3 h4 j (by simpa using htj))
/-- The worlds in which a quiet operation must yield its value. -/
def SE (ex : List Nat) (i : Nat) (w : World) : World → Prop := if ex.contains i then fun _ => True else Later w
def wpSeqE (P : Program) (ops : Array Oper) (Q : Exit → Act → World → Prop) (ex : List Nat) (tl : Nat → Bool) : List (Nat × Bool) → Act → World → Prop
  | [], a, w => Q .normal a w
  | (i, true) :: r, a, w => ∃ o, ops[i]? = some o ∧ if Region.wanted o (yielded ops a.tmps) then o.quiet P a (SE ex i w) (fun a' => wpSeqE P ops Q ex tl r a' w) else wpSeqE P ops Q ex tl r (a.put o.dst undef) w
  | (i, false) :: r, a, w => wpOp P ops Q i (fun a' w' => (tl i = false → Later w w') ∧ wpSeqE P ops Q ex tl r a' w') a w
theorem wpAnyT_of_seqE {ex ts : List Nat} (hT : tailBE ops ex ts = true) (hs : Region.noSelect ops = true) (hQ : ∀ c a d v w, Q (.panic c) (a.put d v) w → Q (.panic c) a w) :
    ∀ (l : List (Nat × Bool)) (listed : Array Bool) (a : Act) (w : World), Closed ops listed → seqB ops ts.contains l listed = true →
      wpSeqE P ops Q ex ts.contains l a w → wpAnyT P ops Q ts.contains l.length listed a w
  | [], _, _, _, _, hB, h => ⟨by simpa [seqB] using hB, h⟩
  | (i, true) :: r, listed, a, w, hcl, hB, h => by
    simp only [seqB, Bool.and_eq_true] at hB
    obtain ⟨⟨⟨⟨hr, hf⟩, hcm⟩, htl⟩, hB'⟩ := hB
    obtain ⟨o, ho, h⟩ := h
    have hr' : i ∈ Region.ready .any ops listed := by simpa using hr
    have hcm' : calm o = true := by simpa [ho] using hcm
    have htl' : ts.contains i = false := by simpa using htl
    have next : ∀ v, YieldsIf P ops (SE ex i w) o v a → wpSeqE P ops Q ex ts.contains r (a.put o.dst v) w → wpAnyT P ops Q ts.contains (r.length + 1) listed a w := fun v hy hn => by
      have hn' := wpAnyT_of_seqE hT hs hQ r _ _ w (hcl.set hr') hB' hn
      unfold SE at hy
      cases hex : ex.contains i with
      | true =>
        rw [hex] at hy
        exact wpAnyT_first (S := fun _ => True) ho (Region.noSelect_spec hs) (fun c a w => hQ c a _ _ w) (fun _ _ _ _ _ _ _ _ _ _ => trivial) _ listed a w hcl (Region.free_spec ho hf) hr' hy trivial hn'
      | false =>
        rw [hex] at hy
        exact wpAnyT_first (S := Later w) ho (Region.noSelect_spec hs) (fun c a w => hQ c a _ _ w) (fun listed j w w' hcl hr hj _ h hS => hS.trans (h (no_tailE hT htl' hex hcl hr hj))) _ listed a w hcl (Region.free_spec ho hf) hr' hy (Later.refl _) hn'
    by_cases hw : Region.wanted o (yielded ops a.tmps) = true
    · rw [if_pos hw] at h
      obtain ⟨v, hy, hn⟩ := yieldsIf_of_quietT hcm' hw h
      exact next v hy hn
    · rw [if_neg hw] at h
      exact next undef (.inr ⟨by simpa using hw, rfl⟩) h
  | (i, false) :: r, listed, a, w, hcl, hB, h => by
    simp only [seqB, Bool.and_eq_true, decide_eq_true_eq] at hB
    obtain ⟨hr, hB'⟩ := hB
    refine ⟨fun h0 => (by rw [hr] at h0; cases h0), fun j hj => ?_⟩
    rw [hr] at hj
    obtain rfl : j = i := by simpa using hj
    exact wpOp_mono (fun a' w' h3 => ⟨h3.1, wpAnyT_of_seqE hT hs hQ r _ a' w' (hcl.set (by rw [hr]; simp)) hB' h3.2⟩) h
theorem seq_of_quietE {l : List Oper} {ex : List Nat} {S : World → Prop} {Qa : Act → Prop} {r : List (Nat × Bool)} {tl : Nat → Bool} {w : World} (hQa : ∀ a, Qa a → wpSeqE P l.toArray Q ex tl r a w) : ∀ (qs : List Nat), (qs.all fun i => decide (i < l.length)) = true → (∀ i ∈ qs, SE ex i w = S) →
    ∀ a, wpQuiet P l.toArray S Qa (pick l qs) a → wpSeqE P l.toArray Q ex tl (qs.map (·, true) ++ r) a w
  | [], _, _, a, h => hQa a h
  | i :: qs, hb, hS, a, h => by
    simp only [List.all_cons, Bool.and_eq_true, decide_eq_true_eq] at hb
    have hi : l[i]? = some (l[i]'hb.1) := List.getElem?_eq_getElem hb.1
    have hS' : ∀ j ∈ qs, SE ex j w = S := fun j hj => hS j (List.mem_cons_of_mem _ hj)
    refine ⟨l[i]'hb.1, by simp [hb.1], ?_⟩
    simp only [pick, hi, Option.toList_some, List.singleton_append, wpQuiet] at h
    rw [hS i (by simp)]
    by_cases hw : Region.wanted (l[i]'hb.1) (yielded l.toArray a.tmps) = true
    · rw [if_pos hw] at h ⊢
      exact Oper.quiet_mono (fun a' h' => seq_of_quietE hQa qs hb.2 hS' a' h') h
    · rw [if_neg hw] at h ⊢
      exact seq_of_quietE hQa qs hb.2 hS' _ h
theorem seq_of_tailE {l : List Oper} {ex : List Nat} {tl : Nat → Bool} : ∀ (ts : List Nat), (ts.all fun i => decide (i < l.length) && tl i) = true → ∀ a w, wpList P l.toArray Q (pick l ts) a w → wpSeqE P l.toArray Q ex tl (ts.map (·, false)) a w := by
  intro ts ht a w h
  have : ∀ (s : List (Nat × Bool)), (∀ p ∈ s, p.2 = false) → ∀ a w, wpSeq P l.toArray Q tl s a w → wpSeqE P l.toArray Q ex tl s a w := by
    intro s
    induction s with
    | nil => intro _ a w h; exact h
    | cons p s ih =>
      obtain ⟨i, b⟩ := p
      intro hp a w h
      have hb : b = false := hp (i, b) (List.mem_cons_self)
      subst hb
      exact wpOp_mono (fun a' w' h' => ⟨h'.1, ih (fun q hq => hp q (List.mem_cons_of_mem _ hq)) a' w' h'.2⟩) h
  exact this _ (fun p hp => by obtain ⟨i, _, rfl⟩ := List.mem_map.1 hp; rfl) a w (seq_of_tail ts ht a w h)
/-- Parts: such as hang on no world, quiet ones, then one that leaves a later world; at the end the tail. -/
def wpPartsE (P : Program) (l : List Oper) (Q : Exit → Act → World → Prop) (ps qs ts : List Nat) : List (List Nat × List Nat × Nat) → Act → World → Prop
  | [], a, w => wpQuiet P l.toArray (fun _ => True) (wpQuiet P l.toArray (fun w' => ∃ x, w' = grow w x) (fun a' => wpList P l.toArray Q (pick l ts) a' w) (pick l qs)) (pick l ps) a
  | (p, q, i) :: r, a, w => wpQuiet P l.toArray (fun _ => True) (wpQuiet P l.toArray (fun w' => ∃ x, w' = grow w x) (fun a' => wpList P l.toArray (Exit.then (fun a'' w'' => Later w w'' ∧ wpPartsE P l Q ps qs ts r a'' w'') Q) (pick l [i]) a' w) (pick l q)) (pick l p) a
def flatE (ps qs ts : List Nat) : List (List Nat × List Nat × Nat) → List (Nat × Bool)
  | [] => ps.map (·, true) ++ (qs.map (·, true) ++ ts.map (·, false))
  | (p, q, i) :: r => p.map (·, true) ++ (q.map (·, true) ++ (i, false) :: flatE ps qs ts r)
def exOf (ps : List Nat) (segs : List (List Nat × List Nat × Nat)) : List Nat := ps ++ segs.flatMap (·.1)
def quietsB (l : List Oper) (ex q : List Nat) : Bool := q.all fun i => decide (i < l.length) && !ex.contains i
def puresB (l : List Oper) (ex p : List Nat) : Bool := p.all fun i => decide (i < l.length) && ex.contains i
def partsBE (l : List Oper) (ps qs ts : List Nat) (segs : List (List Nat × List Nat × Nat)) : Bool :=
  Region.noSelect l.toArray && tailBE l.toArray (exOf ps segs) ts && (puresB l (exOf ps segs) ps && quietsB l (exOf ps segs) qs) && (ts.all fun i => decide (i < l.length) && ts.contains i) &&
  (segs.all fun s => decide (s.2.2 < l.length) && (puresB l (exOf ps segs) s.1 && quietsB l (exOf ps segs) s.2.1)) &&
  seqB l.toArray ts.contains (flatE ps qs ts segs) (Array.replicate l.length false) && decide ((flatE ps qs ts segs).length = l.length)
theorem puresB_spec {l : List Oper} {ex p : List Nat} (h : puresB l ex p = true) (w : World) : (p.all fun i => decide (i < l.length)) = true ∧ ∀ i ∈ p, SE ex i w = fun _ => True := by
  unfold puresB at h
  refine ⟨List.all_eq_true.2 fun i hi => ?_, fun i hi => ?_⟩
  all_goals
    have := List.all_eq_true.1 h i hi
    simp only [Bool.and_eq_true] at this
  · exact this.1
  · unfold SE
    rw [if_pos this.2]
theorem quietsB_spec {l : List Oper} {ex q : List Nat} (h : quietsB l ex q = true) (w : World) : (q.all fun i => decide (i < l.length)) = true ∧ ∀ i ∈ q, SE ex i w = Later w := by
  unfold quietsB at h
  refine ⟨List.all_eq_true.2 fun i hi => ?_, fun i hi => ?_⟩
  all_goals
    have := List.all_eq_true.1 h i hi
    simp only [Bool.and_eq_true, Bool.not_eq_true'] at this
  · exact this.1
  · unfold SE
    rw [if_neg (by rw [this.2]; simp)]
theorem seq_of_partsE {l : List Oper} {ex ps qs ts : List Nat} (hp : puresB l ex ps = true) (hq : quietsB l ex qs = true) (ht : (ts.all fun i => decide (i < l.length) && ts.contains i) = true) :
    ∀ (segs : List (List Nat × List Nat × Nat)), (segs.all fun s => decide (s.2.2 < l.length) && (puresB l ex s.1 && quietsB l ex s.2.1)) = true → ∀ a w, wpPartsE P l Q ps qs ts segs a w → wpSeqE P l.toArray Q ex ts.contains (flatE ps qs ts segs) a w
  | [], _, a, w, h => seq_of_quietE (fun a h => seq_of_quietE (fun a h => seq_of_tailE ts ht a w h) qs (quietsB_spec hq w).1 (quietsB_spec hq w).2 a h) ps (puresB_spec hp w).1 (puresB_spec hp w).2 a h
  | (p, q, i) :: r, hb, a, w, h => by
    simp only [List.all_cons, Bool.and_eq_true, decide_eq_true_eq] at hb
    obtain ⟨⟨hi, hp1, hq1⟩, hb2⟩ := hb
    refine seq_of_quietE (fun a h => seq_of_quietE (fun a h => ?_) q (quietsB_spec hq1 w).1 (quietsB_spec hq1 w).2 a h) p (puresB_spec hp1 w).1 (puresB_spec hp1 w).2 a h
    exact wpOp_mono (fun a' w' h' => ⟨fun _ => h'.1, seq_of_partsE hp hq ht r hb2 a' w' h'.2⟩) (wpOp_of_wpList hi h)
/-- **A region that draws its order, in one canonical order; some operations may come at any time.** -/
theorem wp_region_partsE {id : Nat} {a : Act} {w : World} {l : List Oper} (segs : List (List Nat × List Nat × Nat)) (ps qs ts : List Nat) (hm : P.follows .mixedOrders = true) (hB : partsBE l ps qs ts segs = true)
    (hQ : ∀ c a d v w, Q (.panic c) (a.put d v) w → Q (.panic c) a w) (h : wpPartsE P l Q ps qs ts segs a w.drew) : (Code.region id l.toArray true).wp P Q a w := by
  simp only [partsBE, Bool.and_eq_true, decide_eq_true_eq] at hB
  obtain ⟨⟨⟨⟨⟨⟨hs, hT⟩, hp, hq⟩, ht⟩, hsg⟩, hsq⟩, hlen⟩ := hB
  refine wp_region_any hm (wpAny_of_T (tl := ts.contains) _ _ _ _ ?_)
  have := wpAnyT_of_seqE hT hs hQ (flatE ps qs ts segs) (Array.replicate l.length false) a w.drew (closed_start l) hsq (seq_of_partsE hp hq ht segs hsg a _ h)
  rw [hlen] at this
  simpa using this
end
end Go.Proofs.Ytjohieongjnemaa
