/-
  Regions that draw their order, make memory and store into it: quiet operations whose values hang on what was there before the region alone (they may come behind the stores).
-/
import Derived.Test.YtallecbmnpcepaaMakers
namespace Go.Proofs.Ytallecbmnpcepaa
open Go.RowKit

section
variable {P : Program} {ops : Array Oper} {Q : Exit → Act → World → Prop} {T : World → Prop}
/-- Whatever order is picked from here on; behind each operation 'T' holds. -/
def wpAnyU (P : Program) (ops : Array Oper) (Q : Exit → Act → World → Prop) (T : World → Prop) : Nat → Array Bool → Act → World → Prop
  | 0, listed, a, w => Region.ready .any ops listed = [] ∧ Q .normal a w
  | fuel + 1, listed, a, w =>
    (Region.ready .any ops listed = [] → Q .normal a w) ∧
    ∀ i ∈ Region.ready .any ops listed, wpOp P ops Q i (fun a' w' => T w' ∧ wpAnyU P ops Q T fuel (listed.setIfInBounds i true) a' w') a w
theorem wpAny_of_U : ∀ (fuel : Nat) (listed : Array Bool) (a : Act) (w : World), wpAnyU P ops Q T fuel listed a w → wpAny P .any ops Q fuel listed a w
  | 0, _, _, _, h => h
  | fuel + 1, _, _, _, h => ⟨h.1, fun i hi => wpOp_mono (fun a' w' h' => wpAny_of_U fuel _ a' w' h'.2) (h.2 i hi)⟩
theorem yieldsIf_of_quietT {o : Oper} {a : Act} {K : Act → Prop} (hc : calm o = true) (hw : Region.wanted o (yielded ops a.tmps) = true) (h : o.quiet P a T K) :
    ∃ v, YieldsIf P ops T o v a ∧ K (a.put o.dst v) := by
  obtain ⟨v, h1, h2⟩ := h
  refine ⟨v, .inl ⟨hw, fun w hl => ?_⟩, h2⟩
  have h3 := h1 w hl
  unfold Oper.quietAt at h3
  cases hr : (execOp a.eval o).run P w with
  | halt x w' => rw [hr] at h3; exact absurd h3 (by simp [Oper.quietUpon])
  | ok n w' =>
    obtain ⟨u, rfl⟩ := calm_value hc hr
    rw [hr] at h3
    obtain ⟨rfl, rfl⟩ := h3
    rfl
theorem wpAnyU_first {i : Nat} {oi : Oper} {v : Value} (hi : ops[i]? = some oi) (hsel : ∀ (j : Nat) (o : Oper) cs b, ops[j]? = some o → o.op ≠ .select cs b)
    (hQ : ∀ c a w, Q (.panic c) (a.put oi.dst v) w → Q (.panic c) a w) :
    ∀ (fuel : Nat) (listed : Array Bool) (a : Act) (w : World),
      (∀ j oj, ops[j]? = some oj → j ≠ i → listed.getD j true = false → (∀ e ∈ oj.after, Region.binds .any e = true → e.on ≠ i) → oi.apart ops oj = true) →
      i ∈ Region.ready .any ops listed → YieldsIf P ops T oi v a → T w →
      wpAnyU P ops Q T fuel (listed.setIfInBounds i true) (a.put oi.dst v) w → wpAnyU P ops Q T (fuel + 1) listed a w := by
  intro fuel
  induction fuel with
  | zero =>
    intro listed a w _ hr hy hS H
    refine ⟨fun h => (by rw [h] at hr; cases hr), fun j hj => ?_⟩
    by_cases hji : j = i
    · subst hji; exact hy.wpOp hi hS ⟨hS, H⟩
    · have := ready_mono hj hji
      rw [H.1] at this
      cases this
  | succ fuel ih =>
    intro listed a w hfree hr hy hS H
    refine ⟨fun h => (by rw [h] at hr; cases hr), fun j hj => ?_⟩
    by_cases hji : j = i
    · subst hji; exact hy.wpOp hi hS ⟨hS, H⟩
    · have h1 := H.2 j (ready_mono hj hji)
      obtain ⟨hjun, oj, hoj, hall⟩ := mem_ready.1 hj
      have hiun := (mem_ready.1 hr).1
      have hnot : ∀ e ∈ oj.after, Region.binds .any e = true → e.on ≠ i := fun e he hb heq => by
        have h1 := hall e he hb
        rw [heq, getD_false_of hiun] at h1
        cases h1
      have h2 := wpOp_putIf hoj (hfree j oj hoj hji hjun hnot) (fun cs b => hsel i oi cs b hi) (fun cs b => hsel j oj cs b hoj) hQ hy h1
      have hfree' : ∀ k ok, ops[k]? = some ok → k ≠ i → (listed.setIfInBounds j true).getD k true = false →
          (∀ e ∈ ok.after, Region.binds .any e = true → e.on ≠ i) → oi.apart ops ok = true := fun k ok hk hki hun hno => by
        refine hfree k ok hk hki ?_ hno
        by_cases hjk : j = k
        · subst hjk; exact hjun
        · rw [getD_set_ne true hjk] at hun; exact hun
      refine wpOp_mono (fun a' w' h3 => ⟨h3.2.1, ih (listed.setIfInBounds j true) a' w' hfree' (ready_mono hr (Ne.symm hji)) h3.1 h3.2.1 ?_⟩) h2
      rw [Array.setIfInBounds_comm _ _ hji]
      exact h3.2.2
/-- One canonical order: kinds: 0 quiet, 2 a maker, 3 of the tail. -/
def wpN (P : Program) (ops : Array Oper) (Q : Exit → Act → World → Prop) (T : World → Prop) (base : Nat) (mk : Nat → (Nat → Value) × Obj) : (Nat → Prop) → Bool → List (Nat × Nat) → Act → World → Prop
  | _, _, [], a, w => Q .normal a w
  | S, fz, (i, 0) :: r, a, w => ∃ o, ops[i]? = some o ∧ if Region.wanted o (yielded ops a.tmps) then o.quiet P a T (fun a' => wpN P ops Q T base mk S fz r a' w) else wpN P ops Q T base mk S fz r (a.put o.dst undef) w
  | S, fz, (i, 2) :: r, a, w => ∃ o, ops[i]? = some o ∧ ∀ w1 g, Later w w1 → base ≤ g → ¬ S g → w1.heap[g]? = some (mk i).2 → wpN P ops Q T base mk (fun n => n = g ∨ S n) fz r (a.put o.dst ((mk i).1 g)) w1
  | S, true, (i, _) :: r, a, w => ∀ w1, Later w w1 → wpOp P ops Q i (fun a' w' => T w' ∧ wpN P ops Q T base mk S false r a' w') a w1
  | S, false, (i, _) :: r, a, w => wpOp P ops Q i (fun a' w' => T w' ∧ wpN P ops Q T base mk S false r a' w') a w
def aheadN (ops : Array Oper) (oi : Oper) (i : Nat) : List (Nat × Nat) → Bool
  | [] => false
  | (k, kd) :: r => if k = i then decide (kd = 2) else (decide (kd = 0) || decide (kd = 2)) && ((ops[k]?).map fun ok => oi.apart ops ok && (kd != 0 || calm ok)).getD false && aheadN ops oi i r
theorem aheadN_ahead {oi : Oper} {i : Nat} : ∀ {l : List (Nat × Nat)}, aheadN ops oi i l = true → aheadB ops oi i l = true
  | [], h => by simp [aheadN] at h
  | (k, kd) :: r, h => by
    unfold aheadN at h
    unfold aheadB
    by_cases hk : k = i
    · rw [if_pos hk] at h ⊢
      exact h
    · rw [if_neg hk] at h ⊢
      simp only [Bool.and_eq_true, Bool.or_eq_true, decide_eq_true_eq] at h ⊢
      exact ⟨⟨by rcases h.1.1 with h | h <;> omega, h.1.2⟩, aheadN_ahead h.2⟩
theorem strikeN {base : Nat} {mk : Nat → (Nat → Value) × Obj} {i g : Nat} {oi : Oper} (hi : ops[i]? = some oi) (hsel : ∀ (j : Nat) (o : Oper) cs b, ops[j]? = some o → o.op ≠ .select cs b) (hb : base ≤ g) :
    ∀ (l : List (Nat × Nat)) (S : Nat → Prop) (a : Act) (w w2 : World), aheadN ops oi i l = true → ¬ S g → wpN P ops Q T base mk S true l a w → Makes P ops oi (mk i).1 (mk i).2 a → Later w w2 → w2.heap[g]? = some (mk i).2 →
      wpN P ops Q T base mk (fun n => n = g ∨ S n) true (strikeL i l) (a.put oi.dst ((mk i).1 g)) w2
  | [], _, _, _, _, hB, _, _, _, _, _ => by simp [aheadN] at hB
  | (k, kd) :: r, S, a, w, w2, hB, hSg, h, hm, hl, hg => by
    unfold aheadN at hB
    unfold strikeL
    by_cases hk : k = i
    · subst hk
      rw [if_pos rfl] at hB
      rw [if_pos rfl]
      obtain rfl : kd = 2 := by simpa using hB
      obtain ⟨o, ho, h⟩ := h
      obtain rfl : o = oi := Option.some.inj (ho.symm.trans hi)
      exact h w2 g hl hb hSg hg
    · rw [if_neg hk] at hB
      rw [if_neg hk]
      simp only [Bool.and_eq_true, Bool.or_eq_true, decide_eq_true_eq] at hB
      obtain ⟨⟨hkd, hap⟩, hB⟩ := hB
      obtain ⟨ok, hok⟩ : ∃ ok, ops[k]? = some ok := by
        cases hq : ops[k]? with
        | none => simp [hq] at hap
        | some o => exact ⟨o, rfl⟩
      have hap2 : oi.apart ops ok = true ∧ (kd = 0 → calm ok = true) := by
        simp only [hok, Option.map_some, Option.getD_some, Bool.and_eq_true, Bool.or_eq_true, bne_iff_ne] at hap
        exact ⟨hap.1, fun h => by rcases hap.2 with h' | h' <;> first | exact absurd h h' | exact h'⟩
      obtain ⟨hap', hcalm⟩ := hap2
      obtain ⟨h1, h2, h3⟩ := Oper.apart_spec hap'
      have hsi := fun cs b => hsel i oi cs b hi
      have hsk := fun cs b => hsel k ok cs b hok
      have keep : ∀ (a : Act), Makes P ops oi (mk i).1 (mk i).2 a → ∀ x, Makes P ops oi (mk i).1 (mk i).2 (a.put ok.dst x) := fun a hy x =>
        hy.of_same (execOp_put oi hsi a ok.dst x h3) (wanted_put oi a ok.dst x h3)
      have ih := strikeN (mk := mk) hi hsel hb r
      rcases hkd with rfl | rfl
      · obtain ⟨o, ho, h⟩ := h
        obtain rfl : o = ok := Option.some.inj (ho.symm.trans hok)
        refine ⟨o, ho, ?_⟩
        rw [wanted_put o a oi.dst _ h1]
        split
        · rename_i hw
          rw [if_pos hw] at h
          obtain ⟨x, hx1, hx2⟩ := h
          refine ⟨x, fun w' hw' => ?_, ?_⟩
          · have := hx1 w' hw'
            unfold Oper.quietAt at *
            rw [execOp_put o hsk a oi.dst _ h1]
            cases hr : (execOp a.eval o).run P w' with
            | halt e w3 => rw [hr] at this; exact absurd this (by simp [Oper.quietUpon])
            | ok n w3 =>
              rw [hr] at this
              obtain ⟨y, rfl⟩ := calm_value (hcalm rfl) hr
              exact this
          · rw [Act.put_comm a _ x h2]
            exact ih _ _ w w2 hB hSg hx2 (keep a hm x) hl hg
        · rename_i hw
          rw [if_neg hw] at h
          rw [Act.put_comm a _ undef h2]
          exact ih _ _ w w2 hB hSg h (keep a hm undef) hl hg
      · obtain ⟨o, ho, h⟩ := h
        obtain rfl : o = ok := Option.some.inj (ho.symm.trans hok)
        refine ⟨o, ho, fun w1 g' hl1 hb' hS' hg' => ?_⟩
        rw [Act.put_comm a _ _ h2, or_swap]
        exact ih _ _ w1 w1 hB (fun hx => hx.elim (fun e => hS' (.inl e.symm)) hSg) (h w1 g' (hl.trans hl1) hb' (fun hx => hS' (.inr hx)) hg') (keep a hm _) (Later.refl _) ((hl1.below.block g (by
          rcases Nat.lt_or_ge g w2.heap.size with hlt | hge
          · exact hlt
          · rw [Array.getElem?_eq_none hge] at hg
            cases hg)).trans hg)
def mkN (ops : Array Oper) (j : Nat) (l : List (Nat × Nat)) : Bool := ((ops[j]?).map fun oj => aheadN ops oj j l).getD false
theorem mkN_spec {j : Nat} {l : List (Nat × Nat)} (h : mkN ops j l = true) : ∃ oj, ops[j]? = some oj ∧ aheadN ops oj j l = true := by
  unfold mkN at h
  cases hq : ops[j]? with
  | none => simp [hq] at h
  | some o => exact ⟨o, rfl, by simpa [hq] using h⟩
def okN (ops : Array Oper) : Nat → Bool → List (Nat × Nat) → Array Bool → Bool
  | _, _, [], listed => (Region.ready .any ops listed).isEmpty
  | 0, _, _ :: _, _ => false
  | n + 1, fz, (i, kd) :: r, listed =>
    let rd := Region.ready .any ops listed
    if kd = 0 then fz && rd.contains i && Region.free .any ops listed i && ((ops[i]?).map calm).getD false && okN ops n fz r (listed.setIfInBounds i true)
    else if kd = 2 then fz && !rd.isEmpty && rd.all fun j => mkN ops j ((i, kd) :: r) && okN ops n fz (strikeL j ((i, kd) :: r)) (listed.setIfInBounds j true)
    else decide (rd = [i]) && decide (kd = 3) && okN ops n false r (listed.setIfInBounds i true)
theorem simN {base : Nat} {mk : Nat → (Nat → Value) × Obj} (hsel : ∀ (j : Nat) (o : Oper) cs b, ops[j]? = some o → o.op ≠ .select cs b)
    (hT : ∀ w w', T w → Later w w' → T w') (hQ1 : ∀ c a d v w, Q (.panic c) (a.put d v) w → Q (.panic c) a w) :
    ∀ (n : Nat) (S : Nat → Prop) (fz : Bool) (l : List (Nat × Nat)) (listed : Array Bool) (a : Act) (w : World), l.length = n → (l.map (·.1)).Nodup → okN ops n fz l listed = true → Sep ops l → (fz = true → Specs P ops mk l a ∧ base ≤ w.heap.size ∧ ∀ n, S n → n < w.heap.size) → T w →
      wpN P ops Q T base mk S fz l a w → wpAnyU P ops Q T n listed a w
  | 0, S, fz, l, listed, a, w, hn, _, hB, _, _, _, h => by
    obtain rfl : l = [] := List.eq_nil_of_length_eq_zero hn
    unfold okN at hB
    exact ⟨by simpa using hB, h⟩
  | n + 1, S, fz, [], _, _, _, hn, _, _, _, _, _, _ => by simp at hn
  | n + 1, S, fz, (i, kd) :: r, listed, a, w, hn, hnd, hB, hsep, hfzz, hTw, h => by
    have hr' : r.length = n := by simpa using hn
    have hnd' := hnd
    simp only [List.map_cons, List.nodup_cons] at hnd'
    have ih := fun S fz l listed a w => simN (base := base) (mk := mk) hsel hT hQ1 n S fz l listed a w
    have hsub : ∀ x, x ∈ r → x ∈ (i, kd) :: r := fun x hx => List.mem_cons_of_mem _ hx
    have hspr : fz = true → Specs P ops mk r a := fun hf k ok hk hok => (hfzz hf).1 k ok (hsub _ hk) hok
    unfold okN at hB
    simp only at hB
    by_cases h0 : kd = 0
    · subst h0
      simp only [if_true, Bool.and_eq_true] at hB
      obtain ⟨⟨⟨⟨hfz, hrd⟩, hf⟩, hcm⟩, hok⟩ := hB
      subst hfz
      obtain ⟨o, ho, h⟩ := h
      have hri : i ∈ Region.ready .any ops listed := by simpa using hrd
      have hcm' : calm o = true := by simpa [ho] using hcm
      have next : ∀ v, YieldsIf P ops T o v a → wpN P ops Q T base mk S true r (a.put o.dst v) w → wpAnyU P ops Q T (n + 1) listed a w := fun v hy hnx =>
        wpAnyU_first ho hsel (fun c a w => hQ1 c a _ _ w) n listed a w (Region.free_spec ho hf) hri hy hTw
          (ih S true r _ _ w hr' hnd'.2 hok (hsep.sub hsub) (fun _ => ⟨Specs.put (l := (i, 0) :: r) (hspr rfl) hsub hsep List.mem_cons_self ho hnd'.1 hsel v, (hfzz rfl).2⟩) hTw hnx)
      by_cases hw : Region.wanted o (yielded ops a.tmps) = true
      · rw [if_pos hw] at h
        obtain ⟨v, hy, hnx⟩ := yieldsIf_of_quietT hcm' hw h
        exact next v hy hnx
      · rw [if_neg hw] at h
        exact next undef (.inr ⟨by simpa using hw, rfl⟩) h
    · rw [if_neg h0] at hB
      by_cases h2 : kd = 2
      · subst h2
        simp only [if_true, Bool.and_eq_true, Bool.not_eq_true'] at hB
        obtain ⟨⟨hfz, hne⟩, hall⟩ := hB
        subst hfz
        refine ⟨fun he => (by rw [he] at hne; simp at hne), fun j hj => ?_⟩
        have hj2 := List.all_eq_true.1 hall j hj
        simp only [Bool.and_eq_true] at hj2
        obtain ⟨hsp, hb, hSb⟩ := hfzz rfl
        obtain ⟨oj, hoj, hah⟩ := mkN_spec hj2.1
        have hmem := aheadB_mem (aheadN_ahead hah)
        obtain ⟨hw, hrun⟩ := hsp j oj hmem hoj
        have hlen := strikeL_length (aheadN_ahead hah)
        have hst := strikeL_nodup (i := j) hnd
        unfold wpOp
        simp only [hoj, hw, if_true]
        refine .inl ?_
        unfold Oper.wp
        rw [hrun w]
        refine ⟨hT _ _ hTw (later_made w _), ih (fun n => n = w.heap.size ∨ S n) true _ _ _ _ (by rw [List.length_cons] at hlen; omega) hst.1 hj2.2 (hsep.sub (strikeL_sub j _)) (fun _ => ⟨?_, Nat.le_trans hb (later_made w _).below.size, fun n hn => by
          have hsz : (w.alloc (mk j).2).heap.size = w.heap.size + 1 := by simp
          rw [hsz]
          rcases hn with rfl | hn
          · omega
          · have := hSb n hn
            omega⟩) (hT _ _ hTw (later_made w _)) ?_⟩
        · exact Specs.put (l := (i, 2) :: r) (fun k ok hk hok' => hsp k ok (strikeL_sub j _ _ hk) hok') (strikeL_sub j _) hsep hmem hoj hst.2 hsel _
        · exact strikeN hoj hsel hb _ S a w _ hah (fun hx => Nat.lt_irrefl _ (hSb _ hx)) h ⟨hw, hrun⟩ (later_made w _) (heap_alloc_new w _)
      · rw [if_neg h2] at hB
        simp only [Bool.and_eq_true, decide_eq_true_eq] at hB
        obtain ⟨⟨hrd, h3⟩, hok⟩ := hB
        subst h3
        refine ⟨fun he => (by rw [hrd] at he; cases he), fun j hj => ?_⟩
        rw [hrd] at hj
        obtain rfl : j = i := by simpa using hj
        have hri : j ∈ Region.ready .any ops listed := by rw [hrd]; simp
        have h' : wpOp P ops Q j (fun a' w' => T w' ∧ wpN P ops Q T base mk S false r a' w') a w := by
          cases fz with
          | true => exact h w (Later.refl w)
          | false => exact h
        exact wpOp_mono (fun a' w' h' => ⟨h'.1, ih S false r _ a' w' hr' hnd'.2 hok (hsep.sub hsub) (fun hf => by cases hf) h'.1 h'.2⟩) h'
end
section
variable {P : Program} {Q : Exit → Act → World → Prop}
/-- The tail, one by one; behind each 'T' holds. -/
def wpTailT (P : Program) (l : List Oper) (Q : Exit → Act → World → Prop) (T : World → Prop) : List Nat → Act → World → Prop
  | [], a, w => Q .normal a w
  | i :: r, a, w => wpList P l.toArray (Exit.then (fun a' w' => T w' ∧ wpTailT P l Q T r a' w') Q) (pick l [i]) a w
/-- The makers, whatever blocks they are given, then the tail. -/
def wpMade (P : Program) (l : List Oper) (Q : Exit → Act → World → Prop) (T : World → Prop) (base : Nat) (mk : Nat → (Nat → Value) × Obj) (ts : List Nat) : (Nat → Prop) → List Nat → Act → World → Prop
  | _, [], a, w => ∀ w1, Later w w1 → wpTailT P l Q T ts a w1
  | S, i :: r, a, w => ∀ w1 g, Later w w1 → base ≤ g → ¬ S g → w1.heap[g]? = some (mk i).2 → wpMade P l Q T base mk ts (fun n => n = g ∨ S n) r (a.put ((l[i]?).bind (·.dst)) ((mk i).1 g)) w1
theorem nTail {l : List Oper} {T : World → Prop} {base : Nat} {mk : Nat → (Nat → Value) × Obj} {S : Nat → Prop} : ∀ (ts : List Nat), (ts.all fun i => decide (i < l.length)) = true →
    ∀ a w, wpTailT P l Q T ts a w → wpN P l.toArray Q T base mk S false (ts.map (·, 3)) a w
  | [], _, a, w, h => h
  | i :: ts, hb, a, w, h => by
    simp only [List.all_cons, Bool.and_eq_true, decide_eq_true_eq] at hb
    exact wpOp_mono (fun a' w' h' => ⟨h'.1, nTail ts hb.2 a' w' h'.2⟩) (wpOp_of_wpList hb.1 h)
theorem nMade {l : List Oper} {T : World → Prop} {base : Nat} {mk : Nat → (Nat → Value) × Obj} {ts : List Nat} (ht : (ts.all fun i => decide (i < l.length)) = true) : ∀ (ms : List Nat), (ms.all fun i => decide (i < l.length)) = true →
    ∀ S a w, wpMade P l Q T base mk ts S ms a w → wpN P l.toArray Q T base mk S true (ms.map (·, 2) ++ ts.map (·, 3)) a w
  | [], _, S, a, w, h => by
    cases ts with
    | nil => exact h w (Later.refl w)
    | cons i ts =>
      intro w1 hl
      have := nTail (P := P) (Q := Q) (T := T) (base := base) (mk := mk) (S := S) (i :: ts) ht a w1 (h w1 hl)
      exact this
  | i :: ms, hb, S, a, w, h => by
    simp only [List.all_cons, Bool.and_eq_true, decide_eq_true_eq] at hb
    have hi : l[i]? = some (l[i]'hb.1) := List.getElem?_eq_getElem hb.1
    refine ⟨l[i]'hb.1, by simp [hb.1], fun w1 g hl hg hS hh => ?_⟩
    have := h w1 g hl hg hS hh
    rw [hi] at this
    exact nMade ht ms hb.2 _ _ w1 this
theorem nQuiet {l : List Oper} {T : World → Prop} {base : Nat} {mk : Nat → (Nat → Value) × Obj} {S : Nat → Prop} {Qa : Act → Prop} {r : List (Nat × Nat)} {w : World} (hQa : ∀ a, Qa a → wpN P l.toArray Q T base mk S true r a w) : ∀ (qs : List Nat), (qs.all fun i => decide (i < l.length)) = true →
    ∀ a, wpQuiet P l.toArray T Qa (pick l qs) a → wpN P l.toArray Q T base mk S true (qs.map (·, 0) ++ r) a w
  | [], _, a, h => hQa a h
  | i :: qs, hb, a, h => by
    simp only [List.all_cons, Bool.and_eq_true, decide_eq_true_eq] at hb
    have hi : l[i]? = some (l[i]'hb.1) := List.getElem?_eq_getElem hb.1
    refine ⟨l[i]'hb.1, by simp [hb.1], ?_⟩
    simp only [pick, hi, Option.toList_some, List.singleton_append, wpQuiet] at h
    by_cases hw : Region.wanted (l[i]'hb.1) (yielded l.toArray a.tmps) = true
    · rw [if_pos hw] at h ⊢
      exact Oper.quiet_mono (fun a' h' => nQuiet hQa qs hb.2 a' h') h
    · rw [if_neg hw] at h ⊢
      exact nQuiet hQa qs hb.2 _ h
def freshB (l : List Oper) (qs ms ts : List Nat) : Bool :=
  let f := qs.map (·, 0) ++ (ms.map (·, 2) ++ ts.map (·, 3))
  Region.noSelect l.toArray && (qs.all fun i => decide (i < l.length)) && (ms.all fun i => decide (i < l.length)) && (ts.all fun i => decide (i < l.length)) &&
  okN l.toArray f.length true f (Array.replicate l.length false) && sepB l f && decide ((f.map (·.1)).Nodup) && decide (f.length = l.length)
theorem fresh_makers {qs ms ts : List Nat} {i : Nat} (h : (i, 2) ∈ qs.map (·, 0) ++ (ms.map (·, 2) ++ ts.map (·, 3))) : i ∈ ms := by
  simp only [List.mem_append, List.mem_map, Prod.mk.injEq] at h
  rcases h with ⟨x, _, _, h⟩ | ⟨x, hx, rfl, _⟩ | ⟨x, _, _, h⟩
  · omega
  · exact hx
  · omega
/-- **A region that makes memory and stores into it, in any order that its edges leave.** -/
theorem wp_region_fresh {id : Nat} {a : Act} {w : World} {l : List Oper} (qs ms ts : List Nat) (mk : Nat → (Nat → Value) × Obj) (hm : P.follows .mixedOrders = true) (hB : freshB l qs ms ts = true)
    (hQ1 : ∀ c a d v w, Q (.panic c) (a.put d v) w → Q (.panic c) a w)
    (h : MakesAll P l mk a ms ∧ wpQuiet P l.toArray (Below w.heap.size w) (fun a' => wpMade P l Q (Below w.heap.size w) w.heap.size mk ts (fun _ => False) ms a' w.drew) (pick l qs) a) : (Code.region id l.toArray true).wp P Q a w := by
  simp only [freshB, Bool.and_eq_true, decide_eq_true_eq] at hB
  obtain ⟨⟨⟨⟨⟨⟨⟨hs, hq⟩, hms⟩, ht⟩, hok⟩, hsep⟩, hnd⟩, hlen⟩ := hB
  refine wp_region_any hm (wpAny_of_U (T := Below w.heap.size w) _ _ _ _ ?_)
  have hTl : ∀ w1 w2, Below w.heap.size w w1 → Later w1 w2 → Below w.heap.size w w2 := fun w1 w2 h1 h2 => h1.trans (h2.below.mono h1.size)
  have h0 : Below w.heap.size w w.drew := (Below.refl _ _).drew
  have := simN (P := P) (Q := Q) (T := Below w.heap.size w) (base := w.heap.size) (mk := mk) (Region.noSelect_spec hs) hTl hQ1 _ (fun _ => False) true _ (Array.replicate l.length false) a w.drew rfl hnd hok (sepB_spec hsep)
    (fun _ => ⟨fun i oi hi ho => h.1.at_ i (fresh_makers hi) oi (by simpa using ho), Nat.le_refl _, fun _ h => h.elim⟩) h0 (nQuiet (fun a h => nMade ht ms hms _ a w.drew h) qs hq a h.2)
  rw [hlen] at this
  simpa using this
end
end Go.Proofs.Ytallecbmnpcepaa
