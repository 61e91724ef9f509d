/-
  Regions that draw their order and make memory beside calls, where some makers are wanted only behind other operations (a guard's test): a marker in the canonical order says from where on a maker is awake.
-/
import Derived.Test.YtkibgdigcgakfaaCanP
namespace Go.Proofs.Ytkibgdigcgakfaa
open Go.RowKit

section
variable {P : Program} {ops : Array Oper} {Q : Exit → Act → World → Prop}
/-- As wpM; kind 4: from here on this maker is awake. -/
def wpG (P : Program) (ops : Array Oper) (Q : Exit → Act → World → Prop) (base : Nat) (mk : Nat → (Nat → Value) × Obj) : (Nat → Prop) → Bool → List (Nat × Nat) → Act → World → Prop
  | _, _, [], a, w => Q .normal a w
  | S, fz, (i, 0) :: r, a, w => ∃ o, ops[i]? = some o ∧ if Region.wanted o (yielded ops a.tmps) then o.quiet P a (Later w) (fun a' => wpG P ops Q base mk S fz r a' w) else wpG P ops Q base mk S fz r (a.put o.dst undef) w
  | S, fz, (i, 1) :: r, a, w => ∀ w1, Later w w1 → wpOp P ops Q i (fun a' w' => Later w1 w' ∧ wpG P ops Q base mk S fz r a' w') a w1
  | S, fz, (i, 2) :: r, a, w => ∃ o, ops[i]? = some o ∧ ∀ w1 g, Later w w1 → base ≤ g → ¬ S g → w1.heap[g]? = some (mk i).2 → wpG P ops Q base mk (fun n => n = g ∨ S n) fz r (a.put o.dst ((mk i).1 g)) w1
  | S, fz, (i, 4) :: r, a, w => (∀ o, ops[i]? = some o → Makes P ops o (mk i).1 (mk i).2 a) ∧ wpG P ops Q base mk S fz r a w
  | S, true, (i, _) :: r, a, w => ∀ w1, Later w w1 → wpOp P ops Q i (fun a' w' => wpG P ops Q base mk S false r a' w') a w1
  | S, false, (i, _) :: r, a, w => wpOp P ops Q i (fun a' w' => wpG P ops Q base mk S false r a' w') a w
/-- The maker stands in the list, it is awake, and nothing ahead of it has to do with it. -/
def aheadG (ops : Array Oper) (oi : Oper) (i : Nat) : List (Nat × Nat) → Bool
  | [] => false
  | (k, kd) :: r => if k = i then decide (kd = 2) else (decide (kd ≤ 2) || decide (kd = 4)) && ((ops[k]?).map fun ok => oi.apart ops ok && (kd != 0 || calm ok)).getD false && aheadG ops oi i r
theorem aheadG_cons {oi : Oper} {i k kd : Nat} {r : List (Nat × Nat)} (h : aheadG ops oi i ((k, kd) :: r) = true) (hne : ¬ (k = i ∧ kd = 2)) :
    k ≠ i ∧ (kd ≤ 2 ∨ kd = 4) ∧ aheadG ops oi i r = true ∧ ∃ ok, ops[k]? = some ok ∧ oi.apart ops ok = true ∧ (kd = 0 → calm ok = true) := by
  unfold aheadG at h
  by_cases hk : k = i
  · rw [if_pos hk] at h
    exact absurd ⟨hk, by simpa using h⟩ hne
  · rw [if_neg hk] at h
    simp only [Bool.and_eq_true, Bool.or_eq_true, decide_eq_true_eq] at h
    obtain ⟨⟨hkd, hap⟩, hB⟩ := h
    obtain ⟨ok, hok⟩ : ∃ ok, ops[k]? = some ok := by
      cases hq : ops[k]? with
      | none => simp [hq] at hap
      | some o => exact ⟨o, rfl⟩
    simp only [hok, Option.map_some, Option.getD_some, Bool.and_eq_true, Bool.or_eq_true, bne_iff_ne] at hap
    exact ⟨hk, hkd, hB, ok, hok, hap.1, fun h => by rcases hap.2 with h' | h' <;> first | exact absurd h h' | exact h'⟩
theorem Makes.put_of {oi ok : Oper} {v : Nat → Value} {O : Obj} {a : Act} (h : Makes P ops oi v O a) (hsi : ∀ cs b, oi.op ≠ .select cs b) (hap : oi.apart ops ok = true ∨ ok.apart ops oi = true) (x : Value) : Makes P ops oi v O (a.put ok.dst x) := by
  rcases hap with hap | hap
  · obtain ⟨_, _, h3⟩ := Oper.apart_spec hap
    exact h.of_same (execOp_put oi hsi a ok.dst x h3) (wanted_put oi a ok.dst x h3)
  · obtain ⟨h1, _, _⟩ := Oper.apart_spec hap
    exact h.of_same (execOp_put oi hsi a ok.dst x h1) (wanted_put oi a ok.dst x h1)
theorem strikeG {base : Nat} {mk : Nat → (Nat → Value) × Obj} {i g : Nat} {oi : Oper} (hi : ops[i]? = some oi) (hsel : ∀ (j : Nat) (o : Oper) cs b, ops[j]? = some o → o.op ≠ .select cs b)
    (hQ : ∀ c a d v w, Q (.panic c) a w → Q (.panic c) (a.put d v) w) (hb : base ≤ g) :
    ∀ (l : List (Nat × Nat)) (S : Nat → Prop) (a : Act) (w w2 : World), aheadG ops oi i l = true → ¬ S g → wpG P ops Q base mk S true l a w → Makes P ops oi (mk i).1 (mk i).2 a → Later w w2 → w2.heap[g]? = some (mk i).2 →
      wpG P ops Q base mk (fun n => n = g ∨ S n) true (strikeL i l) (a.put oi.dst ((mk i).1 g)) w2
  | [], _, _, _, _, hB, _, _, _, _, _ => by simp [aheadG] at hB
  | (k, kd) :: r, S, a, w, w2, hB, hSg, h, hm, hl, hg => by
    unfold strikeL
    by_cases hk : k = i ∧ kd = 2
    · obtain ⟨rfl, rfl⟩ := hk
      rw [if_pos rfl]
      obtain ⟨o, ho, h⟩ := h
      obtain rfl : o = oi := Option.some.inj (ho.symm.trans hi)
      exact h w2 g hl hb hSg hg
    · obtain ⟨hki, hkd, hB2, ok, hok, hap', hcalm⟩ := aheadG_cons hB hk
      rw [if_neg hki]
      obtain ⟨h1, h2, h3⟩ := Oper.apart_spec hap'
      have hsi := fun cs b => hsel i oi cs b hi
      have hsk := fun cs b => hsel k ok cs b hok
      have keep : ∀ (a : Act), Makes P ops oi (mk i).1 (mk i).2 a → ∀ x, Makes P ops oi (mk i).1 (mk i).2 (a.put ok.dst x) := fun a hy x => hy.put_of hsi (.inl hap') x
      have ih := strikeG (mk := mk) hi hsel hQ hb r
      match kd, hkd with
      | 0, _ =>
        obtain ⟨o, ho, h⟩ := h
        obtain rfl : o = ok := Option.some.inj (ho.symm.trans hok)
        refine ⟨o, ho, ?_⟩
        rw [wanted_put o a oi.dst _ h1]
        split
        · rename_i hw
          rw [if_pos hw] at h
          obtain ⟨x, hx1, hx2⟩ := h
          refine ⟨x, fun w' hw' => ?_, ?_⟩
          · have := hx1 w' (hl.trans hw')
            unfold Oper.quietAt at *
            rw [execOp_put o hsk a oi.dst _ h1]
            cases hr : (execOp a.eval o).run P w' with
            | halt e w3 => rw [hr] at this; exact absurd this (by simp [Oper.quietUpon])
            | ok n w3 =>
              rw [hr] at this
              obtain ⟨y, rfl⟩ := calm_value (hcalm rfl) hr
              exact this
          · rw [Act.put_comm a _ x h2]
            exact ih _ _ w w2 hB2 hSg hx2 (keep a hm x) hl hg
        · rename_i hw
          rw [if_neg hw] at h
          rw [Act.put_comm a _ undef h2]
          exact ih _ _ w w2 hB2 hSg h (keep a hm undef) hl hg
      | 1, _ =>
        intro w1 hl1
        refine wpOp_mono (fun a' w' h' => ?_) (wpOp_past hok hap' hsi hsk (fun c a w => hQ c a _ _ w) hm (h w1 (hl.trans hl1)))
        obtain ⟨a0, rfl, hm0, hl', h'⟩ := h'
        exact ⟨hl', ih _ a0 w' w' hB2 hSg h' hm0 (Later.refl _) (((hl1.trans hl').below.block g (by
          rcases Nat.lt_or_ge g w2.heap.size with hlt | hge
          · exact hlt
          · rw [Array.getElem?_eq_none hge] at hg
            cases hg)).trans hg)⟩
      | 2, _ =>
        obtain ⟨o, ho, h⟩ := h
        obtain rfl : o = ok := Option.some.inj (ho.symm.trans hok)
        refine ⟨o, ho, fun w1 g' hl1 hb' hS' hg' => ?_⟩
        rw [Act.put_comm a _ _ h2, or_swap]
        exact ih _ _ w1 w1 hB2 (fun hx => hx.elim (fun e => hS' (.inl e.symm)) hSg) (h w1 g' (hl.trans hl1) hb' (fun hx => hS' (.inr hx)) hg') (keep a hm _) (Later.refl _) ((hl1.below.block g (by
          rcases Nat.lt_or_ge g w2.heap.size with hlt | hge
          · exact hlt
          · rw [Array.getElem?_eq_none hge] at hg
            cases hg)).trans hg)
      | 4, _ =>
        obtain ⟨hmk, h⟩ := h
        refine ⟨fun o ho => ?_, ih _ _ w w2 hB2 hSg h hm hl hg⟩
        obtain rfl : o = ok := Option.some.inj (ho.symm.trans hok)
        exact (hmk o ho).put_of hsk (.inr hap') _

def mkG (ops : Array Oper) (j : Nat) (l : List (Nat × Nat)) : Bool := ((ops[j]?).map fun oj => aheadG ops oj j l).getD false
theorem mkG_spec {j : Nat} {l : List (Nat × Nat)} (h : mkG ops j l = true) : ∃ oj, ops[j]? = some oj ∧ aheadG ops oj j l = true := by
  unfold mkG at h
  cases hq : ops[j]? with
  | none => simp [hq] at h
  | some o => exact ⟨o, rfl, by simpa [hq] using h⟩
theorem aheadG_mem {oi : Oper} {i : Nat} : ∀ {l : List (Nat × Nat)}, aheadG ops oi i l = true → (i, 2) ∈ l
  | [], h => by simp [aheadG] at h
  | (k, kd) :: r, h => by
    by_cases hk : k = i ∧ kd = 2
    · obtain ⟨rfl, rfl⟩ := hk
      simp
    · exact List.mem_cons_of_mem _ (aheadG_mem (aheadG_cons h hk).2.2.1)
/-- The operations of a list (without the markers). -/
def cntOps : List (Nat × Nat) → Nat
  | [] => 0
  | (_, kd) :: r => if kd = 4 then cntOps r else cntOps r + 1
theorem cntOps_strike {oi : Oper} {i : Nat} : ∀ {l : List (Nat × Nat)}, aheadG ops oi i l = true → cntOps (strikeL i l) + 1 = cntOps l ∧ (strikeL i l).length + 1 = l.length
  | [], h => by simp [aheadG] at h
  | (k, kd) :: r, h => by
    unfold strikeL
    by_cases hk : k = i ∧ kd = 2
    · obtain ⟨rfl, rfl⟩ := hk
      rw [if_pos rfl]
      simp [cntOps]
    · obtain ⟨hki, _, hB, _⟩ := aheadG_cons h hk
      rw [if_neg hki]
      have := cntOps_strike hB
      unfold cntOps
      split <;> simp <;> omega
theorem aheadG_apart {oi oj : Oper} {i j : Nat} (hi : ops[i]? = some oi) (hj : ops[j]? = some oj) (hne : j ≠ i) : ∀ {l : List (Nat × Nat)}, aheadG ops oi i l = true → aheadG ops oj j l = true → oi.apart ops oj = true ∨ oj.apart ops oi = true
  | [], h, _ => by simp [aheadG] at h
  | (k, kd) :: r, h, h' => by
    by_cases hk : k = i ∧ kd = 2
    · obtain ⟨rfl, rfl⟩ := hk
      obtain ⟨_, _, _, ok, hok, hap, _⟩ := aheadG_cons h' (fun h => hne h.1.symm)
      obtain rfl : ok = oi := Option.some.inj (hok.symm.trans hi)
      exact .inr hap
    · obtain ⟨_, _, hB, ok, hok, hap, _⟩ := aheadG_cons h hk
      by_cases hk' : k = j ∧ kd = 2
      · obtain ⟨rfl, rfl⟩ := hk'
        obtain rfl : ok = oj := Option.some.inj (hok.symm.trans hj)
        exact .inl hap
      · exact aheadG_apart hi hj hne hB (aheadG_cons h' hk').2.2.1
/-- Whoever is awake in r was awake in l (but the excused). -/
def wakeB (ops : Array Oper) (ex : List Nat) (l r : List (Nat × Nat)) : Bool :=
  r.all fun x => decide (x.2 ≠ 2) || ex.contains x.1 || ((ops[x.1]?).map fun o => !aheadG ops o x.1 r || aheadG ops o x.1 l).getD false
theorem wakeB_spec {ex : List Nat} {l r : List (Nat × Nat)} (h : wakeB ops ex l r = true) {i : Nat} {oi : Oper} (hi : ops[i]? = some oi) (hex : i ∉ ex) (ha : aheadG ops oi i r = true) : aheadG ops oi i l = true := by
  have h1 := List.all_eq_true.1 h _ (aheadG_mem ha)
  have h2 : ex.contains i = false := by simpa using hex
  simpa [hex, h2, hi, ha] using h1
def okG (ops : Array Oper) (tl : Nat → Bool) : Nat → Bool → List (Nat × Nat) → Array Bool → Bool
  | _, _, [], listed => (Region.ready .any ops listed).isEmpty
  | 0, _, _ :: _, _ => false
  | n + 1, fz, (i, kd) :: r, listed =>
    let rd := Region.ready .any ops listed
    let l := (i, kd) :: r
    let out := fun j => mkG ops j l && !tl j && wakeB ops [] l (strikeL j l) && ((strikeL j l).all fun x => decide (x.2 ≠ 2) || decide (x.1 ≠ j)) && okG ops tl n fz (strikeL j l) (listed.setIfInBounds j true)
    if kd = 4 then fz && wakeB ops [i] l r && okG ops tl n fz r listed
    else if kd = 0 then fz && rd.contains i && Region.free .any ops listed i && ((ops[i]?).map calm).getD false && !tl i && wakeB ops [] l r && okG ops tl n fz r (listed.setIfInBounds i true)
    else if kd = 1 then fz && !tl i && rd.contains i && wakeB ops [] l r && rd.all fun j => if j = i then okG ops tl n fz r (listed.setIfInBounds i true) else out j
    else if kd = 2 then fz && !rd.isEmpty && rd.all out
    else decide (kd = 3) && decide (rd = [i]) && tl i && okG ops tl n false r (listed.setIfInBounds i true)
/-- All makers that are awake. -/
def SpecsG (P : Program) (ops : Array Oper) (mk : Nat → (Nat → Value) × Obj) (l : List (Nat × Nat)) (a : Act) : Prop := ∀ i oi, ops[i]? = some oi → aheadG ops oi i l = true → Makes P ops oi (mk i).1 (mk i).2 a
theorem SpecsG.head {mk : Nat → (Nat → Value) × Obj} {k kd : Nat} {r : List (Nat × Nat)} {ok : Oper} (hsel : ∀ (j : Nat) (o : Oper) cs b, ops[j]? = some o → o.op ≠ .select cs b) (hw : wakeB ops [] ((k, kd) :: r) r = true) (hk2 : kd ≠ 2) (hok : ops[k]? = some ok) {a : Act}
    (h : SpecsG P ops mk r a) (x : Value) : SpecsG P ops mk r (a.put ok.dst x) := by
  intro i oi hi ha
  obtain ⟨_, _, _, o, ho, hap, _⟩ := aheadG_cons (wakeB_spec hw hi (by simp) ha) (fun h => hk2 h.2)
  obtain rfl : o = ok := Option.some.inj (ho.symm.trans hok)
  exact (h i oi hi ha).put_of (fun cs b => hsel i oi cs b hi) (.inl hap) x
theorem SpecsG.defers {mk : Nat → (Nat → Value) × Obj} {l : List (Nat × Nat)} {a : Act} (h : SpecsG P ops mk l a) (d : Deferred) : SpecsG P ops mk l { a with defers := d :: a.defers } :=
  fun i oi hi ho => (h i oi hi ho).of_same rfl rfl
theorem simG {base : Nat} {mk : Nat → (Nat → Value) × Obj} {ts : List Nat} (hT : tailB ops ts = true) (hsel : ∀ (j : Nat) (o : Oper) cs b, ops[j]? = some o → o.op ≠ .select cs b)
    (hQ1 : ∀ c a d v w, Q (.panic c) (a.put d v) w → Q (.panic c) a w) (hQ2 : ∀ c a d v w, Q (.panic c) a w → Q (.panic c) (a.put d v) w) :
    ∀ (n : Nat) (S : Nat → Prop) (fz : Bool) (l : List (Nat × Nat)) (listed : Array Bool) (a : Act) (w : World), l.length = n → okG ops ts.contains n fz l listed = true → Closed ops listed → (fz = true → SpecsG P ops mk l a ∧ base ≤ w.heap.size ∧ ∀ n, S n → n < w.heap.size) →
      wpG P ops Q base mk S fz l a w → wpAnyT P ops Q ts.contains (cntOps l) listed a w
  | 0, S, fz, l, listed, a, w, hn, hB, _, _, h => by
    obtain rfl : l = [] := List.eq_nil_of_length_eq_zero hn
    unfold okG at hB
    exact ⟨by simpa using hB, h⟩
  | n + 1, S, fz, [], _, _, _, hn, _, _, _, _ => by simp at hn
  | n + 1, S, fz, (i, kd) :: r, listed, a, w, hn, hB, hcl, hfzz, h => by
    have hr' : r.length = n := by simpa using hn
    have ih := fun S fz l listed a w => simG (base := base) (mk := mk) hT hsel hQ1 hQ2 n S fz l listed a w
    have made : ∀ j, fz = true → kd ≠ 4 → mkG ops j ((i, kd) :: r) = true → ts.contains j = false → wakeB ops [] ((i, kd) :: r) (strikeL j ((i, kd) :: r)) = true → ((strikeL j ((i, kd) :: r)).all fun x => decide (x.2 ≠ 2) || decide (x.1 ≠ j)) = true →
        okG ops ts.contains n fz (strikeL j ((i, kd) :: r)) (listed.setIfInBounds j true) = true → j ∈ Region.ready .any ops listed →
        wpOp P ops Q j (fun a' w' => (ts.contains j = false → Later w w') ∧ wpAnyT P ops Q ts.contains (cntOps r) (listed.setIfInBounds j true) a' w') a w := by
      intro j hfz hk4 hmk htj hwk hnj hok hj
      subst hfz
      obtain ⟨hsp, hb, hSb⟩ := hfzz rfl
      obtain ⟨oj, hoj, hah⟩ := mkG_spec hmk
      obtain ⟨hw, hrun⟩ := hsp j oj hoj hah
      obtain ⟨hcnt, hlen⟩ := cntOps_strike hah
      have hcr : cntOps (strikeL j ((i, kd) :: r)) = cntOps r := by
        have e1 : cntOps ((i, kd) :: r) = cntOps r + 1 := by
          show (if kd = 4 then cntOps r else cntOps r + 1) = _
          rw [if_neg hk4]
        omega
      unfold wpOp
      simp only [hoj, hw, if_true]
      refine .inl ?_
      unfold Oper.wp
      rw [hrun w]
      refine ⟨fun _ => later_made w _, ?_⟩
      rw [← hcr]
      refine ih (fun n => n = w.heap.size ∨ S n) true _ _ _ _ (by rw [List.length_cons] at hlen; omega) hok (hcl.set hj) (fun _ => ⟨?_, Nat.le_trans hb (later_made w _).below.size, fun n hn => by
        have hsz : (w.alloc (mk j).2).heap.size = w.heap.size + 1 := by simp
        rw [hsz]
        rcases hn with rfl | hn
        · omega
        · have := hSb n hn
          omega⟩) ?_
      · intro k ok hok' hak
        have hne : j ≠ k := by
          have h1 := List.all_eq_true.1 hnj _ (aheadG_mem hak)
          simp only [ne_eq, not_true_eq_false, decide_false, Bool.false_or, decide_eq_true_eq] at h1
          exact fun e => h1 e.symm
        have hal := wakeB_spec hwk hok' (by simp) hak
        exact (hsp k ok hok' hal).put_of (fun cs b => hsel k ok cs b hok') (aheadG_apart hok' hoj hne hal hah) _
      · exact strikeG hoj hsel hQ2 hb _ S a w _ hah (fun hx => Nat.lt_irrefl _ (hSb _ hx)) h ⟨hw, hrun⟩ (later_made w _) (heap_alloc_new w _)
    unfold okG at hB
    simp only at hB
    by_cases h4 : kd = 4
    · subst h4
      simp only [if_true, Bool.and_eq_true] at hB
      obtain ⟨⟨hfz, hwk⟩, hok⟩ := hB
      subst hfz
      obtain ⟨hmk, h⟩ := h
      refine ih S true r listed a w hr' hok hcl (fun _ => ⟨fun k ok hk ha => ?_, (hfzz rfl).2⟩) h
      by_cases hki : k = i
      · subst hki
        exact hmk ok hk
      · exact (hfzz rfl).1 k ok hk (wakeB_spec hwk hk (by simpa using hki) ha)
    rw [if_neg h4] at hB
    have hcnt : cntOps ((i, kd) :: r) = cntOps r + 1 := by
      show (if kd = 4 then cntOps r else cntOps r + 1) = _
      rw [if_neg h4]
    rw [hcnt]
    have hspr : kd ≠ 2 → wakeB ops [] ((i, kd) :: r) r = true → fz = true → SpecsG P ops mk r a := fun _ hwk hf k ok hk ha => (hfzz hf).1 k ok hk (wakeB_spec hwk hk (by simp) ha)
    by_cases h0 : kd = 0
    · subst h0
      simp only [if_true, Bool.and_eq_true] at hB
      obtain ⟨⟨⟨⟨⟨⟨hfz, hrd⟩, hf⟩, hcm⟩, htl⟩, hwk⟩, hok⟩ := hB
      subst hfz
      obtain ⟨o, ho, h⟩ := h
      have hri : i ∈ Region.ready .any ops listed := by simpa using hrd
      have hcm' : calm o = true := by simpa [ho] using hcm
      have htl' : ts.contains i = false := by simpa using htl
      have next : ∀ v, YieldsIf P ops (Later w) o v a → wpG P ops Q base mk S true r (a.put o.dst v) w → wpAnyT P ops Q ts.contains (cntOps r + 1) listed a w := fun v hy hnx =>
        wpAnyT_quiet hT ho htl' hsel (fun c a w => hQ1 c a _ _ w) hcl (Region.free_spec ho hf) hri hy
          (ih S true r _ _ w hr' hok (hcl.set hri) (fun _ => ⟨SpecsG.head hsel hwk (by decide) ho (hspr (by decide) hwk rfl) v, (hfzz rfl).2⟩) hnx)
      by_cases hw : Region.wanted o (yielded ops a.tmps) = true
      · rw [if_pos hw] at h
        obtain ⟨v, hy, hnx⟩ := yieldsIf_of_quiet hcm' hw h
        exact next v hy hnx
      · rw [if_neg hw] at h
        exact next undef (.inr ⟨by simpa using hw, rfl⟩) h
    · rw [if_neg h0] at hB
      by_cases h1 : kd = 1
      · subst h1
        simp only [if_true, Bool.and_eq_true, Bool.not_eq_true'] at hB
        obtain ⟨⟨⟨⟨hfz, htl⟩, hrd⟩, hwk⟩, hall⟩ := hB
        subst hfz
        have hri : i ∈ Region.ready .any ops listed := by simpa using hrd
        refine ⟨fun he => (by rw [he] at hri; cases hri), fun j hj => ?_⟩
        have hj2 := List.all_eq_true.1 hall j hj
        by_cases hji : j = i
        · subst hji
          rw [if_pos rfl] at hj2
          obtain ⟨_, oi, hoi, _⟩ := mem_ready.1 hri
          refine wpOp_mono (fun a' w' h' => ?_) (wpOp_keeps hoi (I := SpecsG P ops mk r) (hspr (by decide) hwk rfl) (fun a hI x => SpecsG.head hsel hwk (by decide) hoi hI x) (fun a hI d => hI.defers d) (h w (Later.refl w)))
          obtain ⟨hI, hl', h'⟩ := h'
          exact ⟨fun _ => hl', ih S true r _ a' w' hr' hj2 (hcl.set hj) (fun _ => ⟨hI, Nat.le_trans (hfzz rfl).2.1 hl'.below.size, fun n hn => Nat.lt_of_lt_of_le ((hfzz rfl).2.2 n hn) hl'.below.size⟩) h'⟩
        · rw [if_neg hji] at hj2
          simp only [Bool.and_eq_true, Bool.not_eq_true'] at hj2
          exact made j rfl (by decide) hj2.1.1.1.1 hj2.1.1.1.2 hj2.1.1.2 hj2.1.2 hj2.2 hj
      · rw [if_neg h1] at hB
        by_cases h2 : kd = 2
        · subst h2
          simp only [if_true, Bool.and_eq_true, Bool.not_eq_true'] at hB
          obtain ⟨⟨hfz, hne⟩, hall⟩ := hB
          refine ⟨fun he => (by rw [he] at hne; simp at hne), fun j hj => ?_⟩
          have hj2 := List.all_eq_true.1 hall j hj
          simp only [Bool.and_eq_true, Bool.not_eq_true'] at hj2
          exact made j hfz (by decide) hj2.1.1.1.1 hj2.1.1.1.2 hj2.1.1.2 hj2.1.2 hj2.2 hj
        · rw [if_neg h2] at hB
          simp only [Bool.and_eq_true, decide_eq_true_eq] at hB
          obtain ⟨⟨⟨hk3, hrd⟩, htl⟩, hok⟩ := hB
          subst hk3
          refine ⟨fun he => (by rw [hrd] at he; cases he), fun j hj => ?_⟩
          rw [hrd] at hj
          obtain rfl : j = i := by simpa using hj
          have hri : j ∈ Region.ready .any ops listed := by rw [hrd]; simp
          have h' : wpOp P ops Q j (fun a' w' => wpG P ops Q base mk S false r a' w') a w := by
            cases fz with
            | true => exact h w (Later.refl w)
            | false => exact h
          exact wpOp_mono (fun a' w' h' => ⟨fun hc => (by rw [htl] at hc; cases hc), ih S false r _ a' w' hr' hok (hcl.set hri) (fun hf => by cases hf) h'⟩) h'
end

section
variable {P : Program} {Q : Exit → Act → World → Prop}
/-- Parts: quiet ones, then a loud one (kind 1), a maker (kind 2) or a marker (kind 4); at the end quiet ones, then the tail. -/
def wpPartsG (P : Program) (l : List Oper) (Q : Exit → Act → World → Prop) (base : Nat) (mk : Nat → (Nat → Value) × Obj) (qs ts : List Nat) : (Nat → Prop) → List (List Nat × Nat × Nat) → Act → World → Prop
  | _, [], a, w => wpQuiet P l.toArray (fun w' => ∃ x, w' = grow w x) (fun a' => ∀ w1, Later w w1 → wpList P l.toArray Q (pick l ts) a' w1) (pick l qs) a
  | S, (q, 1, i) :: r, a, w => wpQuiet P l.toArray (fun w' => ∃ x, w' = grow w x) (fun a' => ∀ w1, Later w w1 → wpList P l.toArray (Exit.then (fun a'' w'' => Later w1 w'' ∧ wpPartsG P l Q base mk qs ts S r a'' w'') Q) (pick l [i]) a' w1) (pick l q) a
  | S, (q, 4, i) :: r, a, w => wpQuiet P l.toArray (fun w' => ∃ x, w' = grow w x) (fun a' => (∀ o, l[i]? = some o → Makes P l.toArray o (mk i).1 (mk i).2 a') ∧ wpPartsG P l Q base mk qs ts S r a' w) (pick l q) a
  | S, (q, _, i) :: r, a, w => wpQuiet P l.toArray (fun w' => ∃ x, w' = grow w x) (fun a' => ∀ w1 g, Later w w1 → base ≤ g → ¬ S g → w1.heap[g]? = some (mk i).2 → wpPartsG P l Q base mk qs ts (fun n => n = g ∨ S n) r (a'.put ((l[i]?).bind (·.dst)) ((mk i).1 g)) w1) (pick l q) a
def flatG (qs ts : List Nat) : List (List Nat × Nat × Nat) → List (Nat × Nat)
  | [] => qs.map (·, 0) ++ ts.map (·, 3)
  | (q, 1, i) :: r => q.map (·, 0) ++ (i, 1) :: flatG qs ts r
  | (q, 4, i) :: r => q.map (·, 0) ++ (i, 4) :: flatG qs ts r
  | (q, _, i) :: r => q.map (·, 0) ++ (i, 2) :: flatG qs ts r
theorem gQuiet {l : List Oper} {base : Nat} {mk : Nat → (Nat → Value) × Obj} {S : Nat → Prop} {Qa : Act → Prop} {r : List (Nat × Nat)} {w : World} (hQa : ∀ a, Qa a → wpG P l.toArray Q base mk S true r a w) : ∀ (qs : List Nat), (qs.all fun i => decide (i < l.length)) = true →
    ∀ a, wpQuiet P l.toArray (Later w) Qa (pick l qs) a → wpG P l.toArray Q base mk S true (qs.map (·, 0) ++ r) a w
  | [], _, a, h => hQa a h
  | i :: qs, hb, a, h => by
    simp only [List.all_cons, Bool.and_eq_true, decide_eq_true_eq] at hb
    have hi : l[i]? = some (l[i]'hb.1) := List.getElem?_eq_getElem hb.1
    refine ⟨l[i]'hb.1, by simp [hb.1], ?_⟩
    simp only [pick, hi, Option.toList_some, List.singleton_append, wpQuiet] at h
    by_cases hw : Region.wanted (l[i]'hb.1) (yielded l.toArray a.tmps) = true
    · rw [if_pos hw] at h ⊢
      exact Oper.quiet_mono (fun a' h' => gQuiet hQa qs hb.2 a' h') h
    · rw [if_neg hw] at h ⊢
      exact gQuiet hQa qs hb.2 _ h
theorem gTail {l : List Oper} {base : Nat} {mk : Nat → (Nat → Value) × Obj} {S : Nat → Prop} : ∀ (ts : List Nat), (ts.all fun i => decide (i < l.length)) = true →
    ∀ a w, wpList P l.toArray Q (pick l ts) a w → wpG P l.toArray Q base mk S false (ts.map (·, 3)) a w
  | [], _, a, w, h => h
  | i :: ts, hb, a, w, h => by
    simp only [List.all_cons, Bool.and_eq_true, decide_eq_true_eq] at hb
    have hi : l[i]? = some (l[i]'hb.1) := List.getElem?_eq_getElem hb.1
    simp only [pick, hi, Option.toList_some, List.singleton_append, wpList] at h
    show wpOp P l.toArray Q i _ a w
    unfold wpOp
    simp only [List.getElem?_toArray, hi]
    by_cases hw : Region.wanted (l[i]'hb.1) (yielded l.toArray a.tmps) = true
    · rw [if_pos hw] at h ⊢
      exact h.imp (Oper.wp_mono fun a w1 h => gTail ts hb.2 a w1 h) id
    · rw [if_neg hw] at h ⊢
      exact gTail ts hb.2 _ _ h
theorem gTail1 {l : List Oper} {base : Nat} {mk : Nat → (Nat → Value) × Obj} {S : Nat → Prop} (ts : List Nat) (hb : (ts.all fun i => decide (i < l.length)) = true) (a : Act) (w : World) (h : ∀ w1, Later w w1 → wpList P l.toArray Q (pick l ts) a w1) :
    wpG P l.toArray Q base mk S true (ts.map (·, 3)) a w := by
  cases ts with
  | nil => exact h w (Later.refl w)
  | cons i ts =>
    intro w1 hl
    exact gTail (i :: ts) hb a w1 (h w1 hl)
theorem gParts {l : List Oper} {base : Nat} {mk : Nat → (Nat → Value) × Obj} {qs ts : List Nat} (hq : (qs.all fun i => decide (i < l.length)) = true) (ht : (ts.all fun i => decide (i < l.length)) = true) :
    ∀ (segs : List (List Nat × Nat × Nat)), (segs.all fun s => decide (s.2.2 < l.length) && s.1.all fun i => decide (i < l.length)) = true → ∀ S a w, wpPartsG P l Q base mk qs ts S segs a w → wpG P l.toArray Q base mk S true (flatG qs ts segs) a w
  | [], _, S, a, w, h => gQuiet (fun a h => gTail1 ts ht a w h) qs hq a h
  | (q, kd, i) :: r, hb, S, a, w, h => by
    simp only [List.all_cons, Bool.and_eq_true, decide_eq_true_eq] at hb
    have ih := gParts (base := base) (mk := mk) hq ht r hb.2
    by_cases h1 : kd = 1
    · subst h1
      refine gQuiet (fun a h => ?_) q hb.1.2 a h
      intro w1 hl
      exact wpOp_mono (fun a' w' h' => ⟨h'.1, ih S a' w' h'.2⟩) (wpOp_of_wpList hb.1.1 (h w1 hl))
    by_cases h4 : kd = 4
    · subst h4
      refine gQuiet (fun a h => ?_) q hb.1.2 a h
      exact ⟨fun o ho => h.1 o (by simpa using ho), ih S a w h.2⟩
    · have e1 : flatG qs ts ((q, kd, i) :: r) = q.map (·, 0) ++ (i, 2) :: flatG qs ts r := by
        match kd, h1, h4 with
        | 0, _, _ => rfl
        | 2, _, _ => rfl
        | 3, _, _ => rfl
        | k + 5, _, _ => rfl
      rw [e1]
      have h' : wpQuiet P l.toArray (fun w' => ∃ x, w' = grow w x) (fun a' => ∀ w1 g, Later w w1 → base ≤ g → ¬ S g → w1.heap[g]? = some (mk i).2 → wpPartsG P l Q base mk qs ts (fun n => n = g ∨ S n) r (a'.put ((l[i]?).bind (·.dst)) ((mk i).1 g)) w1) (pick l q) a := by
        match kd, h1, h4, h with
        | 0, _, _, h => exact h
        | 2, _, _, h => exact h
        | 3, _, _, h => exact h
        | k + 5, _, _, h => exact h
      refine gQuiet (fun a h => ?_) q hb.1.2 a h'
      have hi : l[i]? = some (l[i]'hb.1.1) := List.getElem?_eq_getElem hb.1.1
      refine ⟨l[i]'hb.1.1, by simp [hb.1.1], fun w1 g hl hg hS hh => ?_⟩
      have := h w1 g hl hg hS hh
      rw [hi] at this
      exact ih _ _ w1 this
def makersGB (l : List Oper) (pre qs ts ms : List Nat) (segs : List (List Nat × Nat × Nat)) : Bool :=
  Region.noSelect l.toArray && tailB l.toArray ts && (pre.all fun i => decide (i < l.length)) && (qs.all fun i => decide (i < l.length)) && (ts.all fun i => decide (i < l.length)) && (segs.all fun s => decide (s.2.2 < l.length) && s.1.all fun i => decide (i < l.length)) &&
  phase l pre ts.contains pre (Array.replicate l.length false) && okG l.toArray ts.contains (flatG qs ts segs).length true (flatG qs ts segs) (listedBy pre (Array.replicate l.length false)) &&
  decide (pre.length + cntOps (flatG qs ts segs) = l.length) && (flatG qs ts segs).all fun x => decide (x.2 ≠ 2) || ms.contains x.1 || !((l[x.1]?).map fun o => aheadG l.toArray o x.1 (flatG qs ts segs)).getD false
/-- **A region that draws its order and makes memory beside calls, some of it only where a guard lets it.** -/
theorem wp_region_guarded {id : Nat} {a : Act} {w : World} {l : List Oper} (pre : List Nat) (segs : List (List Nat × Nat × Nat)) (qs ts ms : List Nat) (mk : Nat → (Nat → Value) × Obj) (hm : P.follows .mixedOrders = true) (hB : makersGB l pre qs ts ms segs = true)
    (hQ1 : ∀ c a d v w, Q (.panic c) (a.put d v) w → Q (.panic c) a w) (hQ2 : ∀ c a d v w, Q (.panic c) a w → Q (.panic c) (a.put d v) w)
    (h : wpQuiet P l.toArray (fun w' => ∃ x, w' = grow w.drew x) (fun a' => MakesAll P l mk a' ms ∧ wpPartsG P l Q w.heap.size mk qs ts (fun _ => False) segs a' w.drew) (pick l pre) a) : (Code.region id l.toArray true).wp P Q a w := by
  simp only [makersGB, Bool.and_eq_true, decide_eq_true_eq] at hB
  obtain ⟨⟨⟨⟨⟨⟨⟨⟨⟨hs, hT⟩, hp⟩, hq⟩, ht⟩, hsg⟩, hph⟩, hok⟩, hlen⟩, hms⟩ := hB
  refine wp_region_any hm (wpAny_of_T (tl := ts.contains) _ _ _ _ ?_)
  have hsel := Region.noSelect_spec hs
  have := phase_run (P := P) (Q := Q) (pre := pre) (n := cntOps (flatG qs ts segs)) (w := w.drew) hT hsel hQ1 pre (Array.replicate l.length false) a (closed_start l) hph hp h (fun a' ⟨h1, h2⟩ hcl =>
    simG (base := w.heap.size) (mk := mk) hT hsel hQ1 hQ2 _ (fun _ => False) true _ _ a' w.drew rfl hok hcl
      (fun _ => ⟨fun i oi hi ha => h1.at_ i (by
        have h3 := List.all_eq_true.1 hms _ (aheadG_mem ha)
        have hi' : l[i]? = some oi := by simpa using hi
        simpa [hi', ha] using h3) oi (by simpa using hi), Nat.le_refl _, fun _ h => h.elim⟩) (gParts hq ht segs hsg _ a' w.drew h2))
  rw [hlen] at this
  simpa using this
end
end Go.Proofs.Ytkibgdigcgakfaa
