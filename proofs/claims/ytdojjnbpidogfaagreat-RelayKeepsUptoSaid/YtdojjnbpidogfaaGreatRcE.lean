/-
  append(s, make([]byte, k)...): noughts behind a row of the call's own.
  Regions that draw their order, with a predicate on worlds that every operation keeps: quiet operations have their values wherever it holds.
  shallotref13: turned, Tag, Fits.
  Commands, as the document has them: shallotref10.marked, Check, Decode.
  shallotref13: Fits, Open.
  shallotref15.Unwrap.
-/
import Derived.Test.YtdojjnbpidogfaaGreatMemP
import Derived.Lib.AppendZerosOnto
import Derived.Test.YtdojjnbpidogfaaGreatCanP
import Derived.Test.YtdojjnbpidogfaaGreatRcD
import Derived.Test.YtdojjnbpidogfaaGreatRcC
namespace Go.Proofs.YtdojjnbpidogfaaGreat
open Go.RowKit
open Go.BigFrame

section
variable {P : Program} {ops : Array Oper} {rest : List Oper} {o : Oper} {a : Act} {w : World} {Q : Exit → Act → World → Prop}
end
end Go.Proofs.YtdojjnbpidogfaaGreat
namespace Go.Proofs.YtdojjnbpidogfaaGreat
open Go.BigFrame
open Go.RowKit

section
variable {P : Program} {ops : Array Oper} {Q : Exit → Act → World → Prop} {T : World → Prop}
/-- One canonical order; true: quiet. -/
def wpS (P : Program) (ops : Array Oper) (Q : Exit → Act → World → Prop) (T : World → Prop) : List (Nat × Bool) → Act → World → Prop
  | [], a, w => Q .normal a w
  | (i, true) :: r, a, w => ∃ o, ops[i]? = some o ∧ if Region.wanted o (yielded ops a.tmps) then o.quiet P a T (fun a' => wpS P ops Q T r a' w) else wpS P ops Q T r (a.put o.dst undef) w
  | (i, false) :: r, a, w => wpOp P ops Q i (fun a' w' => T w' ∧ wpS P ops Q T r a' w') a w
def okSeq (ops : Array Oper) : List (Nat × Bool) → Array Bool → Bool
  | [], listed => (Region.ready .any ops listed).isEmpty
  | (i, true) :: r, listed => (Region.ready .any ops listed).contains i && Region.free .any ops listed i && ((ops[i]?).map calm).getD false && okSeq ops r (listed.setIfInBounds i true)
  | (i, false) :: r, listed => decide (Region.ready .any ops listed = [i]) && okSeq ops r (listed.setIfInBounds i true)
theorem simS (hsel : ∀ (j : Nat) (o : Oper) cs b, ops[j]? = some o → o.op ≠ .select cs b) (hQ1 : ∀ c a d v w, Q (.panic c) (a.put d v) w → Q (.panic c) a w) :
    ∀ (l : List (Nat × Bool)) (listed : Array Bool) (a : Act) (w : World), okSeq ops l listed = true → T w → wpS P ops Q T l a w → wpAnyU P ops Q T l.length listed a w
  | [], listed, a, w, hB, _, h => ⟨by simpa [okSeq] using hB, h⟩
  | (i, true) :: r, listed, a, w, hB, hT, h => by
    simp only [okSeq, Bool.and_eq_true] at hB
    obtain ⟨⟨⟨hrd, hf⟩, hcm⟩, hok⟩ := hB
    obtain ⟨o, ho, h⟩ := h
    have hri : i ∈ Region.ready .any ops listed := by simpa using hrd
    have hcm' : calm o = true := by simpa [ho] using hcm
    have next : ∀ v, YieldsIf P ops T o v a → wpS P ops Q T r (a.put o.dst v) w → wpAnyU P ops Q T (r.length + 1) listed a w := fun v hy hnx =>
      wpAnyU_first ho hsel (fun c a w => hQ1 c a _ _ w) r.length listed a w (Region.free_spec ho hf) hri hy hT (simS hsel hQ1 r _ _ w hok hT hnx)
    by_cases hw : Region.wanted o (yielded ops a.tmps) = true
    · rw [if_pos hw] at h
      obtain ⟨v, hy, hnx⟩ := yieldsIf_of_quietT hcm' hw h
      exact next v hy hnx
    · rw [if_neg hw] at h
      exact next undef (.inr ⟨by simpa using hw, rfl⟩) h
  | (i, false) :: r, listed, a, w, hB, hT, h => by
    simp only [okSeq, Bool.and_eq_true, decide_eq_true_eq] at hB
    obtain ⟨hrd, hok⟩ := hB
    refine ⟨fun he => (by rw [hrd] at he; cases he), fun j hj => ?_⟩
    rw [hrd] at hj
    obtain rfl : j = i := by simpa using hj
    exact wpOp_mono (fun a' w' h' => ⟨h'.1, simS hsel hQ1 r _ a' w' hok h'.1 h'.2⟩) h
def wpPartsS (P : Program) (l : List Oper) (Q : Exit → Act → World → Prop) (T : World → Prop) (qs : List Nat) : List (List Nat × Nat) → Act → World → Prop
  | [], a, w => wpQuiet P l.toArray T (fun a' => wpList P l.toArray Q [] a' w) (pick l qs) a
  | (q, i) :: r, a, w => wpQuiet P l.toArray T (fun a' => wpList P l.toArray (Exit.then (fun a'' w'' => T w'' ∧ wpPartsS P l Q T qs r a'' w'') Q) (pick l [i]) a' w) (pick l q) a
theorem s_of_quiet {l : List Oper} {Qa : Act → Prop} {r : List (Nat × Bool)} {w : World} (hQa : ∀ a, Qa a → wpS P l.toArray Q T r a w) : ∀ (qs : List Nat), (qs.all fun i => decide (i < l.length)) = true →
    ∀ a, wpQuiet P l.toArray T Qa (pick l qs) a → wpS P l.toArray Q T (qs.map (·, true) ++ r) a w
  | [], _, a, h => hQa a h
  | i :: qs, hb, a, h => by
    simp only [List.all_cons, Bool.and_eq_true, decide_eq_true_eq] at hb
    have hi : l[i]? = some (l[i]'hb.1) := List.getElem?_eq_getElem hb.1
    refine ⟨l[i]'hb.1, by simp [hb.1], ?_⟩
    simp only [pick, hi, Option.toList_some, List.singleton_append, wpQuiet] at h
    by_cases hw : Region.wanted (l[i]'hb.1) (yielded l.toArray a.tmps) = true
    · rw [if_pos hw] at h ⊢
      exact Oper.quiet_mono (fun a' h' => s_of_quiet hQa qs hb.2 a' h') h
    · rw [if_neg hw] at h ⊢
      exact s_of_quiet hQa qs hb.2 _ h
/-- The whole order. -/
def flatS (qs : List Nat) : List (List Nat × Nat) → List (Nat × Bool)
  | [] => qs.map (·, true) ++ []
  | (q, i) :: r => q.map (·, true) ++ ((i, false) :: flatS qs r)
def partsSB (l : List Oper) (qs : List Nat) (segs : List (List Nat × Nat)) : Bool :=
  Region.noSelect l.toArray && (qs.all fun i => decide (i < l.length)) && (segs.all fun s => decide (s.2 < l.length) && s.1.all fun i => decide (i < l.length)) &&
  okSeq l.toArray (flatS qs segs) (Array.replicate l.length false) && decide ((flatS qs segs).length = l.length)
theorem s_of_parts {l : List Oper} {qs : List Nat} (hq : (qs.all fun i => decide (i < l.length)) = true) :
    ∀ (segs : List (List Nat × Nat)), (segs.all fun s => decide (s.2 < l.length) && s.1.all fun i => decide (i < l.length)) = true → ∀ a w, wpPartsS P l Q T qs segs a w → wpS P l.toArray Q T (flatS qs segs) a w
  | [], _, a, w, h => s_of_quiet (fun a h => h) qs hq a h
  | (q, i) :: r, hb, a, w, h => by
    simp only [List.all_cons, Bool.and_eq_true, decide_eq_true_eq] at hb
    refine s_of_quiet (fun a h => ?_) q hb.1.2 a h
    exact wpOp_mono (fun a' w' h' => ⟨h'.1, s_of_parts hq r hb.2 a' w' h'.2⟩) (wpOp_of_wpList hb.1.1 h)
/-- **A region that draws its order; T holds behind each operation.** -/
theorem wp_region_partsS {id : Nat} {a : Act} {w : World} {l : List Oper} (T : World → Prop) (segs : List (List Nat × Nat)) (qs : List Nat) (hm : P.follows .mixedOrders = true) (hB : partsSB l qs segs = true)
    (hQ : ∀ c a d v w, Q (.panic c) (a.put d v) w → Q (.panic c) a w) (h : T w.drew ∧ wpPartsS P l Q T qs segs a w.drew) : (Code.region id l.toArray true).wp P Q a w := by
  simp only [partsSB, Bool.and_eq_true, decide_eq_true_eq] at hB
  obtain ⟨⟨⟨⟨hs, hq⟩, hsg⟩, hsq⟩, hlen⟩ := hB
  refine wp_region_any hm (wpAny_of_U (T := T) _ _ _ _ ?_)
  have := simS (P := P) (Q := Q) (T := T) (Region.noSelect_spec hs) hQ (flatS qs segs) (Array.replicate l.length false) a w.drew hsq h.1 (s_of_parts hq segs hsg a _ h.2)
  rw [hlen] at this
  simpa using this
end
theorem Spared.later {w w1 w2 : World} {bad : List Nat} (h : Spared w bad w1) (hl : Later w1 w2) : Spared w bad w2 :=
  ⟨Nat.le_trans h.1 hl.size, fun b hb hn => (hl.below.block b (Nat.lt_of_lt_of_le hb h.1)).trans (h.2 b hb hn)⟩
theorem Spared.grown {w w1 w2 : World} {bad : List Nat} {row : Option Nat} (h : Spared w bad w1) (hg : w1.grownBy w2 row) (hr : ∀ k, row = some k → w.heap.size ≤ k) : Spared w bad w2 :=
  ⟨Nat.le_trans h.1 hg.size, fun b hb hn => (hg.block b (Nat.lt_of_lt_of_le hb h.1) (fun e => by have := hr b e.symm; omega)).trans (h.2 b hb hn)⟩
theorem Spared.fresh {w w1 w2 : World} {bad : List Nat} {g : Nat} (h : Spared w bad w1) (ho : Only g w1 w2) (hg : w.heap.size ≤ g) : Spared w bad w2 :=
  h.grown ho (fun k e => by cases e; exact hg)
end Go.Proofs.YtdojjnbpidogfaaGreat
namespace Go.Proofs.YtdojjnbpidogfaaGreat
open Go.RowKit
open Go.BigFrame

end Go.Proofs.YtdojjnbpidogfaaGreat
namespace Go.Proofs.YtdojjnbpidogfaaGreat
open Go.RowKit
open Go.BigFrame

end Go.Proofs.YtdojjnbpidogfaaGreat
namespace Go.Proofs.YtdojjnbpidogfaaGreat
open Go.RowKit
open Go.BigFrame

theorem rdB_cut {w : World} {b p n : Nat} {bs : List UInt8} (h : RdB w (some ⟨b, p, none⟩) n bs) (k m : Nat) (hk : k + m ≤ n) (hk0 : 0 < m) : RdB w (some ⟨b, p + k, none⟩) m (subB bs k m) := by
  have h1 := (RdB.cut h (k := k) (c := n + 1) (by omega) (by omega)).take (m := m) (by omega)
  rw [show cutA (some ⟨b, p, none⟩) k (n + 1) = some ⟨b, p + k, none⟩ by
    rw [cutA, if_neg (by omega)]
    show some ((⟨b, p, none⟩ : Addr).add k) = _
    rw [add_at]] at h1
  exact h1
end Go.Proofs.YtdojjnbpidogfaaGreat
namespace Go.Proofs.YtdojjnbpidogfaaGreat
open Go.RowKit
open Go.BigFrame

section
variable {ops : Array Oper} {rest : List Oper} {o : Oper} {a : Act} {w : World} {Q : Exit → Act → World → Prop}
end
end Go.Proofs.YtdojjnbpidogfaaGreat

