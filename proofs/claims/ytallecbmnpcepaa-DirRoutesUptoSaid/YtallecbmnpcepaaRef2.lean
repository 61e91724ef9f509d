/-
  shallotref01: Copies, Join.
-/
import Derived.Test.YtallecbmnpcepaaParts
namespace Go.Proofs.Ytallecbmnpcepaa
open Go.RowKit

theorem ne_types : (5 : TypeId) ≠ 33 := by decide
theorem OwnParts.snoc {w w' : World} {base : Nat} {A A' A1 : Option Addr} {n c c' n1 c1 : Nat} {ps : List (List UInt8)} {p : List UInt8} {us : List Value}
    (h1 : w.ownsRow base 33 1 (.slice A n c) n us) (h2 : us.length = ps.length)
    (h3 : ∀ (j : Nat) v p, us[j]? = some v → ps[j]? = some p → ∃ A' n' c', v = .slice A' n' c' ∧ OwnB w base A' n' c' p) (hp : OwnB w base A1 n1 c1 p) (hg : w.grownBy w' (Value.slice A n c).ownBlock)
    (hown : w'.ownsRow base 33 1 (.slice A' (n + 1) c') (n + 1) (us ++ [.slice A1 n1 c1])) : OwnParts w' base A' (n + 1) c' (ps ++ [p]) := by
  refine ⟨_, hown, by simp [h2], fun j v q hv hq => ?_⟩
  rcases Nat.lt_or_ge j us.length with hj | hj
  · rw [List.getElem?_append_left hj] at hv
    rw [List.getElem?_append_left (by omega)] at hq
    obtain ⟨B, m, d, e1, e2⟩ := h3 j v q hv hq
    exact ⟨B, m, d, e1, own_other e2 h1 ne_types hg⟩
  · rw [List.getElem?_append_right hj] at hv
    rw [List.getElem?_append_right (by omega)] at hq
    have hj0 : j - us.length = 0 := by
      have := (List.getElem?_eq_some_iff.1 hv).1
      simp at this
      omega
    rw [hj0] at hv
    rw [← h2, hj0] at hq
    simp only [List.getElem?_cons_zero, Option.some.injEq] at hv hq
    subst hv
    subst hq
    exact ⟨_, _, _, rfl, own_other hp h1 ne_types hg⟩
theorem Parts.at_ {w : World} {bad : Nat → Prop} {A : Option Addr} {n : Nat} {ps : List (List UInt8)} (h : Parts w bad A n ps) {k : Nat} (hk : k < n) :
    ∃ b o A' n' c', A = some ⟨b, o, none⟩ ∧ b < w.heap.size ∧ w.cell? ⟨b, o + k, none⟩ = some (.slice A' n' c') ∧ n' ≤ c' ∧ RdB w A' n' (ps.getD k []) ∧ Avoid bad A' n' := by
  have hl := h.len
  obtain ⟨vs, hr, _, hvl, hparts⟩ := h
  obtain ⟨b, o, rfl, hb, hc⟩ := hr.at_ (by omega)
  have hck := hc k hk
  obtain ⟨A', n', c', hv, h2, h3, h4⟩ := hparts k _ _ (List.getElem?_eq_getElem (by omega)) (List.getElem?_eq_getElem (by omega))
  rw [hv] at hck
  refine ⟨b, o, A', n', c', rfl, hb, hck, h2, ?_, h4⟩
  rw [List.getD_eq_getElem?_getD, List.getElem?_eq_getElem (by omega)]
  exact h3
theorem take_succ_getD (ps : List (List UInt8)) (k : Nat) (h : k < ps.length) : ps.take (k + 1) = ps.take k ++ [ps.getD k []] := by
  rw [List.take_succ_eq_append_getElem h, List.getD_eq_getElem?_getD, List.getElem?_eq_getElem h]
  rfl
theorem getD_mem' (ps : List (List UInt8)) (k : Nat) (h : k < ps.length) : ps.getD k [] ∈ ps := by
  rw [List.getD_eq_getElem?_getD, List.getElem?_eq_getElem h]
  exact List.getElem_mem h
/-- Slices that read as these lists, one by one. -/
def PartAll (w : World) (bad : Nat → Prop) : List Value → List (List UInt8) → Prop
  | [], [] => True
  | v :: vs, p :: ps => Part w bad v p ∧ PartAll w bad vs ps
  | _, _ => False
theorem PartAll.at_ {w : World} {bad : Nat → Prop} : ∀ {vs : List Value} {ps : List (List UInt8)}, PartAll w bad vs ps → vs.length = ps.length ∧ ∀ (j : Nat) v p, vs[j]? = some v → ps[j]? = some p → Part w bad v p
  | [], [], _ => ⟨rfl, fun j v p hv => by simp at hv⟩
  | v :: vs, p :: ps, h => by
    obtain ⟨h1, h2⟩ := h
    obtain ⟨h3, h4⟩ := PartAll.at_ h2
    refine ⟨by simp [h3], fun j u q hu hq => ?_⟩
    cases j with
    | zero =>
      simp only [List.getElem?_cons_zero, Option.some.injEq] at hu hq
      subst hu
      subst hq
      exact h1
    | succ j => exact h4 j u q (by simpa using hu) (by simpa using hq)
  | [], _ :: _, h => h.elim
  | _ :: _, [], h => h.elim
theorem avoid_false (A : Option Addr) (n : Nat) : Avoid (fun _ => False) A n := fun _ _ _ h => h
theorem parts_of {w : World} {A : Option Addr} {n : Nat} {vs : List Value} {ps : List (List UInt8)} (h : Rd w A n vs) (hp : PartAll w (fun _ => False) vs ps) : Parts w (fun _ => False) A n ps :=
  ⟨vs, h, avoid_false A n, hp.at_.1, hp.at_.2⟩
theorem part_of {w : World} {A : Option Addr} {n c : Nat} {p : List UInt8} (h : RdB w A n p) (hc : n ≤ c) : Part w (fun _ => False) (.slice A n c) p := ⟨A, n, c, rfl, hc, h, avoid_false A n⟩
theorem Blk.rd {w : World} {g : Nat} {t : TypeId} {l : List Value} {n : Nat} (h : Blk w g t l) (hn : l.length = n) : Rd w (some ⟨g, 0, none⟩) n l :=
  ⟨hn, fun _ => ⟨g, 0, rfl, h.lt, fun j u hu => by rw [Nat.zero_add]; exact h.cellD j hu⟩⟩
theorem OwnParts.parts {w : World} {base : Nat} {A : Option Addr} {n c : Nat} {ps : List (List UInt8)} (h : OwnParts w base A n c ps) : Parts w (fun _ => False) A n ps := by
  obtain ⟨vs, h1, h2, h3⟩ := h
  exact ⟨vs, own_rd h1, avoid_false A n, h2, fun j v p hv hp => by obtain ⟨A', n', c', e1, e2⟩ := h3 j v p hv hp; exact ⟨A', n', c', e1, e2.cap, e2.rd, avoid_false _ _⟩⟩
end Go.Proofs.Ytallecbmnpcepaa
