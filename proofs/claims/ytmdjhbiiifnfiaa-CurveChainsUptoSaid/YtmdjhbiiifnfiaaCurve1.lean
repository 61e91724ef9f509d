/-
  curve's ladder: its block, exchange.
-/
import Derived.Test.YtmdjhbiiifnfiaaFLaw5
namespace Go.Proofs.Ytmdjhbiiifnfiaa
open Go.RowKit
open Go.BigFrame

def fadd (a b : Nat) : Nat := (a + b) % P25
def fsub (a b : Nat) : Nat := (a + (P25 - b % P25)) % P25
def fmul (a b : Nat) : Nat := a * b % P25
/-- The five elements of a ladder. -/
def L5 (a b c d e : Nat) : List Value := EL a ++ (EL b ++ (EL c ++ (EL d ++ EL e)))
theorem L5_length (a b c d e : Nat) : (L5 a b c d e).length = 20 := by simp [L5, EL_length]
theorem L5_0 (a b c d e j : Nat) (v : Value) (h : (EL a)[j]? = some v) : (L5 a b c d e)[0 + j]? = some v := by
  have hj : j < 4 := by have := (List.getElem?_eq_some_iff.1 h).1; rwa [EL_length] at this
  rw [Nat.zero_add, L5, List.getElem?_append_left (by rw [EL_length]; exact hj)]
  exact h
theorem L5_1 (a b c d e j : Nat) (v : Value) (h : (EL b)[j]? = some v) : (L5 a b c d e)[4 + j]? = some v := by
  have hj : j < 4 := by have := (List.getElem?_eq_some_iff.1 h).1; rwa [EL_length] at this
  rw [L5, List.getElem?_append_right (by rw [EL_length]; omega), EL_length, List.getElem?_append_left (by rw [EL_length]; omega), show 4 + j - 4 = j by omega]
  exact h
theorem L5_2 (a b c d e j : Nat) (v : Value) (h : (EL c)[j]? = some v) : (L5 a b c d e)[8 + j]? = some v := by
  have hj : j < 4 := by have := (List.getElem?_eq_some_iff.1 h).1; rwa [EL_length] at this
  rw [L5, List.getElem?_append_right (by rw [EL_length]; omega), EL_length, List.getElem?_append_right (by rw [EL_length]; omega), EL_length, List.getElem?_append_left (by rw [EL_length]; omega), show 8 + j - 4 - 4 = j by omega]
  exact h
theorem L5_3 (a b c d e j : Nat) (v : Value) (h : (EL d)[j]? = some v) : (L5 a b c d e)[12 + j]? = some v := by
  have hj : j < 4 := by have := (List.getElem?_eq_some_iff.1 h).1; rwa [EL_length] at this
  rw [L5, List.getElem?_append_right (by rw [EL_length]; omega), EL_length, List.getElem?_append_right (by rw [EL_length]; omega), EL_length, List.getElem?_append_right (by rw [EL_length]; omega), EL_length, List.getElem?_append_left (by rw [EL_length]; omega), show 12 + j - 4 - 4 - 4 = j by omega]
  exact h
theorem L5_4 (a b c d e j : Nat) (v : Value) (h : (EL e)[j]? = some v) : (L5 a b c d e)[16 + j]? = some v := by
  rw [L5, List.getElem?_append_right (by rw [EL_length]; omega), EL_length, List.getElem?_append_right (by rw [EL_length]; omega), EL_length, List.getElem?_append_right (by rw [EL_length]; omega), EL_length, List.getElem?_append_right (by rw [EL_length]; omega), EL_length, show 16 + j - 4 - 4 - 4 - 4 = j by omega]
  exact h
theorem L5_set1 (a b c d e n : Nat) : spliced (L5 a b c d e) 4 (EL n) = L5 a n c d e := by
  simp only [L5, EL_four, spliced]
  rfl
theorem L5_set2 (a b c d e n : Nat) : spliced (L5 a b c d e) 8 (EL n) = L5 a b n d e := by
  simp only [L5, EL_four, spliced]
  rfl
theorem L5_set3 (a b c d e n : Nat) : spliced (L5 a b c d e) 12 (EL n) = L5 a b c n e := by
  simp only [L5, EL_four, spliced]
  rfl
theorem L5_set4 (a b c d e n : Nat) : spliced (L5 a b c d e) 16 (EL n) = L5 a b c d n := by
  simp only [L5, EL_four, spliced]
  rfl
section
variable {ops : Array Oper} {rest : List Oper} {o : Oper} {a : Act} {w : World} {Q : Exit → Act → World → Prop}
theorem load_at (hw : Region.wanted o (yielded ops a.tmps) = true) (x : Operand) (ho : o.op = .load 28 x) {g off : Nat} {t : TypeId} {l : List Value} {n : Nat} (hb : Blk w g t l) (hl : ∀ j v, (EL n)[j]? = some v → l[off + j]? = some v) (hx : a.eval x = .pointer (some ⟨g, off, none⟩))
    (h : wpList Try.prog ops Q rest (a.put o.dst (E n)) w) : wpList Try.prog ops Q (o :: rest) a w :=
  wpList_want hw fun K hK => by
    unfold Oper.wp
    simp only [execOp, ho, hx, Instr.loadAt, Instr.sureAddr, Sem.run_bind, Sem.run_pure, Result.andThen_ok, run_loadVar_agg w g off 28 (EL n) _ (fun j v hv => hb.cellD _ (hl j v hv)) Try.underlying28 rfl (by rw [EL_length]; exact sizeE)]
    exact hK _ _ h
theorem store_at (hgd : o.guard = none) (hd : o.dst = none) (x y : Operand) (ho : o.op = .store 28 x y) {g off : Nat} {t : TypeId} {l : List Value} {n : Nat} (hg : Blk w g t l) (hx : a.eval x = .pointer (some ⟨g, off, none⟩)) (hy : a.eval y = E n) (hl : off + 4 ≤ l.length)
    (h : ∀ w', Blk w' g t (spliced l off (EL n)) → Only g w w' → wpList Try.prog ops Q rest a w') : wpList Try.prog ops Q (o :: rest) a w :=
  wpList_store_agg hgd hd _ x y ho g off t l _ hg hx hy (by rw [EL_length]; exact sizeE) (by rw [EL_length]; exact hl) (EL_one n) h
theorem quiet_at {K : Act → Prop} (x : Operand) (ho : o.op = .load 28 x) {w0 : World} {g off : Nat} {t : TypeId} {l : List Value} {n : Nat} (hb : Blk w0 g t l) (hl : ∀ j v, (EL n)[j]? = some v → l[off + j]? = some v) (hx : a.eval x = .pointer (some ⟨g, off, none⟩)) (h : K (a.put o.dst (E n))) :
    o.quiet Try.prog a (fun w' => ∃ x, w' = grow w0 x) K :=
  quiet_load_agg _ x ho g off (EL n) (fun w' hw j v hv => by obtain ⟨y, rfl⟩ := hw; exact (hb.later ⟨y, rfl⟩).cellD _ (hl j v hv)) hx _ Try.underlying28 rfl (by rw [EL_length]; exact sizeE) h
end
end Go.Proofs.Ytmdjhbiiifnfiaa
