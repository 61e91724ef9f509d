/-
  A map of pointers, keyed by whatever has a law: what it holds, as a function of the keys.
-/
import Derived.Test.YtkibgdigcgakfabGreatMem
import Derived.Maps.OwnSet
import Derived.DeepKeys4
namespace Go.Proofs.YtkibgdigcgakfabGreat
open Go.RowKit Go.Maps

def ptrV : Option Nat → Value
  | none => .pointer none
  | some b => .pointer (some ⟨b, 0, none⟩)
def ptrD : Option Nat → DataW Unit
  | none => .lit (.bool false)
  | some b => .lit (.int .i64 b)
/-- How such a pointer reads. -/
def ptrR (v : Value) : Option (DataW Unit × List MemPlace) :=
  match v with
  | .pointer none => some (ptrD none, [])
  | .pointer (some ⟨b, 0, none⟩) => some (ptrD (some b), [])
  | _ => none
theorem ptrR_mk (x : Option Nat) : ptrR (ptrV x) = some (ptrD x, []) := by cases x <;> rfl
theorem ptrD_inj {x y : Option Nat} (h : ptrD x = ptrD y) : x = y := by
  cases x <;> cases y <;> simp [ptrD] at h <;> first | rfl | (subst h; rfl) | (have : (_ : Int) = _ := h; congr 1; omega)
theorem ptrR_inv {v : Value} {x : Option Nat} {ps : List MemPlace} (h : ptrR v = some (ptrD x, ps)) : v = ptrV x := by
  unfold ptrR at h
  split at h
  · simp only [Option.some.injEq, Prod.mk.injEq] at h
    rw [← ptrD_inj h.1]
    rfl
  · simp only [Option.some.injEq, Prod.mk.injEq] at h
    rw [← ptrD_inj h.1]
    rfl
  · cases h
/-- How the map is keyed. -/
structure PKey (P : Program) (k : TypeId) (α : Type) where
  kv : α → Value
  kl : α → Lit
  ok : ∀ x, keyOf P k (kv x) = some (kl x)
  inj : ∀ x y, kv x = kv y → x = y
  law : Keyed P k
/-- Block b is a map of at most n entries; what stands at each key. -/
def PMap {P : Program} {k : TypeId} {α : Type} (w : World) (K : PKey P k α) (b n : Nat) (f : α → Option Nat) : Prop :=
  ∃ D : DataW Unit, w.ownsMap P k ptrR b n D ∧ ∀ x, D.atKey (K.kl x) (ptrD none) = ptrD (f x)
section
variable {P : Program} {k t e : TypeId} {α : Type} {w w' : World} {K : PKey P k α} {b n : Nat} {f : α → Option Nat}
theorem PKey.kl_inj (K : PKey P k α) {x y : α} (h : K.kl x = K.kl y) : x = y := K.inj x y (K.law.inj (K.ok x) (h ▸ K.ok y))
theorem PMap.made (w : World) (K : PKey P k α) : PMap (w.alloc (.map #[] 0)) K w.heap.size 0 (fun _ => none) := ⟨_, World.ownsMap_made w P k ptrR, fun _ => rfl⟩
theorem PMap.only (h : PMap w K b n f) {g : Nat} (ho : Only g w w') (hne : b ≠ g) : PMap w' K b n f := by
  obtain ⟨D, h1, h2⟩ := h
  exact ⟨D, h1.kept ho (by simpa using hne), h2⟩
theorem PMap.grown (h : PMap w K b n f) {row : Option Nat} (ho : w.grownBy w' row) (hne : some b ≠ row) : PMap w' K b n f := by
  obtain ⟨D, h1, h2⟩ := h
  exact ⟨D, h1.kept ho hne, h2⟩
theorem PMap.lt (h : PMap w K b n f) : b < w.heap.size := let ⟨_, h1, _⟩ := h; h1.lt
theorem PMap.later (h : PMap w K b n f) (hl : Later w w') : PMap w' K b n f := by
  refine h.only (hl.onlyAny (b + 1)) (by omega)
theorem PMap.look (h : PMap w K b n f) (ht : P.underlying t = some (.map k e)) (hz : (zeroValue e).run P w = .ok (.pointer none) w) (x : α) :
    (Instr.lookup t (.map (some b)) (K.kv x) false).run P w = .ok (ptrV (f x)) w := by
  obtain ⟨D, h1, h2⟩ := h
  obtain ⟨v, ps, hrun, hv⟩ := h1.lookup K.law ht hz (ptrR_mk none) (K.ok x)
  rw [h2] at hv
  rw [hrun, ptrR_inv hv]
theorem PMap.put [DecidableEq α] (h : PMap w K b n f) (ht : P.underlying t = some (.map k e)) (hn : n < maxLen) (x : α) (g : Nat) :
    ∃ w', (Instr.mapUpdate t (.map (some b)) (K.kv x) (.pointer (some ⟨g, 0, none⟩))).run P w = .ok () w' ∧ PMap w' K b (n + 1) (fun y => if y = x then some g else f y) ∧ Only b w w' := by
  obtain ⟨D, h1, h2⟩ := h
  obtain ⟨w', hrun, h3, h4⟩ := h1.update K.law ht hn (K.ok x) (ptrR_mk (some g))
  refine ⟨w', hrun, ⟨_, h3, fun y => ?_⟩, h4⟩
  by_cases hyx : y = x
  · subst hyx
    simp only [if_true]
    exact atKey_put_same h1.isMap (K.law.key (K.ok y)) _ _
  · simp only [hyx, if_false]
    rw [atKey_put_other (fun hc => hyx (K.kl_inj hc))]
    exact h2 y
variable {ops : Array Oper} {rest : List Oper} {o : Oper} {a : Act} {Q : Exit → Act → World → Prop}
/-- 'm[x]' at the operation. -/
theorem wpList_look (hg : o.guard = none) (m x : Operand) (hop : o.op = Op.lookup t m x false) (ht : P.underlying t = some (.map k e)) (hz : (zeroValue e).run P w = .ok (.pointer none) w)
    (hm : a.eval m = .map (some b)) (h : PMap w K b n f) (y : α) (hx : a.eval x = K.kv y) (hK : wpList P ops Q rest (a.put o.dst (ptrV (f y))) w) : wpList P ops Q (o :: rest) a w := by
  refine wpList_plain hg fun K' hK' => ?_
  unfold Oper.wp
  simp [execOp, hop, hm, hx, h.look ht hz y, Result.andThen]
  exact hK' _ _ hK
/-- 'm[x] = p' at the operation. -/
theorem wpList_put [DecidableEq α] (hg : o.guard = none) (m x v : Operand) (hop : o.op = Op.mapUpdate t m x v) (ht : P.underlying t = some (.map k e)) (hm : a.eval m = .map (some b)) (h : PMap w K b n f) (hn : n < maxLen) (y : α) (g : Nat)
    (hx : a.eval x = K.kv y) (hv : a.eval v = .pointer (some ⟨g, 0, none⟩)) (hK : ∀ w', PMap w' K b (n + 1) (fun z => if z = y then some g else f z) → Only b w w' → wpList P ops Q rest (a.put o.dst undef) w') : wpList P ops Q (o :: rest) a w := by
  refine wpList_plain hg fun K' hK' => ?_
  obtain ⟨w', hrun, r1, r2⟩ := h.put ht hn y g
  unfold Oper.wp
  simp [execOp, hop, hm, hx, hv, hrun, Result.andThen]
  exact hK' _ _ (hK w' r1 r2)
end
end Go.Proofs.YtkibgdigcgakfabGreat
