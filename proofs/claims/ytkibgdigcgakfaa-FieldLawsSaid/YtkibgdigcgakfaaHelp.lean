/-
  What stays as it was when a row of the call's own grows or is written; shallotref01.Over.
-/
import Derived.Test.YtkibgdigcgakfaaMemP
namespace Go.Proofs.Ytkibgdigcgakfaa
open Go.RowKit

theorem own_blk {w : World} {base : Nat} {e : TypeId} {A : Option Addr} {n c : Nat} {vs : List Value} (h : w.ownsRow base e 1 (.slice A n c) n vs) :
    (A = none ∧ n = 0) ∨ ∃ g rest, A = some ⟨g, 0, none⟩ ∧ base ≤ g ∧ Blk w g e (vs ++ rest) ∧ c = (vs ++ rest).length := by
  rcases h.2 with ⟨hv, h0⟩ | ⟨g, cap, cur, hv, hb, hh, hnc, hm, hs, ht⟩
  · cases hv
    exact .inl ⟨rfl, rfl⟩
  · cases hv
    refine .inr ⟨g, cur.toList.drop n, rfl, hb, ?_, ?_⟩
    · rw [show vs = cur.toList.take n by simpa using ht.symm, List.take_append_drop]
      exact hh
    · rw [show vs = cur.toList.take n by simpa using ht.symm, List.take_append_drop]
      simpa using hs.symm
theorem own_mk {w : World} {base g : Nat} {e : TypeId} {vs rest : List Value} (h : Blk w g e (vs ++ rest)) (hb : base ≤ g) (hm : (vs ++ rest).length ≤ maxLen) :
    w.ownsRow base e 1 (.slice (some ⟨g, 0, none⟩) vs.length (vs ++ rest).length) vs.length vs :=
  ⟨by simp, .inr ⟨g, (vs ++ rest).length, (vs ++ rest).toArray, rfl, hb, h, by simp, hm, by simp, by simp⟩⟩
/-- Another block is written. -/
theorem own_only {w w' : World} {base k : Nat} {e : TypeId} {v : Value} {n : Nat} {vs : List Value} (h : w.ownsRow base e 1 v n vs) (ho : Only k w w') (hne : ∀ b, v.ownBlock = some b → b ≠ k) : w'.ownsRow base e 1 v n vs := by
  refine h.kept ho ?_
  cases hb : v.ownBlock with
  | none => exact .inl rfl
  | some b => exact .inr fun he => hne b hb (by injection he)
/-- A row grows, a block of another type stays. -/
theorem blk_grown {w w' : World} {base g : Nat} {e t : TypeId} {v : Value} {n : Nat} {vs l : List Value} (hb : Blk w g t l) (h : w.ownsRow base e 1 v n vs) (hne : t ≠ e) (hg : w.grownBy w' v.ownBlock) : Blk w' g t l := by
  refine (hg.block g hb.lt ?_).trans hb
  rcases h.2 with ⟨rfl, _⟩ | ⟨g2, c2, cur2, rfl, _, hh2, _⟩
  · simp [Value.ownBlock]
  · intro he
    simp only [Value.ownBlock, Option.some.injEq] at he
    subst he
    exact hb.ne_type (l' := cur2.toList) (t' := e) hh2 hne rfl
/-- A row grows, one that lies elsewhere stays. -/
theorem own_apart {w w' : World} {b1 b2 B : Nat} {e1 e2 : TypeId} {v1 v2 : Value} {n1 n2 : Nat} {x1 x2 : List Value} (h1 : w.ownsRow b1 e1 1 v1 n1 x1) (hlt : ∀ b, v1.ownBlock = some b → b < B) (h2 : w.ownsRow b2 e2 1 v2 n2 x2) (hB : B ≤ b2)
    (hg : w.grownBy w' v2.ownBlock) : w'.ownsRow b1 e1 1 v1 n1 x1 := by
  refine h1.kept hg ?_
  cases hb : v1.ownBlock with
  | none => exact .inl rfl
  | some b =>
    refine .inr fun he => ?_
    have := hlt b hb
    have := (h2.lt b he.symm).1
    omega
theorem own_below {w : World} {base : Nat} {e : TypeId} {v : Value} {n : Nat} {vs : List Value} (h : w.ownsRow base e 1 v n vs) : ∀ b, v.ownBlock = some b → b < w.heap.size := fun b hb => (h.lt b hb).2
theorem part_own {w : World} {base g : Nat} {A : Option Addr} {n c : Nat} {p : List UInt8} (h : OwnB w base A n c p) (hg : g < base) : Part w (· = g) (.slice A n c) p :=
  ⟨A, n, c, rfl, h.cap, h.rd, fun _ ad hA hb => by subst hA; have := (h.lt ad.block rfl).1; omega⟩
theorem parts_bad {w : World} {bad : Nat → Prop} {A : Option Addr} {n : Nat} {vs : List Value} {ps : List (List UInt8)} (h : Rd w A n vs) (hv : Avoid bad A n) (hp : PartAll w bad vs ps) : Parts w bad A n ps :=
  ⟨vs, h, hv, hp.at_.1, hp.at_.2⟩
theorem avoid_lt {bad : Nat → Prop} {b o n : Nat} (h : ¬ bad b) : Avoid bad (some ⟨b, o, none⟩) n := fun _ ad hA hb => by cases hA; exact h hb

/-- Sums that bear their length. -/
abbrev Y32 := {l : List UInt8 // l.length = 32}
@[go_sem high] theorem run_eql_sub (x y : Y32) (w : World) : (binOp .eql 48 (.agg (x.val.map W8).toArray) (.agg (y.val.map W8).toArray)).run Try.prog w = .ok (.bool (x.val == y.val)) w := run_eql_b32 _ _ x.2 y.2 w
@[go_sem high] theorem run_neq_sub (x y : Y32) (w : World) : (binOp .neq 48 (.agg (x.val.map W8).toArray) (.agg (y.val.map W8).toArray)).run Try.prog w = .ok (.bool (x.val != y.val)) w := run_neq_b32 _ _ x.2 y.2 w
theorem sub32 {G : List UInt8} (h : G.length = 32) : ∃ g : Y32, g.val = G := ⟨⟨G, h⟩, rfl⟩

def overB (bs : List UInt8) : List UInt8 := bs.map (· ^^^ 90)
/-- Behind k rounds. -/
def overAt (bs : List UInt8) (k : Nat) : List UInt8 := overB (bs.take k) ++ bs.drop k
theorem overAt_step (bs : List UInt8) (k : Nat) (h : k < bs.length) : (overAt bs k)[k]? = some (bs.getD k 0) ∧ (overAt bs k).set k (bs.getD k 0 ^^^ 90) = overAt bs (k + 1) := by
  have h1 : (overB (bs.take k)).length = k := by simp [overB]; omega
  have h2 : bs.drop k = bs[k] :: bs.drop (k + 1) := List.drop_eq_getElem_cons h
  have h3 : bs.getD k 0 = bs[k] := by rw [List.getD_eq_getElem?_getD, List.getElem?_eq_getElem h]; rfl
  constructor
  · rw [overAt, List.getElem?_append_right (by omega), h1, h2, h3]
    simp
  · rw [overAt, overAt, List.set_append_right _ _ (by omega), h1, h2, h3, List.take_succ_eq_append_getElem h, Nat.sub_self, List.set_cons_zero]
    simp only [overB, List.map_append, List.append_assoc, List.map_cons, List.map_nil, List.cons_append, List.nil_append]
theorem overAt_length (bs : List UInt8) (k : Nat) (h : k ≤ bs.length) : (overAt bs k).length = bs.length := by
  simp [overAt, overB]
  omega
theorem own_eq' {w : World} {base : Nat} {e : TypeId} {A : Option Addr} {n m c : Nat} {xs : List Value} (h : w.ownsRow base e 1 (.slice A n c) n xs) (hn : n = m) : w.ownsRow base e 1 (.slice A m c) m xs := by subst hn; exact h
theorem overB_length (bs : List UInt8) : (overB bs).length = bs.length := by simp [overB]
end Go.Proofs.Ytkibgdigcgakfaa
