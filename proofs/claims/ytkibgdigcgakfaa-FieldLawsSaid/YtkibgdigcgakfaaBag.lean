/-
  Blocks of one's own, no two the same.
-/
import Derived.Test.YtkibgdigcgakfaaMem
namespace Go.Proofs.Ytkibgdigcgakfaa
open Go.RowKit

/-- Blocks that were made behind w, and what they hold: no two the same. -/
structure Bag (w wk : World) (ls : List (Nat × TypeId × List Value)) : Prop where
  lat : Later w wk
  blk : ∀ p ∈ ls, Blk wk p.1 p.2.1 p.2.2
  low : ∀ p ∈ ls, w.heap.size ≤ p.1
  nd : (ls.map (·.1)).Nodup
section
variable {w wk v v1 : World} {ls : List (Nat × TypeId × List Value)} {k : Nat} {t : TypeId} {l l' : List Value}
theorem Bag.nth (h : Bag w wk ls) (i : Nat) (hi : ls[i]? = some (k, t, l)) : Blk wk k t l := h.blk (k, t, l) (List.mem_of_getElem? hi)
theorem Bag.at_low (h : Bag w wk ls) (i : Nat) (hi : ls[i]? = some (k, t, l)) : w.heap.size ≤ k := h.low (k, t, l) (List.mem_of_getElem? hi)
theorem Bag.later (h : Bag w wk ls) (j : Later wk v) : Bag w v ls := ⟨h.lat.trans j, fun p hp => (h.blk p hp).later j, h.low, h.nd⟩
theorem Bag.drew (h : Bag w wk ls) : Bag w wk.drew ls := h.later (later_drew _)
theorem Bag.none (w : World) : Bag w w [] := ⟨Later.refl w, by simp, by simp, by simp⟩
/-- One more that is there already. -/
theorem Bag.add (h : Bag w wk ls) (j : Later wk v) (hk : ∀ p ∈ ls, k ≠ p.1) (hl : w.heap.size ≤ k) (hb : Blk v k t l) : Bag w v ((k, t, l) :: ls) := by
  have h1 := h.later j
  refine ⟨h1.lat, ?_, ?_, ?_⟩
  · intro p hp
    rcases List.mem_cons.1 hp with rfl | hp
    · exact hb
    · exact h1.blk p hp
  · intro p hp
    rcases List.mem_cons.1 hp with rfl | hp
    · exact hl
    · exact h1.low p hp
  · rw [List.map_cons, List.nodup_cons]
    refine ⟨fun hm => ?_, h1.nd⟩
    obtain ⟨p, hp, e⟩ := List.mem_map.1 hm
    exact hk p hp e.symm
/-- One is written. -/
theorem Bag.write (h : Bag w wk ls) (i : Nat) (hi : ls[i]? = some (k, t, l)) (o : Only k wk v) (hb : Blk v k t l') : Bag w v (ls.set i (k, t, l')) := by
  refine ⟨h.lat.only o (h.at_low i hi), ?_, ?_, ?_⟩
  · intro p hp
    obtain ⟨j, hj⟩ := List.getElem?_of_mem hp
    rw [List.getElem?_set] at hj
    split at hj
    · split at hj
      · cases hj
        exact hb
      · cases hj
    · rename_i hne
      refine (h.blk p (List.mem_of_getElem? hj)).only o ?_
      intro e
      have h1 : (ls.map (·.1))[i]? = some k := by rw [List.getElem?_map, hi]; rfl
      have h2 : (ls.map (·.1))[j]? = some k := by rw [List.getElem?_map, hj, ← e]; rfl
      have hlt : i < (ls.map (·.1)).length := (List.getElem?_eq_some_iff.1 h1).1
      exact hne ((List.getElem?_inj hlt h.nd).1 (h1.trans h2.symm))
  · intro p hp
    rcases List.mem_or_eq_of_mem_set hp with hp | rfl
    · exact h.low p hp
    · exact h.at_low i hi
  · have : (ls.set i (k, t, l')).map (·.1) = ls.map (·.1) := by
      rw [List.map_set]
      apply List.ext_getElem?
      intro j
      rw [List.getElem?_set]
      split
      · rename_i e
        subst e
        split
        · rw [List.getElem?_map, hi]; rfl
        · rename_i hlt
          rw [List.getElem?_eq_none (by omega)]
      · rfl
    rw [this]
    exact h.nd
/-- A new one, written. -/
theorem Bag.push (h : Bag w wk ls) (j : Later wk v) (hk : wk.heap.size ≤ k) (o : Only k v v1) (hb : Blk v1 k t l) : Bag w v1 ((k, t, l) :: ls) := by
  have h0 : ∀ p ∈ ls, k ≠ p.1 := fun p hp e => by have := (h.blk p hp).lt; omega
  have hw : w.heap.size ≤ k := by have := h.lat.size; omega
  have h1 := h.later j
  refine ⟨h1.lat.only o hw, ?_, ?_, ?_⟩
  · intro p hp
    rcases List.mem_cons.1 hp with rfl | hp
    · exact hb
    · exact (h1.blk p hp).only o (fun e => h0 p hp e.symm)
  · intro p hp
    rcases List.mem_cons.1 hp with rfl | hp
    · exact hw
    · exact h1.low p hp
  · rw [List.map_cons, List.nodup_cons]
    refine ⟨fun hm => ?_, h1.nd⟩
    obtain ⟨p, hp, e⟩ := List.mem_map.1 hm
    exact h0 p hp e.symm
theorem Bag.ne {p q : Nat × TypeId × List Value} (h : Bag w wk ls) (i j : Nat) (hi : ls[i]? = some p) (hj : ls[j]? = some q) (hij : i ≠ j) : p.1 ≠ q.1 := by
  intro e
  have h1 : (ls.map (·.1))[i]? = some p.1 := by rw [List.getElem?_map, hi]; rfl
  have h2 : (ls.map (·.1))[j]? = some p.1 := by rw [List.getElem?_map, hj, e]; rfl
  have hlt : i < (ls.map (·.1)).length := (List.getElem?_eq_some_iff.1 h1).1
  exact hij ((List.getElem?_inj hlt h.nd).1 (h1.trans h2.symm))
theorem Bag.drop (h : Bag w wk ls) (n : Nat) : Bag w wk (ls.drop n) :=
  ⟨h.lat, fun p hp => h.blk p (List.mem_of_mem_drop hp), fun p hp => h.low p (List.mem_of_mem_drop hp), by rw [List.map_drop]; exact (List.drop_sublist n _).nodup h.nd⟩
end
theorem bag_new (w : World) (t : TypeId) (l : List Value) : Bag w (w.alloc (.cells l.toArray t)) [(w.heap.size, t, l)] :=
  ⟨later_alloc _ _, by intro p hp; simp at hp; subst hp; exact Blk.new w t l, by simp, by simp⟩
end Go.Proofs.Ytkibgdigcgakfaa
