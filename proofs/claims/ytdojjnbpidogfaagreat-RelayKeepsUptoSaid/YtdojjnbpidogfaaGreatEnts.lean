/-
  Rows of lists that lie in blocks of one's own, each in its own; shallotref01.Equals; Apart over such rows.
-/
import Derived.Test.YtdojjnbpidogfaaGreatBagMore
import Derived.Test.YtdojjnbpidogfaaGreatBagApart
import Derived.Test.YtdojjnbpidogfaaGreatMemP
namespace Go.Proofs.YtdojjnbpidogfaaGreat
open Go.RowKit

/-- A list: its block, its length, its room, the block's cells; or nil. -/
abbrev Ent := Option (Nat × Nat × Nat × List Value)
def slE : Ent → Value
  | none => .slice none 0 0
  | some (b, n, c, _) => .slice (some ⟨b, 0, none⟩) n c
def blE : Ent → Option (Nat × TypeId × List Value)
  | none => none
  | some (b, _, _, l) => some (b, 5, l)
def okE : Ent → Prop
  | none => True
  | some (_, n, c, l) => n ≤ c ∧ c ≤ l.length ∧ n ≤ 1099511627776
/-- What it reads as. -/
def isE (L : List UInt8) : Ent → Prop
  | none => L = []
  | some (_, n, _, l) => L.length = n ∧ ∃ r, l = L.map W8 ++ r
theorem slE_block (e : Ent) : (slE e).ownBlock = (blE e).map (·.1) := by
  rcases e with _ | ⟨b, n, c, l⟩ <;> rfl
theorem slE_one (e : Ent) : (slE e).oneCell' = true := by
  rcases e with _ | ⟨b, n, c, l⟩ <;> rfl
theorem map_slE_block (es : List Ent) : (es.map slE).filterMap Value.ownBlock = (es.filterMap blE).map (·.1) := by
  rw [List.filterMap_map, List.map_filterMap]
  congr 1
  funext e
  exact slE_block e
theorem blE_type {es : List Ent} : ∀ p ∈ es.filterMap blE, p.2.1 = 5 := by
  intro p hp
  obtain ⟨e, _, he⟩ := List.mem_filterMap.1 hp
  rcases e with _ | ⟨b, n, c, l⟩ <;> cases he
  rfl
theorem part_ent {w : World} {e : Ent} {L : List UInt8} (h : isE L e) (hk : okE e) (hb : ∀ p, blE e = some p → Blk w p.1 p.2.1 p.2.2) : Part w (fun _ => False) (slE e) L := by
  rcases e with _ | ⟨b, n, c, l⟩
  · obtain rfl : L = [] := h
    exact ⟨none, 0, 0, rfl, Nat.le_refl _, ⟨rfl, fun h => absurd h (by omega)⟩, avoid_false _ _⟩
  · obtain ⟨h1, r, rfl⟩ := h
    exact ⟨_, n, c, rfl, hk.1, blk_head (hb _ rfl) h1, avoid_false _ _⟩
/-- A row of such lists reads as their bytes. -/
theorem parts_ents {w wk : World} {ls : List (Nat × TypeId × List Value)} (B : Bag w wk ls) {A : Option Addr} {n : Nat} {es : List Ent} {Ls : List (List UInt8)} (hr : Rd wk A n (es.map slE)) (hsub : ∀ p ∈ es.filterMap blE, p ∈ ls) (hl : es.length = Ls.length)
    (hk : ∀ e ∈ es, okE e) (hL : ∀ (j : Nat) e L, es[j]? = some e → Ls[j]? = some L → isE L e) : Parts wk (fun _ => False) A n Ls :=
  ⟨es.map slE, hr, avoid_false _ _, by rw [List.length_map, hl], fun j v p hv hp => by
    rw [List.getElem?_map, Option.map_eq_some_iff] at hv
    obtain ⟨e, he, rfl⟩ := hv
    exact part_ent (hL j e p he hp) (hk e (List.mem_of_getElem? he)) fun q hq => B.blk q (hsub q (List.mem_filterMap.2 ⟨e, List.mem_of_getElem? he, hq⟩))⟩
theorem apart_ents {w wk : World} {ls : List (Nat × TypeId × List Value)} (B : Bag w wk ls) (es : List Ent) (hp : (es.filterMap blE).Perm ls) (hk : ∀ e ∈ es, okE e) {base n c : Nat} {A : Option Addr} (hown : wk.ownsRow base 22 1 (.slice A n c) n (es.map slE)) (hn : n ≤ 1048576) :
    Calls Tryz.prog 33 #[.slice A n c] wk fun e w' => e = .returned (.bool true) ∧ Later w w' ∧ ∀ b, b < wk.heap.size → (∀ v ∈ es.map slE, v.ownBlock ≠ some b) → w'.heap[b]? = wk.heap[b]? := by
  refine apart_bag B (fun p hp' e => ?_) hown (fun v hv => ?_) ?_ hn
  · have h1 := blE_type p (hp.mem_iff.2 hp')
    rw [h1] at e
    exact absurd e (by decide)
  · obtain ⟨e, he, rfl⟩ := List.mem_map.1 hv
    rcases e with _ | ⟨b, n, c, l⟩
    · exact .inl rfl
    · obtain ⟨h1, h2, h3⟩ := hk _ he
      exact .inr ⟨(b, 5, l), hp.mem_iff.1 (List.mem_filterMap.2 ⟨_, he, rfl⟩), n, c, rfl, h1, h2, h3⟩
  · rw [map_slE_block]
    exact (hp.map _).nodup_iff.2 B.nd
end Go.Proofs.YtdojjnbpidogfaaGreat

