/-
  Blocks of one's own lie apart; spare room.
-/
import Derived.Test.YtkibgdigcgakfaaBagMore
import Derived.Test.YtkibgdigcgakfaaApart
namespace Go.Proofs.Ytkibgdigcgakfaa
open Go.RowKit

/-- Apart over lists that lie in blocks of one's own. -/
theorem apart_bag {w wk : World} {LS : List (Nat × TypeId × List Value)} {base n c : Nat} {A : Option Addr} {vs : List Value} (B : Bag w wk LS) (hT : ∀ p ∈ LS, p.2.1 ≠ 31) (hown : wk.ownsRow base 31 1 (.slice A n c) n vs)
    (hv : ∀ v ∈ vs, v = .slice none 0 0 ∨ ∃ p ∈ LS, ∃ m c, v = .slice (some ⟨p.1, 0, none⟩) m c ∧ m ≤ c ∧ c ≤ p.2.2.length ∧ m ≤ 1099511627776) (hd : (vs.filterMap Value.ownBlock).Nodup) (hn : n ≤ 1048576) :
    Calls Try.prog 27 #[.slice A n c] wk fun e w' => e = .returned (.bool true) ∧ Later w w' ∧ ∀ b, b < wk.heap.size → (∀ v ∈ vs, v.ownBlock ≠ some b) → w'.heap[b]? = wk.heap[b]? := by
  refine (apart_ok A n c vs wk (own_rd hown) (fun b o e v h hb => ?_) hd (fun v h => ?_) hn).mono fun e w' ⟨h1, h2, h3, h4, h5, h6⟩ => ⟨h1, .of_below ⟨h4.trans B.lat.below.os, h5.trans B.lat.below.tape, h6.trans B.lat.below.output, Nat.le_trans B.lat.size h2, fun k hk => (h3 k (Nat.lt_of_lt_of_le hk B.lat.size) fun v hv' e => ?_).trans (B.lat.below.block k hk)⟩, h3⟩
  rotate_left 2
  · rcases hv v hv' with rfl | ⟨p, hp, m, c', rfl, _⟩
    · cases e
    · have e' : some p.1 = some k := e
      injection e' with e'
      have := B.low p hp
      omega
  · rcases hv v h with rfl | ⟨p, hp, m, c', rfl, _⟩
    · cases hb
    · cases hb
      exact own_ne hown (B.blk p hp) (hT p hp) (by rw [e]; rfl)
  · rcases hv v h with rfl | ⟨p, hp, m, c', rfl, h1, h2, h3⟩
    · exact .inl rfl
    · exact .blk (B.blk p hp) h1 h2 h3
def spareR (bs : List UInt8) : List Value := ((List.range 40).map fun (j : Nat) => spM ((bs.length : Int) + (j : Int))).map W8
theorem spareB_map (bs : List UInt8) : (spareB bs).map W8 = bs.map W8 ++ spareR bs := by rw [spareB, List.map_append]; rfl
theorem spareR_length (bs : List UInt8) : (spareR bs).length = 40 := by simp [spareR]
theorem spare_all {w : World} {g n : Nat} {t : TypeId} {bs : List UInt8} (h : Blk w g t (bs.map W8 ++ spareR bs)) (hn : bs.length = n) : RdB w (some ⟨g, 0, none⟩) (n + 40) (spareB bs) := by
  have : Rd w (some ⟨g, 0, none⟩) (n + 40) ((spareB bs).map W8) := by
    rw [spareB_map]
    exact h.rd (by rw [List.length_append, List.length_map, spareR_length, hn])
  exact this
end Go.Proofs.Ytkibgdigcgakfaa
