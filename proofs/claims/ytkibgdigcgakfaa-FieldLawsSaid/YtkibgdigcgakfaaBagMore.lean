/-
  Blocks of one's own beside rows that grow; what Spare makes.
-/
import Derived.Test.YtkibgdigcgakfaaBag
import Derived.Test.YtkibgdigcgakfaaHelp
namespace Go.Proofs.Ytkibgdigcgakfaa
open Go.RowKit

section
variable {w wk v : World} {ls ls' : List (Nat × TypeId × List Value)}
theorem Bag.fresh (h : Bag w wk ls) {k : Nat} {t : TypeId} {l : List Value} (j : Later wk v) (hk : wk.heap.size ≤ k) (hb : Blk v k t l) : Bag w v ((k, t, l) :: ls) :=
  h.add j (fun p hp e => by have := (h.blk p hp).lt; omega) (Nat.le_trans h.lat.size hk) hb
theorem Bag.join (h : Bag w wk ls) (h' : Bag wk v ls') : Bag w v (ls' ++ ls) := by
  have h1 := h.later h'.lat
  refine ⟨h1.lat, fun p hp => ?_, fun p hp => ?_, ?_⟩
  · rcases List.mem_append.1 hp with hp | hp
    · exact h'.blk p hp
    · exact h1.blk p hp
  · rcases List.mem_append.1 hp with hp | hp
    · exact Nat.le_trans h.lat.size (h'.low p hp)
    · exact h1.low p hp
  · rw [List.map_append, List.nodup_append]
    refine ⟨h'.nd, h.nd, fun a ha b hb e => ?_⟩
    obtain ⟨p, hp, rfl⟩ := List.mem_map.1 ha
    obtain ⟨q, hq, rfl⟩ := List.mem_map.1 hb
    have := h'.low p hp
    have := (h.blk q hq).lt
    omega
theorem Bag.sub (h : Bag w wk ls) (hs : ls'.Sublist ls) : Bag w wk ls' :=
  ⟨h.lat, fun p hp => h.blk p (hs.subset hp), fun p hp => h.low p (hs.subset hp), (hs.map _).nodup h.nd⟩
/-- A row of another type grows. -/
theorem Bag.grownRow (h : Bag w wk ls) {base n : Nat} {e : TypeId} {vr : Value} {vs : List Value} (hr : wk.ownsRow base e 1 vr n vs) (hne : ∀ p ∈ ls, p.2.1 ≠ e) (hg : wk.grownBy v vr.ownBlock) (hl : Later w v) : Bag w v ls :=
  ⟨hl, fun p hp => blk_grown (h.blk p hp) hr (hne p hp) hg, h.low, h.nd⟩
end
/-- A row's own block is none of another type's. -/
theorem own_ne {w : World} {base g n : Nat} {e t : TypeId} {v : Value} {vs l : List Value} (h : w.ownsRow base e 1 v n vs) (hb : Blk w g t l) (hne : t ≠ e) : v.ownBlock ≠ some g := by
  intro hv
  rcases h.2 with ⟨rfl, _⟩ | ⟨g2, c2, cur2, rfl, _, hh2, _⟩
  · cases hv
  · cases hv
    exact hb.ne_type (l' := cur2.toList) (t' := e) hh2 hne rfl
theorem own_blk' {w : World} {base g n : Nat} {e : TypeId} {l : List Value} (h : Blk w g e l) (hb : base ≤ g) (hl : l.length = n) (hm : n ≤ 140737488355328) : w.ownsRow base e 1 (.slice (some ⟨g, 0, none⟩) n n) n l := by
  have := own_of_blk h hb (by omega)
  rwa [hl] at this
/-- A block's first bytes. -/
theorem blk_head {w : World} {g n : Nat} {t : TypeId} {bs : List UInt8} {rest : List Value} (h : Blk w g t (bs.map W8 ++ rest)) (hn : bs.length = n) : RdB w (some ⟨g, 0, none⟩) n bs :=
  ⟨by rw [List.length_map, hn], fun _ => ⟨g, 0, rfl, h.lt, fun j u hu => by
    rw [Nat.zero_add]
    refine h.cellD j ?_
    rw [List.getElem?_append_left (List.getElem?_eq_some_iff.1 hu).1]
    exact hu⟩⟩
theorem parts_blk1 {w : World} {g : Nat} {t : TypeId} {v : Value} {p : List UInt8} (hb : Blk w g t [v]) (hp : Part w (fun _ => False) v p) : Parts w (fun _ => False) (some ⟨g, 0, none⟩) 1 [p] :=
  ⟨[v], hb.rd rfl, avoid_false _ _, rfl, fun j v' p' hv hp' => by
    cases j with
    | zero =>
      cases hv
      cases hp'
      exact hp
    | succ j => simp at hv⟩
theorem parts_blk2 {w : World} {g : Nat} {t : TypeId} {v1 v2 : Value} {p1 p2 : List UInt8} (hb : Blk w g t [v1, v2]) (h1 : Part w (fun _ => False) v1 p1) (h2 : Part w (fun _ => False) v2 p2) : Parts w (fun _ => False) (some ⟨g, 0, none⟩) 2 [p1, p2] :=
  ⟨[v1, v2], hb.rd rfl, avoid_false _ _, rfl, fun j v' p' hv hp' => by
    match j with
    | 0 =>
      cases hv
      cases hp'
      exact h1
    | 1 =>
      cases hv
      cases hp'
      exact h2
    | j + 2 => simp at hv⟩
theorem own_some {w : World} {base n c : Nat} {A : Option Addr} {bs : List UInt8} (h : OwnB w base A n c bs) (hn : 0 < n) : ∃ g rest, A = some ⟨g, 0, none⟩ ∧ base ≤ g ∧ Blk w g 5 (bs.map W8 ++ rest) ∧ c = (bs.map W8 ++ rest).length ∧ n ≤ c := by
  rcases own_blk h with ⟨_, h0⟩ | ⟨g, rest, e, h1, h2, h3⟩
  · omega
  · exact ⟨g, rest, e, h1, h2, h3, h.cap⟩
theorem Bag.grownNew {w wk v : World} {ls : List (Nat × TypeId × List Value)} (h : Bag w wk ls) {base n sz : Nat} {e : TypeId} {vr : Value} {vs : List Value} (hr : wk.ownsRow base e sz vr n vs) (hlt : ∀ p ∈ ls, p.1 < base) (hg : wk.grownBy v vr.ownBlock) (hl : Later w v) : Bag w v ls :=
  ⟨hl, fun p hp => (hg.block p.1 (h.blk p hp).lt (fun e => by have := (hr.lt p.1 e.symm).1; have := hlt p hp; omega)).trans (h.blk p hp), h.low, h.nd⟩
theorem types_ne {ls : List (Nat × TypeId × List Value)} {t : TypeId} (h : ¬ t ∈ ls.map (·.2.1)) : ∀ p ∈ ls, p.2.1 ≠ t := fun p hp e => h (List.mem_map.2 ⟨p, hp, e⟩)
theorem part_at {w : World} {bad : Nat → Prop} {b n c : Nat} {p : List UInt8} (h : RdB w (some ⟨b, 0, none⟩) n p) (hc : n ≤ c) (hb : ¬ bad b) : Part w bad (.slice (some ⟨b, 0, none⟩) n c) p := ⟨_, n, c, rfl, hc, h, avoid_lt hb⟩
theorem parts_b1 {w : World} {bad : Nat → Prop} {g : Nat} {t : TypeId} {v : Value} {p : List UInt8} (hb : Blk w g t [v]) (hg : ¬ bad g) (hp : Part w bad v p) : Parts w bad (some ⟨g, 0, none⟩) 1 [p] :=
  parts_bad (hb.rd rfl) (avoid_lt hg) ⟨hp, trivial⟩
theorem part_rd {w : World} {A : Option Addr} {n c : Nat} {p : List UInt8} (h : RdB w A n p) (hc : n ≤ c) : Part w (fun _ => False) (.slice A n c) p := ⟨A, n, c, rfl, hc, h, fun _ _ _ h => h⟩
theorem blk_rd_app {w : World} {g : Nat} {t : TypeId} {l rest : List Value} {n : Nat} (h : Blk w g t (l ++ rest)) (hn : l.length = n) : Rd w (some ⟨g, 0, none⟩) n l := by
  refine ⟨hn, fun _ => ⟨g, 0, rfl, h.lt, fun j u hu => ?_⟩⟩
  rw [Nat.zero_add]
  refine h.cellD j ?_
  rw [List.getElem?_append_left (by have := (List.getElem?_eq_some_iff.1 hu).1; omega)]
  exact hu
theorem blk_rdB_app {w : World} {g : Nat} {t : TypeId} {bs : List UInt8} {rest : List Value} {n : Nat} (h : Blk w g t (bs.map W8 ++ rest)) (hn : bs.length = n) : RdB w (some ⟨g, 0, none⟩) n bs := blk_rd_app h (by rw [List.length_map, hn])
end Go.Proofs.Ytkibgdigcgakfaa
