/-
  RelayPeels: its walk.
-/
import Derived.Test.YtdojjnbpidogfaaGreatRcG
namespace Go.Proofs.YtdojjnbpidogfaaGreat
open Go.RowKit
open Go.BigFrame

theorem pelL_small : ∀ (ks : List (List UInt8)) (p : Y768), ∀ y ∈ pelL ks p, y.B.length ≤ 480
  | [], _, y, h => by simp [pelL] at h
  | k :: ks, p, y, h => by
    rw [pelL] at h
    split at h
    · rcases List.mem_cons.1 h with rfl | h
      · exact unwB_small k p.val p.2
      · split at h
        · exact pelL_small ks _ y h
        · simp at h
    · simp at h
theorem getD_small {ys : List Pel} (h : ∀ y ∈ ys, y.B.length ≤ 480) (i : Nat) (hi : i < ys.length) : (ys.getD i pel0).B.length ≤ 480 := by
  rw [List.getD_eq_getElem?_getD, List.getElem?_eq_getElem hi]
  exact h _ (List.getElem_mem hi)
theorem PelOk.later {w w' : World} {b : Nat} {x : PelV} {y : Pel} (h : PelOk w b x y) (l : Later w w') : PelOk w' b x y := ⟨h.1, h.2.1, h.2.2.1, own_later h.2.2.2 l⟩
/-- The cells of an element of a row of one's own. -/
theorem row_at {α : Type} {F : α → List Value} {sz : Nat} (hF : ∀ x, (F x).length = sz) (d : α) {w : World} {base n c : Nat} {e : TypeId} {A : Option Addr} {xs : List α} (h : w.ownsRow base e sz (.slice A n c) n (xs.flatMap F)) (hn : xs.length = n) {k : Nat} (hk : k < n) :
    ∃ g l, A = some ⟨g, 0, none⟩ ∧ Blk w g e l ∧ n ≤ c ∧ ∀ j v, (F (xs.getD k d))[j]? = some v → l[k * sz + j]? = some v := by
  rcases h.2 with ⟨_, h0⟩ | ⟨g, cap, cur, hv, _, hh, hc, _, _, ht⟩
  · omega
  · injection hv with h1 h2 h3
    subst h3
    refine ⟨g, cur.toList, h1, hh, hc, fun j v hj => ?_⟩
    have := flatF_get hF d xs k (by omega) hj
    rw [← ht, List.getElem?_take] at this
    split at this
    · exact this
    · cases this
end Go.Proofs.YtdojjnbpidogfaaGreat

