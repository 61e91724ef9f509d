/-
  shallotlaw06: CurveChains.
-/
import Derived.Test.YtpijjldkehimfaaCurveG
namespace Go.Proofs.Ytpijjldkehimfaa
open Go.RowKit
open Go.BigFrame

theorem Parts.take {w : World} {bad : Nat → Prop} {A : Option Addr} {n : Nat} {ps : List (List UInt8)} (h : Parts w bad A n ps) {m : Nat} (hm : m ≤ n) : Parts w bad A m (ps.take m) := by
  obtain ⟨vs, h1, h2, h3, h4⟩ := h
  refine ⟨vs.take m, h1.take hm, fun h0 ad hA => h2 (by omega) ad hA, by rw [List.length_take, List.length_take, h3], fun j v p hv hp => ?_⟩
  rw [List.getElem?_take] at hv hp
  split at hv
  · rename_i hlt
    rw [if_pos hlt] at hp
    exact h4 j v p hv hp
  · cases hv
end Go.Proofs.Ytpijjldkehimfaa
