/-
  RelayUnwraps: its walk.
-/
import Derived.Test.YtdojjnbpidogfaaGreatRcF
namespace Go.Proofs.YtdojjnbpidogfaaGreat
open Go.RowKit
open Go.BigFrame

theorem unwP_length (k p : List UInt8) (hp : p.length = 768) : (unwP k p).length = 768 := by
  unfold unwP
  split
  · exact relP_length _ _ hp (peelB_length _ _)
  · exact List.length_replicate
theorem unw_last {k p : List UInt8} (h : (unwC k p).kd ≠ 1) : unwP k p = z768 := by
  by_cases hm : multE k (p.take 32) = 0
  · rw [unwC, if_pos hm] at h
    rw [unwP, if_pos hm, relP, if_neg (fun x => h x.2)]
    rfl
  · rw [unwP, if_neg hm]
    rfl
theorem unwB_small (k p : List UInt8) (hp : p.length = 768) : (unwB k p).length ≤ 480 := by
  unfold unwB
  split
  · unfold relB
    split
    · rw [relBody_length _ _ hp (peelB_length _ _)]
      omega
    · simp
  · simp
section
variable {ops : Array Oper} {rest : List Oper} {o : Oper} {a : Act}
theorem makes_peel (hw : Region.wanted o (yielded ops a.tmps) = true) (ho : o.op = .alloc 46) :
    Makes Tryz.prog ops o (fun g => .pointer (some ⟨g, 0, none⟩)) (.cells Tryz.zeroCells46 46) a :=
  ⟨hw, fun w => by
    unfold execOp
    rw [ho]
    simp [go_sem]⟩
end
theorem none_of {C : Cmd} {P B : List UInt8} (h : C = cmd0 ∧ P = z768 ∧ B = []) (A : Option Addr) (c : Nat) (w : World) : Calls Tryz.prog 16 #[.agg (PC C P (.slice A B.length c)).toArray] w fun e w' => e = .returned (.bool true) ∧ Later w w' := by
  obtain ⟨rfl, rfl, rfl⟩ := h
  exact none_ok A c w
end Go.Proofs.YtdojjnbpidogfaaGreat

