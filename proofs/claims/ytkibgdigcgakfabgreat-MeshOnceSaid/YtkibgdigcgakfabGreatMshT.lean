/-
  shallotref11.Twin; shallotlaw17.arrival.
-/
import Derived.Test.YtkibgdigcgakfabGreatFrmA
import Derived.Test.YtkibgdigcgakfabGreatMeshC
import Derived.Test.YtkibgdigcgakfabGreatMshS
namespace Go.Proofs.YtkibgdigcgakfabGreat
open Go.RowKit
open Go.BigFrame

/-- An arrival of the program; va, vn, vc: its part's data. -/
structure Arw where
  ar : Arr
  va : Option Addr
  vn : Nat
  vc : Nat
def ArC (x : Arw) : List Value := AvC ⟨x.ar, .slice x.va x.vn x.vc⟩
theorem ArC_length (x : Arw) : (ArC x).length = 24 := AvC_length _
theorem zeroAw : (Tryz.prog.info? 36).bind (·.zero) = some (.agg (AvC av0).toArray) := by kernel_rfl
theorem built_aw (ar : Arr) (A : Option Addr) (n c : Nat) : Tryz.prog.built 36 [(0, .agg (PaC ar.pt (.slice A n c)).toArray), (1, W8 ar.kd), (2, W64 ar.to), (3, .int .i64 ar.tk), (4, .agg (ar.ma.val.map W8).toArray)] = some (AvC ⟨ar, .slice A n c⟩).toArray := by
  have hm := ar.ma.2
  rw [built_struct (pl := [(0, 5), (5, 1), (6, 1), (7, 1), (8, 16)]) Tryz.underlying36 zeroAw (by kernel_rfl), fill_cons (vs := PaC ar.pt (.slice A n c)) (off := 0) rfl rfl (by rw [AvC_length]; simp [PaC]), fill_cons (vs := [W8 ar.kd]) (off := 5) rfl rfl (by simp [AvC, PaC, spliced, av0, zero16]),
    fill_cons (vs := [W64 ar.to]) (off := 6) rfl rfl (by simp [AvC, PaC, spliced, av0, zero16]), fill_cons (vs := [.int .i64 ar.tk]) (off := 7) rfl rfl (by simp [AvC, PaC, spliced, av0, zero16]), fill_cons (vs := ar.ma.val.map W8) (off := 8) rfl (by simp [hm]) (by simp [AvC, PaC, spliced, av0, zero16, hm]), fill_nil]
  congr 2
  simp [AvC, PaC, spliced, av0, zero16, hm]
end Go.Proofs.YtkibgdigcgakfabGreat
