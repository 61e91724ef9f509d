/-
  shallotlaw17.awake: its constants.
-/
import Derived.Test.YtkibgdigcgakfabGreatMshV
namespace Go.Proofs.YtkibgdigcgakfabGreat
open Go.RowKit
open Go.BigFrame

def ar9 : Arr := ⟨⟨1, 5, 0, 1, [9]⟩, 2, 3, 7, zero16⟩
theorem ltrs9 : ltrs [ar9] 1 = [⟨3, 5, 7, [9]⟩] := by rfl
theorem built_p9 (A : Option Addr) (n c : Nat) : Tryz.prog.built 32 [(0, .int .u8 1), (1, .int .u64 5), (3, .int .i64 1), (4, .slice A n c)] = some (PaC ar9.pt (.slice A n c)).toArray := by kernel_rfl
theorem built_a9 (A : Option Addr) (n c : Nat) : Tryz.prog.built 36 [(0, .agg (PaC ar9.pt (.slice A n c)).toArray), (1, .int .u8 2), (2, .int .u64 3), (3, .int .i64 7)] = some (AvC ⟨ar9, .slice A n c⟩).toArray := by kernel_rfl
end Go.Proofs.YtkibgdigcgakfabGreat
