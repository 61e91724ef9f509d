/-
  No cell of these rows narrows 'for every input' (looked for: loops, veiled, ifaces, maps, wideKeys, modest, calm, conditions, laid).
  DERIVED. THE GIVEN ROWS OF THIS SEAT. 5 by the template 'for every input the law returns true; each argument reads behind the call as it read before'; 0 by the template 'total and deterministic' (their statements: YtallecbmnpcepaaTotals.lean).
  GIVEN WITH THE SEED: the statements are not yours to turn. If you find one false, say at which input.
  Laid BY PROGRAM, IN A SANDBOX (cutbox-rows.mjs): the forced cells as the released guide's own fill.sh prints them over the translation 16288ff022773ecf… (all of the seat's roots in one cut). By AI agents, Wed Nov 11 2026. No macro, syntax, notation, axiom, sorry.
-/
import Derived.Test.YtallecbmnpcepaaChecked
import GoSem.Claim
import GoSem.ClaimJoined
import GoSem.ClaimMapViews
import Derived.JoinedTies
import Derived.KernelRfl
namespace Go.Proofs.Ytallecbmnpcepaa
/- THE CELL 'sum', in the pinned program and in every row, IS THE sha256 OF THE DUMP (.gsa) THAT YtallecbmnpcepaaProg.lean LOADS. Nothing in Lean hashes anything: it is a label: what it is worth is what the hold of that sum in a sandbox is worth. -/
noncomputable def Try.pinned : Pinned := { name := "ytallecbmnpcepaa", sum := "16288ff022773ecfa86cf254a1c8ef57d83fc2f26aa9c84751df7602479b228d", checked := Try.checked }
namespace Rows
def none {H : Type} : Left H := { results := [], args := [] }

/-- 'shallotlaw09.DirChecks': WHATEVER THE INPUT: true; the input reads as it did. -/
def dirChecksSpec : ChangeSpec := { name := "dirChecks", fn := fun _ => fun
  | [d] => { results := [.lit (.bool true)], args := [d] }
  | _ => none }
def dirChecksRow : OpenClaim := { program := "ytallecbmnpcepaa", sum := "16288ff022773ecfa86cf254a1c8ef57d83fc2f26aa9c84751df7602479b228d", func := "shallot/shallotlaw09.DirChecks", spec := "dirChecks", inPlace := ["math/bits.Add64", "math/bits.Sub64"], apart := false }
def DirChecksSaid : Prop := dirChecksRow.holds Try.pinned (OpenSpec.ofChange dirChecksSpec)

/-- ITS FALSE NEIGHBOUR: 'it returns false'. Refute it at one input. -/
def dirChecksWrong : ChangeSpec := { name := "dirChecks", fn := fun _ => fun
  | [d] => { results := [.lit (.bool false)], args := [d] }
  | _ => none }
def DirChecksWrongFalsely : Prop := dirChecksRow.holds Try.pinned (OpenSpec.ofChange dirChecksWrong)

/-- 'shallotlaw09.DirMakes': WHATEVER THE INPUT: true; the input reads as it did. -/
def dirMakesSpec : ChangeSpec := { name := "dirMakes", fn := fun _ => fun
  | [d1, d2] => { results := [.lit (.bool true)], args := [d1, d2] }
  | _ => none }
def dirMakesRow : OpenClaim := { program := "ytallecbmnpcepaa", sum := "16288ff022773ecfa86cf254a1c8ef57d83fc2f26aa9c84751df7602479b228d", func := "shallot/shallotlaw09.DirMakes", spec := "dirMakes", inPlace := ["math/bits.Add64", "math/bits.Sub64"], apart := false }
def DirMakesSaid : Prop := dirMakesRow.holds Try.pinned (OpenSpec.ofChange dirMakesSpec)

/-- ITS FALSE NEIGHBOUR: 'it returns false'. Refute it at one input. -/
def dirMakesWrong : ChangeSpec := { name := "dirMakes", fn := fun _ => fun
  | [d1, d2] => { results := [.lit (.bool false)], args := [d1, d2] }
  | _ => none }
def DirMakesWrongFalsely : Prop := dirMakesRow.holds Try.pinned (OpenSpec.ofChange dirMakesWrong)

/-- 'shallotlaw09.DirFinds': WHATEVER THE INPUT: true; the input reads as it did. -/
def dirFindsSpec : ChangeSpec := { name := "dirFinds", fn := fun _ => fun
  | [d1, d2, d3] => { results := [.lit (.bool true)], args := [d1, d2, d3] }
  | _ => none }
def dirFindsRow : OpenClaim := { program := "ytallecbmnpcepaa", sum := "16288ff022773ecfa86cf254a1c8ef57d83fc2f26aa9c84751df7602479b228d", func := "shallot/shallotlaw09.DirFinds", spec := "dirFinds", inPlace := ["math/bits.Add64", "math/bits.Sub64"], apart := false }
def DirFindsSaid : Prop := dirFindsRow.holds Try.pinned (OpenSpec.ofChange dirFindsSpec)

/-- ITS FALSE NEIGHBOUR: 'it returns false'. Refute it at one input. -/
def dirFindsWrong : ChangeSpec := { name := "dirFinds", fn := fun _ => fun
  | [d1, d2, d3] => { results := [.lit (.bool false)], args := [d1, d2, d3] }
  | _ => none }
def DirFindsWrongFalsely : Prop := dirFindsRow.holds Try.pinned (OpenSpec.ofChange dirFindsWrong)

/-- 'shallotlaw09.DirKeeps': WHATEVER THE INPUT: true; the input reads as it did. -/
def dirKeepsSpec : ChangeSpec := { name := "dirKeeps", fn := fun _ => fun
  | [d1, d2] => { results := [.lit (.bool true)], args := [d1, d2] }
  | _ => none }
def dirKeepsRow : OpenClaim := { program := "ytallecbmnpcepaa", sum := "16288ff022773ecfa86cf254a1c8ef57d83fc2f26aa9c84751df7602479b228d", func := "shallot/shallotlaw09.DirKeeps", spec := "dirKeeps", inPlace := ["math/bits.Add64", "math/bits.Sub64"], apart := false }
def DirKeepsSaid : Prop := dirKeepsRow.holds Try.pinned (OpenSpec.ofChange dirKeepsSpec)

/-- ITS FALSE NEIGHBOUR: 'it returns false'. Refute it at one input. -/
def dirKeepsWrong : ChangeSpec := { name := "dirKeeps", fn := fun _ => fun
  | [d1, d2] => { results := [.lit (.bool false)], args := [d1, d2] }
  | _ => none }
def DirKeepsWrongFalsely : Prop := dirKeepsRow.holds Try.pinned (OpenSpec.ofChange dirKeepsWrong)

/-- 'shallotlaw09.DirRoutes': WHATEVER THE INPUT: true; the input reads as it did. -/
def dirRoutesSpec : ChangeSpec := { name := "dirRoutes", fn := fun _ => fun
  | [d1, d2] => { results := [.lit (.bool true)], args := [d1, d2] }
  | _ => none }
def dirRoutesRow : OpenClaim := { program := "ytallecbmnpcepaa", sum := "16288ff022773ecfa86cf254a1c8ef57d83fc2f26aa9c84751df7602479b228d", func := "shallot/shallotlaw09.DirRoutes", spec := "dirRoutes", inPlace := ["math/bits.Add64", "math/bits.Sub64"], apart := false }
def DirRoutesSaid : Prop := dirRoutesRow.holds Try.pinned (OpenSpec.ofChange dirRoutesSpec)

/-- ITS FALSE NEIGHBOUR: 'it returns false'. Refute it at one input. -/
def dirRoutesWrong : ChangeSpec := { name := "dirRoutes", fn := fun _ => fun
  | [d1, d2] => { results := [.lit (.bool false)], args := [d1, d2] }
  | _ => none }
def DirRoutesWrongFalsely : Prop := dirRoutesRow.holds Try.pinned (OpenSpec.ofChange dirRoutesWrong)

/- THE SECOND FORM. 'bulk': how many values and letters a reading holds, each counted each time it is reached (what is shared counts as often as it is met; a slice's spare places count too). A statement '..UptoSaid' is the law's where the arguments, and the package variables that the reading takes, are together of bulk at most 1048576: NARROWER than '..Said'. Prove '..Said' where nothing that the law and all that it calls make is longer than what came in: it says more and counts as full. Else prove '..UptoSaid'. A law counts once. -/
mutual
def uptoBulk {H : Type} : DataW H → Nat
  | .lit (.string bytes) => bytes.length + 1
  | .lit _ => 1
  | .nil => 1
  | .ptr d => uptoBulk d + 1
  | .slice elems spare => uptoBulkAll elems + uptoBulkAll spare + 1
  | .agg parts => uptoBulkAll parts + 1
  | .iface _ d => uptoBulk d + 1
  | .map entries => uptoBulkEntries entries + 1
  | .held _ => 1
def uptoBulkAll {H : Type} : List (DataW H) → Nat
  | [] => 0
  | d :: r => uptoBulk d + uptoBulkAll r
def uptoBulkEntries {H : Type} : List (Lit × DataW H) → Nat
  | [] => 0
  | x :: r => uptoBulkEntry x + uptoBulkEntries r
def uptoBulkEntry {H : Type} : Lit × DataW H → Nat
  | (.string bytes, d) => bytes.length + uptoBulk d + 1
  | (_, d) => uptoBulk d + 1
 end
def uptoSmall : (H : Type) → List (DataW H) → Bool := fun _ ds => decide (uptoBulkAll ds ≤ 1048576)
def OpenSpec.upto (s : _root_.Go.ChangeSpec) : _root_.Go.OpenSpec := { _root_.Go.OpenSpec.ofChange s with cond := some uptoSmall }

/-- 'shallotlaw09.DirChecks', WHERE WHAT IT READS IS OF BULK AT MOST 1048576: true; the input reads as it did. -/
def dirChecksUptoRow : OpenClaim := { program := "ytallecbmnpcepaa", sum := "16288ff022773ecfa86cf254a1c8ef57d83fc2f26aa9c84751df7602479b228d", func := "shallot/shallotlaw09.DirChecks", spec := "dirChecks", inPlace := ["math/bits.Add64", "math/bits.Sub64"], apart := false, narrowed := true }
def DirChecksUptoSaid : Prop := dirChecksUptoRow.holds Try.pinned (OpenSpec.upto dirChecksSpec)

/-- 'shallotlaw09.DirMakes', WHERE WHAT IT READS IS OF BULK AT MOST 1048576: true; the input reads as it did. -/
def dirMakesUptoRow : OpenClaim := { program := "ytallecbmnpcepaa", sum := "16288ff022773ecfa86cf254a1c8ef57d83fc2f26aa9c84751df7602479b228d", func := "shallot/shallotlaw09.DirMakes", spec := "dirMakes", inPlace := ["math/bits.Add64", "math/bits.Sub64"], apart := false, narrowed := true }
def DirMakesUptoSaid : Prop := dirMakesUptoRow.holds Try.pinned (OpenSpec.upto dirMakesSpec)

/-- 'shallotlaw09.DirFinds', WHERE WHAT IT READS IS OF BULK AT MOST 1048576: true; the input reads as it did. -/
def dirFindsUptoRow : OpenClaim := { program := "ytallecbmnpcepaa", sum := "16288ff022773ecfa86cf254a1c8ef57d83fc2f26aa9c84751df7602479b228d", func := "shallot/shallotlaw09.DirFinds", spec := "dirFinds", inPlace := ["math/bits.Add64", "math/bits.Sub64"], apart := false, narrowed := true }
def DirFindsUptoSaid : Prop := dirFindsUptoRow.holds Try.pinned (OpenSpec.upto dirFindsSpec)

/-- 'shallotlaw09.DirKeeps', WHERE WHAT IT READS IS OF BULK AT MOST 1048576: true; the input reads as it did. -/
def dirKeepsUptoRow : OpenClaim := { program := "ytallecbmnpcepaa", sum := "16288ff022773ecfa86cf254a1c8ef57d83fc2f26aa9c84751df7602479b228d", func := "shallot/shallotlaw09.DirKeeps", spec := "dirKeeps", inPlace := ["math/bits.Add64", "math/bits.Sub64"], apart := false, narrowed := true }
def DirKeepsUptoSaid : Prop := dirKeepsUptoRow.holds Try.pinned (OpenSpec.upto dirKeepsSpec)

/-- 'shallotlaw09.DirRoutes', WHERE WHAT IT READS IS OF BULK AT MOST 1048576: true; the input reads as it did. -/
def dirRoutesUptoRow : OpenClaim := { program := "ytallecbmnpcepaa", sum := "16288ff022773ecfa86cf254a1c8ef57d83fc2f26aa9c84751df7602479b228d", func := "shallot/shallotlaw09.DirRoutes", spec := "dirRoutes", inPlace := ["math/bits.Add64", "math/bits.Sub64"], apart := false, narrowed := true }
def DirRoutesUptoSaid : Prop := dirRoutesUptoRow.holds Try.pinned (OpenSpec.upto dirRoutesSpec)

end Rows
end Go.Proofs.Ytallecbmnpcepaa
