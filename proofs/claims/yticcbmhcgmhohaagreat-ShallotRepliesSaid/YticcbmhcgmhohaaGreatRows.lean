/-
  No cell of these rows narrows 'for every input' (looked for: loops, veiled, ifaces, maps, wideKeys, modest, calm, conditions, laid).
  DERIVED. THE GIVEN ROWS OF THIS SEAT. 3 by the template 'for every input the law returns true; each argument reads behind the call as it read before'; 0 by the template 'total and deterministic' (their statements: YticcbmhcgmhohaaGreatTotals.lean).
  GIVEN WITH THE SEED: the statements are not yours to turn. If you find one false, say at which input.
  Laid BY PROGRAM, IN A SANDBOX (cutbox-rows.mjs): the forced cells as the released guide's own fill.sh prints them over the translation c0b569fe012c4901… (all of the seat's roots in one cut). By AI agents, Wed Nov 11 2026. No macro, syntax, notation, axiom, sorry.
-/
import Derived.Test.YticcbmhcgmhohaaGreatChecked
import GoSem.Claim
import GoSem.ClaimJoined
import GoSem.ClaimMapViews
import Derived.JoinedTies
import Derived.KernelRfl
namespace Go.Proofs.YticcbmhcgmhohaaGreat
/- THE CELL 'sum', in the pinned program and in every row, IS THE sha256 OF THE DUMP (.gsa) THAT YticcbmhcgmhohaaGreatProg.lean LOADS. Nothing in Lean hashes anything: it is a label: what it is worth is what the hold of that sum in a sandbox is worth. -/
noncomputable def Tryz.pinned : Pinned := { name := "yticcbmhcgmhohaagreat", sum := "c0b569fe012c4901ad52dabed6a65b8a53f28f1471c4106df9aac1d9e710a832", checked := Tryz.checked }
namespace Rows
def none {H : Type} : Left H := { results := [], args := [] }

/-- 'shallottop.ShallotReplies': WHATEVER THE INPUT: true; the input reads as it did. -/
def shallotRepliesSpec : ChangeSpec := { name := "shallotReplies", fn := fun _ => fun
  | [d1, d2, d3] => { results := [.lit (.bool true)], args := [d1, d2, d3] }
  | _ => none }
def shallotRepliesRow : OpenClaim := { program := "yticcbmhcgmhohaagreat", sum := "c0b569fe012c4901ad52dabed6a65b8a53f28f1471c4106df9aac1d9e710a832", func := "shallot/shallottop.ShallotReplies", spec := "shallotReplies", inPlace := ["math/bits.Add64", "math/bits.Sub64"], unfollowed := true, recurses := true, apart := false }
def ShallotRepliesSaid : Prop := shallotRepliesRow.holds Tryz.pinned (OpenSpec.ofChange shallotRepliesSpec)

/-- ITS FALSE NEIGHBOUR: 'it returns false'. Refute it at one input. -/
def shallotRepliesWrong : ChangeSpec := { name := "shallotReplies", fn := fun _ => fun
  | [d1, d2, d3] => { results := [.lit (.bool false)], args := [d1, d2, d3] }
  | _ => none }
def ShallotRepliesWrongFalsely : Prop := shallotRepliesRow.holds Tryz.pinned (OpenSpec.ofChange shallotRepliesWrong)

/-- 'shallottop.ShallotMachine': WHATEVER THE INPUT: true; the input reads as it did. -/
def shallotMachineSpec : ChangeSpec := { name := "shallotMachine", fn := fun _ => fun
  | [d1, d2] => { results := [.lit (.bool true)], args := [d1, d2] }
  | _ => none }
def shallotMachineRow : OpenClaim := { program := "yticcbmhcgmhohaagreat", sum := "c0b569fe012c4901ad52dabed6a65b8a53f28f1471c4106df9aac1d9e710a832", func := "shallot/shallottop.ShallotMachine", spec := "shallotMachine", inPlace := ["math/bits.Add64", "math/bits.Sub64"], unfollowed := true, recurses := true, apart := false }
def ShallotMachineSaid : Prop := shallotMachineRow.holds Tryz.pinned (OpenSpec.ofChange shallotMachineSpec)

/-- ITS FALSE NEIGHBOUR: 'it returns false'. Refute it at one input. -/
def shallotMachineWrong : ChangeSpec := { name := "shallotMachine", fn := fun _ => fun
  | [d1, d2] => { results := [.lit (.bool false)], args := [d1, d2] }
  | _ => none }
def ShallotMachineWrongFalsely : Prop := shallotMachineRow.holds Tryz.pinned (OpenSpec.ofChange shallotMachineWrong)

/-- 'shallottop.ShallotMeant': WHATEVER THE INPUT: true; the input reads as it did. -/
def shallotMeantSpec : ChangeSpec := { name := "shallotMeant", fn := fun _ => fun
  | [d] => { results := [.lit (.bool true)], args := [d] }
  | _ => none }
def shallotMeantRow : OpenClaim := { program := "yticcbmhcgmhohaagreat", sum := "c0b569fe012c4901ad52dabed6a65b8a53f28f1471c4106df9aac1d9e710a832", func := "shallot/shallottop.ShallotMeant", spec := "shallotMeant", inPlace := ["internal/bytealg.IndexByteString", "math/bits.Add64", "math/bits.Sub64"], unfollowed := true, recurses := true, apart := false }
def ShallotMeantSaid : Prop := shallotMeantRow.holds Tryz.pinned (OpenSpec.ofChange shallotMeantSpec)

/-- ITS FALSE NEIGHBOUR: 'it returns false'. Refute it at one input. -/
def shallotMeantWrong : ChangeSpec := { name := "shallotMeant", fn := fun _ => fun
  | [d] => { results := [.lit (.bool false)], args := [d] }
  | _ => none }
def ShallotMeantWrongFalsely : Prop := shallotMeantRow.holds Tryz.pinned (OpenSpec.ofChange shallotMeantWrong)

/- THE SECOND FORM. 'bulk': how many values and letters a reading holds, each counted each time it is reached (what is shared counts as often as it is met; a slice's spare places count too). A statement '..UptoSaid' is the law's where the arguments, and the package variables that the reading takes, are together of bulk at most 1048576: NARROWER than '..Said'. Prove '..Said' where nothing that the law and all that it calls make is longer than what came in: it says more and counts as full. Else prove '..UptoSaid'. A law counts once. -/
mutual
def uptoBulk {H : Type} : DataW H → Nat
  | .lit (.string bytes) => bytes.length + 1
  | .lit _ => 1
  | .nil => 1
  | .ptr d => uptoBulk d + 1
  | .slice elems spare => uptoBulkAll elems + uptoBulkAll spare + 1
  | .agg parts => uptoBulkAll parts + 1
  | .iface _ d => uptoBulk d + 1
  | .map entries => uptoBulkEntries entries + 1
  | .held _ => 1
def uptoBulkAll {H : Type} : List (DataW H) → Nat
  | [] => 0
  | d :: r => uptoBulk d + uptoBulkAll r
def uptoBulkEntries {H : Type} : List (Lit × DataW H) → Nat
  | [] => 0
  | x :: r => uptoBulkEntry x + uptoBulkEntries r
def uptoBulkEntry {H : Type} : Lit × DataW H → Nat
  | (.string bytes, d) => bytes.length + uptoBulk d + 1
  | (_, d) => uptoBulk d + 1
 end
def uptoSmall : (H : Type) → List (DataW H) → Bool := fun _ ds => decide (uptoBulkAll ds ≤ 1048576)
def OpenSpec.upto (s : _root_.Go.ChangeSpec) : _root_.Go.OpenSpec := { _root_.Go.OpenSpec.ofChange s with cond := some uptoSmall }

/-- 'shallottop.ShallotReplies', WHERE WHAT IT READS IS OF BULK AT MOST 1048576: true; the input reads as it did. -/
def shallotRepliesUptoRow : OpenClaim := { program := "yticcbmhcgmhohaagreat", sum := "c0b569fe012c4901ad52dabed6a65b8a53f28f1471c4106df9aac1d9e710a832", func := "shallot/shallottop.ShallotReplies", spec := "shallotReplies", inPlace := ["math/bits.Add64", "math/bits.Sub64"], unfollowed := true, recurses := true, apart := false, narrowed := true }
def ShallotRepliesUptoSaid : Prop := shallotRepliesUptoRow.holds Tryz.pinned (OpenSpec.upto shallotRepliesSpec)

/-- 'shallottop.ShallotMachine', WHERE WHAT IT READS IS OF BULK AT MOST 1048576: true; the input reads as it did. -/
def shallotMachineUptoRow : OpenClaim := { program := "yticcbmhcgmhohaagreat", sum := "c0b569fe012c4901ad52dabed6a65b8a53f28f1471c4106df9aac1d9e710a832", func := "shallot/shallottop.ShallotMachine", spec := "shallotMachine", inPlace := ["math/bits.Add64", "math/bits.Sub64"], unfollowed := true, recurses := true, apart := false, narrowed := true }
def ShallotMachineUptoSaid : Prop := shallotMachineUptoRow.holds Tryz.pinned (OpenSpec.upto shallotMachineSpec)

/-- 'shallottop.ShallotMeant', WHERE WHAT IT READS IS OF BULK AT MOST 1048576: true; the input reads as it did. -/
def shallotMeantUptoRow : OpenClaim := { program := "yticcbmhcgmhohaagreat", sum := "c0b569fe012c4901ad52dabed6a65b8a53f28f1471c4106df9aac1d9e710a832", func := "shallot/shallottop.ShallotMeant", spec := "shallotMeant", inPlace := ["internal/bytealg.IndexByteString", "math/bits.Add64", "math/bits.Sub64"], unfollowed := true, recurses := true, apart := false, narrowed := true }
def ShallotMeantUptoSaid : Prop := shallotMeantUptoRow.holds Tryz.pinned (OpenSpec.upto shallotMeantSpec)

end Rows
end Go.Proofs.YticcbmhcgmhohaaGreat
