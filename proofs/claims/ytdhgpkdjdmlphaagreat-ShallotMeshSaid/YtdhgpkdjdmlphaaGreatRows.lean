/-
  No cell of these rows narrows 'for every input' (looked for: loops, veiled, ifaces, maps, wideKeys, modest, calm, conditions, laid).
  DERIVED. THE GIVEN ROWS OF THIS SEAT. 5 by the template 'for every input the law returns true; each argument reads behind the call as it read before'; 0 by the template 'total and deterministic' (their statements: YtdhgpkdjdmlphaaGreatTotals.lean).
  GIVEN WITH THE SEED: the statements are not yours to turn. If you find one false, say at which input.
  Laid BY PROGRAM, IN A SANDBOX (cutbox-rows.mjs): the forced cells as the released guide's own fill.sh prints them over the translation 80506de154bfa391… (all of the seat's roots in one cut). By AI agents, Wed Nov 11 2026. No macro, syntax, notation, axiom, sorry.
-/
import Derived.Test.YtdhgpkdjdmlphaaGreatChecked
import GoSem.Claim
import GoSem.ClaimJoined
import GoSem.ClaimMapViews
import Derived.JoinedTies
import Derived.KernelRfl
namespace Go.Proofs.YtdhgpkdjdmlphaaGreat
/- THE CELL 'sum', in the pinned program and in every row, IS THE sha256 OF THE DUMP (.gsa) THAT YtdhgpkdjdmlphaaGreatProg.lean LOADS. Nothing in Lean hashes anything: it is a label: what it is worth is what the hold of that sum in a sandbox is worth. -/
noncomputable def Tryz.pinned : Pinned := { name := "ytdhgpkdjdmlphaagreat", sum := "80506de154bfa391c567ea025136c49526898256c45c71e1757c8945337620b2", checked := Tryz.checked }
namespace Rows
def none {H : Type} : Left H := { results := [], args := [] }

/-- 'shallottop.ShallotPackets': WHATEVER THE INPUT: true; the input reads as it did. -/
def shallotPacketsSpec : ChangeSpec := { name := "shallotPackets", fn := fun _ => fun
  | [d1, d2, d3] => { results := [.lit (.bool true)], args := [d1, d2, d3] }
  | _ => none }
def shallotPacketsRow : OpenClaim := { program := "ytdhgpkdjdmlphaagreat", sum := "80506de154bfa391c567ea025136c49526898256c45c71e1757c8945337620b2", func := "shallot/shallottop.ShallotPackets", spec := "shallotPackets", inPlace := ["math/bits.Add64", "math/bits.Sub64"], unfollowed := true, recurses := true, plainKeys := false, apart := false }
def ShallotPacketsSaid : Prop := shallotPacketsRow.holds Tryz.pinned (OpenSpec.ofChange shallotPacketsSpec)

/-- ITS FALSE NEIGHBOUR: 'it returns false'. Refute it at one input. -/
def shallotPacketsWrong : ChangeSpec := { name := "shallotPackets", fn := fun _ => fun
  | [d1, d2, d3] => { results := [.lit (.bool false)], args := [d1, d2, d3] }
  | _ => none }
def ShallotPacketsWrongFalsely : Prop := shallotPacketsRow.holds Tryz.pinned (OpenSpec.ofChange shallotPacketsWrong)

/-- 'shallottop.ShallotFlips': WHATEVER THE INPUT: true; the input reads as it did. -/
def shallotFlipsSpec : ChangeSpec := { name := "shallotFlips", fn := fun _ => fun
  | [d1, d2, d3] => { results := [.lit (.bool true)], args := [d1, d2, d3] }
  | _ => none }
def shallotFlipsRow : OpenClaim := { program := "ytdhgpkdjdmlphaagreat", sum := "80506de154bfa391c567ea025136c49526898256c45c71e1757c8945337620b2", func := "shallot/shallottop.ShallotFlips", spec := "shallotFlips", inPlace := ["math/bits.Add64", "math/bits.Sub64"], unfollowed := true, recurses := true, plainKeys := false, apart := false }
def ShallotFlipsSaid : Prop := shallotFlipsRow.holds Tryz.pinned (OpenSpec.ofChange shallotFlipsSpec)

/-- ITS FALSE NEIGHBOUR: 'it returns false'. Refute it at one input. -/
def shallotFlipsWrong : ChangeSpec := { name := "shallotFlips", fn := fun _ => fun
  | [d1, d2, d3] => { results := [.lit (.bool false)], args := [d1, d2, d3] }
  | _ => none }
def ShallotFlipsWrongFalsely : Prop := shallotFlipsRow.holds Tryz.pinned (OpenSpec.ofChange shallotFlipsWrong)

/-- 'shallottop.ShallotPeels': WHATEVER THE INPUT: true; the input reads as it did. -/
def shallotPeelsSpec : ChangeSpec := { name := "shallotPeels", fn := fun _ => fun
  | [d1, d2, d3] => { results := [.lit (.bool true)], args := [d1, d2, d3] }
  | _ => none }
def shallotPeelsRow : OpenClaim := { program := "ytdhgpkdjdmlphaagreat", sum := "80506de154bfa391c567ea025136c49526898256c45c71e1757c8945337620b2", func := "shallot/shallottop.ShallotPeels", spec := "shallotPeels", inPlace := ["math/bits.Add64", "math/bits.Sub64"], unfollowed := true, recurses := true, plainKeys := false, apart := false }
def ShallotPeelsSaid : Prop := shallotPeelsRow.holds Tryz.pinned (OpenSpec.ofChange shallotPeelsSpec)

/-- ITS FALSE NEIGHBOUR: 'it returns false'. Refute it at one input. -/
def shallotPeelsWrong : ChangeSpec := { name := "shallotPeels", fn := fun _ => fun
  | [d1, d2, d3] => { results := [.lit (.bool false)], args := [d1, d2, d3] }
  | _ => none }
def ShallotPeelsWrongFalsely : Prop := shallotPeelsRow.holds Tryz.pinned (OpenSpec.ofChange shallotPeelsWrong)

/-- 'shallottop.ShallotReplies': WHATEVER THE INPUT: true; the input reads as it did. -/
def shallotRepliesSpec : ChangeSpec := { name := "shallotReplies", fn := fun _ => fun
  | [d1, d2, d3] => { results := [.lit (.bool true)], args := [d1, d2, d3] }
  | _ => none }
def shallotRepliesRow : OpenClaim := { program := "ytdhgpkdjdmlphaagreat", sum := "80506de154bfa391c567ea025136c49526898256c45c71e1757c8945337620b2", func := "shallot/shallottop.ShallotReplies", spec := "shallotReplies", inPlace := ["math/bits.Add64", "math/bits.Sub64"], unfollowed := true, recurses := true, plainKeys := false, apart := false }
def ShallotRepliesSaid : Prop := shallotRepliesRow.holds Tryz.pinned (OpenSpec.ofChange shallotRepliesSpec)

/-- ITS FALSE NEIGHBOUR: 'it returns false'. Refute it at one input. -/
def shallotRepliesWrong : ChangeSpec := { name := "shallotReplies", fn := fun _ => fun
  | [d1, d2, d3] => { results := [.lit (.bool false)], args := [d1, d2, d3] }
  | _ => none }
def ShallotRepliesWrongFalsely : Prop := shallotRepliesRow.holds Tryz.pinned (OpenSpec.ofChange shallotRepliesWrong)

/-- 'shallottop.ShallotMesh': WHATEVER THE INPUT: true; the input reads as it did. -/
def shallotMeshSpec : ChangeSpec := { name := "shallotMesh", fn := fun _ => fun
  | [d1, d2, d3] => { results := [.lit (.bool true)], args := [d1, d2, d3] }
  | _ => none }
def shallotMeshRow : OpenClaim := { program := "ytdhgpkdjdmlphaagreat", sum := "80506de154bfa391c567ea025136c49526898256c45c71e1757c8945337620b2", func := "shallot/shallottop.ShallotMesh", spec := "shallotMesh", inPlace := ["math/bits.Add64", "math/bits.Sub64"], unfollowed := true, recurses := true, plainKeys := false, apart := false }
def ShallotMeshSaid : Prop := shallotMeshRow.holds Tryz.pinned (OpenSpec.ofChange shallotMeshSpec)

/-- ITS FALSE NEIGHBOUR: 'it returns false'. Refute it at one input. -/
def shallotMeshWrong : ChangeSpec := { name := "shallotMesh", fn := fun _ => fun
  | [d1, d2, d3] => { results := [.lit (.bool false)], args := [d1, d2, d3] }
  | _ => none }
def ShallotMeshWrongFalsely : Prop := shallotMeshRow.holds Tryz.pinned (OpenSpec.ofChange shallotMeshWrong)

/- THE SECOND FORM. 'bulk': how many values and letters a reading holds, each counted each time it is reached (what is shared counts as often as it is met; a slice's spare places count too). A statement '..UptoSaid' is the law's where the arguments, and the package variables that the reading takes, are together of bulk at most 1048576: NARROWER than '..Said'. Prove '..Said' where nothing that the law and all that it calls make is longer than what came in: it says more and counts as full. Else prove '..UptoSaid'. A law counts once. -/
mutual
def uptoBulk {H : Type} : DataW H → Nat
  | .lit (.string bytes) => bytes.length + 1
  | .lit _ => 1
  | .nil => 1
  | .ptr d => uptoBulk d + 1
  | .slice elems spare => uptoBulkAll elems + uptoBulkAll spare + 1
  | .agg parts => uptoBulkAll parts + 1
  | .iface _ d => uptoBulk d + 1
  | .map entries => uptoBulkEntries entries + 1
  | .held _ => 1
def uptoBulkAll {H : Type} : List (DataW H) → Nat
  | [] => 0
  | d :: r => uptoBulk d + uptoBulkAll r
def uptoBulkEntries {H : Type} : List (Lit × DataW H) → Nat
  | [] => 0
  | x :: r => uptoBulkEntry x + uptoBulkEntries r
def uptoBulkEntry {H : Type} : Lit × DataW H → Nat
  | (.string bytes, d) => bytes.length + uptoBulk d + 1
  | (_, d) => uptoBulk d + 1
 end
def uptoSmall : (H : Type) → List (DataW H) → Bool := fun _ ds => decide (uptoBulkAll ds ≤ 1048576)
def OpenSpec.upto (s : _root_.Go.ChangeSpec) : _root_.Go.OpenSpec := { _root_.Go.OpenSpec.ofChange s with cond := some uptoSmall }

/-- 'shallottop.ShallotPackets', WHERE WHAT IT READS IS OF BULK AT MOST 1048576: true; the input reads as it did. -/
def shallotPacketsUptoRow : OpenClaim := { program := "ytdhgpkdjdmlphaagreat", sum := "80506de154bfa391c567ea025136c49526898256c45c71e1757c8945337620b2", func := "shallot/shallottop.ShallotPackets", spec := "shallotPackets", inPlace := ["math/bits.Add64", "math/bits.Sub64"], unfollowed := true, recurses := true, plainKeys := false, apart := false, narrowed := true }
def ShallotPacketsUptoSaid : Prop := shallotPacketsUptoRow.holds Tryz.pinned (OpenSpec.upto shallotPacketsSpec)

/-- 'shallottop.ShallotFlips', WHERE WHAT IT READS IS OF BULK AT MOST 1048576: true; the input reads as it did. -/
def shallotFlipsUptoRow : OpenClaim := { program := "ytdhgpkdjdmlphaagreat", sum := "80506de154bfa391c567ea025136c49526898256c45c71e1757c8945337620b2", func := "shallot/shallottop.ShallotFlips", spec := "shallotFlips", inPlace := ["math/bits.Add64", "math/bits.Sub64"], unfollowed := true, recurses := true, plainKeys := false, apart := false, narrowed := true }
def ShallotFlipsUptoSaid : Prop := shallotFlipsUptoRow.holds Tryz.pinned (OpenSpec.upto shallotFlipsSpec)

/-- 'shallottop.ShallotPeels', WHERE WHAT IT READS IS OF BULK AT MOST 1048576: true; the input reads as it did. -/
def shallotPeelsUptoRow : OpenClaim := { program := "ytdhgpkdjdmlphaagreat", sum := "80506de154bfa391c567ea025136c49526898256c45c71e1757c8945337620b2", func := "shallot/shallottop.ShallotPeels", spec := "shallotPeels", inPlace := ["math/bits.Add64", "math/bits.Sub64"], unfollowed := true, recurses := true, plainKeys := false, apart := false, narrowed := true }
def ShallotPeelsUptoSaid : Prop := shallotPeelsUptoRow.holds Tryz.pinned (OpenSpec.upto shallotPeelsSpec)

/-- 'shallottop.ShallotReplies', WHERE WHAT IT READS IS OF BULK AT MOST 1048576: true; the input reads as it did. -/
def shallotRepliesUptoRow : OpenClaim := { program := "ytdhgpkdjdmlphaagreat", sum := "80506de154bfa391c567ea025136c49526898256c45c71e1757c8945337620b2", func := "shallot/shallottop.ShallotReplies", spec := "shallotReplies", inPlace := ["math/bits.Add64", "math/bits.Sub64"], unfollowed := true, recurses := true, plainKeys := false, apart := false, narrowed := true }
def ShallotRepliesUptoSaid : Prop := shallotRepliesUptoRow.holds Tryz.pinned (OpenSpec.upto shallotRepliesSpec)

/-- 'shallottop.ShallotMesh', WHERE WHAT IT READS IS OF BULK AT MOST 1048576: true; the input reads as it did. -/
def shallotMeshUptoRow : OpenClaim := { program := "ytdhgpkdjdmlphaagreat", sum := "80506de154bfa391c567ea025136c49526898256c45c71e1757c8945337620b2", func := "shallot/shallottop.ShallotMesh", spec := "shallotMesh", inPlace := ["math/bits.Add64", "math/bits.Sub64"], unfollowed := true, recurses := true, plainKeys := false, apart := false, narrowed := true }
def ShallotMeshUptoSaid : Prop := shallotMeshUptoRow.holds Tryz.pinned (OpenSpec.upto shallotMeshSpec)

end Rows
end Go.Proofs.YtdhgpkdjdmlphaaGreat
