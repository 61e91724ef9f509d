/-
  No cell of these rows narrows 'for every input' (looked for: loops, veiled, ifaces, maps, wideKeys, modest, calm, conditions, laid).
  DERIVED. THE GIVEN ROWS OF THIS SEAT. 7 by the template 'for every input the law returns true; each argument reads behind the call as it read before'; 0 by the template 'total and deterministic' (their statements: YtdojjnbpidogfaaGreatTotals.lean).
  GIVEN WITH THE SEED: the statements are not yours to turn. If you find one false, say at which input.
  Laid BY PROGRAM, IN A SANDBOX (cutbox-rows.mjs): the forced cells as the released guide's own fill.sh prints them over the translation f6f5ab776f7c85d6… (all of the seat's roots in one cut). By AI agents, Wed Nov 11 2026. No macro, syntax, notation, axiom, sorry.
-/
import Derived.Test.YtdojjnbpidogfaaGreatChecked
import GoSem.Claim
import GoSem.ClaimJoined
import GoSem.ClaimMapViews
import Derived.JoinedTies
import Derived.KernelRfl
namespace Go.Proofs.YtdojjnbpidogfaaGreat
/- THE CELL 'sum', in the pinned program and in every row, IS THE sha256 OF THE DUMP (.gsa) THAT YtdojjnbpidogfaaGreatProg.lean LOADS. Nothing in Lean hashes anything: it is a label: what it is worth is what the hold of that sum in a sandbox is worth. -/
noncomputable def Tryz.pinned : Pinned := { name := "ytdojjnbpidogfaagreat", sum := "f6f5ab776f7c85d62695e2bb626e99292f7f8856ef7fad5f036c17c45131d135", checked := Tryz.checked }
namespace Rows
def none {H : Type} : Left H := { results := [], args := [] }

/-- 'shallotlaw15.RelayFlips': WHATEVER THE INPUT: true; the input reads as it did. -/
def relayFlipsSpec : ChangeSpec := { name := "relayFlips", fn := fun _ => fun
  | [d1, d2, d3] => { results := [.lit (.bool true)], args := [d1, d2, d3] }
  | _ => none }
def relayFlipsRow : OpenClaim := { program := "ytdojjnbpidogfaagreat", sum := "f6f5ab776f7c85d62695e2bb626e99292f7f8856ef7fad5f036c17c45131d135", func := "shallot/shallotlaw15.RelayFlips", spec := "relayFlips", inPlace := ["math/bits.Add64", "math/bits.Sub64"], apart := false }
def RelayFlipsSaid : Prop := relayFlipsRow.holds Tryz.pinned (OpenSpec.ofChange relayFlipsSpec)

/-- ITS FALSE NEIGHBOUR: 'it returns false'. Refute it at one input. -/
def relayFlipsWrong : ChangeSpec := { name := "relayFlips", fn := fun _ => fun
  | [d1, d2, d3] => { results := [.lit (.bool false)], args := [d1, d2, d3] }
  | _ => none }
def RelayFlipsWrongFalsely : Prop := relayFlipsRow.holds Tryz.pinned (OpenSpec.ofChange relayFlipsWrong)

/-- 'shallotlaw15.RelayUnwraps': WHATEVER THE INPUT: true; the input reads as it did. -/
def relayUnwrapsSpec : ChangeSpec := { name := "relayUnwraps", fn := fun _ => fun
  | [d1, d2] => { results := [.lit (.bool true)], args := [d1, d2] }
  | _ => none }
def relayUnwrapsRow : OpenClaim := { program := "ytdojjnbpidogfaagreat", sum := "f6f5ab776f7c85d62695e2bb626e99292f7f8856ef7fad5f036c17c45131d135", func := "shallot/shallotlaw15.RelayUnwraps", spec := "relayUnwraps", inPlace := ["math/bits.Add64", "math/bits.Sub64"], apart := false }
def RelayUnwrapsSaid : Prop := relayUnwrapsRow.holds Tryz.pinned (OpenSpec.ofChange relayUnwrapsSpec)

/-- ITS FALSE NEIGHBOUR: 'it returns false'. Refute it at one input. -/
def relayUnwrapsWrong : ChangeSpec := { name := "relayUnwraps", fn := fun _ => fun
  | [d1, d2] => { results := [.lit (.bool false)], args := [d1, d2] }
  | _ => none }
def RelayUnwrapsWrongFalsely : Prop := relayUnwrapsRow.holds Tryz.pinned (OpenSpec.ofChange relayUnwrapsWrong)

/-- 'shallotlaw15.RelayPeels': WHATEVER THE INPUT: true; the input reads as it did. -/
def relayPeelsSpec : ChangeSpec := { name := "relayPeels", fn := fun _ => fun
  | [d1, d2] => { results := [.lit (.bool true)], args := [d1, d2] }
  | _ => none }
def relayPeelsRow : OpenClaim := { program := "ytdojjnbpidogfaagreat", sum := "f6f5ab776f7c85d62695e2bb626e99292f7f8856ef7fad5f036c17c45131d135", func := "shallot/shallotlaw15.RelayPeels", spec := "relayPeels", inPlace := ["math/bits.Add64", "math/bits.Sub64"], apart := false }
def RelayPeelsSaid : Prop := relayPeelsRow.holds Tryz.pinned (OpenSpec.ofChange relayPeelsSpec)

/-- ITS FALSE NEIGHBOUR: 'it returns false'. Refute it at one input. -/
def relayPeelsWrong : ChangeSpec := { name := "relayPeels", fn := fun _ => fun
  | [d1, d2] => { results := [.lit (.bool false)], args := [d1, d2] }
  | _ => none }
def RelayPeelsWrongFalsely : Prop := relayPeelsRow.holds Tryz.pinned (OpenSpec.ofChange relayPeelsWrong)

/-- 'shallotlaw15.RelayOnce': WHATEVER THE INPUT: true; the input reads as it did. -/
def relayOnceSpec : ChangeSpec := { name := "relayOnce", fn := fun _ => fun
  | [d1, d2, d3] => { results := [.lit (.bool true)], args := [d1, d2, d3] }
  | _ => none }
def relayOnceRow : OpenClaim := { program := "ytdojjnbpidogfaagreat", sum := "f6f5ab776f7c85d62695e2bb626e99292f7f8856ef7fad5f036c17c45131d135", func := "shallot/shallotlaw15.RelayOnce", spec := "relayOnce", inPlace := ["math/bits.Add64", "math/bits.Sub64"], apart := false }
def RelayOnceSaid : Prop := relayOnceRow.holds Tryz.pinned (OpenSpec.ofChange relayOnceSpec)

/-- ITS FALSE NEIGHBOUR: 'it returns false'. Refute it at one input. -/
def relayOnceWrong : ChangeSpec := { name := "relayOnce", fn := fun _ => fun
  | [d1, d2, d3] => { results := [.lit (.bool false)], args := [d1, d2, d3] }
  | _ => none }
def RelayOnceWrongFalsely : Prop := relayOnceRow.holds Tryz.pinned (OpenSpec.ofChange relayOnceWrong)

/-- 'shallotlaw15.RelayReceives': WHATEVER THE INPUT: true; the input reads as it did. -/
def relayReceivesSpec : ChangeSpec := { name := "relayReceives", fn := fun _ => fun
  | [d1, d2] => { results := [.lit (.bool true)], args := [d1, d2] }
  | _ => none }
def relayReceivesRow : OpenClaim := { program := "ytdojjnbpidogfaagreat", sum := "f6f5ab776f7c85d62695e2bb626e99292f7f8856ef7fad5f036c17c45131d135", func := "shallot/shallotlaw15.RelayReceives", spec := "relayReceives", inPlace := ["math/bits.Add64", "math/bits.Sub64"], apart := false }
def RelayReceivesSaid : Prop := relayReceivesRow.holds Tryz.pinned (OpenSpec.ofChange relayReceivesSpec)

/-- ITS FALSE NEIGHBOUR: 'it returns false'. Refute it at one input. -/
def relayReceivesWrong : ChangeSpec := { name := "relayReceives", fn := fun _ => fun
  | [d1, d2] => { results := [.lit (.bool false)], args := [d1, d2] }
  | _ => none }
def RelayReceivesWrongFalsely : Prop := relayReceivesRow.holds Tryz.pinned (OpenSpec.ofChange relayReceivesWrong)

/-- 'shallotlaw15.RelayKeeps': WHATEVER THE INPUT: true; the input reads as it did. -/
def relayKeepsSpec : ChangeSpec := { name := "relayKeeps", fn := fun _ => fun
  | [d1, d2] => { results := [.lit (.bool true)], args := [d1, d2] }
  | _ => none }
def relayKeepsRow : OpenClaim := { program := "ytdojjnbpidogfaagreat", sum := "f6f5ab776f7c85d62695e2bb626e99292f7f8856ef7fad5f036c17c45131d135", func := "shallot/shallotlaw15.RelayKeeps", spec := "relayKeeps", inPlace := ["math/bits.Add64", "math/bits.Sub64"], apart := false }
def RelayKeepsSaid : Prop := relayKeepsRow.holds Tryz.pinned (OpenSpec.ofChange relayKeepsSpec)

/-- ITS FALSE NEIGHBOUR: 'it returns false'. Refute it at one input. -/
def relayKeepsWrong : ChangeSpec := { name := "relayKeeps", fn := fun _ => fun
  | [d1, d2] => { results := [.lit (.bool false)], args := [d1, d2] }
  | _ => none }
def RelayKeepsWrongFalsely : Prop := relayKeepsRow.holds Tryz.pinned (OpenSpec.ofChange relayKeepsWrong)

/-- 'shallotlaw15.RelayArrives': WHATEVER THE INPUT: true; the input reads as it did. -/
def relayArrivesSpec : ChangeSpec := { name := "relayArrives", fn := fun _ => fun
  | [d1, d2, d3] => { results := [.lit (.bool true)], args := [d1, d2, d3] }
  | _ => none }
def relayArrivesRow : OpenClaim := { program := "ytdojjnbpidogfaagreat", sum := "f6f5ab776f7c85d62695e2bb626e99292f7f8856ef7fad5f036c17c45131d135", func := "shallot/shallotlaw15.RelayArrives", spec := "relayArrives", inPlace := ["math/bits.Add64", "math/bits.Sub64"], apart := false }
def RelayArrivesSaid : Prop := relayArrivesRow.holds Tryz.pinned (OpenSpec.ofChange relayArrivesSpec)

/-- ITS FALSE NEIGHBOUR: 'it returns false'. Refute it at one input. -/
def relayArrivesWrong : ChangeSpec := { name := "relayArrives", fn := fun _ => fun
  | [d1, d2, d3] => { results := [.lit (.bool false)], args := [d1, d2, d3] }
  | _ => none }
def RelayArrivesWrongFalsely : Prop := relayArrivesRow.holds Tryz.pinned (OpenSpec.ofChange relayArrivesWrong)

/- THE SECOND FORM. 'bulk': how many values and letters a reading holds, each counted each time it is reached (what is shared counts as often as it is met; a slice's spare places count too). A statement '..UptoSaid' is the law's where the arguments, and the package variables that the reading takes, are together of bulk at most 1048576: NARROWER than '..Said'. Prove '..Said' where nothing that the law and all that it calls make is longer than what came in: it says more and counts as full. Else prove '..UptoSaid'. A law counts once. -/
mutual
def uptoBulk {H : Type} : DataW H → Nat
  | .lit (.string bytes) => bytes.length + 1
  | .lit _ => 1
  | .nil => 1
  | .ptr d => uptoBulk d + 1
  | .slice elems spare => uptoBulkAll elems + uptoBulkAll spare + 1
  | .agg parts => uptoBulkAll parts + 1
  | .iface _ d => uptoBulk d + 1
  | .map entries => uptoBulkEntries entries + 1
  | .held _ => 1
def uptoBulkAll {H : Type} : List (DataW H) → Nat
  | [] => 0
  | d :: r => uptoBulk d + uptoBulkAll r
def uptoBulkEntries {H : Type} : List (Lit × DataW H) → Nat
  | [] => 0
  | x :: r => uptoBulkEntry x + uptoBulkEntries r
def uptoBulkEntry {H : Type} : Lit × DataW H → Nat
  | (.string bytes, d) => bytes.length + uptoBulk d + 1
  | (_, d) => uptoBulk d + 1
 end
def uptoSmall : (H : Type) → List (DataW H) → Bool := fun _ ds => decide (uptoBulkAll ds ≤ 1048576)
def OpenSpec.upto (s : _root_.Go.ChangeSpec) : _root_.Go.OpenSpec := { _root_.Go.OpenSpec.ofChange s with cond := some uptoSmall }

/-- 'shallotlaw15.RelayFlips', WHERE WHAT IT READS IS OF BULK AT MOST 1048576: true; the input reads as it did. -/
def relayFlipsUptoRow : OpenClaim := { program := "ytdojjnbpidogfaagreat", sum := "f6f5ab776f7c85d62695e2bb626e99292f7f8856ef7fad5f036c17c45131d135", func := "shallot/shallotlaw15.RelayFlips", spec := "relayFlips", inPlace := ["math/bits.Add64", "math/bits.Sub64"], apart := false, narrowed := true }
def RelayFlipsUptoSaid : Prop := relayFlipsUptoRow.holds Tryz.pinned (OpenSpec.upto relayFlipsSpec)

/-- 'shallotlaw15.RelayUnwraps', WHERE WHAT IT READS IS OF BULK AT MOST 1048576: true; the input reads as it did. -/
def relayUnwrapsUptoRow : OpenClaim := { program := "ytdojjnbpidogfaagreat", sum := "f6f5ab776f7c85d62695e2bb626e99292f7f8856ef7fad5f036c17c45131d135", func := "shallot/shallotlaw15.RelayUnwraps", spec := "relayUnwraps", inPlace := ["math/bits.Add64", "math/bits.Sub64"], apart := false, narrowed := true }
def RelayUnwrapsUptoSaid : Prop := relayUnwrapsUptoRow.holds Tryz.pinned (OpenSpec.upto relayUnwrapsSpec)

/-- 'shallotlaw15.RelayPeels', WHERE WHAT IT READS IS OF BULK AT MOST 1048576: true; the input reads as it did. -/
def relayPeelsUptoRow : OpenClaim := { program := "ytdojjnbpidogfaagreat", sum := "f6f5ab776f7c85d62695e2bb626e99292f7f8856ef7fad5f036c17c45131d135", func := "shallot/shallotlaw15.RelayPeels", spec := "relayPeels", inPlace := ["math/bits.Add64", "math/bits.Sub64"], apart := false, narrowed := true }
def RelayPeelsUptoSaid : Prop := relayPeelsUptoRow.holds Tryz.pinned (OpenSpec.upto relayPeelsSpec)

/-- 'shallotlaw15.RelayOnce', WHERE WHAT IT READS IS OF BULK AT MOST 1048576: true; the input reads as it did. -/
def relayOnceUptoRow : OpenClaim := { program := "ytdojjnbpidogfaagreat", sum := "f6f5ab776f7c85d62695e2bb626e99292f7f8856ef7fad5f036c17c45131d135", func := "shallot/shallotlaw15.RelayOnce", spec := "relayOnce", inPlace := ["math/bits.Add64", "math/bits.Sub64"], apart := false, narrowed := true }
def RelayOnceUptoSaid : Prop := relayOnceUptoRow.holds Tryz.pinned (OpenSpec.upto relayOnceSpec)

/-- 'shallotlaw15.RelayReceives', WHERE WHAT IT READS IS OF BULK AT MOST 1048576: true; the input reads as it did. -/
def relayReceivesUptoRow : OpenClaim := { program := "ytdojjnbpidogfaagreat", sum := "f6f5ab776f7c85d62695e2bb626e99292f7f8856ef7fad5f036c17c45131d135", func := "shallot/shallotlaw15.RelayReceives", spec := "relayReceives", inPlace := ["math/bits.Add64", "math/bits.Sub64"], apart := false, narrowed := true }
def RelayReceivesUptoSaid : Prop := relayReceivesUptoRow.holds Tryz.pinned (OpenSpec.upto relayReceivesSpec)

/-- 'shallotlaw15.RelayKeeps', WHERE WHAT IT READS IS OF BULK AT MOST 1048576: true; the input reads as it did. -/
def relayKeepsUptoRow : OpenClaim := { program := "ytdojjnbpidogfaagreat", sum := "f6f5ab776f7c85d62695e2bb626e99292f7f8856ef7fad5f036c17c45131d135", func := "shallot/shallotlaw15.RelayKeeps", spec := "relayKeeps", inPlace := ["math/bits.Add64", "math/bits.Sub64"], apart := false, narrowed := true }
def RelayKeepsUptoSaid : Prop := relayKeepsUptoRow.holds Tryz.pinned (OpenSpec.upto relayKeepsSpec)

/-- 'shallotlaw15.RelayArrives', WHERE WHAT IT READS IS OF BULK AT MOST 1048576: true; the input reads as it did. -/
def relayArrivesUptoRow : OpenClaim := { program := "ytdojjnbpidogfaagreat", sum := "f6f5ab776f7c85d62695e2bb626e99292f7f8856ef7fad5f036c17c45131d135", func := "shallot/shallotlaw15.RelayArrives", spec := "relayArrives", inPlace := ["math/bits.Add64", "math/bits.Sub64"], apart := false, narrowed := true }
def RelayArrivesUptoSaid : Prop := relayArrivesUptoRow.holds Tryz.pinned (OpenSpec.upto relayArrivesSpec)

end Rows
end Go.Proofs.YtdojjnbpidogfaaGreat
