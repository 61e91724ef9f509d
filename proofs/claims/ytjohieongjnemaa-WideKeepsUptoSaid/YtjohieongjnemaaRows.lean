/-
  No cell of these rows narrows 'for every input' (looked for: loops, veiled, ifaces, maps, wideKeys, modest, calm, conditions, laid).
  DERIVED. THE GIVEN ROWS OF THIS SEAT. 9 by the template 'for every input the law returns true; each argument reads behind the call as it read before'; 0 by the template 'total and deterministic' (their statements: YtjohieongjnemaaTotals.lean).
  GIVEN WITH THE SEED: the statements are not yours to turn. If you find one false, say at which input.
  Laid BY PROGRAM, IN A SANDBOX (cutbox-rows.mjs): the forced cells as the released guide's own fill.sh prints them over the translation b649bfdbb96deb8e… (all of the seat's roots in one cut). By AI agents, Wed Nov 11 2026. No macro, syntax, notation, axiom, sorry.
-/
import Derived.Test.YtjohieongjnemaaChecked
import GoSem.Claim
import GoSem.ClaimJoined
import GoSem.ClaimMapViews
import Derived.JoinedTies
import Derived.KernelRfl
namespace Go.Proofs.Ytjohieongjnemaa
/- THE CELL 'sum', in the pinned program and in every row, IS THE sha256 OF THE DUMP (.gsa) THAT YtjohieongjnemaaProg.lean LOADS. Nothing in Lean hashes anything: it is a label: what it is worth is what the hold of that sum in a sandbox is worth. -/
noncomputable def Try.pinned : Pinned := { name := "ytjohieongjnemaa", sum := "b649bfdbb96deb8e3e64e6f0cf325f305215c96cf1af39b7b1092c800bb1d7d4", checked := Try.checked }
namespace Rows
def none {H : Type} : Left H := { results := [], args := [] }

/-- 'shallotlaw07.WideRounds': WHATEVER THE INPUT: true; the input reads as it did. -/
def wideRoundsSpec : ChangeSpec := { name := "wideRounds", fn := fun _ => fun
  | [d1, d2, d3] => { results := [.lit (.bool true)], args := [d1, d2, d3] }
  | _ => none }
def wideRoundsRow : OpenClaim := { program := "ytjohieongjnemaa", sum := "b649bfdbb96deb8e3e64e6f0cf325f305215c96cf1af39b7b1092c800bb1d7d4", func := "shallot/shallotlaw07.WideRounds", spec := "wideRounds", apart := false }
def WideRoundsSaid : Prop := wideRoundsRow.holds Try.pinned (OpenSpec.ofChange wideRoundsSpec)

/-- ITS FALSE NEIGHBOUR: 'it returns false'. Refute it at one input. -/
def wideRoundsWrong : ChangeSpec := { name := "wideRounds", fn := fun _ => fun
  | [d1, d2, d3] => { results := [.lit (.bool false)], args := [d1, d2, d3] }
  | _ => none }
def WideRoundsWrongFalsely : Prop := wideRoundsRow.holds Try.pinned (OpenSpec.ofChange wideRoundsWrong)

/-- 'shallotlaw07.WideSeals': WHATEVER THE INPUT: true; the input reads as it did. -/
def wideSealsSpec : ChangeSpec := { name := "wideSeals", fn := fun _ => fun
  | [d1, d2] => { results := [.lit (.bool true)], args := [d1, d2] }
  | _ => none }
def wideSealsRow : OpenClaim := { program := "ytjohieongjnemaa", sum := "b649bfdbb96deb8e3e64e6f0cf325f305215c96cf1af39b7b1092c800bb1d7d4", func := "shallot/shallotlaw07.WideSeals", spec := "wideSeals", apart := false }
def WideSealsSaid : Prop := wideSealsRow.holds Try.pinned (OpenSpec.ofChange wideSealsSpec)

/-- ITS FALSE NEIGHBOUR: 'it returns false'. Refute it at one input. -/
def wideSealsWrong : ChangeSpec := { name := "wideSeals", fn := fun _ => fun
  | [d1, d2] => { results := [.lit (.bool false)], args := [d1, d2] }
  | _ => none }
def WideSealsWrongFalsely : Prop := wideSealsRow.holds Try.pinned (OpenSpec.ofChange wideSealsWrong)

/-- 'shallotlaw07.WideAll': WHATEVER THE INPUT: true; the input reads as it did. -/
def wideAllSpec : ChangeSpec := { name := "wideAll", fn := fun _ => fun
  | [d1, d2] => { results := [.lit (.bool true)], args := [d1, d2] }
  | _ => none }
def wideAllRow : OpenClaim := { program := "ytjohieongjnemaa", sum := "b649bfdbb96deb8e3e64e6f0cf325f305215c96cf1af39b7b1092c800bb1d7d4", func := "shallot/shallotlaw07.WideAll", spec := "wideAll", unfollowed := true, recurses := true, apart := false }
def WideAllSaid : Prop := wideAllRow.holds Try.pinned (OpenSpec.ofChange wideAllSpec)

/-- ITS FALSE NEIGHBOUR: 'it returns false'. Refute it at one input. -/
def wideAllWrong : ChangeSpec := { name := "wideAll", fn := fun _ => fun
  | [d1, d2] => { results := [.lit (.bool false)], args := [d1, d2] }
  | _ => none }
def WideAllWrongFalsely : Prop := wideAllRow.holds Try.pinned (OpenSpec.ofChange wideAllWrong)

/-- 'shallotlaw07.WideKeeps': WHATEVER THE INPUT: true; the input reads as it did. -/
def wideKeepsSpec : ChangeSpec := { name := "wideKeeps", fn := fun _ => fun
  | [d1, d2] => { results := [.lit (.bool true)], args := [d1, d2] }
  | _ => none }
def wideKeepsRow : OpenClaim := { program := "ytjohieongjnemaa", sum := "b649bfdbb96deb8e3e64e6f0cf325f305215c96cf1af39b7b1092c800bb1d7d4", func := "shallot/shallotlaw07.WideKeeps", spec := "wideKeeps", unfollowed := true, recurses := true, apart := false }
def WideKeepsSaid : Prop := wideKeepsRow.holds Try.pinned (OpenSpec.ofChange wideKeepsSpec)

/-- ITS FALSE NEIGHBOUR: 'it returns false'. Refute it at one input. -/
def wideKeepsWrong : ChangeSpec := { name := "wideKeeps", fn := fun _ => fun
  | [d1, d2] => { results := [.lit (.bool false)], args := [d1, d2] }
  | _ => none }
def WideKeepsWrongFalsely : Prop := wideKeepsRow.holds Try.pinned (OpenSpec.ofChange wideKeepsWrong)

/-- 'shallotlaw12.KeysOf': WHATEVER THE INPUT: true; the input reads as it did. -/
def keysOfSpec : ChangeSpec := { name := "keysOf", fn := fun _ => fun
  | [d] => { results := [.lit (.bool true)], args := [d] }
  | _ => none }
def keysOfRow : OpenClaim := { program := "ytjohieongjnemaa", sum := "b649bfdbb96deb8e3e64e6f0cf325f305215c96cf1af39b7b1092c800bb1d7d4", func := "shallot/shallotlaw12.KeysOf", spec := "keysOf", inPlace := ["math/bits.Add64", "math/bits.Sub64"], apart := false }
def KeysOfSaid : Prop := keysOfRow.holds Try.pinned (OpenSpec.ofChange keysOfSpec)

/-- ITS FALSE NEIGHBOUR: 'it returns false'. Refute it at one input. -/
def keysOfWrong : ChangeSpec := { name := "keysOf", fn := fun _ => fun
  | [d] => { results := [.lit (.bool false)], args := [d] }
  | _ => none }
def KeysOfWrongFalsely : Prop := keysOfRow.holds Try.pinned (OpenSpec.ofChange keysOfWrong)

/-- 'shallotlaw12.KeysSchedules': WHATEVER THE INPUT: true; the input reads as it did. -/
def keysSchedulesSpec : ChangeSpec := { name := "keysSchedules", fn := fun _ => fun
  | [d1, d2] => { results := [.lit (.bool true)], args := [d1, d2] }
  | _ => none }
def keysSchedulesRow : OpenClaim := { program := "ytjohieongjnemaa", sum := "b649bfdbb96deb8e3e64e6f0cf325f305215c96cf1af39b7b1092c800bb1d7d4", func := "shallot/shallotlaw12.KeysSchedules", spec := "keysSchedules", inPlace := ["math/bits.Add64", "math/bits.Sub64"], apart := false }
def KeysSchedulesSaid : Prop := keysSchedulesRow.holds Try.pinned (OpenSpec.ofChange keysSchedulesSpec)

/-- ITS FALSE NEIGHBOUR: 'it returns false'. Refute it at one input. -/
def keysSchedulesWrong : ChangeSpec := { name := "keysSchedules", fn := fun _ => fun
  | [d1, d2] => { results := [.lit (.bool false)], args := [d1, d2] }
  | _ => none }
def KeysSchedulesWrongFalsely : Prop := keysSchedulesRow.holds Try.pinned (OpenSpec.ofChange keysSchedulesWrong)

/-- 'shallotlaw12.KeysPeels': WHATEVER THE INPUT: true; the input reads as it did. -/
def keysPeelsSpec : ChangeSpec := { name := "keysPeels", fn := fun _ => fun
  | [d1, d2] => { results := [.lit (.bool true)], args := [d1, d2] }
  | _ => none }
def keysPeelsRow : OpenClaim := { program := "ytjohieongjnemaa", sum := "b649bfdbb96deb8e3e64e6f0cf325f305215c96cf1af39b7b1092c800bb1d7d4", func := "shallot/shallotlaw12.KeysPeels", spec := "keysPeels", inPlace := ["math/bits.Add64", "math/bits.Sub64"], apart := false }
def KeysPeelsSaid : Prop := keysPeelsRow.holds Try.pinned (OpenSpec.ofChange keysPeelsSpec)

/-- ITS FALSE NEIGHBOUR: 'it returns false'. Refute it at one input. -/
def keysPeelsWrong : ChangeSpec := { name := "keysPeels", fn := fun _ => fun
  | [d1, d2] => { results := [.lit (.bool false)], args := [d1, d2] }
  | _ => none }
def KeysPeelsWrongFalsely : Prop := keysPeelsRow.holds Try.pinned (OpenSpec.ofChange keysPeelsWrong)

/-- 'shallotlaw12.KeysMeet': WHATEVER THE INPUT: true; the input reads as it did. -/
def keysMeetSpec : ChangeSpec := { name := "keysMeet", fn := fun _ => fun
  | [d1, d2] => { results := [.lit (.bool true)], args := [d1, d2] }
  | _ => none }
def keysMeetRow : OpenClaim := { program := "ytjohieongjnemaa", sum := "b649bfdbb96deb8e3e64e6f0cf325f305215c96cf1af39b7b1092c800bb1d7d4", func := "shallot/shallotlaw12.KeysMeet", spec := "keysMeet", inPlace := ["math/bits.Add64", "math/bits.Sub64"], apart := false }
def KeysMeetSaid : Prop := keysMeetRow.holds Try.pinned (OpenSpec.ofChange keysMeetSpec)

/-- ITS FALSE NEIGHBOUR: 'it returns false'. Refute it at one input. -/
def keysMeetWrong : ChangeSpec := { name := "keysMeet", fn := fun _ => fun
  | [d1, d2] => { results := [.lit (.bool false)], args := [d1, d2] }
  | _ => none }
def KeysMeetWrongFalsely : Prop := keysMeetRow.holds Try.pinned (OpenSpec.ofChange keysMeetWrong)

/-- 'shallotlaw12.KeysKeeps': WHATEVER THE INPUT: true; the input reads as it did. -/
def keysKeepsSpec : ChangeSpec := { name := "keysKeeps", fn := fun _ => fun
  | [d1, d2] => { results := [.lit (.bool true)], args := [d1, d2] }
  | _ => none }
def keysKeepsRow : OpenClaim := { program := "ytjohieongjnemaa", sum := "b649bfdbb96deb8e3e64e6f0cf325f305215c96cf1af39b7b1092c800bb1d7d4", func := "shallot/shallotlaw12.KeysKeeps", spec := "keysKeeps", inPlace := ["math/bits.Add64", "math/bits.Sub64"], apart := false }
def KeysKeepsSaid : Prop := keysKeepsRow.holds Try.pinned (OpenSpec.ofChange keysKeepsSpec)

/-- ITS FALSE NEIGHBOUR: 'it returns false'. Refute it at one input. -/
def keysKeepsWrong : ChangeSpec := { name := "keysKeeps", fn := fun _ => fun
  | [d1, d2] => { results := [.lit (.bool false)], args := [d1, d2] }
  | _ => none }
def KeysKeepsWrongFalsely : Prop := keysKeepsRow.holds Try.pinned (OpenSpec.ofChange keysKeepsWrong)

/- THE SECOND FORM. 'bulk': how many values and letters a reading holds, each counted each time it is reached (what is shared counts as often as it is met; a slice's spare places count too). A statement '..UptoSaid' is the law's where the arguments, and the package variables that the reading takes, are together of bulk at most 1048576: NARROWER than '..Said'. Prove '..Said' where nothing that the law and all that it calls make is longer than what came in: it says more and counts as full. Else prove '..UptoSaid'. A law counts once. -/
mutual
def uptoBulk {H : Type} : DataW H → Nat
  | .lit (.string bytes) => bytes.length + 1
  | .lit _ => 1
  | .nil => 1
  | .ptr d => uptoBulk d + 1
  | .slice elems spare => uptoBulkAll elems + uptoBulkAll spare + 1
  | .agg parts => uptoBulkAll parts + 1
  | .iface _ d => uptoBulk d + 1
  | .map entries => uptoBulkEntries entries + 1
  | .held _ => 1
def uptoBulkAll {H : Type} : List (DataW H) → Nat
  | [] => 0
  | d :: r => uptoBulk d + uptoBulkAll r
def uptoBulkEntries {H : Type} : List (Lit × DataW H) → Nat
  | [] => 0
  | x :: r => uptoBulkEntry x + uptoBulkEntries r
def uptoBulkEntry {H : Type} : Lit × DataW H → Nat
  | (.string bytes, d) => bytes.length + uptoBulk d + 1
  | (_, d) => uptoBulk d + 1
 end
def uptoSmall : (H : Type) → List (DataW H) → Bool := fun _ ds => decide (uptoBulkAll ds ≤ 1048576)
def OpenSpec.upto (s : _root_.Go.ChangeSpec) : _root_.Go.OpenSpec := { _root_.Go.OpenSpec.ofChange s with cond := some uptoSmall }

/-- 'shallotlaw07.WideRounds', WHERE WHAT IT READS IS OF BULK AT MOST 1048576: true; the input reads as it did. -/
def wideRoundsUptoRow : OpenClaim := { program := "ytjohieongjnemaa", sum := "b649bfdbb96deb8e3e64e6f0cf325f305215c96cf1af39b7b1092c800bb1d7d4", func := "shallot/shallotlaw07.WideRounds", spec := "wideRounds", apart := false, narrowed := true }
def WideRoundsUptoSaid : Prop := wideRoundsUptoRow.holds Try.pinned (OpenSpec.upto wideRoundsSpec)

/-- 'shallotlaw07.WideSeals', WHERE WHAT IT READS IS OF BULK AT MOST 1048576: true; the input reads as it did. -/
def wideSealsUptoRow : OpenClaim := { program := "ytjohieongjnemaa", sum := "b649bfdbb96deb8e3e64e6f0cf325f305215c96cf1af39b7b1092c800bb1d7d4", func := "shallot/shallotlaw07.WideSeals", spec := "wideSeals", apart := false, narrowed := true }
def WideSealsUptoSaid : Prop := wideSealsUptoRow.holds Try.pinned (OpenSpec.upto wideSealsSpec)

/-- 'shallotlaw07.WideAll', WHERE WHAT IT READS IS OF BULK AT MOST 1048576: true; the input reads as it did. -/
def wideAllUptoRow : OpenClaim := { program := "ytjohieongjnemaa", sum := "b649bfdbb96deb8e3e64e6f0cf325f305215c96cf1af39b7b1092c800bb1d7d4", func := "shallot/shallotlaw07.WideAll", spec := "wideAll", unfollowed := true, recurses := true, apart := false, narrowed := true }
def WideAllUptoSaid : Prop := wideAllUptoRow.holds Try.pinned (OpenSpec.upto wideAllSpec)

/-- 'shallotlaw07.WideKeeps', WHERE WHAT IT READS IS OF BULK AT MOST 1048576: true; the input reads as it did. -/
def wideKeepsUptoRow : OpenClaim := { program := "ytjohieongjnemaa", sum := "b649bfdbb96deb8e3e64e6f0cf325f305215c96cf1af39b7b1092c800bb1d7d4", func := "shallot/shallotlaw07.WideKeeps", spec := "wideKeeps", unfollowed := true, recurses := true, apart := false, narrowed := true }
def WideKeepsUptoSaid : Prop := wideKeepsUptoRow.holds Try.pinned (OpenSpec.upto wideKeepsSpec)

/-- 'shallotlaw12.KeysOf', WHERE WHAT IT READS IS OF BULK AT MOST 1048576: true; the input reads as it did. -/
def keysOfUptoRow : OpenClaim := { program := "ytjohieongjnemaa", sum := "b649bfdbb96deb8e3e64e6f0cf325f305215c96cf1af39b7b1092c800bb1d7d4", func := "shallot/shallotlaw12.KeysOf", spec := "keysOf", inPlace := ["math/bits.Add64", "math/bits.Sub64"], apart := false, narrowed := true }
def KeysOfUptoSaid : Prop := keysOfUptoRow.holds Try.pinned (OpenSpec.upto keysOfSpec)

/-- 'shallotlaw12.KeysSchedules', WHERE WHAT IT READS IS OF BULK AT MOST 1048576: true; the input reads as it did. -/
def keysSchedulesUptoRow : OpenClaim := { program := "ytjohieongjnemaa", sum := "b649bfdbb96deb8e3e64e6f0cf325f305215c96cf1af39b7b1092c800bb1d7d4", func := "shallot/shallotlaw12.KeysSchedules", spec := "keysSchedules", inPlace := ["math/bits.Add64", "math/bits.Sub64"], apart := false, narrowed := true }
def KeysSchedulesUptoSaid : Prop := keysSchedulesUptoRow.holds Try.pinned (OpenSpec.upto keysSchedulesSpec)

/-- 'shallotlaw12.KeysPeels', WHERE WHAT IT READS IS OF BULK AT MOST 1048576: true; the input reads as it did. -/
def keysPeelsUptoRow : OpenClaim := { program := "ytjohieongjnemaa", sum := "b649bfdbb96deb8e3e64e6f0cf325f305215c96cf1af39b7b1092c800bb1d7d4", func := "shallot/shallotlaw12.KeysPeels", spec := "keysPeels", inPlace := ["math/bits.Add64", "math/bits.Sub64"], apart := false, narrowed := true }
def KeysPeelsUptoSaid : Prop := keysPeelsUptoRow.holds Try.pinned (OpenSpec.upto keysPeelsSpec)

/-- 'shallotlaw12.KeysMeet', WHERE WHAT IT READS IS OF BULK AT MOST 1048576: true; the input reads as it did. -/
def keysMeetUptoRow : OpenClaim := { program := "ytjohieongjnemaa", sum := "b649bfdbb96deb8e3e64e6f0cf325f305215c96cf1af39b7b1092c800bb1d7d4", func := "shallot/shallotlaw12.KeysMeet", spec := "keysMeet", inPlace := ["math/bits.Add64", "math/bits.Sub64"], apart := false, narrowed := true }
def KeysMeetUptoSaid : Prop := keysMeetUptoRow.holds Try.pinned (OpenSpec.upto keysMeetSpec)

/-- 'shallotlaw12.KeysKeeps', WHERE WHAT IT READS IS OF BULK AT MOST 1048576: true; the input reads as it did. -/
def keysKeepsUptoRow : OpenClaim := { program := "ytjohieongjnemaa", sum := "b649bfdbb96deb8e3e64e6f0cf325f305215c96cf1af39b7b1092c800bb1d7d4", func := "shallot/shallotlaw12.KeysKeeps", spec := "keysKeeps", inPlace := ["math/bits.Add64", "math/bits.Sub64"], apart := false, narrowed := true }
def KeysKeepsUptoSaid : Prop := keysKeepsUptoRow.holds Try.pinned (OpenSpec.upto keysKeepsSpec)

end Rows
end Go.Proofs.Ytjohieongjnemaa
