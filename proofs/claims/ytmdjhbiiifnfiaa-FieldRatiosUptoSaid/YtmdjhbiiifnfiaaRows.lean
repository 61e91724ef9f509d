/-
  No cell of these rows narrows 'for every input' (looked for: loops, veiled, ifaces, maps, wideKeys, modest, calm, conditions, laid).
  DERIVED. THE GIVEN ROWS OF THIS SEAT. 14 by the template 'for every input the law returns true; each argument reads behind the call as it read before'; 0 by the template 'total and deterministic' (their statements: YtmdjhbiiifnfiaaTotals.lean).
  GIVEN WITH THE SEED: the statements are not yours to turn. If you find one false, say at which input.
  Laid BY PROGRAM, IN A SANDBOX (cutbox-rows.mjs): the forced cells as the released guide's own fill.sh prints them over the translation d75b1f85c41ee4de… (all of the seat's roots in one cut). By AI agents, Wed Nov 11 2026. No macro, syntax, notation, axiom, sorry.
-/
import Derived.Test.YtmdjhbiiifnfiaaChecked
import GoSem.Claim
import GoSem.ClaimJoined
import GoSem.ClaimMapViews
import Derived.JoinedTies
import Derived.KernelRfl
namespace Go.Proofs.Ytmdjhbiiifnfiaa
/- THE CELL 'sum', in the pinned program and in every row, IS THE sha256 OF THE DUMP (.gsa) THAT YtmdjhbiiifnfiaaProg.lean LOADS. Nothing in Lean hashes anything: it is a label: what it is worth is what the hold of that sum in a sandbox is worth. -/
noncomputable def Try.pinned : Pinned := { name := "ytmdjhbiiifnfiaa", sum := "d75b1f85c41ee4dec738fda499746fb329cd5a56780d719e4521b9ac8e8f2cf4", checked := Try.checked }
namespace Rows
def none {H : Type} : Left H := { results := [], args := [] }

/-- 'shallotlaw05.FieldPowers': WHATEVER THE INPUT: true; the input reads as it did. -/
def fieldPowersSpec : ChangeSpec := { name := "fieldPowers", fn := fun _ => fun
  | [d1, d2, d3] => { results := [.lit (.bool true)], args := [d1, d2, d3] }
  | _ => none }
def fieldPowersRow : OpenClaim := { program := "ytmdjhbiiifnfiaa", sum := "d75b1f85c41ee4dec738fda499746fb329cd5a56780d719e4521b9ac8e8f2cf4", func := "shallot/shallotlaw05.FieldPowers", spec := "fieldPowers", inPlace := ["math/bits.Add64"], apart := false }
def FieldPowersSaid : Prop := fieldPowersRow.holds Try.pinned (OpenSpec.ofChange fieldPowersSpec)

/-- ITS FALSE NEIGHBOUR: 'it returns false'. Refute it at one input. -/
def fieldPowersWrong : ChangeSpec := { name := "fieldPowers", fn := fun _ => fun
  | [d1, d2, d3] => { results := [.lit (.bool false)], args := [d1, d2, d3] }
  | _ => none }
def FieldPowersWrongFalsely : Prop := fieldPowersRow.holds Try.pinned (OpenSpec.ofChange fieldPowersWrong)

/-- 'shallotlaw05.FieldForms': WHATEVER THE INPUT: true; the input reads as it did. -/
def fieldFormsSpec : ChangeSpec := { name := "fieldForms", fn := fun _ => fun
  | [d1, d2, d3] => { results := [.lit (.bool true)], args := [d1, d2, d3] }
  | _ => none }
def fieldFormsRow : OpenClaim := { program := "ytmdjhbiiifnfiaa", sum := "d75b1f85c41ee4dec738fda499746fb329cd5a56780d719e4521b9ac8e8f2cf4", func := "shallot/shallotlaw05.FieldForms", spec := "fieldForms", inPlace := ["math/bits.Add64"], apart := false }
def FieldFormsSaid : Prop := fieldFormsRow.holds Try.pinned (OpenSpec.ofChange fieldFormsSpec)

/-- ITS FALSE NEIGHBOUR: 'it returns false'. Refute it at one input. -/
def fieldFormsWrong : ChangeSpec := { name := "fieldForms", fn := fun _ => fun
  | [d1, d2, d3] => { results := [.lit (.bool false)], args := [d1, d2, d3] }
  | _ => none }
def FieldFormsWrongFalsely : Prop := fieldFormsRow.holds Try.pinned (OpenSpec.ofChange fieldFormsWrong)

/-- 'shallotlaw05.FieldRatios': WHATEVER THE INPUT: true; the input reads as it did. -/
def fieldRatiosSpec : ChangeSpec := { name := "fieldRatios", fn := fun _ => fun
  | [d] => { results := [.lit (.bool true)], args := [d] }
  | _ => none }
def fieldRatiosRow : OpenClaim := { program := "ytmdjhbiiifnfiaa", sum := "d75b1f85c41ee4dec738fda499746fb329cd5a56780d719e4521b9ac8e8f2cf4", func := "shallot/shallotlaw05.FieldRatios", spec := "fieldRatios", inPlace := ["math/bits.Add64"], apart := false }
def FieldRatiosSaid : Prop := fieldRatiosRow.holds Try.pinned (OpenSpec.ofChange fieldRatiosSpec)

/-- ITS FALSE NEIGHBOUR: 'it returns false'. Refute it at one input. -/
def fieldRatiosWrong : ChangeSpec := { name := "fieldRatios", fn := fun _ => fun
  | [d] => { results := [.lit (.bool false)], args := [d] }
  | _ => none }
def FieldRatiosWrongFalsely : Prop := fieldRatiosRow.holds Try.pinned (OpenSpec.ofChange fieldRatiosWrong)

/-- 'shallotlaw05.FieldSums': WHATEVER THE INPUT: true; the input reads as it did. -/
def fieldSumsSpec : ChangeSpec := { name := "fieldSums", fn := fun _ => fun
  | [d] => { results := [.lit (.bool true)], args := [d] }
  | _ => none }
def fieldSumsRow : OpenClaim := { program := "ytmdjhbiiifnfiaa", sum := "d75b1f85c41ee4dec738fda499746fb329cd5a56780d719e4521b9ac8e8f2cf4", func := "shallot/shallotlaw05.FieldSums", spec := "fieldSums", inPlace := ["math/bits.Add64"], apart := false }
def FieldSumsSaid : Prop := fieldSumsRow.holds Try.pinned (OpenSpec.ofChange fieldSumsSpec)

/-- ITS FALSE NEIGHBOUR: 'it returns false'. Refute it at one input. -/
def fieldSumsWrong : ChangeSpec := { name := "fieldSums", fn := fun _ => fun
  | [d] => { results := [.lit (.bool false)], args := [d] }
  | _ => none }
def FieldSumsWrongFalsely : Prop := fieldSumsRow.holds Try.pinned (OpenSpec.ofChange fieldSumsWrong)

/-- 'shallotlaw05.FieldReads': WHATEVER THE INPUT: true; the input reads as it did. -/
def fieldReadsSpec : ChangeSpec := { name := "fieldReads", fn := fun _ => fun
  | [d] => { results := [.lit (.bool true)], args := [d] }
  | _ => none }
def fieldReadsRow : OpenClaim := { program := "ytmdjhbiiifnfiaa", sum := "d75b1f85c41ee4dec738fda499746fb329cd5a56780d719e4521b9ac8e8f2cf4", func := "shallot/shallotlaw05.FieldReads", spec := "fieldReads", inPlace := ["math/bits.Add64"], apart := false }
def FieldReadsSaid : Prop := fieldReadsRow.holds Try.pinned (OpenSpec.ofChange fieldReadsSpec)

/-- ITS FALSE NEIGHBOUR: 'it returns false'. Refute it at one input. -/
def fieldReadsWrong : ChangeSpec := { name := "fieldReads", fn := fun _ => fun
  | [d] => { results := [.lit (.bool false)], args := [d] }
  | _ => none }
def FieldReadsWrongFalsely : Prop := fieldReadsRow.holds Try.pinned (OpenSpec.ofChange fieldReadsWrong)

/-- 'shallotlaw05.FieldSubs': WHATEVER THE INPUT: true; the input reads as it did. -/
def fieldSubsSpec : ChangeSpec := { name := "fieldSubs", fn := fun _ => fun
  | [d1, d2] => { results := [.lit (.bool true)], args := [d1, d2] }
  | _ => none }
def fieldSubsRow : OpenClaim := { program := "ytmdjhbiiifnfiaa", sum := "d75b1f85c41ee4dec738fda499746fb329cd5a56780d719e4521b9ac8e8f2cf4", func := "shallot/shallotlaw05.FieldSubs", spec := "fieldSubs", inPlace := ["math/bits.Add64", "math/bits.Sub64"], apart := false }
def FieldSubsSaid : Prop := fieldSubsRow.holds Try.pinned (OpenSpec.ofChange fieldSubsSpec)

/-- ITS FALSE NEIGHBOUR: 'it returns false'. Refute it at one input. -/
def fieldSubsWrong : ChangeSpec := { name := "fieldSubs", fn := fun _ => fun
  | [d1, d2] => { results := [.lit (.bool false)], args := [d1, d2] }
  | _ => none }
def FieldSubsWrongFalsely : Prop := fieldSubsRow.holds Try.pinned (OpenSpec.ofChange fieldSubsWrong)

/-- 'shallotlaw05.FieldLaws': WHATEVER THE INPUT: true; the input reads as it did. -/
def fieldLawsSpec : ChangeSpec := { name := "fieldLaws", fn := fun _ => fun
  | [d1, d2, d3] => { results := [.lit (.bool true)], args := [d1, d2, d3] }
  | _ => none }
def fieldLawsRow : OpenClaim := { program := "ytmdjhbiiifnfiaa", sum := "d75b1f85c41ee4dec738fda499746fb329cd5a56780d719e4521b9ac8e8f2cf4", func := "shallot/shallotlaw05.FieldLaws", spec := "fieldLaws", inPlace := ["math/bits.Add64", "math/bits.Sub64"], apart := false }
def FieldLawsSaid : Prop := fieldLawsRow.holds Try.pinned (OpenSpec.ofChange fieldLawsSpec)

/-- ITS FALSE NEIGHBOUR: 'it returns false'. Refute it at one input. -/
def fieldLawsWrong : ChangeSpec := { name := "fieldLaws", fn := fun _ => fun
  | [d1, d2, d3] => { results := [.lit (.bool false)], args := [d1, d2, d3] }
  | _ => none }
def FieldLawsWrongFalsely : Prop := fieldLawsRow.holds Try.pinned (OpenSpec.ofChange fieldLawsWrong)

/-- 'shallotlaw06.CurveMults': WHATEVER THE INPUT: true; the input reads as it did. -/
def curveMultsSpec : ChangeSpec := { name := "curveMults", fn := fun _ => fun
  | [d1, d2] => { results := [.lit (.bool true)], args := [d1, d2] }
  | _ => none }
def curveMultsRow : OpenClaim := { program := "ytmdjhbiiifnfiaa", sum := "d75b1f85c41ee4dec738fda499746fb329cd5a56780d719e4521b9ac8e8f2cf4", func := "shallot/shallotlaw06.CurveMults", spec := "curveMults", inPlace := ["math/bits.Add64", "math/bits.Sub64"], apart := false }
def CurveMultsSaid : Prop := curveMultsRow.holds Try.pinned (OpenSpec.ofChange curveMultsSpec)

/-- ITS FALSE NEIGHBOUR: 'it returns false'. Refute it at one input. -/
def curveMultsWrong : ChangeSpec := { name := "curveMults", fn := fun _ => fun
  | [d1, d2] => { results := [.lit (.bool false)], args := [d1, d2] }
  | _ => none }
def CurveMultsWrongFalsely : Prop := curveMultsRow.holds Try.pinned (OpenSpec.ofChange curveMultsWrong)

/-- 'shallotlaw06.CurveBits': WHATEVER THE INPUT: true; the input reads as it did. -/
def curveBitsSpec : ChangeSpec := { name := "curveBits", fn := fun _ => fun
  | [d1, d2, d3] => { results := [.lit (.bool true)], args := [d1, d2, d3] }
  | _ => none }
def curveBitsRow : OpenClaim := { program := "ytmdjhbiiifnfiaa", sum := "d75b1f85c41ee4dec738fda499746fb329cd5a56780d719e4521b9ac8e8f2cf4", func := "shallot/shallotlaw06.CurveBits", spec := "curveBits", inPlace := ["math/bits.Add64", "math/bits.Sub64"], apart := false }
def CurveBitsSaid : Prop := curveBitsRow.holds Try.pinned (OpenSpec.ofChange curveBitsSpec)

/-- ITS FALSE NEIGHBOUR: 'it returns false'. Refute it at one input. -/
def curveBitsWrong : ChangeSpec := { name := "curveBits", fn := fun _ => fun
  | [d1, d2, d3] => { results := [.lit (.bool false)], args := [d1, d2, d3] }
  | _ => none }
def CurveBitsWrongFalsely : Prop := curveBitsRow.holds Try.pinned (OpenSpec.ofChange curveBitsWrong)

/-- 'shallotlaw06.CurveLows': WHATEVER THE INPUT: true; the input reads as it did. -/
def curveLowsSpec : ChangeSpec := { name := "curveLows", fn := fun _ => fun
  | [d1, d2] => { results := [.lit (.bool true)], args := [d1, d2] }
  | _ => none }
def curveLowsRow : OpenClaim := { program := "ytmdjhbiiifnfiaa", sum := "d75b1f85c41ee4dec738fda499746fb329cd5a56780d719e4521b9ac8e8f2cf4", func := "shallot/shallotlaw06.CurveLows", spec := "curveLows", inPlace := ["math/bits.Add64", "math/bits.Sub64"], apart := false }
def CurveLowsSaid : Prop := curveLowsRow.holds Try.pinned (OpenSpec.ofChange curveLowsSpec)

/-- ITS FALSE NEIGHBOUR: 'it returns false'. Refute it at one input. -/
def curveLowsWrong : ChangeSpec := { name := "curveLows", fn := fun _ => fun
  | [d1, d2] => { results := [.lit (.bool false)], args := [d1, d2] }
  | _ => none }
def CurveLowsWrongFalsely : Prop := curveLowsRow.holds Try.pinned (OpenSpec.ofChange curveLowsWrong)

/-- 'shallotlaw06.CurvePairs': WHATEVER THE INPUT: true; the input reads as it did. -/
def curvePairsSpec : ChangeSpec := { name := "curvePairs", fn := fun _ => fun
  | [d1, d2, d3] => { results := [.lit (.bool true)], args := [d1, d2, d3] }
  | _ => none }
def curvePairsRow : OpenClaim := { program := "ytmdjhbiiifnfiaa", sum := "d75b1f85c41ee4dec738fda499746fb329cd5a56780d719e4521b9ac8e8f2cf4", func := "shallot/shallotlaw06.CurvePairs", spec := "curvePairs", inPlace := ["math/bits.Add64", "math/bits.Sub64"], apart := false }
def CurvePairsSaid : Prop := curvePairsRow.holds Try.pinned (OpenSpec.ofChange curvePairsSpec)

/-- ITS FALSE NEIGHBOUR: 'it returns false'. Refute it at one input. -/
def curvePairsWrong : ChangeSpec := { name := "curvePairs", fn := fun _ => fun
  | [d1, d2, d3] => { results := [.lit (.bool false)], args := [d1, d2, d3] }
  | _ => none }
def CurvePairsWrongFalsely : Prop := curvePairsRow.holds Try.pinned (OpenSpec.ofChange curvePairsWrong)

/-- 'shallotlaw06.CurveChains': WHATEVER THE INPUT: true; the input reads as it did. -/
def curveChainsSpec : ChangeSpec := { name := "curveChains", fn := fun _ => fun
  | [d1, d2] => { results := [.lit (.bool true)], args := [d1, d2] }
  | _ => none }
def curveChainsRow : OpenClaim := { program := "ytmdjhbiiifnfiaa", sum := "d75b1f85c41ee4dec738fda499746fb329cd5a56780d719e4521b9ac8e8f2cf4", func := "shallot/shallotlaw06.CurveChains", spec := "curveChains", inPlace := ["math/bits.Add64", "math/bits.Sub64"], apart := false }
def CurveChainsSaid : Prop := curveChainsRow.holds Try.pinned (OpenSpec.ofChange curveChainsSpec)

/-- ITS FALSE NEIGHBOUR: 'it returns false'. Refute it at one input. -/
def curveChainsWrong : ChangeSpec := { name := "curveChains", fn := fun _ => fun
  | [d1, d2] => { results := [.lit (.bool false)], args := [d1, d2] }
  | _ => none }
def CurveChainsWrongFalsely : Prop := curveChainsRow.holds Try.pinned (OpenSpec.ofChange curveChainsWrong)

/-- 'shallotlaw06.CurveCommutes': WHATEVER THE INPUT: true; the input reads as it did. -/
def curveCommutesSpec : ChangeSpec := { name := "curveCommutes", fn := fun _ => fun
  | [d1, d2, d3] => { results := [.lit (.bool true)], args := [d1, d2, d3] }
  | _ => none }
def curveCommutesRow : OpenClaim := { program := "ytmdjhbiiifnfiaa", sum := "d75b1f85c41ee4dec738fda499746fb329cd5a56780d719e4521b9ac8e8f2cf4", func := "shallot/shallotlaw06.CurveCommutes", spec := "curveCommutes", inPlace := ["math/bits.Add64", "math/bits.Sub64"], apart := false }
def CurveCommutesSaid : Prop := curveCommutesRow.holds Try.pinned (OpenSpec.ofChange curveCommutesSpec)

/-- ITS FALSE NEIGHBOUR: 'it returns false'. Refute it at one input. -/
def curveCommutesWrong : ChangeSpec := { name := "curveCommutes", fn := fun _ => fun
  | [d1, d2, d3] => { results := [.lit (.bool false)], args := [d1, d2, d3] }
  | _ => none }
def CurveCommutesWrongFalsely : Prop := curveCommutesRow.holds Try.pinned (OpenSpec.ofChange curveCommutesWrong)

/-- 'shallotlaw06.CurveKeeps': WHATEVER THE INPUT: true; the input reads as it did. -/
def curveKeepsSpec : ChangeSpec := { name := "curveKeeps", fn := fun _ => fun
  | [d1, d2] => { results := [.lit (.bool true)], args := [d1, d2] }
  | _ => none }
def curveKeepsRow : OpenClaim := { program := "ytmdjhbiiifnfiaa", sum := "d75b1f85c41ee4dec738fda499746fb329cd5a56780d719e4521b9ac8e8f2cf4", func := "shallot/shallotlaw06.CurveKeeps", spec := "curveKeeps", inPlace := ["math/bits.Add64", "math/bits.Sub64"], apart := false }
def CurveKeepsSaid : Prop := curveKeepsRow.holds Try.pinned (OpenSpec.ofChange curveKeepsSpec)

/-- ITS FALSE NEIGHBOUR: 'it returns false'. Refute it at one input. -/
def curveKeepsWrong : ChangeSpec := { name := "curveKeeps", fn := fun _ => fun
  | [d1, d2] => { results := [.lit (.bool false)], args := [d1, d2] }
  | _ => none }
def CurveKeepsWrongFalsely : Prop := curveKeepsRow.holds Try.pinned (OpenSpec.ofChange curveKeepsWrong)

/- THE SECOND FORM. 'bulk': how many values and letters a reading holds, each counted each time it is reached (what is shared counts as often as it is met; a slice's spare places count too). A statement '..UptoSaid' is the law's where the arguments, and the package variables that the reading takes, are together of bulk at most 1048576: NARROWER than '..Said'. Prove '..Said' where nothing that the law and all that it calls make is longer than what came in: it says more and counts as full. Else prove '..UptoSaid'. A law counts once. -/
mutual
def uptoBulk {H : Type} : DataW H → Nat
  | .lit (.string bytes) => bytes.length + 1
  | .lit _ => 1
  | .nil => 1
  | .ptr d => uptoBulk d + 1
  | .slice elems spare => uptoBulkAll elems + uptoBulkAll spare + 1
  | .agg parts => uptoBulkAll parts + 1
  | .iface _ d => uptoBulk d + 1
  | .map entries => uptoBulkEntries entries + 1
  | .held _ => 1
def uptoBulkAll {H : Type} : List (DataW H) → Nat
  | [] => 0
  | d :: r => uptoBulk d + uptoBulkAll r
def uptoBulkEntries {H : Type} : List (Lit × DataW H) → Nat
  | [] => 0
  | x :: r => uptoBulkEntry x + uptoBulkEntries r
def uptoBulkEntry {H : Type} : Lit × DataW H → Nat
  | (.string bytes, d) => bytes.length + uptoBulk d + 1
  | (_, d) => uptoBulk d + 1
 end
def uptoSmall : (H : Type) → List (DataW H) → Bool := fun _ ds => decide (uptoBulkAll ds ≤ 1048576)
def OpenSpec.upto (s : _root_.Go.ChangeSpec) : _root_.Go.OpenSpec := { _root_.Go.OpenSpec.ofChange s with cond := some uptoSmall }

/-- 'shallotlaw05.FieldPowers', WHERE WHAT IT READS IS OF BULK AT MOST 1048576: true; the input reads as it did. -/
def fieldPowersUptoRow : OpenClaim := { program := "ytmdjhbiiifnfiaa", sum := "d75b1f85c41ee4dec738fda499746fb329cd5a56780d719e4521b9ac8e8f2cf4", func := "shallot/shallotlaw05.FieldPowers", spec := "fieldPowers", inPlace := ["math/bits.Add64"], apart := false, narrowed := true }
def FieldPowersUptoSaid : Prop := fieldPowersUptoRow.holds Try.pinned (OpenSpec.upto fieldPowersSpec)

/-- 'shallotlaw05.FieldForms', WHERE WHAT IT READS IS OF BULK AT MOST 1048576: true; the input reads as it did. -/
def fieldFormsUptoRow : OpenClaim := { program := "ytmdjhbiiifnfiaa", sum := "d75b1f85c41ee4dec738fda499746fb329cd5a56780d719e4521b9ac8e8f2cf4", func := "shallot/shallotlaw05.FieldForms", spec := "fieldForms", inPlace := ["math/bits.Add64"], apart := false, narrowed := true }
def FieldFormsUptoSaid : Prop := fieldFormsUptoRow.holds Try.pinned (OpenSpec.upto fieldFormsSpec)

/-- 'shallotlaw05.FieldRatios', WHERE WHAT IT READS IS OF BULK AT MOST 1048576: true; the input reads as it did. -/
def fieldRatiosUptoRow : OpenClaim := { program := "ytmdjhbiiifnfiaa", sum := "d75b1f85c41ee4dec738fda499746fb329cd5a56780d719e4521b9ac8e8f2cf4", func := "shallot/shallotlaw05.FieldRatios", spec := "fieldRatios", inPlace := ["math/bits.Add64"], apart := false, narrowed := true }
def FieldRatiosUptoSaid : Prop := fieldRatiosUptoRow.holds Try.pinned (OpenSpec.upto fieldRatiosSpec)

/-- 'shallotlaw05.FieldSums', WHERE WHAT IT READS IS OF BULK AT MOST 1048576: true; the input reads as it did. -/
def fieldSumsUptoRow : OpenClaim := { program := "ytmdjhbiiifnfiaa", sum := "d75b1f85c41ee4dec738fda499746fb329cd5a56780d719e4521b9ac8e8f2cf4", func := "shallot/shallotlaw05.FieldSums", spec := "fieldSums", inPlace := ["math/bits.Add64"], apart := false, narrowed := true }
def FieldSumsUptoSaid : Prop := fieldSumsUptoRow.holds Try.pinned (OpenSpec.upto fieldSumsSpec)

/-- 'shallotlaw05.FieldReads', WHERE WHAT IT READS IS OF BULK AT MOST 1048576: true; the input reads as it did. -/
def fieldReadsUptoRow : OpenClaim := { program := "ytmdjhbiiifnfiaa", sum := "d75b1f85c41ee4dec738fda499746fb329cd5a56780d719e4521b9ac8e8f2cf4", func := "shallot/shallotlaw05.FieldReads", spec := "fieldReads", inPlace := ["math/bits.Add64"], apart := false, narrowed := true }
def FieldReadsUptoSaid : Prop := fieldReadsUptoRow.holds Try.pinned (OpenSpec.upto fieldReadsSpec)

/-- 'shallotlaw05.FieldSubs', WHERE WHAT IT READS IS OF BULK AT MOST 1048576: true; the input reads as it did. -/
def fieldSubsUptoRow : OpenClaim := { program := "ytmdjhbiiifnfiaa", sum := "d75b1f85c41ee4dec738fda499746fb329cd5a56780d719e4521b9ac8e8f2cf4", func := "shallot/shallotlaw05.FieldSubs", spec := "fieldSubs", inPlace := ["math/bits.Add64", "math/bits.Sub64"], apart := false, narrowed := true }
def FieldSubsUptoSaid : Prop := fieldSubsUptoRow.holds Try.pinned (OpenSpec.upto fieldSubsSpec)

/-- 'shallotlaw05.FieldLaws', WHERE WHAT IT READS IS OF BULK AT MOST 1048576: true; the input reads as it did. -/
def fieldLawsUptoRow : OpenClaim := { program := "ytmdjhbiiifnfiaa", sum := "d75b1f85c41ee4dec738fda499746fb329cd5a56780d719e4521b9ac8e8f2cf4", func := "shallot/shallotlaw05.FieldLaws", spec := "fieldLaws", inPlace := ["math/bits.Add64", "math/bits.Sub64"], apart := false, narrowed := true }
def FieldLawsUptoSaid : Prop := fieldLawsUptoRow.holds Try.pinned (OpenSpec.upto fieldLawsSpec)

/-- 'shallotlaw06.CurveMults', WHERE WHAT IT READS IS OF BULK AT MOST 1048576: true; the input reads as it did. -/
def curveMultsUptoRow : OpenClaim := { program := "ytmdjhbiiifnfiaa", sum := "d75b1f85c41ee4dec738fda499746fb329cd5a56780d719e4521b9ac8e8f2cf4", func := "shallot/shallotlaw06.CurveMults", spec := "curveMults", inPlace := ["math/bits.Add64", "math/bits.Sub64"], apart := false, narrowed := true }
def CurveMultsUptoSaid : Prop := curveMultsUptoRow.holds Try.pinned (OpenSpec.upto curveMultsSpec)

/-- 'shallotlaw06.CurveBits', WHERE WHAT IT READS IS OF BULK AT MOST 1048576: true; the input reads as it did. -/
def curveBitsUptoRow : OpenClaim := { program := "ytmdjhbiiifnfiaa", sum := "d75b1f85c41ee4dec738fda499746fb329cd5a56780d719e4521b9ac8e8f2cf4", func := "shallot/shallotlaw06.CurveBits", spec := "curveBits", inPlace := ["math/bits.Add64", "math/bits.Sub64"], apart := false, narrowed := true }
def CurveBitsUptoSaid : Prop := curveBitsUptoRow.holds Try.pinned (OpenSpec.upto curveBitsSpec)

/-- 'shallotlaw06.CurveLows', WHERE WHAT IT READS IS OF BULK AT MOST 1048576: true; the input reads as it did. -/
def curveLowsUptoRow : OpenClaim := { program := "ytmdjhbiiifnfiaa", sum := "d75b1f85c41ee4dec738fda499746fb329cd5a56780d719e4521b9ac8e8f2cf4", func := "shallot/shallotlaw06.CurveLows", spec := "curveLows", inPlace := ["math/bits.Add64", "math/bits.Sub64"], apart := false, narrowed := true }
def CurveLowsUptoSaid : Prop := curveLowsUptoRow.holds Try.pinned (OpenSpec.upto curveLowsSpec)

/-- 'shallotlaw06.CurvePairs', WHERE WHAT IT READS IS OF BULK AT MOST 1048576: true; the input reads as it did. -/
def curvePairsUptoRow : OpenClaim := { program := "ytmdjhbiiifnfiaa", sum := "d75b1f85c41ee4dec738fda499746fb329cd5a56780d719e4521b9ac8e8f2cf4", func := "shallot/shallotlaw06.CurvePairs", spec := "curvePairs", inPlace := ["math/bits.Add64", "math/bits.Sub64"], apart := false, narrowed := true }
def CurvePairsUptoSaid : Prop := curvePairsUptoRow.holds Try.pinned (OpenSpec.upto curvePairsSpec)

/-- 'shallotlaw06.CurveChains', WHERE WHAT IT READS IS OF BULK AT MOST 1048576: true; the input reads as it did. -/
def curveChainsUptoRow : OpenClaim := { program := "ytmdjhbiiifnfiaa", sum := "d75b1f85c41ee4dec738fda499746fb329cd5a56780d719e4521b9ac8e8f2cf4", func := "shallot/shallotlaw06.CurveChains", spec := "curveChains", inPlace := ["math/bits.Add64", "math/bits.Sub64"], apart := false, narrowed := true }
def CurveChainsUptoSaid : Prop := curveChainsUptoRow.holds Try.pinned (OpenSpec.upto curveChainsSpec)

/-- 'shallotlaw06.CurveCommutes', WHERE WHAT IT READS IS OF BULK AT MOST 1048576: true; the input reads as it did. -/
def curveCommutesUptoRow : OpenClaim := { program := "ytmdjhbiiifnfiaa", sum := "d75b1f85c41ee4dec738fda499746fb329cd5a56780d719e4521b9ac8e8f2cf4", func := "shallot/shallotlaw06.CurveCommutes", spec := "curveCommutes", inPlace := ["math/bits.Add64", "math/bits.Sub64"], apart := false, narrowed := true }
def CurveCommutesUptoSaid : Prop := curveCommutesUptoRow.holds Try.pinned (OpenSpec.upto curveCommutesSpec)

/-- 'shallotlaw06.CurveKeeps', WHERE WHAT IT READS IS OF BULK AT MOST 1048576: true; the input reads as it did. -/
def curveKeepsUptoRow : OpenClaim := { program := "ytmdjhbiiifnfiaa", sum := "d75b1f85c41ee4dec738fda499746fb329cd5a56780d719e4521b9ac8e8f2cf4", func := "shallot/shallotlaw06.CurveKeeps", spec := "curveKeeps", inPlace := ["math/bits.Add64", "math/bits.Sub64"], apart := false, narrowed := true }
def CurveKeepsUptoSaid : Prop := curveKeepsUptoRow.holds Try.pinned (OpenSpec.upto curveKeepsSpec)

end Rows
end Go.Proofs.Ytmdjhbiiifnfiaa
