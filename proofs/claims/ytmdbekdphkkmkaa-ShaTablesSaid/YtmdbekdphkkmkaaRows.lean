/-
  No cell of these rows narrows 'for every input' (looked for: loops, veiled, ifaces, maps, wideKeys, modest, calm, conditions, laid).
  DERIVED. THE GIVEN ROWS OF THIS SEAT. 13 by the template 'for every input the law returns true; each argument reads behind the call as it read before'; 0 by the template 'total and deterministic' (their statements: YtmdbekdphkkmkaaTotals.lean).
  GIVEN WITH THE SEED: the statements are not yours to turn. If you find one false, say at which input.
  Laid BY PROGRAM, IN A SANDBOX (cutbox-rows.mjs): the forced cells as the released guide's own fill.sh prints them over the translation 0807403889b94dec… (all of the seat's roots in one cut). By AI agents, Wed Nov 11 2026. No macro, syntax, notation, axiom, sorry.
-/
import Derived.Test.YtmdbekdphkkmkaaChecked
import GoSem.Claim
import GoSem.ClaimJoined
import GoSem.ClaimMapViews
import Derived.JoinedTies
import Derived.KernelRfl
namespace Go.Proofs.Ytmdbekdphkkmkaa
/- THE CELL 'sum', in the pinned program and in every row, IS THE sha256 OF THE DUMP (.gsa) THAT YtmdbekdphkkmkaaProg.lean LOADS. Nothing in Lean hashes anything: it is a label: what it is worth is what the hold of that sum in a sandbox is worth. -/
noncomputable def Try.pinned : Pinned := { name := "ytmdbekdphkkmkaa", sum := "0807403889b94decea43721946c329c01bfdcf0c08f404005f5c4c3579522086", checked := Try.checked }
namespace Rows
def none {H : Type} : Left H := { results := [], args := [] }

/-- 'shallotlaw02.ShaPads': WHATEVER THE INPUT: true; the input reads as it did. -/
def shaPadsSpec : ChangeSpec := { name := "shaPads", fn := fun _ => fun
  | [d] => { results := [.lit (.bool true)], args := [d] }
  | _ => none }
def shaPadsRow : OpenClaim := { program := "ytmdbekdphkkmkaa", sum := "0807403889b94decea43721946c329c01bfdcf0c08f404005f5c4c3579522086", func := "shallot/shallotlaw02.ShaPads", spec := "shaPads", apart := false }
def ShaPadsSaid : Prop := shaPadsRow.holds Try.pinned (OpenSpec.ofChange shaPadsSpec)

/-- ITS FALSE NEIGHBOUR: 'it returns false'. Refute it at one input. -/
def shaPadsWrong : ChangeSpec := { name := "shaPads", fn := fun _ => fun
  | [d] => { results := [.lit (.bool false)], args := [d] }
  | _ => none }
def ShaPadsWrongFalsely : Prop := shaPadsRow.holds Try.pinned (OpenSpec.ofChange shaPadsWrong)

/-- 'shallotlaw02.ShaTables': WHATEVER THE INPUT: true; the input reads as it did. -/
def shaTablesSpec : ChangeSpec := { name := "shaTables", fn := fun _ => fun
  | [d] => { results := [.lit (.bool true)], args := [d] }
  | _ => none }
def shaTablesRow : OpenClaim := { program := "ytmdbekdphkkmkaa", sum := "0807403889b94decea43721946c329c01bfdcf0c08f404005f5c4c3579522086", func := "shallot/shallotlaw02.ShaTables", spec := "shaTables", apart := false }
def ShaTablesSaid : Prop := shaTablesRow.holds Try.pinned (OpenSpec.ofChange shaTablesSpec)

/-- ITS FALSE NEIGHBOUR: 'it returns false'. Refute it at one input. -/
def shaTablesWrong : ChangeSpec := { name := "shaTables", fn := fun _ => fun
  | [d] => { results := [.lit (.bool false)], args := [d] }
  | _ => none }
def ShaTablesWrongFalsely : Prop := shaTablesRow.holds Try.pinned (OpenSpec.ofChange shaTablesWrong)

/-- 'shallotlaw02.ShaSums': WHATEVER THE INPUT: true; the input reads as it did. -/
def shaSumsSpec : ChangeSpec := { name := "shaSums", fn := fun _ => fun
  | [d] => { results := [.lit (.bool true)], args := [d] }
  | _ => none }
def shaSumsRow : OpenClaim := { program := "ytmdbekdphkkmkaa", sum := "0807403889b94decea43721946c329c01bfdcf0c08f404005f5c4c3579522086", func := "shallot/shallotlaw02.ShaSums", spec := "shaSums", apart := false }
def ShaSumsSaid : Prop := shaSumsRow.holds Try.pinned (OpenSpec.ofChange shaSumsSpec)

/-- ITS FALSE NEIGHBOUR: 'it returns false'. Refute it at one input. -/
def shaSumsWrong : ChangeSpec := { name := "shaSums", fn := fun _ => fun
  | [d] => { results := [.lit (.bool false)], args := [d] }
  | _ => none }
def ShaSumsWrongFalsely : Prop := shaSumsRow.holds Try.pinned (OpenSpec.ofChange shaSumsWrong)

/-- 'shallotlaw02.ShaBlocks': WHATEVER THE INPUT: true; the input reads as it did. -/
def shaBlocksSpec : ChangeSpec := { name := "shaBlocks", fn := fun _ => fun
  | [d1, d2] => { results := [.lit (.bool true)], args := [d1, d2] }
  | _ => none }
def shaBlocksRow : OpenClaim := { program := "ytmdbekdphkkmkaa", sum := "0807403889b94decea43721946c329c01bfdcf0c08f404005f5c4c3579522086", func := "shallot/shallotlaw02.ShaBlocks", spec := "shaBlocks", apart := false }
def ShaBlocksSaid : Prop := shaBlocksRow.holds Try.pinned (OpenSpec.ofChange shaBlocksSpec)

/-- ITS FALSE NEIGHBOUR: 'it returns false'. Refute it at one input. -/
def shaBlocksWrong : ChangeSpec := { name := "shaBlocks", fn := fun _ => fun
  | [d1, d2] => { results := [.lit (.bool false)], args := [d1, d2] }
  | _ => none }
def ShaBlocksWrongFalsely : Prop := shaBlocksRow.holds Try.pinned (OpenSpec.ofChange shaBlocksWrong)

/-- 'shallotlaw02.ShaFlows': WHATEVER THE INPUT: true; the input reads as it did. -/
def shaFlowsSpec : ChangeSpec := { name := "shaFlows", fn := fun _ => fun
  | [d1, d2] => { results := [.lit (.bool true)], args := [d1, d2] }
  | _ => none }
def shaFlowsRow : OpenClaim := { program := "ytmdbekdphkkmkaa", sum := "0807403889b94decea43721946c329c01bfdcf0c08f404005f5c4c3579522086", func := "shallot/shallotlaw02.ShaFlows", spec := "shaFlows", apart := false }
def ShaFlowsSaid : Prop := shaFlowsRow.holds Try.pinned (OpenSpec.ofChange shaFlowsSpec)

/-- ITS FALSE NEIGHBOUR: 'it returns false'. Refute it at one input. -/
def shaFlowsWrong : ChangeSpec := { name := "shaFlows", fn := fun _ => fun
  | [d1, d2] => { results := [.lit (.bool false)], args := [d1, d2] }
  | _ => none }
def ShaFlowsWrongFalsely : Prop := shaFlowsRow.holds Try.pinned (OpenSpec.ofChange shaFlowsWrong)

/-- 'shallotlaw02.ShaKeeps': WHATEVER THE INPUT: true; the input reads as it did. -/
def shaKeepsSpec : ChangeSpec := { name := "shaKeeps", fn := fun _ => fun
  | [d1, d2] => { results := [.lit (.bool true)], args := [d1, d2] }
  | _ => none }
def shaKeepsRow : OpenClaim := { program := "ytmdbekdphkkmkaa", sum := "0807403889b94decea43721946c329c01bfdcf0c08f404005f5c4c3579522086", func := "shallot/shallotlaw02.ShaKeeps", spec := "shaKeeps", apart := false }
def ShaKeepsSaid : Prop := shaKeepsRow.holds Try.pinned (OpenSpec.ofChange shaKeepsSpec)

/-- ITS FALSE NEIGHBOUR: 'it returns false'. Refute it at one input. -/
def shaKeepsWrong : ChangeSpec := { name := "shaKeeps", fn := fun _ => fun
  | [d1, d2] => { results := [.lit (.bool false)], args := [d1, d2] }
  | _ => none }
def ShaKeepsWrongFalsely : Prop := shaKeepsRow.holds Try.pinned (OpenSpec.ofChange shaKeepsWrong)

/-- 'shallotlaw02.ShaLabels': WHATEVER THE INPUT: true; the input reads as it did. -/
def shaLabelsSpec : ChangeSpec := { name := "shaLabels", fn := fun _ => fun
  | [d1, d2] => { results := [.lit (.bool true)], args := [d1, d2] }
  | _ => none }
def shaLabelsRow : OpenClaim := { program := "ytmdbekdphkkmkaa", sum := "0807403889b94decea43721946c329c01bfdcf0c08f404005f5c4c3579522086", func := "shallot/shallotlaw02.ShaLabels", spec := "shaLabels", apart := false }
def ShaLabelsSaid : Prop := shaLabelsRow.holds Try.pinned (OpenSpec.ofChange shaLabelsSpec)

/-- ITS FALSE NEIGHBOUR: 'it returns false'. Refute it at one input. -/
def shaLabelsWrong : ChangeSpec := { name := "shaLabels", fn := fun _ => fun
  | [d1, d2] => { results := [.lit (.bool false)], args := [d1, d2] }
  | _ => none }
def ShaLabelsWrongFalsely : Prop := shaLabelsRow.holds Try.pinned (OpenSpec.ofChange shaLabelsWrong)

/-- 'shallotlaw03.MacTaggers': WHATEVER THE INPUT: true; the input reads as it did. -/
def macTaggersSpec : ChangeSpec := { name := "macTaggers", fn := fun _ => fun
  | [d1, d2] => { results := [.lit (.bool true)], args := [d1, d2] }
  | _ => none }
def macTaggersRow : OpenClaim := { program := "ytmdbekdphkkmkaa", sum := "0807403889b94decea43721946c329c01bfdcf0c08f404005f5c4c3579522086", func := "shallot/shallotlaw03.MacTaggers", spec := "macTaggers", apart := false }
def MacTaggersSaid : Prop := macTaggersRow.holds Try.pinned (OpenSpec.ofChange macTaggersSpec)

/-- ITS FALSE NEIGHBOUR: 'it returns false'. Refute it at one input. -/
def macTaggersWrong : ChangeSpec := { name := "macTaggers", fn := fun _ => fun
  | [d1, d2] => { results := [.lit (.bool false)], args := [d1, d2] }
  | _ => none }
def MacTaggersWrongFalsely : Prop := macTaggersRow.holds Try.pinned (OpenSpec.ofChange macTaggersWrong)

/-- 'shallotlaw03.MacExpands': WHATEVER THE INPUT: true; the input reads as it did. -/
def macExpandsSpec : ChangeSpec := { name := "macExpands", fn := fun _ => fun
  | [d1, d2, d3] => { results := [.lit (.bool true)], args := [d1, d2, d3] }
  | _ => none }
def macExpandsRow : OpenClaim := { program := "ytmdbekdphkkmkaa", sum := "0807403889b94decea43721946c329c01bfdcf0c08f404005f5c4c3579522086", func := "shallot/shallotlaw03.MacExpands", spec := "macExpands", apart := false }
def MacExpandsSaid : Prop := macExpandsRow.holds Try.pinned (OpenSpec.ofChange macExpandsSpec)

/-- ITS FALSE NEIGHBOUR: 'it returns false'. Refute it at one input. -/
def macExpandsWrong : ChangeSpec := { name := "macExpands", fn := fun _ => fun
  | [d1, d2, d3] => { results := [.lit (.bool false)], args := [d1, d2, d3] }
  | _ => none }
def MacExpandsWrongFalsely : Prop := macExpandsRow.holds Try.pinned (OpenSpec.ofChange macExpandsWrong)

/-- 'shallotlaw03.MacTags': WHATEVER THE INPUT: true; the input reads as it did. -/
def macTagsSpec : ChangeSpec := { name := "macTags", fn := fun _ => fun
  | [d1, d2] => { results := [.lit (.bool true)], args := [d1, d2] }
  | _ => none }
def macTagsRow : OpenClaim := { program := "ytmdbekdphkkmkaa", sum := "0807403889b94decea43721946c329c01bfdcf0c08f404005f5c4c3579522086", func := "shallot/shallotlaw03.MacTags", spec := "macTags", apart := false }
def MacTagsSaid : Prop := macTagsRow.holds Try.pinned (OpenSpec.ofChange macTagsSpec)

/-- ITS FALSE NEIGHBOUR: 'it returns false'. Refute it at one input. -/
def macTagsWrong : ChangeSpec := { name := "macTags", fn := fun _ => fun
  | [d1, d2] => { results := [.lit (.bool false)], args := [d1, d2] }
  | _ => none }
def MacTagsWrongFalsely : Prop := macTagsRow.holds Try.pinned (OpenSpec.ofChange macTagsWrong)

/-- 'shallotlaw03.MacChecks': WHATEVER THE INPUT: true; the input reads as it did. -/
def macChecksSpec : ChangeSpec := { name := "macChecks", fn := fun _ => fun
  | [d1, d2, d3] => { results := [.lit (.bool true)], args := [d1, d2, d3] }
  | _ => none }
def macChecksRow : OpenClaim := { program := "ytmdbekdphkkmkaa", sum := "0807403889b94decea43721946c329c01bfdcf0c08f404005f5c4c3579522086", func := "shallot/shallotlaw03.MacChecks", spec := "macChecks", apart := false }
def MacChecksSaid : Prop := macChecksRow.holds Try.pinned (OpenSpec.ofChange macChecksSpec)

/-- ITS FALSE NEIGHBOUR: 'it returns false'. Refute it at one input. -/
def macChecksWrong : ChangeSpec := { name := "macChecks", fn := fun _ => fun
  | [d1, d2, d3] => { results := [.lit (.bool false)], args := [d1, d2, d3] }
  | _ => none }
def MacChecksWrongFalsely : Prop := macChecksRow.holds Try.pinned (OpenSpec.ofChange macChecksWrong)

/-- 'shallotlaw03.MacDerives': WHATEVER THE INPUT: true; the input reads as it did. -/
def macDerivesSpec : ChangeSpec := { name := "macDerives", fn := fun _ => fun
  | [d1, d2] => { results := [.lit (.bool true)], args := [d1, d2] }
  | _ => none }
def macDerivesRow : OpenClaim := { program := "ytmdbekdphkkmkaa", sum := "0807403889b94decea43721946c329c01bfdcf0c08f404005f5c4c3579522086", func := "shallot/shallotlaw03.MacDerives", spec := "macDerives", apart := false }
def MacDerivesSaid : Prop := macDerivesRow.holds Try.pinned (OpenSpec.ofChange macDerivesSpec)

/-- ITS FALSE NEIGHBOUR: 'it returns false'. Refute it at one input. -/
def macDerivesWrong : ChangeSpec := { name := "macDerives", fn := fun _ => fun
  | [d1, d2] => { results := [.lit (.bool false)], args := [d1, d2] }
  | _ => none }
def MacDerivesWrongFalsely : Prop := macDerivesRow.holds Try.pinned (OpenSpec.ofChange macDerivesWrong)

/-- 'shallotlaw03.MacKeeps': WHATEVER THE INPUT: true; the input reads as it did. -/
def macKeepsSpec : ChangeSpec := { name := "macKeeps", fn := fun _ => fun
  | [d1, d2] => { results := [.lit (.bool true)], args := [d1, d2] }
  | _ => none }
def macKeepsRow : OpenClaim := { program := "ytmdbekdphkkmkaa", sum := "0807403889b94decea43721946c329c01bfdcf0c08f404005f5c4c3579522086", func := "shallot/shallotlaw03.MacKeeps", spec := "macKeeps", apart := false }
def MacKeepsSaid : Prop := macKeepsRow.holds Try.pinned (OpenSpec.ofChange macKeepsSpec)

/-- ITS FALSE NEIGHBOUR: 'it returns false'. Refute it at one input. -/
def macKeepsWrong : ChangeSpec := { name := "macKeeps", fn := fun _ => fun
  | [d1, d2] => { results := [.lit (.bool false)], args := [d1, d2] }
  | _ => none }
def MacKeepsWrongFalsely : Prop := macKeepsRow.holds Try.pinned (OpenSpec.ofChange macKeepsWrong)

/- THE SECOND FORM. 'bulk': how many values and letters a reading holds, each counted each time it is reached (what is shared counts as often as it is met; a slice's spare places count too). A statement '..UptoSaid' is the law's where the arguments, and the package variables that the reading takes, are together of bulk at most 1048576: NARROWER than '..Said'. Prove '..Said' where nothing that the law and all that it calls make is longer than what came in: it says more and counts as full. Else prove '..UptoSaid'. A law counts once. -/
mutual
def uptoBulk {H : Type} : DataW H → Nat
  | .lit (.string bytes) => bytes.length + 1
  | .lit _ => 1
  | .nil => 1
  | .ptr d => uptoBulk d + 1
  | .slice elems spare => uptoBulkAll elems + uptoBulkAll spare + 1
  | .agg parts => uptoBulkAll parts + 1
  | .iface _ d => uptoBulk d + 1
  | .map entries => uptoBulkEntries entries + 1
  | .held _ => 1
def uptoBulkAll {H : Type} : List (DataW H) → Nat
  | [] => 0
  | d :: r => uptoBulk d + uptoBulkAll r
def uptoBulkEntries {H : Type} : List (Lit × DataW H) → Nat
  | [] => 0
  | x :: r => uptoBulkEntry x + uptoBulkEntries r
def uptoBulkEntry {H : Type} : Lit × DataW H → Nat
  | (.string bytes, d) => bytes.length + uptoBulk d + 1
  | (_, d) => uptoBulk d + 1
 end
def uptoSmall : (H : Type) → List (DataW H) → Bool := fun _ ds => decide (uptoBulkAll ds ≤ 1048576)
def OpenSpec.upto (s : _root_.Go.ChangeSpec) : _root_.Go.OpenSpec := { _root_.Go.OpenSpec.ofChange s with cond := some uptoSmall }

/-- 'shallotlaw02.ShaPads', WHERE WHAT IT READS IS OF BULK AT MOST 1048576: true; the input reads as it did. -/
def shaPadsUptoRow : OpenClaim := { program := "ytmdbekdphkkmkaa", sum := "0807403889b94decea43721946c329c01bfdcf0c08f404005f5c4c3579522086", func := "shallot/shallotlaw02.ShaPads", spec := "shaPads", apart := false, narrowed := true }
def ShaPadsUptoSaid : Prop := shaPadsUptoRow.holds Try.pinned (OpenSpec.upto shaPadsSpec)

/-- 'shallotlaw02.ShaTables', WHERE WHAT IT READS IS OF BULK AT MOST 1048576: true; the input reads as it did. -/
def shaTablesUptoRow : OpenClaim := { program := "ytmdbekdphkkmkaa", sum := "0807403889b94decea43721946c329c01bfdcf0c08f404005f5c4c3579522086", func := "shallot/shallotlaw02.ShaTables", spec := "shaTables", apart := false, narrowed := true }
def ShaTablesUptoSaid : Prop := shaTablesUptoRow.holds Try.pinned (OpenSpec.upto shaTablesSpec)

/-- 'shallotlaw02.ShaSums', WHERE WHAT IT READS IS OF BULK AT MOST 1048576: true; the input reads as it did. -/
def shaSumsUptoRow : OpenClaim := { program := "ytmdbekdphkkmkaa", sum := "0807403889b94decea43721946c329c01bfdcf0c08f404005f5c4c3579522086", func := "shallot/shallotlaw02.ShaSums", spec := "shaSums", apart := false, narrowed := true }
def ShaSumsUptoSaid : Prop := shaSumsUptoRow.holds Try.pinned (OpenSpec.upto shaSumsSpec)

/-- 'shallotlaw02.ShaBlocks', WHERE WHAT IT READS IS OF BULK AT MOST 1048576: true; the input reads as it did. -/
def shaBlocksUptoRow : OpenClaim := { program := "ytmdbekdphkkmkaa", sum := "0807403889b94decea43721946c329c01bfdcf0c08f404005f5c4c3579522086", func := "shallot/shallotlaw02.ShaBlocks", spec := "shaBlocks", apart := false, narrowed := true }
def ShaBlocksUptoSaid : Prop := shaBlocksUptoRow.holds Try.pinned (OpenSpec.upto shaBlocksSpec)

/-- 'shallotlaw02.ShaFlows', WHERE WHAT IT READS IS OF BULK AT MOST 1048576: true; the input reads as it did. -/
def shaFlowsUptoRow : OpenClaim := { program := "ytmdbekdphkkmkaa", sum := "0807403889b94decea43721946c329c01bfdcf0c08f404005f5c4c3579522086", func := "shallot/shallotlaw02.ShaFlows", spec := "shaFlows", apart := false, narrowed := true }
def ShaFlowsUptoSaid : Prop := shaFlowsUptoRow.holds Try.pinned (OpenSpec.upto shaFlowsSpec)

/-- 'shallotlaw02.ShaKeeps', WHERE WHAT IT READS IS OF BULK AT MOST 1048576: true; the input reads as it did. -/
def shaKeepsUptoRow : OpenClaim := { program := "ytmdbekdphkkmkaa", sum := "0807403889b94decea43721946c329c01bfdcf0c08f404005f5c4c3579522086", func := "shallot/shallotlaw02.ShaKeeps", spec := "shaKeeps", apart := false, narrowed := true }
def ShaKeepsUptoSaid : Prop := shaKeepsUptoRow.holds Try.pinned (OpenSpec.upto shaKeepsSpec)

/-- 'shallotlaw02.ShaLabels', WHERE WHAT IT READS IS OF BULK AT MOST 1048576: true; the input reads as it did. -/
def shaLabelsUptoRow : OpenClaim := { program := "ytmdbekdphkkmkaa", sum := "0807403889b94decea43721946c329c01bfdcf0c08f404005f5c4c3579522086", func := "shallot/shallotlaw02.ShaLabels", spec := "shaLabels", apart := false, narrowed := true }
def ShaLabelsUptoSaid : Prop := shaLabelsUptoRow.holds Try.pinned (OpenSpec.upto shaLabelsSpec)

/-- 'shallotlaw03.MacTaggers', WHERE WHAT IT READS IS OF BULK AT MOST 1048576: true; the input reads as it did. -/
def macTaggersUptoRow : OpenClaim := { program := "ytmdbekdphkkmkaa", sum := "0807403889b94decea43721946c329c01bfdcf0c08f404005f5c4c3579522086", func := "shallot/shallotlaw03.MacTaggers", spec := "macTaggers", apart := false, narrowed := true }
def MacTaggersUptoSaid : Prop := macTaggersUptoRow.holds Try.pinned (OpenSpec.upto macTaggersSpec)

/-- 'shallotlaw03.MacExpands', WHERE WHAT IT READS IS OF BULK AT MOST 1048576: true; the input reads as it did. -/
def macExpandsUptoRow : OpenClaim := { program := "ytmdbekdphkkmkaa", sum := "0807403889b94decea43721946c329c01bfdcf0c08f404005f5c4c3579522086", func := "shallot/shallotlaw03.MacExpands", spec := "macExpands", apart := false, narrowed := true }
def MacExpandsUptoSaid : Prop := macExpandsUptoRow.holds Try.pinned (OpenSpec.upto macExpandsSpec)

/-- 'shallotlaw03.MacTags', WHERE WHAT IT READS IS OF BULK AT MOST 1048576: true; the input reads as it did. -/
def macTagsUptoRow : OpenClaim := { program := "ytmdbekdphkkmkaa", sum := "0807403889b94decea43721946c329c01bfdcf0c08f404005f5c4c3579522086", func := "shallot/shallotlaw03.MacTags", spec := "macTags", apart := false, narrowed := true }
def MacTagsUptoSaid : Prop := macTagsUptoRow.holds Try.pinned (OpenSpec.upto macTagsSpec)

/-- 'shallotlaw03.MacChecks', WHERE WHAT IT READS IS OF BULK AT MOST 1048576: true; the input reads as it did. -/
def macChecksUptoRow : OpenClaim := { program := "ytmdbekdphkkmkaa", sum := "0807403889b94decea43721946c329c01bfdcf0c08f404005f5c4c3579522086", func := "shallot/shallotlaw03.MacChecks", spec := "macChecks", apart := false, narrowed := true }
def MacChecksUptoSaid : Prop := macChecksUptoRow.holds Try.pinned (OpenSpec.upto macChecksSpec)

/-- 'shallotlaw03.MacDerives', WHERE WHAT IT READS IS OF BULK AT MOST 1048576: true; the input reads as it did. -/
def macDerivesUptoRow : OpenClaim := { program := "ytmdbekdphkkmkaa", sum := "0807403889b94decea43721946c329c01bfdcf0c08f404005f5c4c3579522086", func := "shallot/shallotlaw03.MacDerives", spec := "macDerives", apart := false, narrowed := true }
def MacDerivesUptoSaid : Prop := macDerivesUptoRow.holds Try.pinned (OpenSpec.upto macDerivesSpec)

/-- 'shallotlaw03.MacKeeps', WHERE WHAT IT READS IS OF BULK AT MOST 1048576: true; the input reads as it did. -/
def macKeepsUptoRow : OpenClaim := { program := "ytmdbekdphkkmkaa", sum := "0807403889b94decea43721946c329c01bfdcf0c08f404005f5c4c3579522086", func := "shallot/shallotlaw03.MacKeeps", spec := "macKeeps", apart := false, narrowed := true }
def MacKeepsUptoSaid : Prop := macKeepsUptoRow.holds Try.pinned (OpenSpec.upto macKeepsSpec)

end Rows
end Go.Proofs.Ytmdbekdphkkmkaa
