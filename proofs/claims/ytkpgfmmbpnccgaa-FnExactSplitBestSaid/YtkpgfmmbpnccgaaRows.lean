/-
  No cell of these rows narrows 'for every input' (looked for: loops, veiled, ifaces, maps, wideKeys, modest, calm, conditions, laid).
  DERIVED. THE GIVEN ROWS OF THIS SEAT. 13 by the template 'for every input the law returns true; each argument reads behind the call as it read before'; 0 by the template 'total and deterministic' (their statements: YtkpgfmmbpnccgaaTotals.lean).
  GIVEN WITH THE SEED: the statements are not yours to turn. If you find one false, say at which input.
  Laid BY PROGRAM, IN A SANDBOX (cutbox-rows.mjs): the forced cells as the released guide's own fill.sh prints them over the translation 2a92de432615a4db… (all of the seat's roots in one cut). By AI agents, Wed Nov 11 2026. No macro, syntax, notation, axiom, sorry.
-/
import Derived.Test.YtkpgfmmbpnccgaaChecked
import GoSem.Claim
import GoSem.ClaimJoined
import GoSem.ClaimMapViews
import Derived.JoinedTies
import Derived.KernelRfl
namespace Go.Proofs.Ytkpgfmmbpnccgaa
/- THE CELL 'sum', in the pinned program and in every row, IS THE sha256 OF THE DUMP (.gsa) THAT YtkpgfmmbpnccgaaProg.lean LOADS. Nothing in Lean hashes anything: it is a label: what it is worth is what the hold of that sum in a sandbox is worth. -/
noncomputable def Try.pinned : Pinned := { name := "ytkpgfmmbpnccgaa", sum := "2a92de432615a4db27e96f9d5545de20c4e8d1d8522f1bf1e792b6e0a2707412", checked := Try.checked }
namespace Rows
def none {H : Type} : Left H := { results := [], args := [] }

/-- 'laws.FnExactHeatStep': WHATEVER THE INPUT: true; the input reads as it did. -/
def fnExactHeatStepSpec : ChangeSpec := { name := "fnExactHeatStep", fn := fun _ => fun
  | [d1, d2, d3] => { results := [.lit (.bool true)], args := [d1, d2, d3] }
  | _ => none }
def fnExactHeatStepRow : OpenClaim := { program := "ytkpgfmmbpnccgaa", sum := "2a92de432615a4db27e96f9d5545de20c4e8d1d8522f1bf1e792b6e0a2707412", func := "loop.example/steelmill/laws.FnExactHeatStep", spec := "fnExactHeatStep", apart := false }
def FnExactHeatStepSaid : Prop := fnExactHeatStepRow.holds Try.pinned (OpenSpec.ofChange fnExactHeatStepSpec)

/-- ITS FALSE NEIGHBOUR: 'it returns false'. Refute it at one input. -/
def fnExactHeatStepWrong : ChangeSpec := { name := "fnExactHeatStep", fn := fun _ => fun
  | [d1, d2, d3] => { results := [.lit (.bool false)], args := [d1, d2, d3] }
  | _ => none }
def FnExactHeatStepWrongFalsely : Prop := fnExactHeatStepRow.holds Try.pinned (OpenSpec.ofChange fnExactHeatStepWrong)

/-- 'laws.FnExactFurnaceValid': WHATEVER THE INPUT: true; the input reads as it did. -/
def fnExactFurnaceValidSpec : ChangeSpec := { name := "fnExactFurnaceValid", fn := fun _ => fun
  | [d] => { results := [.lit (.bool true)], args := [d] }
  | _ => none }
def fnExactFurnaceValidRow : OpenClaim := { program := "ytkpgfmmbpnccgaa", sum := "2a92de432615a4db27e96f9d5545de20c4e8d1d8522f1bf1e792b6e0a2707412", func := "loop.example/steelmill/laws.FnExactFurnaceValid", spec := "fnExactFurnaceValid", apart := false }
def FnExactFurnaceValidSaid : Prop := fnExactFurnaceValidRow.holds Try.pinned (OpenSpec.ofChange fnExactFurnaceValidSpec)

/-- ITS FALSE NEIGHBOUR: 'it returns false'. Refute it at one input. -/
def fnExactFurnaceValidWrong : ChangeSpec := { name := "fnExactFurnaceValid", fn := fun _ => fun
  | [d] => { results := [.lit (.bool false)], args := [d] }
  | _ => none }
def FnExactFurnaceValidWrongFalsely : Prop := fnExactFurnaceValidRow.holds Try.pinned (OpenSpec.ofChange fnExactFurnaceValidWrong)

/-- 'laws.FnExactHeatAfter': WHATEVER THE INPUT: true; the input reads as it did. -/
def fnExactHeatAfterSpec : ChangeSpec := { name := "fnExactHeatAfter", fn := fun _ => fun
  | [d1, d2, d3, d4] => { results := [.lit (.bool true)], args := [d1, d2, d3, d4] }
  | _ => none }
def fnExactHeatAfterRow : OpenClaim := { program := "ytkpgfmmbpnccgaa", sum := "2a92de432615a4db27e96f9d5545de20c4e8d1d8522f1bf1e792b6e0a2707412", func := "loop.example/steelmill/laws.FnExactHeatAfter", spec := "fnExactHeatAfter", apart := false }
def FnExactHeatAfterSaid : Prop := fnExactHeatAfterRow.holds Try.pinned (OpenSpec.ofChange fnExactHeatAfterSpec)

/-- ITS FALSE NEIGHBOUR: 'it returns false'. Refute it at one input. -/
def fnExactHeatAfterWrong : ChangeSpec := { name := "fnExactHeatAfter", fn := fun _ => fun
  | [d1, d2, d3, d4] => { results := [.lit (.bool false)], args := [d1, d2, d3, d4] }
  | _ => none }
def FnExactHeatAfterWrongFalsely : Prop := fnExactHeatAfterRow.holds Try.pinned (OpenSpec.ofChange fnExactHeatAfterWrong)

/-- 'laws.FnExactHeatMinutes': WHATEVER THE INPUT: true; the input reads as it did. -/
def fnExactHeatMinutesSpec : ChangeSpec := { name := "fnExactHeatMinutes", fn := fun _ => fun
  | [d1, d2, d3, d4] => { results := [.lit (.bool true)], args := [d1, d2, d3, d4] }
  | _ => none }
def fnExactHeatMinutesRow : OpenClaim := { program := "ytkpgfmmbpnccgaa", sum := "2a92de432615a4db27e96f9d5545de20c4e8d1d8522f1bf1e792b6e0a2707412", func := "loop.example/steelmill/laws.FnExactHeatMinutes", spec := "fnExactHeatMinutes", apart := false }
def FnExactHeatMinutesSaid : Prop := fnExactHeatMinutesRow.holds Try.pinned (OpenSpec.ofChange fnExactHeatMinutesSpec)

/-- ITS FALSE NEIGHBOUR: 'it returns false'. Refute it at one input. -/
def fnExactHeatMinutesWrong : ChangeSpec := { name := "fnExactHeatMinutes", fn := fun _ => fun
  | [d1, d2, d3, d4] => { results := [.lit (.bool false)], args := [d1, d2, d3, d4] }
  | _ => none }
def FnExactHeatMinutesWrongFalsely : Prop := fnExactHeatMinutesRow.holds Try.pinned (OpenSpec.ofChange fnExactHeatMinutesWrong)

/-- 'laws.FnExactChargesValid': WHATEVER THE INPUT: true; the input reads as it did. -/
def fnExactChargesValidSpec : ChangeSpec := { name := "fnExactChargesValid", fn := fun _ => fun
  | [d] => { results := [.lit (.bool true)], args := [d] }
  | _ => none }
def fnExactChargesValidRow : OpenClaim := { program := "ytkpgfmmbpnccgaa", sum := "2a92de432615a4db27e96f9d5545de20c4e8d1d8522f1bf1e792b6e0a2707412", func := "loop.example/steelmill/laws.FnExactChargesValid", spec := "fnExactChargesValid", apart := false }
def FnExactChargesValidSaid : Prop := fnExactChargesValidRow.holds Try.pinned (OpenSpec.ofChange fnExactChargesValidSpec)

/-- ITS FALSE NEIGHBOUR: 'it returns false'. Refute it at one input. -/
def fnExactChargesValidWrong : ChangeSpec := { name := "fnExactChargesValid", fn := fun _ => fun
  | [d] => { results := [.lit (.bool false)], args := [d] }
  | _ => none }
def FnExactChargesValidWrongFalsely : Prop := fnExactChargesValidRow.holds Try.pinned (OpenSpec.ofChange fnExactChargesValidWrong)

/-- 'laws.FnExactHeatLeast': WHATEVER THE INPUT: true; the input reads as it did. -/
def fnExactHeatLeastSpec : ChangeSpec := { name := "fnExactHeatLeast", fn := fun _ => fun
  | [d1, d2, d3, d4] => { results := [.lit (.bool true)], args := [d1, d2, d3, d4] }
  | _ => none }
def fnExactHeatLeastRow : OpenClaim := { program := "ytkpgfmmbpnccgaa", sum := "2a92de432615a4db27e96f9d5545de20c4e8d1d8522f1bf1e792b6e0a2707412", func := "loop.example/steelmill/laws.FnExactHeatLeast", spec := "fnExactHeatLeast", apart := false }
def FnExactHeatLeastSaid : Prop := fnExactHeatLeastRow.holds Try.pinned (OpenSpec.ofChange fnExactHeatLeastSpec)

/-- ITS FALSE NEIGHBOUR: 'it returns false'. Refute it at one input. -/
def fnExactHeatLeastWrong : ChangeSpec := { name := "fnExactHeatLeast", fn := fun _ => fun
  | [d1, d2, d3, d4] => { results := [.lit (.bool false)], args := [d1, d2, d3, d4] }
  | _ => none }
def FnExactHeatLeastWrongFalsely : Prop := fnExactHeatLeastRow.holds Try.pinned (OpenSpec.ofChange fnExactHeatLeastWrong)

/-- 'laws.FnExactPassEnd': WHATEVER THE INPUT: true; the input reads as it did. -/
def fnExactPassEndSpec : ChangeSpec := { name := "fnExactPassEnd", fn := fun _ => fun
  | [d1, d2] => { results := [.lit (.bool true)], args := [d1, d2] }
  | _ => none }
def fnExactPassEndRow : OpenClaim := { program := "ytkpgfmmbpnccgaa", sum := "2a92de432615a4db27e96f9d5545de20c4e8d1d8522f1bf1e792b6e0a2707412", func := "loop.example/steelmill/laws.FnExactPassEnd", spec := "fnExactPassEnd", apart := false }
def FnExactPassEndSaid : Prop := fnExactPassEndRow.holds Try.pinned (OpenSpec.ofChange fnExactPassEndSpec)

/-- ITS FALSE NEIGHBOUR: 'it returns false'. Refute it at one input. -/
def fnExactPassEndWrong : ChangeSpec := { name := "fnExactPassEnd", fn := fun _ => fun
  | [d1, d2] => { results := [.lit (.bool false)], args := [d1, d2] }
  | _ => none }
def FnExactPassEndWrongFalsely : Prop := fnExactPassEndRow.holds Try.pinned (OpenSpec.ofChange fnExactPassEndWrong)

/-- 'laws.FnExactPassesOk': WHATEVER THE INPUT: true; the input reads as it did. -/
def fnExactPassesOkSpec : ChangeSpec := { name := "fnExactPassesOk", fn := fun _ => fun
  | [d1, d2, d3] => { results := [.lit (.bool true)], args := [d1, d2, d3] }
  | _ => none }
def fnExactPassesOkRow : OpenClaim := { program := "ytkpgfmmbpnccgaa", sum := "2a92de432615a4db27e96f9d5545de20c4e8d1d8522f1bf1e792b6e0a2707412", func := "loop.example/steelmill/laws.FnExactPassesOk", spec := "fnExactPassesOk", apart := false }
def FnExactPassesOkSaid : Prop := fnExactPassesOkRow.holds Try.pinned (OpenSpec.ofChange fnExactPassesOkSpec)

/-- ITS FALSE NEIGHBOUR: 'it returns false'. Refute it at one input. -/
def fnExactPassesOkWrong : ChangeSpec := { name := "fnExactPassesOk", fn := fun _ => fun
  | [d1, d2, d3] => { results := [.lit (.bool false)], args := [d1, d2, d3] }
  | _ => none }
def FnExactPassesOkWrongFalsely : Prop := fnExactPassesOkRow.holds Try.pinned (OpenSpec.ofChange fnExactPassesOkWrong)

/-- 'laws.FnExactPassTimes': WHATEVER THE INPUT: true; the input reads as it did. -/
def fnExactPassTimesSpec : ChangeSpec := { name := "fnExactPassTimes", fn := fun _ => fun
  | [d1, d2] => { results := [.lit (.bool true)], args := [d1, d2] }
  | _ => none }
def fnExactPassTimesRow : OpenClaim := { program := "ytkpgfmmbpnccgaa", sum := "2a92de432615a4db27e96f9d5545de20c4e8d1d8522f1bf1e792b6e0a2707412", func := "loop.example/steelmill/laws.FnExactPassTimes", spec := "fnExactPassTimes", apart := false }
def FnExactPassTimesSaid : Prop := fnExactPassTimesRow.holds Try.pinned (OpenSpec.ofChange fnExactPassTimesSpec)

/-- ITS FALSE NEIGHBOUR: 'it returns false'. Refute it at one input. -/
def fnExactPassTimesWrong : ChangeSpec := { name := "fnExactPassTimes", fn := fun _ => fun
  | [d1, d2] => { results := [.lit (.bool false)], args := [d1, d2] }
  | _ => none }
def FnExactPassTimesWrongFalsely : Prop := fnExactPassTimesRow.holds Try.pinned (OpenSpec.ofChange fnExactPassTimesWrong)

/-- 'laws.FnExactPassOver': WHATEVER THE INPUT: true; the input reads as it did. -/
def fnExactPassOverSpec : ChangeSpec := { name := "fnExactPassOver", fn := fun _ => fun
  | [d1, d2, d3] => { results := [.lit (.bool true)], args := [d1, d2, d3] }
  | _ => none }
def fnExactPassOverRow : OpenClaim := { program := "ytkpgfmmbpnccgaa", sum := "2a92de432615a4db27e96f9d5545de20c4e8d1d8522f1bf1e792b6e0a2707412", func := "loop.example/steelmill/laws.FnExactPassOver", spec := "fnExactPassOver", apart := false }
def FnExactPassOverSaid : Prop := fnExactPassOverRow.holds Try.pinned (OpenSpec.ofChange fnExactPassOverSpec)

/-- ITS FALSE NEIGHBOUR: 'it returns false'. Refute it at one input. -/
def fnExactPassOverWrong : ChangeSpec := { name := "fnExactPassOver", fn := fun _ => fun
  | [d1, d2, d3] => { results := [.lit (.bool false)], args := [d1, d2, d3] }
  | _ => none }
def FnExactPassOverWrongFalsely : Prop := fnExactPassOverRow.holds Try.pinned (OpenSpec.ofChange fnExactPassOverWrong)

/-- 'laws.FnExactPassInside': WHATEVER THE INPUT: true; the input reads as it did. -/
def fnExactPassInsideSpec : ChangeSpec := { name := "fnExactPassInside", fn := fun _ => fun
  | [d1, d2, d3, d4] => { results := [.lit (.bool true)], args := [d1, d2, d3, d4] }
  | _ => none }
def fnExactPassInsideRow : OpenClaim := { program := "ytkpgfmmbpnccgaa", sum := "2a92de432615a4db27e96f9d5545de20c4e8d1d8522f1bf1e792b6e0a2707412", func := "loop.example/steelmill/laws.FnExactPassInside", spec := "fnExactPassInside", apart := false }
def FnExactPassInsideSaid : Prop := fnExactPassInsideRow.holds Try.pinned (OpenSpec.ofChange fnExactPassInsideSpec)

/-- ITS FALSE NEIGHBOUR: 'it returns false'. Refute it at one input. -/
def fnExactPassInsideWrong : ChangeSpec := { name := "fnExactPassInside", fn := fun _ => fun
  | [d1, d2, d3, d4] => { results := [.lit (.bool false)], args := [d1, d2, d3, d4] }
  | _ => none }
def FnExactPassInsideWrongFalsely : Prop := fnExactPassInsideRow.holds Try.pinned (OpenSpec.ofChange fnExactPassInsideWrong)

/-- 'laws.FnExactSplitEnd': WHATEVER THE INPUT: true; the input reads as it did. -/
def fnExactSplitEndSpec : ChangeSpec := { name := "fnExactSplitEnd", fn := fun _ => fun
  | [d1, d2, d3] => { results := [.lit (.bool true)], args := [d1, d2, d3] }
  | _ => none }
def fnExactSplitEndRow : OpenClaim := { program := "ytkpgfmmbpnccgaa", sum := "2a92de432615a4db27e96f9d5545de20c4e8d1d8522f1bf1e792b6e0a2707412", func := "loop.example/steelmill/laws.FnExactSplitEnd", spec := "fnExactSplitEnd", apart := false }
def FnExactSplitEndSaid : Prop := fnExactSplitEndRow.holds Try.pinned (OpenSpec.ofChange fnExactSplitEndSpec)

/-- ITS FALSE NEIGHBOUR: 'it returns false'. Refute it at one input. -/
def fnExactSplitEndWrong : ChangeSpec := { name := "fnExactSplitEnd", fn := fun _ => fun
  | [d1, d2, d3] => { results := [.lit (.bool false)], args := [d1, d2, d3] }
  | _ => none }
def FnExactSplitEndWrongFalsely : Prop := fnExactSplitEndRow.holds Try.pinned (OpenSpec.ofChange fnExactSplitEndWrong)

/-- 'laws.FnExactSplitBest': WHATEVER THE INPUT: true; the input reads as it did. -/
def fnExactSplitBestSpec : ChangeSpec := { name := "fnExactSplitBest", fn := fun _ => fun
  | [d1, d2] => { results := [.lit (.bool true)], args := [d1, d2] }
  | _ => none }
def fnExactSplitBestRow : OpenClaim := { program := "ytkpgfmmbpnccgaa", sum := "2a92de432615a4db27e96f9d5545de20c4e8d1d8522f1bf1e792b6e0a2707412", func := "loop.example/steelmill/laws.FnExactSplitBest", spec := "fnExactSplitBest", apart := false }
def FnExactSplitBestSaid : Prop := fnExactSplitBestRow.holds Try.pinned (OpenSpec.ofChange fnExactSplitBestSpec)

/-- ITS FALSE NEIGHBOUR: 'it returns false'. Refute it at one input. -/
def fnExactSplitBestWrong : ChangeSpec := { name := "fnExactSplitBest", fn := fun _ => fun
  | [d1, d2] => { results := [.lit (.bool false)], args := [d1, d2] }
  | _ => none }
def FnExactSplitBestWrongFalsely : Prop := fnExactSplitBestRow.holds Try.pinned (OpenSpec.ofChange fnExactSplitBestWrong)

/- THE SECOND FORM. 'bulk': how many values and letters a reading holds, each counted each time it is reached (what is shared counts as often as it is met; a slice's spare places count too). A statement '..UptoSaid' is the law's where the arguments, and the package variables that the reading takes, are together of bulk at most 1048576: NARROWER than '..Said'. Prove '..Said' where nothing that the law and all that it calls make is longer than what came in: it says more and counts as full. Else prove '..UptoSaid'. A law counts once. -/
mutual
def uptoBulk {H : Type} : DataW H → Nat
  | .lit (.string bytes) => bytes.length + 1
  | .lit _ => 1
  | .nil => 1
  | .ptr d => uptoBulk d + 1
  | .slice elems spare => uptoBulkAll elems + uptoBulkAll spare + 1
  | .agg parts => uptoBulkAll parts + 1
  | .iface _ d => uptoBulk d + 1
  | .map entries => uptoBulkEntries entries + 1
  | .held _ => 1
def uptoBulkAll {H : Type} : List (DataW H) → Nat
  | [] => 0
  | d :: r => uptoBulk d + uptoBulkAll r
def uptoBulkEntries {H : Type} : List (Lit × DataW H) → Nat
  | [] => 0
  | x :: r => uptoBulkEntry x + uptoBulkEntries r
def uptoBulkEntry {H : Type} : Lit × DataW H → Nat
  | (.string bytes, d) => bytes.length + uptoBulk d + 1
  | (_, d) => uptoBulk d + 1
 end
def uptoSmall : (H : Type) → List (DataW H) → Bool := fun _ ds => decide (uptoBulkAll ds ≤ 1048576)
def OpenSpec.upto (s : _root_.Go.ChangeSpec) : _root_.Go.OpenSpec := { _root_.Go.OpenSpec.ofChange s with cond := some uptoSmall }

/-- 'laws.FnExactHeatStep', WHERE WHAT IT READS IS OF BULK AT MOST 1048576: true; the input reads as it did. -/
def fnExactHeatStepUptoRow : OpenClaim := { program := "ytkpgfmmbpnccgaa", sum := "2a92de432615a4db27e96f9d5545de20c4e8d1d8522f1bf1e792b6e0a2707412", func := "loop.example/steelmill/laws.FnExactHeatStep", spec := "fnExactHeatStep", apart := false, narrowed := true }
def FnExactHeatStepUptoSaid : Prop := fnExactHeatStepUptoRow.holds Try.pinned (OpenSpec.upto fnExactHeatStepSpec)

/-- 'laws.FnExactFurnaceValid', WHERE WHAT IT READS IS OF BULK AT MOST 1048576: true; the input reads as it did. -/
def fnExactFurnaceValidUptoRow : OpenClaim := { program := "ytkpgfmmbpnccgaa", sum := "2a92de432615a4db27e96f9d5545de20c4e8d1d8522f1bf1e792b6e0a2707412", func := "loop.example/steelmill/laws.FnExactFurnaceValid", spec := "fnExactFurnaceValid", apart := false, narrowed := true }
def FnExactFurnaceValidUptoSaid : Prop := fnExactFurnaceValidUptoRow.holds Try.pinned (OpenSpec.upto fnExactFurnaceValidSpec)

/-- 'laws.FnExactHeatAfter', WHERE WHAT IT READS IS OF BULK AT MOST 1048576: true; the input reads as it did. -/
def fnExactHeatAfterUptoRow : OpenClaim := { program := "ytkpgfmmbpnccgaa", sum := "2a92de432615a4db27e96f9d5545de20c4e8d1d8522f1bf1e792b6e0a2707412", func := "loop.example/steelmill/laws.FnExactHeatAfter", spec := "fnExactHeatAfter", apart := false, narrowed := true }
def FnExactHeatAfterUptoSaid : Prop := fnExactHeatAfterUptoRow.holds Try.pinned (OpenSpec.upto fnExactHeatAfterSpec)

/-- 'laws.FnExactHeatMinutes', WHERE WHAT IT READS IS OF BULK AT MOST 1048576: true; the input reads as it did. -/
def fnExactHeatMinutesUptoRow : OpenClaim := { program := "ytkpgfmmbpnccgaa", sum := "2a92de432615a4db27e96f9d5545de20c4e8d1d8522f1bf1e792b6e0a2707412", func := "loop.example/steelmill/laws.FnExactHeatMinutes", spec := "fnExactHeatMinutes", apart := false, narrowed := true }
def FnExactHeatMinutesUptoSaid : Prop := fnExactHeatMinutesUptoRow.holds Try.pinned (OpenSpec.upto fnExactHeatMinutesSpec)

/-- 'laws.FnExactChargesValid', WHERE WHAT IT READS IS OF BULK AT MOST 1048576: true; the input reads as it did. -/
def fnExactChargesValidUptoRow : OpenClaim := { program := "ytkpgfmmbpnccgaa", sum := "2a92de432615a4db27e96f9d5545de20c4e8d1d8522f1bf1e792b6e0a2707412", func := "loop.example/steelmill/laws.FnExactChargesValid", spec := "fnExactChargesValid", apart := false, narrowed := true }
def FnExactChargesValidUptoSaid : Prop := fnExactChargesValidUptoRow.holds Try.pinned (OpenSpec.upto fnExactChargesValidSpec)

/-- 'laws.FnExactHeatLeast', WHERE WHAT IT READS IS OF BULK AT MOST 1048576: true; the input reads as it did. -/
def fnExactHeatLeastUptoRow : OpenClaim := { program := "ytkpgfmmbpnccgaa", sum := "2a92de432615a4db27e96f9d5545de20c4e8d1d8522f1bf1e792b6e0a2707412", func := "loop.example/steelmill/laws.FnExactHeatLeast", spec := "fnExactHeatLeast", apart := false, narrowed := true }
def FnExactHeatLeastUptoSaid : Prop := fnExactHeatLeastUptoRow.holds Try.pinned (OpenSpec.upto fnExactHeatLeastSpec)

/-- 'laws.FnExactPassEnd', WHERE WHAT IT READS IS OF BULK AT MOST 1048576: true; the input reads as it did. -/
def fnExactPassEndUptoRow : OpenClaim := { program := "ytkpgfmmbpnccgaa", sum := "2a92de432615a4db27e96f9d5545de20c4e8d1d8522f1bf1e792b6e0a2707412", func := "loop.example/steelmill/laws.FnExactPassEnd", spec := "fnExactPassEnd", apart := false, narrowed := true }
def FnExactPassEndUptoSaid : Prop := fnExactPassEndUptoRow.holds Try.pinned (OpenSpec.upto fnExactPassEndSpec)

/-- 'laws.FnExactPassesOk', WHERE WHAT IT READS IS OF BULK AT MOST 1048576: true; the input reads as it did. -/
def fnExactPassesOkUptoRow : OpenClaim := { program := "ytkpgfmmbpnccgaa", sum := "2a92de432615a4db27e96f9d5545de20c4e8d1d8522f1bf1e792b6e0a2707412", func := "loop.example/steelmill/laws.FnExactPassesOk", spec := "fnExactPassesOk", apart := false, narrowed := true }
def FnExactPassesOkUptoSaid : Prop := fnExactPassesOkUptoRow.holds Try.pinned (OpenSpec.upto fnExactPassesOkSpec)

/-- 'laws.FnExactPassTimes', WHERE WHAT IT READS IS OF BULK AT MOST 1048576: true; the input reads as it did. -/
def fnExactPassTimesUptoRow : OpenClaim := { program := "ytkpgfmmbpnccgaa", sum := "2a92de432615a4db27e96f9d5545de20c4e8d1d8522f1bf1e792b6e0a2707412", func := "loop.example/steelmill/laws.FnExactPassTimes", spec := "fnExactPassTimes", apart := false, narrowed := true }
def FnExactPassTimesUptoSaid : Prop := fnExactPassTimesUptoRow.holds Try.pinned (OpenSpec.upto fnExactPassTimesSpec)

/-- 'laws.FnExactPassOver', WHERE WHAT IT READS IS OF BULK AT MOST 1048576: true; the input reads as it did. -/
def fnExactPassOverUptoRow : OpenClaim := { program := "ytkpgfmmbpnccgaa", sum := "2a92de432615a4db27e96f9d5545de20c4e8d1d8522f1bf1e792b6e0a2707412", func := "loop.example/steelmill/laws.FnExactPassOver", spec := "fnExactPassOver", apart := false, narrowed := true }
def FnExactPassOverUptoSaid : Prop := fnExactPassOverUptoRow.holds Try.pinned (OpenSpec.upto fnExactPassOverSpec)

/-- 'laws.FnExactPassInside', WHERE WHAT IT READS IS OF BULK AT MOST 1048576: true; the input reads as it did. -/
def fnExactPassInsideUptoRow : OpenClaim := { program := "ytkpgfmmbpnccgaa", sum := "2a92de432615a4db27e96f9d5545de20c4e8d1d8522f1bf1e792b6e0a2707412", func := "loop.example/steelmill/laws.FnExactPassInside", spec := "fnExactPassInside", apart := false, narrowed := true }
def FnExactPassInsideUptoSaid : Prop := fnExactPassInsideUptoRow.holds Try.pinned (OpenSpec.upto fnExactPassInsideSpec)

/-- 'laws.FnExactSplitEnd', WHERE WHAT IT READS IS OF BULK AT MOST 1048576: true; the input reads as it did. -/
def fnExactSplitEndUptoRow : OpenClaim := { program := "ytkpgfmmbpnccgaa", sum := "2a92de432615a4db27e96f9d5545de20c4e8d1d8522f1bf1e792b6e0a2707412", func := "loop.example/steelmill/laws.FnExactSplitEnd", spec := "fnExactSplitEnd", apart := false, narrowed := true }
def FnExactSplitEndUptoSaid : Prop := fnExactSplitEndUptoRow.holds Try.pinned (OpenSpec.upto fnExactSplitEndSpec)

/-- 'laws.FnExactSplitBest', WHERE WHAT IT READS IS OF BULK AT MOST 1048576: true; the input reads as it did. -/
def fnExactSplitBestUptoRow : OpenClaim := { program := "ytkpgfmmbpnccgaa", sum := "2a92de432615a4db27e96f9d5545de20c4e8d1d8522f1bf1e792b6e0a2707412", func := "loop.example/steelmill/laws.FnExactSplitBest", spec := "fnExactSplitBest", apart := false, narrowed := true }
def FnExactSplitBestUptoSaid : Prop := fnExactSplitBestUptoRow.holds Try.pinned (OpenSpec.upto fnExactSplitBestSpec)

end Rows
end Go.Proofs.Ytkpgfmmbpnccgaa
