/-
  No cell of these rows narrows 'for every input' (looked for: loops, veiled, ifaces, maps, wideKeys, modest, calm, conditions, laid).
  DERIVED. THE GIVEN ROWS OF THIS SEAT. 14 by the template 'for every input the law returns true; each argument reads behind the call as it read before'; 0 by the template 'total and deterministic' (their statements: YtmomcelhigcceaaTotals.lean).
  GIVEN WITH THE SEED: the statements are not yours to turn. If you find one false, say at which input.
  Laid BY PROGRAM, IN A SANDBOX (cutbox-rows.mjs): the forced cells as the released guide's own fill.sh prints them over the translation f8993c841f63e2aa… (all of the seat's roots in one cut). By AI agents, Wed Nov 11 2026. No macro, syntax, notation, axiom, sorry.
-/
import Derived.Test.YtmomcelhigcceaaChecked
import GoSem.Claim
import GoSem.ClaimJoined
import GoSem.ClaimMapViews
import Derived.JoinedTies
import Derived.KernelRfl
namespace Go.Proofs.Ytmomcelhigcceaa
/- THE CELL 'sum', in the pinned program and in every row, IS THE sha256 OF THE DUMP (.gsa) THAT YtmomcelhigcceaaProg.lean LOADS. Nothing in Lean hashes anything: it is a label: what it is worth is what the hold of that sum in a sandbox is worth. -/
noncomputable def Try.pinned : Pinned := { name := "ytmomcelhigcceaa", sum := "f8993c841f63e2aad8bf494f317497b97bf1eae0be80a5a1b1aa35a43cc3240a", checked := Try.checked }
namespace Rows
def none {H : Type} : Left H := { results := [], args := [] }

/-- 'laws.FnExactWantsValid': WHATEVER THE INPUT: true; the input reads as it did. -/
def fnExactWantsValidSpec : ChangeSpec := { name := "fnExactWantsValid", fn := fun _ => fun
  | [d1, d2] => { results := [.lit (.bool true)], args := [d1, d2] }
  | _ => none }
def fnExactWantsValidRow : OpenClaim := { program := "ytmomcelhigcceaa", sum := "f8993c841f63e2aad8bf494f317497b97bf1eae0be80a5a1b1aa35a43cc3240a", func := "loop.example/steelmill/laws.FnExactWantsValid", spec := "fnExactWantsValid", apart := false }
def FnExactWantsValidSaid : Prop := fnExactWantsValidRow.holds Try.pinned (OpenSpec.ofChange fnExactWantsValidSpec)

/-- ITS FALSE NEIGHBOUR: 'it returns false'. Refute it at one input. -/
def fnExactWantsValidWrong : ChangeSpec := { name := "fnExactWantsValid", fn := fun _ => fun
  | [d1, d2] => { results := [.lit (.bool false)], args := [d1, d2] }
  | _ => none }
def FnExactWantsValidWrongFalsely : Prop := fnExactWantsValidRow.holds Try.pinned (OpenSpec.ofChange fnExactWantsValidWrong)

/-- 'laws.FnExactLengthsValid': WHATEVER THE INPUT: true; the input reads as it did. -/
def fnExactLengthsValidSpec : ChangeSpec := { name := "fnExactLengthsValid", fn := fun _ => fun
  | [d] => { results := [.lit (.bool true)], args := [d] }
  | _ => none }
def fnExactLengthsValidRow : OpenClaim := { program := "ytmomcelhigcceaa", sum := "f8993c841f63e2aad8bf494f317497b97bf1eae0be80a5a1b1aa35a43cc3240a", func := "loop.example/steelmill/laws.FnExactLengthsValid", spec := "fnExactLengthsValid", apart := false }
def FnExactLengthsValidSaid : Prop := fnExactLengthsValidRow.holds Try.pinned (OpenSpec.ofChange fnExactLengthsValidSpec)

/-- ITS FALSE NEIGHBOUR: 'it returns false'. Refute it at one input. -/
def fnExactLengthsValidWrong : ChangeSpec := { name := "fnExactLengthsValid", fn := fun _ => fun
  | [d] => { results := [.lit (.bool false)], args := [d] }
  | _ => none }
def FnExactLengthsValidWrongFalsely : Prop := fnExactLengthsValidRow.holds Try.pinned (OpenSpec.ofChange fnExactLengthsValidWrong)

/-- 'laws.FnExactBadValid': WHATEVER THE INPUT: true; the input reads as it did. -/
def fnExactBadValidSpec : ChangeSpec := { name := "fnExactBadValid", fn := fun _ => fun
  | [d1, d2] => { results := [.lit (.bool true)], args := [d1, d2] }
  | _ => none }
def fnExactBadValidRow : OpenClaim := { program := "ytmomcelhigcceaa", sum := "f8993c841f63e2aad8bf494f317497b97bf1eae0be80a5a1b1aa35a43cc3240a", func := "loop.example/steelmill/laws.FnExactBadValid", spec := "fnExactBadValid", apart := false }
def FnExactBadValidSaid : Prop := fnExactBadValidRow.holds Try.pinned (OpenSpec.ofChange fnExactBadValidSpec)

/-- ITS FALSE NEIGHBOUR: 'it returns false'. Refute it at one input. -/
def fnExactBadValidWrong : ChangeSpec := { name := "fnExactBadValid", fn := fun _ => fun
  | [d1, d2] => { results := [.lit (.bool false)], args := [d1, d2] }
  | _ => none }
def FnExactBadValidWrongFalsely : Prop := fnExactBadValidRow.holds Try.pinned (OpenSpec.ofChange fnExactBadValidWrong)

/-- 'laws.FnExactCutWaste': WHATEVER THE INPUT: true; the input reads as it did. -/
def fnExactCutWasteSpec : ChangeSpec := { name := "fnExactCutWaste", fn := fun _ => fun
  | [d1, d2, d3] => { results := [.lit (.bool true)], args := [d1, d2, d3] }
  | _ => none }
def fnExactCutWasteRow : OpenClaim := { program := "ytmomcelhigcceaa", sum := "f8993c841f63e2aad8bf494f317497b97bf1eae0be80a5a1b1aa35a43cc3240a", func := "loop.example/steelmill/laws.FnExactCutWaste", spec := "fnExactCutWaste", apart := false }
def FnExactCutWasteSaid : Prop := fnExactCutWasteRow.holds Try.pinned (OpenSpec.ofChange fnExactCutWasteSpec)

/-- ITS FALSE NEIGHBOUR: 'it returns false'. Refute it at one input. -/
def fnExactCutWasteWrong : ChangeSpec := { name := "fnExactCutWaste", fn := fun _ => fun
  | [d1, d2, d3] => { results := [.lit (.bool false)], args := [d1, d2, d3] }
  | _ => none }
def FnExactCutWasteWrongFalsely : Prop := fnExactCutWasteRow.holds Try.pinned (OpenSpec.ofChange fnExactCutWasteWrong)

/-- 'laws.FnExactStrandsOk': WHATEVER THE INPUT: true; the input reads as it did. -/
def fnExactStrandsOkSpec : ChangeSpec := { name := "fnExactStrandsOk", fn := fun _ => fun
  | [d1, d2, d3] => { results := [.lit (.bool true)], args := [d1, d2, d3] }
  | _ => none }
def fnExactStrandsOkRow : OpenClaim := { program := "ytmomcelhigcceaa", sum := "f8993c841f63e2aad8bf494f317497b97bf1eae0be80a5a1b1aa35a43cc3240a", func := "loop.example/steelmill/laws.FnExactStrandsOk", spec := "fnExactStrandsOk", apart := false }
def FnExactStrandsOkSaid : Prop := fnExactStrandsOkRow.holds Try.pinned (OpenSpec.ofChange fnExactStrandsOkSpec)

/-- ITS FALSE NEIGHBOUR: 'it returns false'. Refute it at one input. -/
def fnExactStrandsOkWrong : ChangeSpec := { name := "fnExactStrandsOk", fn := fun _ => fun
  | [d1, d2, d3] => { results := [.lit (.bool false)], args := [d1, d2, d3] }
  | _ => none }
def FnExactStrandsOkWrongFalsely : Prop := fnExactStrandsOkRow.holds Try.pinned (OpenSpec.ofChange fnExactStrandsOkWrong)

/-- 'laws.FnExactCutLeast': WHATEVER THE INPUT: true; the input reads as it did. -/
def fnExactCutLeastSpec : ChangeSpec := { name := "fnExactCutLeast", fn := fun _ => fun
  | [d1, d2] => { results := [.lit (.bool true)], args := [d1, d2] }
  | _ => none }
def fnExactCutLeastRow : OpenClaim := { program := "ytmomcelhigcceaa", sum := "f8993c841f63e2aad8bf494f317497b97bf1eae0be80a5a1b1aa35a43cc3240a", func := "loop.example/steelmill/laws.FnExactCutLeast", spec := "fnExactCutLeast", apart := false }
def FnExactCutLeastSaid : Prop := fnExactCutLeastRow.holds Try.pinned (OpenSpec.ofChange fnExactCutLeastSpec)

/-- ITS FALSE NEIGHBOUR: 'it returns false'. Refute it at one input. -/
def fnExactCutLeastWrong : ChangeSpec := { name := "fnExactCutLeast", fn := fun _ => fun
  | [d1, d2] => { results := [.lit (.bool false)], args := [d1, d2] }
  | _ => none }
def FnExactCutLeastWrongFalsely : Prop := fnExactCutLeastRow.holds Try.pinned (OpenSpec.ofChange fnExactCutLeastWrong)

/-- 'laws.FnExactCutBest': WHATEVER THE INPUT: true; the input reads as it did. -/
def fnExactCutBestSpec : ChangeSpec := { name := "fnExactCutBest", fn := fun _ => fun
  | [d1, d2] => { results := [.lit (.bool true)], args := [d1, d2] }
  | _ => none }
def fnExactCutBestRow : OpenClaim := { program := "ytmomcelhigcceaa", sum := "f8993c841f63e2aad8bf494f317497b97bf1eae0be80a5a1b1aa35a43cc3240a", func := "loop.example/steelmill/laws.FnExactCutBest", spec := "fnExactCutBest", apart := false }
def FnExactCutBestSaid : Prop := fnExactCutBestRow.holds Try.pinned (OpenSpec.ofChange fnExactCutBestSpec)

/-- ITS FALSE NEIGHBOUR: 'it returns false'. Refute it at one input. -/
def fnExactCutBestWrong : ChangeSpec := { name := "fnExactCutBest", fn := fun _ => fun
  | [d1, d2] => { results := [.lit (.bool false)], args := [d1, d2] }
  | _ => none }
def FnExactCutBestWrongFalsely : Prop := fnExactCutBestRow.holds Try.pinned (OpenSpec.ofChange fnExactCutBestWrong)

/-- 'laws.FnExactStrandsMany': WHATEVER THE INPUT: true; the input reads as it did. -/
def fnExactStrandsManySpec : ChangeSpec := { name := "fnExactStrandsMany", fn := fun _ => fun
  | [d1, d2, d3] => { results := [.lit (.bool true)], args := [d1, d2, d3] }
  | _ => none }
def fnExactStrandsManyRow : OpenClaim := { program := "ytmomcelhigcceaa", sum := "f8993c841f63e2aad8bf494f317497b97bf1eae0be80a5a1b1aa35a43cc3240a", func := "loop.example/steelmill/laws.FnExactStrandsMany", spec := "fnExactStrandsMany", apart := false }
def FnExactStrandsManySaid : Prop := fnExactStrandsManyRow.holds Try.pinned (OpenSpec.ofChange fnExactStrandsManySpec)

/-- ITS FALSE NEIGHBOUR: 'it returns false'. Refute it at one input. -/
def fnExactStrandsManyWrong : ChangeSpec := { name := "fnExactStrandsMany", fn := fun _ => fun
  | [d1, d2, d3] => { results := [.lit (.bool false)], args := [d1, d2, d3] }
  | _ => none }
def FnExactStrandsManyWrongFalsely : Prop := fnExactStrandsManyRow.holds Try.pinned (OpenSpec.ofChange fnExactStrandsManyWrong)

/-- 'laws.FnExactGoodParts': WHATEVER THE INPUT: true; the input reads as it did. -/
def fnExactGoodPartsSpec : ChangeSpec := { name := "fnExactGoodParts", fn := fun _ => fun
  | [d1, d2] => { results := [.lit (.bool true)], args := [d1, d2] }
  | _ => none }
def fnExactGoodPartsRow : OpenClaim := { program := "ytmomcelhigcceaa", sum := "f8993c841f63e2aad8bf494f317497b97bf1eae0be80a5a1b1aa35a43cc3240a", func := "loop.example/steelmill/laws.FnExactGoodParts", spec := "fnExactGoodParts", apart := false }
def FnExactGoodPartsSaid : Prop := fnExactGoodPartsRow.holds Try.pinned (OpenSpec.ofChange fnExactGoodPartsSpec)

/-- ITS FALSE NEIGHBOUR: 'it returns false'. Refute it at one input. -/
def fnExactGoodPartsWrong : ChangeSpec := { name := "fnExactGoodParts", fn := fun _ => fun
  | [d1, d2] => { results := [.lit (.bool false)], args := [d1, d2] }
  | _ => none }
def FnExactGoodPartsWrongFalsely : Prop := fnExactGoodPartsRow.holds Try.pinned (OpenSpec.ofChange fnExactGoodPartsWrong)

/-- 'laws.FnExactSlabsOk': WHATEVER THE INPUT: true; the input reads as it did. -/
def fnExactSlabsOkSpec : ChangeSpec := { name := "fnExactSlabsOk", fn := fun _ => fun
  | [d1, d2, d3, d4] => { results := [.lit (.bool true)], args := [d1, d2, d3, d4] }
  | _ => none }
def fnExactSlabsOkRow : OpenClaim := { program := "ytmomcelhigcceaa", sum := "f8993c841f63e2aad8bf494f317497b97bf1eae0be80a5a1b1aa35a43cc3240a", func := "loop.example/steelmill/laws.FnExactSlabsOk", spec := "fnExactSlabsOk", apart := false }
def FnExactSlabsOkSaid : Prop := fnExactSlabsOkRow.holds Try.pinned (OpenSpec.ofChange fnExactSlabsOkSpec)

/-- ITS FALSE NEIGHBOUR: 'it returns false'. Refute it at one input. -/
def fnExactSlabsOkWrong : ChangeSpec := { name := "fnExactSlabsOk", fn := fun _ => fun
  | [d1, d2, d3, d4] => { results := [.lit (.bool false)], args := [d1, d2, d3, d4] }
  | _ => none }
def FnExactSlabsOkWrongFalsely : Prop := fnExactSlabsOkRow.holds Try.pinned (OpenSpec.ofChange fnExactSlabsOkWrong)

/-- 'laws.FnExactSlabsWaste': WHATEVER THE INPUT: true; the input reads as it did. -/
def fnExactSlabsWasteSpec : ChangeSpec := { name := "fnExactSlabsWaste", fn := fun _ => fun
  | [d1, d2, d3, d4] => { results := [.lit (.bool true)], args := [d1, d2, d3, d4] }
  | _ => none }
def fnExactSlabsWasteRow : OpenClaim := { program := "ytmomcelhigcceaa", sum := "f8993c841f63e2aad8bf494f317497b97bf1eae0be80a5a1b1aa35a43cc3240a", func := "loop.example/steelmill/laws.FnExactSlabsWaste", spec := "fnExactSlabsWaste", apart := false }
def FnExactSlabsWasteSaid : Prop := fnExactSlabsWasteRow.holds Try.pinned (OpenSpec.ofChange fnExactSlabsWasteSpec)

/-- ITS FALSE NEIGHBOUR: 'it returns false'. Refute it at one input. -/
def fnExactSlabsWasteWrong : ChangeSpec := { name := "fnExactSlabsWaste", fn := fun _ => fun
  | [d1, d2, d3, d4] => { results := [.lit (.bool false)], args := [d1, d2, d3, d4] }
  | _ => none }
def FnExactSlabsWasteWrongFalsely : Prop := fnExactSlabsWasteRow.holds Try.pinned (OpenSpec.ofChange fnExactSlabsWasteWrong)

/-- 'laws.FnExactStrandsFit': WHATEVER THE INPUT: true; the input reads as it did. -/
def fnExactStrandsFitSpec : ChangeSpec := { name := "fnExactStrandsFit", fn := fun _ => fun
  | [d1, d2] => { results := [.lit (.bool true)], args := [d1, d2] }
  | _ => none }
def fnExactStrandsFitRow : OpenClaim := { program := "ytmomcelhigcceaa", sum := "f8993c841f63e2aad8bf494f317497b97bf1eae0be80a5a1b1aa35a43cc3240a", func := "loop.example/steelmill/laws.FnExactStrandsFit", spec := "fnExactStrandsFit", unfollowed := true, recurses := true, apart := false }
def FnExactStrandsFitSaid : Prop := fnExactStrandsFitRow.holds Try.pinned (OpenSpec.ofChange fnExactStrandsFitSpec)

/-- ITS FALSE NEIGHBOUR: 'it returns false'. Refute it at one input. -/
def fnExactStrandsFitWrong : ChangeSpec := { name := "fnExactStrandsFit", fn := fun _ => fun
  | [d1, d2] => { results := [.lit (.bool false)], args := [d1, d2] }
  | _ => none }
def FnExactStrandsFitWrongFalsely : Prop := fnExactStrandsFitRow.holds Try.pinned (OpenSpec.ofChange fnExactStrandsFitWrong)

/-- 'laws.FnExactSlabsBest': WHATEVER THE INPUT: true; the input reads as it did. -/
def fnExactSlabsBestSpec : ChangeSpec := { name := "fnExactSlabsBest", fn := fun _ => fun
  | [d1, d2, d3] => { results := [.lit (.bool true)], args := [d1, d2, d3] }
  | _ => none }
def fnExactSlabsBestRow : OpenClaim := { program := "ytmomcelhigcceaa", sum := "f8993c841f63e2aad8bf494f317497b97bf1eae0be80a5a1b1aa35a43cc3240a", func := "loop.example/steelmill/laws.FnExactSlabsBest", spec := "fnExactSlabsBest", apart := false }
def FnExactSlabsBestSaid : Prop := fnExactSlabsBestRow.holds Try.pinned (OpenSpec.ofChange fnExactSlabsBestSpec)

/-- ITS FALSE NEIGHBOUR: 'it returns false'. Refute it at one input. -/
def fnExactSlabsBestWrong : ChangeSpec := { name := "fnExactSlabsBest", fn := fun _ => fun
  | [d1, d2, d3] => { results := [.lit (.bool false)], args := [d1, d2, d3] }
  | _ => none }
def FnExactSlabsBestWrongFalsely : Prop := fnExactSlabsBestRow.holds Try.pinned (OpenSpec.ofChange fnExactSlabsBestWrong)

/-- 'laws.FnExactSlabsLeast': WHATEVER THE INPUT: true; the input reads as it did. -/
def fnExactSlabsLeastSpec : ChangeSpec := { name := "fnExactSlabsLeast", fn := fun _ => fun
  | [d1, d2, d3] => { results := [.lit (.bool true)], args := [d1, d2, d3] }
  | _ => none }
def fnExactSlabsLeastRow : OpenClaim := { program := "ytmomcelhigcceaa", sum := "f8993c841f63e2aad8bf494f317497b97bf1eae0be80a5a1b1aa35a43cc3240a", func := "loop.example/steelmill/laws.FnExactSlabsLeast", spec := "fnExactSlabsLeast", apart := false }
def FnExactSlabsLeastSaid : Prop := fnExactSlabsLeastRow.holds Try.pinned (OpenSpec.ofChange fnExactSlabsLeastSpec)

/-- ITS FALSE NEIGHBOUR: 'it returns false'. Refute it at one input. -/
def fnExactSlabsLeastWrong : ChangeSpec := { name := "fnExactSlabsLeast", fn := fun _ => fun
  | [d1, d2, d3] => { results := [.lit (.bool false)], args := [d1, d2, d3] }
  | _ => none }
def FnExactSlabsLeastWrongFalsely : Prop := fnExactSlabsLeastRow.holds Try.pinned (OpenSpec.ofChange fnExactSlabsLeastWrong)

/- THE SECOND FORM. 'bulk': how many values and letters a reading holds, each counted each time it is reached (what is shared counts as often as it is met; a slice's spare places count too). A statement '..UptoSaid' is the law's where the arguments, and the package variables that the reading takes, are together of bulk at most 1048576: NARROWER than '..Said'. Prove '..Said' where nothing that the law and all that it calls make is longer than what came in: it says more and counts as full. Else prove '..UptoSaid'. A law counts once. -/
mutual
def uptoBulk {H : Type} : DataW H → Nat
  | .lit (.string bytes) => bytes.length + 1
  | .lit _ => 1
  | .nil => 1
  | .ptr d => uptoBulk d + 1
  | .slice elems spare => uptoBulkAll elems + uptoBulkAll spare + 1
  | .agg parts => uptoBulkAll parts + 1
  | .iface _ d => uptoBulk d + 1
  | .map entries => uptoBulkEntries entries + 1
  | .held _ => 1
def uptoBulkAll {H : Type} : List (DataW H) → Nat
  | [] => 0
  | d :: r => uptoBulk d + uptoBulkAll r
def uptoBulkEntries {H : Type} : List (Lit × DataW H) → Nat
  | [] => 0
  | x :: r => uptoBulkEntry x + uptoBulkEntries r
def uptoBulkEntry {H : Type} : Lit × DataW H → Nat
  | (.string bytes, d) => bytes.length + uptoBulk d + 1
  | (_, d) => uptoBulk d + 1
 end
def uptoSmall : (H : Type) → List (DataW H) → Bool := fun _ ds => decide (uptoBulkAll ds ≤ 1048576)
def OpenSpec.upto (s : _root_.Go.ChangeSpec) : _root_.Go.OpenSpec := { _root_.Go.OpenSpec.ofChange s with cond := some uptoSmall }

/-- 'laws.FnExactWantsValid', WHERE WHAT IT READS IS OF BULK AT MOST 1048576: true; the input reads as it did. -/
def fnExactWantsValidUptoRow : OpenClaim := { program := "ytmomcelhigcceaa", sum := "f8993c841f63e2aad8bf494f317497b97bf1eae0be80a5a1b1aa35a43cc3240a", func := "loop.example/steelmill/laws.FnExactWantsValid", spec := "fnExactWantsValid", apart := false, narrowed := true }
def FnExactWantsValidUptoSaid : Prop := fnExactWantsValidUptoRow.holds Try.pinned (OpenSpec.upto fnExactWantsValidSpec)

/-- 'laws.FnExactLengthsValid', WHERE WHAT IT READS IS OF BULK AT MOST 1048576: true; the input reads as it did. -/
def fnExactLengthsValidUptoRow : OpenClaim := { program := "ytmomcelhigcceaa", sum := "f8993c841f63e2aad8bf494f317497b97bf1eae0be80a5a1b1aa35a43cc3240a", func := "loop.example/steelmill/laws.FnExactLengthsValid", spec := "fnExactLengthsValid", apart := false, narrowed := true }
def FnExactLengthsValidUptoSaid : Prop := fnExactLengthsValidUptoRow.holds Try.pinned (OpenSpec.upto fnExactLengthsValidSpec)

/-- 'laws.FnExactBadValid', WHERE WHAT IT READS IS OF BULK AT MOST 1048576: true; the input reads as it did. -/
def fnExactBadValidUptoRow : OpenClaim := { program := "ytmomcelhigcceaa", sum := "f8993c841f63e2aad8bf494f317497b97bf1eae0be80a5a1b1aa35a43cc3240a", func := "loop.example/steelmill/laws.FnExactBadValid", spec := "fnExactBadValid", apart := false, narrowed := true }
def FnExactBadValidUptoSaid : Prop := fnExactBadValidUptoRow.holds Try.pinned (OpenSpec.upto fnExactBadValidSpec)

/-- 'laws.FnExactCutWaste', WHERE WHAT IT READS IS OF BULK AT MOST 1048576: true; the input reads as it did. -/
def fnExactCutWasteUptoRow : OpenClaim := { program := "ytmomcelhigcceaa", sum := "f8993c841f63e2aad8bf494f317497b97bf1eae0be80a5a1b1aa35a43cc3240a", func := "loop.example/steelmill/laws.FnExactCutWaste", spec := "fnExactCutWaste", apart := false, narrowed := true }
def FnExactCutWasteUptoSaid : Prop := fnExactCutWasteUptoRow.holds Try.pinned (OpenSpec.upto fnExactCutWasteSpec)

/-- 'laws.FnExactStrandsOk', WHERE WHAT IT READS IS OF BULK AT MOST 1048576: true; the input reads as it did. -/
def fnExactStrandsOkUptoRow : OpenClaim := { program := "ytmomcelhigcceaa", sum := "f8993c841f63e2aad8bf494f317497b97bf1eae0be80a5a1b1aa35a43cc3240a", func := "loop.example/steelmill/laws.FnExactStrandsOk", spec := "fnExactStrandsOk", apart := false, narrowed := true }
def FnExactStrandsOkUptoSaid : Prop := fnExactStrandsOkUptoRow.holds Try.pinned (OpenSpec.upto fnExactStrandsOkSpec)

/-- 'laws.FnExactCutLeast', WHERE WHAT IT READS IS OF BULK AT MOST 1048576: true; the input reads as it did. -/
def fnExactCutLeastUptoRow : OpenClaim := { program := "ytmomcelhigcceaa", sum := "f8993c841f63e2aad8bf494f317497b97bf1eae0be80a5a1b1aa35a43cc3240a", func := "loop.example/steelmill/laws.FnExactCutLeast", spec := "fnExactCutLeast", apart := false, narrowed := true }
def FnExactCutLeastUptoSaid : Prop := fnExactCutLeastUptoRow.holds Try.pinned (OpenSpec.upto fnExactCutLeastSpec)

/-- 'laws.FnExactCutBest', WHERE WHAT IT READS IS OF BULK AT MOST 1048576: true; the input reads as it did. -/
def fnExactCutBestUptoRow : OpenClaim := { program := "ytmomcelhigcceaa", sum := "f8993c841f63e2aad8bf494f317497b97bf1eae0be80a5a1b1aa35a43cc3240a", func := "loop.example/steelmill/laws.FnExactCutBest", spec := "fnExactCutBest", apart := false, narrowed := true }
def FnExactCutBestUptoSaid : Prop := fnExactCutBestUptoRow.holds Try.pinned (OpenSpec.upto fnExactCutBestSpec)

/-- 'laws.FnExactStrandsMany', WHERE WHAT IT READS IS OF BULK AT MOST 1048576: true; the input reads as it did. -/
def fnExactStrandsManyUptoRow : OpenClaim := { program := "ytmomcelhigcceaa", sum := "f8993c841f63e2aad8bf494f317497b97bf1eae0be80a5a1b1aa35a43cc3240a", func := "loop.example/steelmill/laws.FnExactStrandsMany", spec := "fnExactStrandsMany", apart := false, narrowed := true }
def FnExactStrandsManyUptoSaid : Prop := fnExactStrandsManyUptoRow.holds Try.pinned (OpenSpec.upto fnExactStrandsManySpec)

/-- 'laws.FnExactGoodParts', WHERE WHAT IT READS IS OF BULK AT MOST 1048576: true; the input reads as it did. -/
def fnExactGoodPartsUptoRow : OpenClaim := { program := "ytmomcelhigcceaa", sum := "f8993c841f63e2aad8bf494f317497b97bf1eae0be80a5a1b1aa35a43cc3240a", func := "loop.example/steelmill/laws.FnExactGoodParts", spec := "fnExactGoodParts", apart := false, narrowed := true }
def FnExactGoodPartsUptoSaid : Prop := fnExactGoodPartsUptoRow.holds Try.pinned (OpenSpec.upto fnExactGoodPartsSpec)

/-- 'laws.FnExactSlabsOk', WHERE WHAT IT READS IS OF BULK AT MOST 1048576: true; the input reads as it did. -/
def fnExactSlabsOkUptoRow : OpenClaim := { program := "ytmomcelhigcceaa", sum := "f8993c841f63e2aad8bf494f317497b97bf1eae0be80a5a1b1aa35a43cc3240a", func := "loop.example/steelmill/laws.FnExactSlabsOk", spec := "fnExactSlabsOk", apart := false, narrowed := true }
def FnExactSlabsOkUptoSaid : Prop := fnExactSlabsOkUptoRow.holds Try.pinned (OpenSpec.upto fnExactSlabsOkSpec)

/-- 'laws.FnExactSlabsWaste', WHERE WHAT IT READS IS OF BULK AT MOST 1048576: true; the input reads as it did. -/
def fnExactSlabsWasteUptoRow : OpenClaim := { program := "ytmomcelhigcceaa", sum := "f8993c841f63e2aad8bf494f317497b97bf1eae0be80a5a1b1aa35a43cc3240a", func := "loop.example/steelmill/laws.FnExactSlabsWaste", spec := "fnExactSlabsWaste", apart := false, narrowed := true }
def FnExactSlabsWasteUptoSaid : Prop := fnExactSlabsWasteUptoRow.holds Try.pinned (OpenSpec.upto fnExactSlabsWasteSpec)

/-- 'laws.FnExactStrandsFit', WHERE WHAT IT READS IS OF BULK AT MOST 1048576: true; the input reads as it did. -/
def fnExactStrandsFitUptoRow : OpenClaim := { program := "ytmomcelhigcceaa", sum := "f8993c841f63e2aad8bf494f317497b97bf1eae0be80a5a1b1aa35a43cc3240a", func := "loop.example/steelmill/laws.FnExactStrandsFit", spec := "fnExactStrandsFit", unfollowed := true, recurses := true, apart := false, narrowed := true }
def FnExactStrandsFitUptoSaid : Prop := fnExactStrandsFitUptoRow.holds Try.pinned (OpenSpec.upto fnExactStrandsFitSpec)

/-- 'laws.FnExactSlabsBest', WHERE WHAT IT READS IS OF BULK AT MOST 1048576: true; the input reads as it did. -/
def fnExactSlabsBestUptoRow : OpenClaim := { program := "ytmomcelhigcceaa", sum := "f8993c841f63e2aad8bf494f317497b97bf1eae0be80a5a1b1aa35a43cc3240a", func := "loop.example/steelmill/laws.FnExactSlabsBest", spec := "fnExactSlabsBest", apart := false, narrowed := true }
def FnExactSlabsBestUptoSaid : Prop := fnExactSlabsBestUptoRow.holds Try.pinned (OpenSpec.upto fnExactSlabsBestSpec)

/-- 'laws.FnExactSlabsLeast', WHERE WHAT IT READS IS OF BULK AT MOST 1048576: true; the input reads as it did. -/
def fnExactSlabsLeastUptoRow : OpenClaim := { program := "ytmomcelhigcceaa", sum := "f8993c841f63e2aad8bf494f317497b97bf1eae0be80a5a1b1aa35a43cc3240a", func := "loop.example/steelmill/laws.FnExactSlabsLeast", spec := "fnExactSlabsLeast", apart := false, narrowed := true }
def FnExactSlabsLeastUptoSaid : Prop := fnExactSlabsLeastUptoRow.holds Try.pinned (OpenSpec.upto fnExactSlabsLeastSpec)

end Rows
end Go.Proofs.Ytmomcelhigcceaa
