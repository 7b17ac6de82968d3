/-
  NARROWER THAN 'FOR EVERY INPUT', by the rows' own cells (each row's printed sentence says how): FnFurnaceValid: laid · FnHeatStep: laid · FnHeatAfter: laid · FnChargesValid: laid · FnHeatMinutes: laid · FnHeatLeast: laid · FnPassEnd: laid · FnPassTimes: laid · FnPassesOk: laid · FnPassOver: laid · FnSplitEnd: laid · FnPassInside: laid.
  DERIVED. THE GIVEN ROWS OF THIS SEAT. 12 by the template 'for every input the law returns true; each argument reads behind the call as it read before'; 0 by the template 'total and deterministic' (their statements: YtiddlpgpbafdmaaDoorTotals.lean).
  GIVEN WITH THE SEED: the statements are not yours to turn. If you find one false, say at which input.
  Laid BY PROGRAM, IN A SANDBOX (cutbox-rows.mjs): the forced cells as the released guide's own fill.sh prints them over the translation 16bd2a54be1b2742… (all of the seat's roots in one cut). By AI agents, Wed Nov 11 2026. No macro, syntax, notation, axiom, sorry.
-/
import Derived.Test.YtiddlpgpbafdmaaDoorChecked
import GoSem.Claim
import GoSem.ClaimJoined
import GoSem.ClaimMapViews
import Derived.JoinedTies
import Derived.KernelRfl
namespace Go.Proofs.YtiddlpgpbafdmaaDoor
/- THE CELL 'sum', in the pinned program and in every row, IS THE sha256 OF THE DUMP (.gsa) THAT YtiddlpgpbafdmaaDoorProg.lean LOADS. Nothing in Lean hashes anything: it is a label: what it is worth is what the hold of that sum in a sandbox is worth. -/
noncomputable def Tryd.pinned : Pinned := { name := "ytiddlpgpbafdmaadoor", sum := "16bd2a54be1b274224a0df197e8edcef08b19b6dbd21236b522e8becc668717a", checked := Tryd.checked }
namespace Rows
def none {H : Type} : Left H := { results := [], args := [] }

/- WHAT THE LISTED PACKAGE-LEVEL VARIABLES READ AS WHEN THE CALL BEGINS. Each datum BY PROGRAM (the guide's laid-datum.mjs) off the statement by which the dump's own 'gosem.cut.vars' lays the variable. In a bare row this is a premise. The card (YtiddlpgpbafdmaaDoorCards.lean) ties it to the program's text. -/
def laid_math_bits_deBruijn32tab {H : Type} : DataW H := .agg [.lit (.int .u8 0), .lit (.int .u8 1), .lit (.int .u8 28), .lit (.int .u8 2), .lit (.int .u8 29), .lit (.int .u8 14), .lit (.int .u8 24), .lit (.int .u8 3), .lit (.int .u8 30), .lit (.int .u8 22), .lit (.int .u8 20), .lit (.int .u8 15), .lit (.int .u8 25), .lit (.int .u8 17), .lit (.int .u8 4), .lit (.int .u8 8), .lit (.int .u8 31), .lit (.int .u8 27), .lit (.int .u8 13), .lit (.int .u8 23), .lit (.int .u8 21), .lit (.int .u8 19), .lit (.int .u8 16), .lit (.int .u8 7), .lit (.int .u8 26), .lit (.int .u8 12), .lit (.int .u8 18), .lit (.int .u8 6), .lit (.int .u8 11), .lit (.int .u8 5), .lit (.int .u8 10), .lit (.int .u8 9)]
def laid_math_bits_deBruijn64tab {H : Type} : DataW H := .agg [.lit (.int .u8 0), .lit (.int .u8 1), .lit (.int .u8 56), .lit (.int .u8 2), .lit (.int .u8 57), .lit (.int .u8 49), .lit (.int .u8 28), .lit (.int .u8 3), .lit (.int .u8 61), .lit (.int .u8 58), .lit (.int .u8 42), .lit (.int .u8 50), .lit (.int .u8 38), .lit (.int .u8 29), .lit (.int .u8 17), .lit (.int .u8 4), .lit (.int .u8 62), .lit (.int .u8 47), .lit (.int .u8 59), .lit (.int .u8 36), .lit (.int .u8 45), .lit (.int .u8 43), .lit (.int .u8 51), .lit (.int .u8 22), .lit (.int .u8 53), .lit (.int .u8 39), .lit (.int .u8 33), .lit (.int .u8 30), .lit (.int .u8 24), .lit (.int .u8 18), .lit (.int .u8 12), .lit (.int .u8 5), .lit (.int .u8 63), .lit (.int .u8 55), .lit (.int .u8 48), .lit (.int .u8 27), .lit (.int .u8 60), .lit (.int .u8 41), .lit (.int .u8 37), .lit (.int .u8 16), .lit (.int .u8 46), .lit (.int .u8 35), .lit (.int .u8 44), .lit (.int .u8 21), .lit (.int .u8 52), .lit (.int .u8 32), .lit (.int .u8 23), .lit (.int .u8 11), .lit (.int .u8 54), .lit (.int .u8 26), .lit (.int .u8 40), .lit (.int .u8 15), .lit (.int .u8 34), .lit (.int .u8 20), .lit (.int .u8 31), .lit (.int .u8 10), .lit (.int .u8 25), .lit (.int .u8 14), .lit (.int .u8 19), .lit (.int .u8 9), .lit (.int .u8 13), .lit (.int .u8 8), .lit (.int .u8 7), .lit (.int .u8 6)]
def laid_internal_strconv_uint64pow10 {H : Type} : DataW H := .agg [.lit (.int .u64 1), .lit (.int .u64 10), .lit (.int .u64 100), .lit (.int .u64 1000), .lit (.int .u64 10000), .lit (.int .u64 100000), .lit (.int .u64 1000000), .lit (.int .u64 10000000), .lit (.int .u64 100000000), .lit (.int .u64 1000000000), .lit (.int .u64 10000000000), .lit (.int .u64 100000000000), .lit (.int .u64 1000000000000), .lit (.int .u64 10000000000000), .lit (.int .u64 100000000000000), .lit (.int .u64 1000000000000000), .lit (.int .u64 10000000000000000), .lit (.int .u64 100000000000000000), .lit (.int .u64 1000000000000000000), .lit (.int .u64 10000000000000000000)]

/-- 'laws.FnFurnaceValid': WHATEVER THE INPUT: true; the input reads as it did. -/
def fnFurnaceValidSpec : ChangeSpec := { name := "fnFurnaceValid", fn := fun _ => fun
  | [d] => { results := [.lit (.bool true)], args := [d] }
  | _ => none }
def fnFurnaceValidRow : OpenClaim := { program := "ytiddlpgpbafdmaadoor", sum := "16bd2a54be1b274224a0df197e8edcef08b19b6dbd21236b522e8becc668717a", func := "loop.example/steelmill/laws.FnFurnaceValid", spec := "fnFurnaceValid", named := ["internal/strconv.uint64pow10", "math/bits.deBruijn32tab", "math/bits.deBruijn64tab"], apart := false, laid := [("math/bits.deBruijn32tab", laid_math_bits_deBruijn32tab), ("math/bits.deBruijn64tab", laid_math_bits_deBruijn64tab), ("internal/strconv.uint64pow10", laid_internal_strconv_uint64pow10)] }
def FnFurnaceValidSaid : Prop := fnFurnaceValidRow.holds Tryd.pinned (OpenSpec.ofChange fnFurnaceValidSpec)

/-- ITS FALSE NEIGHBOUR: 'it returns false'. Refute it at one input. -/
def fnFurnaceValidWrong : ChangeSpec := { name := "fnFurnaceValid", fn := fun _ => fun
  | [d] => { results := [.lit (.bool false)], args := [d] }
  | _ => none }
def FnFurnaceValidWrongFalsely : Prop := fnFurnaceValidRow.holds Tryd.pinned (OpenSpec.ofChange fnFurnaceValidWrong)

/-- 'laws.FnHeatStep': WHATEVER THE INPUT: true; the input reads as it did. -/
def fnHeatStepSpec : ChangeSpec := { name := "fnHeatStep", fn := fun _ => fun
  | [d] => { results := [.lit (.bool true)], args := [d] }
  | _ => none }
def fnHeatStepRow : OpenClaim := { program := "ytiddlpgpbafdmaadoor", sum := "16bd2a54be1b274224a0df197e8edcef08b19b6dbd21236b522e8becc668717a", func := "loop.example/steelmill/laws.FnHeatStep", spec := "fnHeatStep", named := ["internal/strconv.uint64pow10", "math/bits.deBruijn32tab", "math/bits.deBruijn64tab"], apart := false, laid := [("math/bits.deBruijn32tab", laid_math_bits_deBruijn32tab), ("math/bits.deBruijn64tab", laid_math_bits_deBruijn64tab), ("internal/strconv.uint64pow10", laid_internal_strconv_uint64pow10)] }
def FnHeatStepSaid : Prop := fnHeatStepRow.holds Tryd.pinned (OpenSpec.ofChange fnHeatStepSpec)

/-- ITS FALSE NEIGHBOUR: 'it returns false'. Refute it at one input. -/
def fnHeatStepWrong : ChangeSpec := { name := "fnHeatStep", fn := fun _ => fun
  | [d] => { results := [.lit (.bool false)], args := [d] }
  | _ => none }
def FnHeatStepWrongFalsely : Prop := fnHeatStepRow.holds Tryd.pinned (OpenSpec.ofChange fnHeatStepWrong)

/-- 'laws.FnHeatAfter': WHATEVER THE INPUT: true; the input reads as it did. -/
def fnHeatAfterSpec : ChangeSpec := { name := "fnHeatAfter", fn := fun _ => fun
  | [d] => { results := [.lit (.bool true)], args := [d] }
  | _ => none }
def fnHeatAfterRow : OpenClaim := { program := "ytiddlpgpbafdmaadoor", sum := "16bd2a54be1b274224a0df197e8edcef08b19b6dbd21236b522e8becc668717a", func := "loop.example/steelmill/laws.FnHeatAfter", spec := "fnHeatAfter", named := ["internal/strconv.uint64pow10", "math/bits.deBruijn32tab", "math/bits.deBruijn64tab"], apart := false, laid := [("math/bits.deBruijn32tab", laid_math_bits_deBruijn32tab), ("math/bits.deBruijn64tab", laid_math_bits_deBruijn64tab), ("internal/strconv.uint64pow10", laid_internal_strconv_uint64pow10)] }
def FnHeatAfterSaid : Prop := fnHeatAfterRow.holds Tryd.pinned (OpenSpec.ofChange fnHeatAfterSpec)

/-- ITS FALSE NEIGHBOUR: 'it returns false'. Refute it at one input. -/
def fnHeatAfterWrong : ChangeSpec := { name := "fnHeatAfter", fn := fun _ => fun
  | [d] => { results := [.lit (.bool false)], args := [d] }
  | _ => none }
def FnHeatAfterWrongFalsely : Prop := fnHeatAfterRow.holds Tryd.pinned (OpenSpec.ofChange fnHeatAfterWrong)

/-- 'laws.FnChargesValid': WHATEVER THE INPUT: true; the input reads as it did. -/
def fnChargesValidSpec : ChangeSpec := { name := "fnChargesValid", fn := fun _ => fun
  | [d] => { results := [.lit (.bool true)], args := [d] }
  | _ => none }
def fnChargesValidRow : OpenClaim := { program := "ytiddlpgpbafdmaadoor", sum := "16bd2a54be1b274224a0df197e8edcef08b19b6dbd21236b522e8becc668717a", func := "loop.example/steelmill/laws.FnChargesValid", spec := "fnChargesValid", named := ["internal/strconv.uint64pow10", "math/bits.deBruijn32tab", "math/bits.deBruijn64tab"], apart := false, laid := [("math/bits.deBruijn32tab", laid_math_bits_deBruijn32tab), ("math/bits.deBruijn64tab", laid_math_bits_deBruijn64tab), ("internal/strconv.uint64pow10", laid_internal_strconv_uint64pow10)] }
def FnChargesValidSaid : Prop := fnChargesValidRow.holds Tryd.pinned (OpenSpec.ofChange fnChargesValidSpec)

/-- ITS FALSE NEIGHBOUR: 'it returns false'. Refute it at one input. -/
def fnChargesValidWrong : ChangeSpec := { name := "fnChargesValid", fn := fun _ => fun
  | [d] => { results := [.lit (.bool false)], args := [d] }
  | _ => none }
def FnChargesValidWrongFalsely : Prop := fnChargesValidRow.holds Tryd.pinned (OpenSpec.ofChange fnChargesValidWrong)

/-- 'laws.FnHeatMinutes': WHATEVER THE INPUT: true; the input reads as it did. -/
def fnHeatMinutesSpec : ChangeSpec := { name := "fnHeatMinutes", fn := fun _ => fun
  | [d] => { results := [.lit (.bool true)], args := [d] }
  | _ => none }
def fnHeatMinutesRow : OpenClaim := { program := "ytiddlpgpbafdmaadoor", sum := "16bd2a54be1b274224a0df197e8edcef08b19b6dbd21236b522e8becc668717a", func := "loop.example/steelmill/laws.FnHeatMinutes", spec := "fnHeatMinutes", named := ["internal/strconv.uint64pow10", "math/bits.deBruijn32tab", "math/bits.deBruijn64tab"], apart := false, laid := [("math/bits.deBruijn32tab", laid_math_bits_deBruijn32tab), ("math/bits.deBruijn64tab", laid_math_bits_deBruijn64tab), ("internal/strconv.uint64pow10", laid_internal_strconv_uint64pow10)] }
def FnHeatMinutesSaid : Prop := fnHeatMinutesRow.holds Tryd.pinned (OpenSpec.ofChange fnHeatMinutesSpec)

/-- ITS FALSE NEIGHBOUR: 'it returns false'. Refute it at one input. -/
def fnHeatMinutesWrong : ChangeSpec := { name := "fnHeatMinutes", fn := fun _ => fun
  | [d] => { results := [.lit (.bool false)], args := [d] }
  | _ => none }
def FnHeatMinutesWrongFalsely : Prop := fnHeatMinutesRow.holds Tryd.pinned (OpenSpec.ofChange fnHeatMinutesWrong)

/-- 'laws.FnHeatLeast': WHATEVER THE INPUT: true; the input reads as it did. -/
def fnHeatLeastSpec : ChangeSpec := { name := "fnHeatLeast", fn := fun _ => fun
  | [d] => { results := [.lit (.bool true)], args := [d] }
  | _ => none }
def fnHeatLeastRow : OpenClaim := { program := "ytiddlpgpbafdmaadoor", sum := "16bd2a54be1b274224a0df197e8edcef08b19b6dbd21236b522e8becc668717a", func := "loop.example/steelmill/laws.FnHeatLeast", spec := "fnHeatLeast", named := ["internal/strconv.uint64pow10", "math/bits.deBruijn32tab", "math/bits.deBruijn64tab"], apart := false, laid := [("math/bits.deBruijn32tab", laid_math_bits_deBruijn32tab), ("math/bits.deBruijn64tab", laid_math_bits_deBruijn64tab), ("internal/strconv.uint64pow10", laid_internal_strconv_uint64pow10)] }
def FnHeatLeastSaid : Prop := fnHeatLeastRow.holds Tryd.pinned (OpenSpec.ofChange fnHeatLeastSpec)

/-- ITS FALSE NEIGHBOUR: 'it returns false'. Refute it at one input. -/
def fnHeatLeastWrong : ChangeSpec := { name := "fnHeatLeast", fn := fun _ => fun
  | [d] => { results := [.lit (.bool false)], args := [d] }
  | _ => none }
def FnHeatLeastWrongFalsely : Prop := fnHeatLeastRow.holds Tryd.pinned (OpenSpec.ofChange fnHeatLeastWrong)

/-- 'laws.FnPassEnd': WHATEVER THE INPUT: true; the input reads as it did. -/
def fnPassEndSpec : ChangeSpec := { name := "fnPassEnd", fn := fun _ => fun
  | [d] => { results := [.lit (.bool true)], args := [d] }
  | _ => none }
def fnPassEndRow : OpenClaim := { program := "ytiddlpgpbafdmaadoor", sum := "16bd2a54be1b274224a0df197e8edcef08b19b6dbd21236b522e8becc668717a", func := "loop.example/steelmill/laws.FnPassEnd", spec := "fnPassEnd", named := ["internal/strconv.uint64pow10", "math/bits.deBruijn32tab", "math/bits.deBruijn64tab"], apart := false, laid := [("math/bits.deBruijn32tab", laid_math_bits_deBruijn32tab), ("math/bits.deBruijn64tab", laid_math_bits_deBruijn64tab), ("internal/strconv.uint64pow10", laid_internal_strconv_uint64pow10)] }
def FnPassEndSaid : Prop := fnPassEndRow.holds Tryd.pinned (OpenSpec.ofChange fnPassEndSpec)

/-- ITS FALSE NEIGHBOUR: 'it returns false'. Refute it at one input. -/
def fnPassEndWrong : ChangeSpec := { name := "fnPassEnd", fn := fun _ => fun
  | [d] => { results := [.lit (.bool false)], args := [d] }
  | _ => none }
def FnPassEndWrongFalsely : Prop := fnPassEndRow.holds Tryd.pinned (OpenSpec.ofChange fnPassEndWrong)

/-- 'laws.FnPassTimes': WHATEVER THE INPUT: true; the input reads as it did. -/
def fnPassTimesSpec : ChangeSpec := { name := "fnPassTimes", fn := fun _ => fun
  | [d] => { results := [.lit (.bool true)], args := [d] }
  | _ => none }
def fnPassTimesRow : OpenClaim := { program := "ytiddlpgpbafdmaadoor", sum := "16bd2a54be1b274224a0df197e8edcef08b19b6dbd21236b522e8becc668717a", func := "loop.example/steelmill/laws.FnPassTimes", spec := "fnPassTimes", named := ["internal/strconv.uint64pow10", "math/bits.deBruijn32tab", "math/bits.deBruijn64tab"], apart := false, laid := [("math/bits.deBruijn32tab", laid_math_bits_deBruijn32tab), ("math/bits.deBruijn64tab", laid_math_bits_deBruijn64tab), ("internal/strconv.uint64pow10", laid_internal_strconv_uint64pow10)] }
def FnPassTimesSaid : Prop := fnPassTimesRow.holds Tryd.pinned (OpenSpec.ofChange fnPassTimesSpec)

/-- ITS FALSE NEIGHBOUR: 'it returns false'. Refute it at one input. -/
def fnPassTimesWrong : ChangeSpec := { name := "fnPassTimes", fn := fun _ => fun
  | [d] => { results := [.lit (.bool false)], args := [d] }
  | _ => none }
def FnPassTimesWrongFalsely : Prop := fnPassTimesRow.holds Tryd.pinned (OpenSpec.ofChange fnPassTimesWrong)

/-- 'laws.FnPassesOk': WHATEVER THE INPUT: true; the input reads as it did. -/
def fnPassesOkSpec : ChangeSpec := { name := "fnPassesOk", fn := fun _ => fun
  | [d] => { results := [.lit (.bool true)], args := [d] }
  | _ => none }
def fnPassesOkRow : OpenClaim := { program := "ytiddlpgpbafdmaadoor", sum := "16bd2a54be1b274224a0df197e8edcef08b19b6dbd21236b522e8becc668717a", func := "loop.example/steelmill/laws.FnPassesOk", spec := "fnPassesOk", named := ["internal/strconv.uint64pow10", "math/bits.deBruijn32tab", "math/bits.deBruijn64tab"], apart := false, laid := [("math/bits.deBruijn32tab", laid_math_bits_deBruijn32tab), ("math/bits.deBruijn64tab", laid_math_bits_deBruijn64tab), ("internal/strconv.uint64pow10", laid_internal_strconv_uint64pow10)] }
def FnPassesOkSaid : Prop := fnPassesOkRow.holds Tryd.pinned (OpenSpec.ofChange fnPassesOkSpec)

/-- ITS FALSE NEIGHBOUR: 'it returns false'. Refute it at one input. -/
def fnPassesOkWrong : ChangeSpec := { name := "fnPassesOk", fn := fun _ => fun
  | [d] => { results := [.lit (.bool false)], args := [d] }
  | _ => none }
def FnPassesOkWrongFalsely : Prop := fnPassesOkRow.holds Tryd.pinned (OpenSpec.ofChange fnPassesOkWrong)

/-- 'laws.FnPassOver': WHATEVER THE INPUT: true; the input reads as it did. -/
def fnPassOverSpec : ChangeSpec := { name := "fnPassOver", fn := fun _ => fun
  | [d] => { results := [.lit (.bool true)], args := [d] }
  | _ => none }
def fnPassOverRow : OpenClaim := { program := "ytiddlpgpbafdmaadoor", sum := "16bd2a54be1b274224a0df197e8edcef08b19b6dbd21236b522e8becc668717a", func := "loop.example/steelmill/laws.FnPassOver", spec := "fnPassOver", named := ["internal/strconv.uint64pow10", "math/bits.deBruijn32tab", "math/bits.deBruijn64tab"], apart := false, laid := [("math/bits.deBruijn32tab", laid_math_bits_deBruijn32tab), ("math/bits.deBruijn64tab", laid_math_bits_deBruijn64tab), ("internal/strconv.uint64pow10", laid_internal_strconv_uint64pow10)] }
def FnPassOverSaid : Prop := fnPassOverRow.holds Tryd.pinned (OpenSpec.ofChange fnPassOverSpec)

/-- ITS FALSE NEIGHBOUR: 'it returns false'. Refute it at one input. -/
def fnPassOverWrong : ChangeSpec := { name := "fnPassOver", fn := fun _ => fun
  | [d] => { results := [.lit (.bool false)], args := [d] }
  | _ => none }
def FnPassOverWrongFalsely : Prop := fnPassOverRow.holds Tryd.pinned (OpenSpec.ofChange fnPassOverWrong)

/-- 'laws.FnSplitEnd': WHATEVER THE INPUT: true; the input reads as it did. -/
def fnSplitEndSpec : ChangeSpec := { name := "fnSplitEnd", fn := fun _ => fun
  | [d] => { results := [.lit (.bool true)], args := [d] }
  | _ => none }
def fnSplitEndRow : OpenClaim := { program := "ytiddlpgpbafdmaadoor", sum := "16bd2a54be1b274224a0df197e8edcef08b19b6dbd21236b522e8becc668717a", func := "loop.example/steelmill/laws.FnSplitEnd", spec := "fnSplitEnd", named := ["internal/strconv.uint64pow10", "math/bits.deBruijn32tab", "math/bits.deBruijn64tab"], apart := false, laid := [("math/bits.deBruijn32tab", laid_math_bits_deBruijn32tab), ("math/bits.deBruijn64tab", laid_math_bits_deBruijn64tab), ("internal/strconv.uint64pow10", laid_internal_strconv_uint64pow10)] }
def FnSplitEndSaid : Prop := fnSplitEndRow.holds Tryd.pinned (OpenSpec.ofChange fnSplitEndSpec)

/-- ITS FALSE NEIGHBOUR: 'it returns false'. Refute it at one input. -/
def fnSplitEndWrong : ChangeSpec := { name := "fnSplitEnd", fn := fun _ => fun
  | [d] => { results := [.lit (.bool false)], args := [d] }
  | _ => none }
def FnSplitEndWrongFalsely : Prop := fnSplitEndRow.holds Tryd.pinned (OpenSpec.ofChange fnSplitEndWrong)

/-- 'laws.FnPassInside': WHATEVER THE INPUT: true; the input reads as it did. -/
def fnPassInsideSpec : ChangeSpec := { name := "fnPassInside", fn := fun _ => fun
  | [d] => { results := [.lit (.bool true)], args := [d] }
  | _ => none }
def fnPassInsideRow : OpenClaim := { program := "ytiddlpgpbafdmaadoor", sum := "16bd2a54be1b274224a0df197e8edcef08b19b6dbd21236b522e8becc668717a", func := "loop.example/steelmill/laws.FnPassInside", spec := "fnPassInside", named := ["internal/strconv.uint64pow10", "math/bits.deBruijn32tab", "math/bits.deBruijn64tab"], apart := false, laid := [("math/bits.deBruijn32tab", laid_math_bits_deBruijn32tab), ("math/bits.deBruijn64tab", laid_math_bits_deBruijn64tab), ("internal/strconv.uint64pow10", laid_internal_strconv_uint64pow10)] }
def FnPassInsideSaid : Prop := fnPassInsideRow.holds Tryd.pinned (OpenSpec.ofChange fnPassInsideSpec)

/-- ITS FALSE NEIGHBOUR: 'it returns false'. Refute it at one input. -/
def fnPassInsideWrong : ChangeSpec := { name := "fnPassInside", fn := fun _ => fun
  | [d] => { results := [.lit (.bool false)], args := [d] }
  | _ => none }
def FnPassInsideWrongFalsely : Prop := fnPassInsideRow.holds Tryd.pinned (OpenSpec.ofChange fnPassInsideWrong)

/- THE SECOND FORM. 'bulk': how many values and letters a reading holds, each counted each time it is reached (what is shared counts as often as it is met; a slice's spare places count too). A statement '..UptoSaid' is the law's where the arguments, and the package variables that the reading takes, are together of bulk at most 1048576: NARROWER than '..Said'. Prove '..Said' where nothing that the law and all that it calls make is longer than what came in: it says more and counts as full. Else prove '..UptoSaid'. A law counts once. -/
mutual
def uptoBulk {H : Type} : DataW H → Nat
  | .lit (.string bytes) => bytes.length + 1
  | .lit _ => 1
  | .nil => 1
  | .ptr d => uptoBulk d + 1
  | .slice elems spare => uptoBulkAll elems + uptoBulkAll spare + 1
  | .agg parts => uptoBulkAll parts + 1
  | .iface _ d => uptoBulk d + 1
  | .map entries => uptoBulkEntries entries + 1
  | .held _ => 1
def uptoBulkAll {H : Type} : List (DataW H) → Nat
  | [] => 0
  | d :: r => uptoBulk d + uptoBulkAll r
def uptoBulkEntries {H : Type} : List (Lit × DataW H) → Nat
  | [] => 0
  | x :: r => uptoBulkEntry x + uptoBulkEntries r
def uptoBulkEntry {H : Type} : Lit × DataW H → Nat
  | (.string bytes, d) => bytes.length + uptoBulk d + 1
  | (_, d) => uptoBulk d + 1
 end
def uptoSmall : (H : Type) → List (DataW H) → Bool := fun _ ds => decide (uptoBulkAll ds ≤ 1048576)
def OpenSpec.upto (s : _root_.Go.ChangeSpec) : _root_.Go.OpenSpec := { _root_.Go.OpenSpec.ofChange s with cond := some uptoSmall }

/-- 'laws.FnFurnaceValid', WHERE WHAT IT READS IS OF BULK AT MOST 1048576: true; the input reads as it did. -/
def fnFurnaceValidUptoRow : OpenClaim := { program := "ytiddlpgpbafdmaadoor", sum := "16bd2a54be1b274224a0df197e8edcef08b19b6dbd21236b522e8becc668717a", func := "loop.example/steelmill/laws.FnFurnaceValid", spec := "fnFurnaceValid", named := ["internal/strconv.uint64pow10", "math/bits.deBruijn32tab", "math/bits.deBruijn64tab"], apart := false, laid := [("math/bits.deBruijn32tab", laid_math_bits_deBruijn32tab), ("math/bits.deBruijn64tab", laid_math_bits_deBruijn64tab), ("internal/strconv.uint64pow10", laid_internal_strconv_uint64pow10)], narrowed := true }
def FnFurnaceValidUptoSaid : Prop := fnFurnaceValidUptoRow.holds Tryd.pinned (OpenSpec.upto fnFurnaceValidSpec)

/-- 'laws.FnHeatStep', WHERE WHAT IT READS IS OF BULK AT MOST 1048576: true; the input reads as it did. -/
def fnHeatStepUptoRow : OpenClaim := { program := "ytiddlpgpbafdmaadoor", sum := "16bd2a54be1b274224a0df197e8edcef08b19b6dbd21236b522e8becc668717a", func := "loop.example/steelmill/laws.FnHeatStep", spec := "fnHeatStep", named := ["internal/strconv.uint64pow10", "math/bits.deBruijn32tab", "math/bits.deBruijn64tab"], apart := false, laid := [("math/bits.deBruijn32tab", laid_math_bits_deBruijn32tab), ("math/bits.deBruijn64tab", laid_math_bits_deBruijn64tab), ("internal/strconv.uint64pow10", laid_internal_strconv_uint64pow10)], narrowed := true }
def FnHeatStepUptoSaid : Prop := fnHeatStepUptoRow.holds Tryd.pinned (OpenSpec.upto fnHeatStepSpec)

/-- 'laws.FnHeatAfter', WHERE WHAT IT READS IS OF BULK AT MOST 1048576: true; the input reads as it did. -/
def fnHeatAfterUptoRow : OpenClaim := { program := "ytiddlpgpbafdmaadoor", sum := "16bd2a54be1b274224a0df197e8edcef08b19b6dbd21236b522e8becc668717a", func := "loop.example/steelmill/laws.FnHeatAfter", spec := "fnHeatAfter", named := ["internal/strconv.uint64pow10", "math/bits.deBruijn32tab", "math/bits.deBruijn64tab"], apart := false, laid := [("math/bits.deBruijn32tab", laid_math_bits_deBruijn32tab), ("math/bits.deBruijn64tab", laid_math_bits_deBruijn64tab), ("internal/strconv.uint64pow10", laid_internal_strconv_uint64pow10)], narrowed := true }
def FnHeatAfterUptoSaid : Prop := fnHeatAfterUptoRow.holds Tryd.pinned (OpenSpec.upto fnHeatAfterSpec)

/-- 'laws.FnChargesValid', WHERE WHAT IT READS IS OF BULK AT MOST 1048576: true; the input reads as it did. -/
def fnChargesValidUptoRow : OpenClaim := { program := "ytiddlpgpbafdmaadoor", sum := "16bd2a54be1b274224a0df197e8edcef08b19b6dbd21236b522e8becc668717a", func := "loop.example/steelmill/laws.FnChargesValid", spec := "fnChargesValid", named := ["internal/strconv.uint64pow10", "math/bits.deBruijn32tab", "math/bits.deBruijn64tab"], apart := false, laid := [("math/bits.deBruijn32tab", laid_math_bits_deBruijn32tab), ("math/bits.deBruijn64tab", laid_math_bits_deBruijn64tab), ("internal/strconv.uint64pow10", laid_internal_strconv_uint64pow10)], narrowed := true }
def FnChargesValidUptoSaid : Prop := fnChargesValidUptoRow.holds Tryd.pinned (OpenSpec.upto fnChargesValidSpec)

/-- 'laws.FnHeatMinutes', WHERE WHAT IT READS IS OF BULK AT MOST 1048576: true; the input reads as it did. -/
def fnHeatMinutesUptoRow : OpenClaim := { program := "ytiddlpgpbafdmaadoor", sum := "16bd2a54be1b274224a0df197e8edcef08b19b6dbd21236b522e8becc668717a", func := "loop.example/steelmill/laws.FnHeatMinutes", spec := "fnHeatMinutes", named := ["internal/strconv.uint64pow10", "math/bits.deBruijn32tab", "math/bits.deBruijn64tab"], apart := false, laid := [("math/bits.deBruijn32tab", laid_math_bits_deBruijn32tab), ("math/bits.deBruijn64tab", laid_math_bits_deBruijn64tab), ("internal/strconv.uint64pow10", laid_internal_strconv_uint64pow10)], narrowed := true }
def FnHeatMinutesUptoSaid : Prop := fnHeatMinutesUptoRow.holds Tryd.pinned (OpenSpec.upto fnHeatMinutesSpec)

/-- 'laws.FnHeatLeast', WHERE WHAT IT READS IS OF BULK AT MOST 1048576: true; the input reads as it did. -/
def fnHeatLeastUptoRow : OpenClaim := { program := "ytiddlpgpbafdmaadoor", sum := "16bd2a54be1b274224a0df197e8edcef08b19b6dbd21236b522e8becc668717a", func := "loop.example/steelmill/laws.FnHeatLeast", spec := "fnHeatLeast", named := ["internal/strconv.uint64pow10", "math/bits.deBruijn32tab", "math/bits.deBruijn64tab"], apart := false, laid := [("math/bits.deBruijn32tab", laid_math_bits_deBruijn32tab), ("math/bits.deBruijn64tab", laid_math_bits_deBruijn64tab), ("internal/strconv.uint64pow10", laid_internal_strconv_uint64pow10)], narrowed := true }
def FnHeatLeastUptoSaid : Prop := fnHeatLeastUptoRow.holds Tryd.pinned (OpenSpec.upto fnHeatLeastSpec)

/-- 'laws.FnPassEnd', WHERE WHAT IT READS IS OF BULK AT MOST 1048576: true; the input reads as it did. -/
def fnPassEndUptoRow : OpenClaim := { program := "ytiddlpgpbafdmaadoor", sum := "16bd2a54be1b274224a0df197e8edcef08b19b6dbd21236b522e8becc668717a", func := "loop.example/steelmill/laws.FnPassEnd", spec := "fnPassEnd", named := ["internal/strconv.uint64pow10", "math/bits.deBruijn32tab", "math/bits.deBruijn64tab"], apart := false, laid := [("math/bits.deBruijn32tab", laid_math_bits_deBruijn32tab), ("math/bits.deBruijn64tab", laid_math_bits_deBruijn64tab), ("internal/strconv.uint64pow10", laid_internal_strconv_uint64pow10)], narrowed := true }
def FnPassEndUptoSaid : Prop := fnPassEndUptoRow.holds Tryd.pinned (OpenSpec.upto fnPassEndSpec)

/-- 'laws.FnPassTimes', WHERE WHAT IT READS IS OF BULK AT MOST 1048576: true; the input reads as it did. -/
def fnPassTimesUptoRow : OpenClaim := { program := "ytiddlpgpbafdmaadoor", sum := "16bd2a54be1b274224a0df197e8edcef08b19b6dbd21236b522e8becc668717a", func := "loop.example/steelmill/laws.FnPassTimes", spec := "fnPassTimes", named := ["internal/strconv.uint64pow10", "math/bits.deBruijn32tab", "math/bits.deBruijn64tab"], apart := false, laid := [("math/bits.deBruijn32tab", laid_math_bits_deBruijn32tab), ("math/bits.deBruijn64tab", laid_math_bits_deBruijn64tab), ("internal/strconv.uint64pow10", laid_internal_strconv_uint64pow10)], narrowed := true }
def FnPassTimesUptoSaid : Prop := fnPassTimesUptoRow.holds Tryd.pinned (OpenSpec.upto fnPassTimesSpec)

/-- 'laws.FnPassesOk', WHERE WHAT IT READS IS OF BULK AT MOST 1048576: true; the input reads as it did. -/
def fnPassesOkUptoRow : OpenClaim := { program := "ytiddlpgpbafdmaadoor", sum := "16bd2a54be1b274224a0df197e8edcef08b19b6dbd21236b522e8becc668717a", func := "loop.example/steelmill/laws.FnPassesOk", spec := "fnPassesOk", named := ["internal/strconv.uint64pow10", "math/bits.deBruijn32tab", "math/bits.deBruijn64tab"], apart := false, laid := [("math/bits.deBruijn32tab", laid_math_bits_deBruijn32tab), ("math/bits.deBruijn64tab", laid_math_bits_deBruijn64tab), ("internal/strconv.uint64pow10", laid_internal_strconv_uint64pow10)], narrowed := true }
def FnPassesOkUptoSaid : Prop := fnPassesOkUptoRow.holds Tryd.pinned (OpenSpec.upto fnPassesOkSpec)

/-- 'laws.FnPassOver', WHERE WHAT IT READS IS OF BULK AT MOST 1048576: true; the input reads as it did. -/
def fnPassOverUptoRow : OpenClaim := { program := "ytiddlpgpbafdmaadoor", sum := "16bd2a54be1b274224a0df197e8edcef08b19b6dbd21236b522e8becc668717a", func := "loop.example/steelmill/laws.FnPassOver", spec := "fnPassOver", named := ["internal/strconv.uint64pow10", "math/bits.deBruijn32tab", "math/bits.deBruijn64tab"], apart := false, laid := [("math/bits.deBruijn32tab", laid_math_bits_deBruijn32tab), ("math/bits.deBruijn64tab", laid_math_bits_deBruijn64tab), ("internal/strconv.uint64pow10", laid_internal_strconv_uint64pow10)], narrowed := true }
def FnPassOverUptoSaid : Prop := fnPassOverUptoRow.holds Tryd.pinned (OpenSpec.upto fnPassOverSpec)

/-- 'laws.FnSplitEnd', WHERE WHAT IT READS IS OF BULK AT MOST 1048576: true; the input reads as it did. -/
def fnSplitEndUptoRow : OpenClaim := { program := "ytiddlpgpbafdmaadoor", sum := "16bd2a54be1b274224a0df197e8edcef08b19b6dbd21236b522e8becc668717a", func := "loop.example/steelmill/laws.FnSplitEnd", spec := "fnSplitEnd", named := ["internal/strconv.uint64pow10", "math/bits.deBruijn32tab", "math/bits.deBruijn64tab"], apart := false, laid := [("math/bits.deBruijn32tab", laid_math_bits_deBruijn32tab), ("math/bits.deBruijn64tab", laid_math_bits_deBruijn64tab), ("internal/strconv.uint64pow10", laid_internal_strconv_uint64pow10)], narrowed := true }
def FnSplitEndUptoSaid : Prop := fnSplitEndUptoRow.holds Tryd.pinned (OpenSpec.upto fnSplitEndSpec)

/-- 'laws.FnPassInside', WHERE WHAT IT READS IS OF BULK AT MOST 1048576: true; the input reads as it did. -/
def fnPassInsideUptoRow : OpenClaim := { program := "ytiddlpgpbafdmaadoor", sum := "16bd2a54be1b274224a0df197e8edcef08b19b6dbd21236b522e8becc668717a", func := "loop.example/steelmill/laws.FnPassInside", spec := "fnPassInside", named := ["internal/strconv.uint64pow10", "math/bits.deBruijn32tab", "math/bits.deBruijn64tab"], apart := false, laid := [("math/bits.deBruijn32tab", laid_math_bits_deBruijn32tab), ("math/bits.deBruijn64tab", laid_math_bits_deBruijn64tab), ("internal/strconv.uint64pow10", laid_internal_strconv_uint64pow10)], narrowed := true }
def FnPassInsideUptoSaid : Prop := fnPassInsideUptoRow.holds Tryd.pinned (OpenSpec.upto fnPassInsideSpec)

end Rows
end Go.Proofs.YtiddlpgpbafdmaaDoor
