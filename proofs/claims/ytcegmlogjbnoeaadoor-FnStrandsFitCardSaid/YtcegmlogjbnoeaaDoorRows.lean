/-
  NARROWER THAN 'FOR EVERY INPUT', by the rows' own cells (each row's printed sentence says how): FnSlabsWaste: laid · FnSlabsLeast: laid · FnLengthsValid: laid · FnBadValid: laid · FnWantsValid: laid · FnCutLeast: laid · FnGoodParts: laid · FnCutWaste: laid · FnStrandsLeast: laid · FnCutBest: laid · FnStrandsOk: laid · FnStrandsMany: laid · FnSlabsOk: laid · FnSlabsBest: laid · FnStrandsFit: laid.
  DERIVED. THE GIVEN ROWS OF THIS SEAT. 15 by the template 'for every input the law returns true; each argument reads behind the call as it read before'; 0 by the template 'total and deterministic' (their statements: YtcegmlogjbnoeaaDoorTotals.lean).
  GIVEN WITH THE SEED: the statements are not yours to turn. If you find one false, say at which input.
  Laid BY PROGRAM, IN A SANDBOX (cutbox-rows.mjs): the forced cells as the released guide's own fill.sh prints them over the translation 7d3eb6f9f047bdd0… (all of the seat's roots in one cut). By AI agents, Wed Nov 11 2026. No macro, syntax, notation, axiom, sorry.
-/
import Derived.Test.YtcegmlogjbnoeaaDoorChecked
import GoSem.Claim
import GoSem.ClaimJoined
import GoSem.ClaimMapViews
import Derived.JoinedTies
import Derived.KernelRfl
namespace Go.Proofs.YtcegmlogjbnoeaaDoor
/- THE CELL 'sum', in the pinned program and in every row, IS THE sha256 OF THE DUMP (.gsa) THAT YtcegmlogjbnoeaaDoorProg.lean LOADS. Nothing in Lean hashes anything: it is a label: what it is worth is what the hold of that sum in a sandbox is worth. -/
noncomputable def Tryd.pinned : Pinned := { name := "ytcegmlogjbnoeaadoor", sum := "7d3eb6f9f047bdd0b2b00423ee66c3d6f6e1595cc2ee86f8fd55553ee35737d2", checked := Tryd.checked }
namespace Rows
def none {H : Type} : Left H := { results := [], args := [] }

/- WHAT THE LISTED PACKAGE-LEVEL VARIABLES READ AS WHEN THE CALL BEGINS. Each datum BY PROGRAM (the guide's laid-datum.mjs) off the statement by which the dump's own 'gosem.cut.vars' lays the variable. In a bare row this is a premise. The card (YtcegmlogjbnoeaaDoorCards.lean) ties it to the program's text. -/
def laid_math_bits_deBruijn32tab {H : Type} : DataW H := .agg [.lit (.int .u8 0), .lit (.int .u8 1), .lit (.int .u8 28), .lit (.int .u8 2), .lit (.int .u8 29), .lit (.int .u8 14), .lit (.int .u8 24), .lit (.int .u8 3), .lit (.int .u8 30), .lit (.int .u8 22), .lit (.int .u8 20), .lit (.int .u8 15), .lit (.int .u8 25), .lit (.int .u8 17), .lit (.int .u8 4), .lit (.int .u8 8), .lit (.int .u8 31), .lit (.int .u8 27), .lit (.int .u8 13), .lit (.int .u8 23), .lit (.int .u8 21), .lit (.int .u8 19), .lit (.int .u8 16), .lit (.int .u8 7), .lit (.int .u8 26), .lit (.int .u8 12), .lit (.int .u8 18), .lit (.int .u8 6), .lit (.int .u8 11), .lit (.int .u8 5), .lit (.int .u8 10), .lit (.int .u8 9)]
def laid_math_bits_deBruijn64tab {H : Type} : DataW H := .agg [.lit (.int .u8 0), .lit (.int .u8 1), .lit (.int .u8 56), .lit (.int .u8 2), .lit (.int .u8 57), .lit (.int .u8 49), .lit (.int .u8 28), .lit (.int .u8 3), .lit (.int .u8 61), .lit (.int .u8 58), .lit (.int .u8 42), .lit (.int .u8 50), .lit (.int .u8 38), .lit (.int .u8 29), .lit (.int .u8 17), .lit (.int .u8 4), .lit (.int .u8 62), .lit (.int .u8 47), .lit (.int .u8 59), .lit (.int .u8 36), .lit (.int .u8 45), .lit (.int .u8 43), .lit (.int .u8 51), .lit (.int .u8 22), .lit (.int .u8 53), .lit (.int .u8 39), .lit (.int .u8 33), .lit (.int .u8 30), .lit (.int .u8 24), .lit (.int .u8 18), .lit (.int .u8 12), .lit (.int .u8 5), .lit (.int .u8 63), .lit (.int .u8 55), .lit (.int .u8 48), .lit (.int .u8 27), .lit (.int .u8 60), .lit (.int .u8 41), .lit (.int .u8 37), .lit (.int .u8 16), .lit (.int .u8 46), .lit (.int .u8 35), .lit (.int .u8 44), .lit (.int .u8 21), .lit (.int .u8 52), .lit (.int .u8 32), .lit (.int .u8 23), .lit (.int .u8 11), .lit (.int .u8 54), .lit (.int .u8 26), .lit (.int .u8 40), .lit (.int .u8 15), .lit (.int .u8 34), .lit (.int .u8 20), .lit (.int .u8 31), .lit (.int .u8 10), .lit (.int .u8 25), .lit (.int .u8 14), .lit (.int .u8 19), .lit (.int .u8 9), .lit (.int .u8 13), .lit (.int .u8 8), .lit (.int .u8 7), .lit (.int .u8 6)]
def laid_internal_strconv_uint64pow10 {H : Type} : DataW H := .agg [.lit (.int .u64 1), .lit (.int .u64 10), .lit (.int .u64 100), .lit (.int .u64 1000), .lit (.int .u64 10000), .lit (.int .u64 100000), .lit (.int .u64 1000000), .lit (.int .u64 10000000), .lit (.int .u64 100000000), .lit (.int .u64 1000000000), .lit (.int .u64 10000000000), .lit (.int .u64 100000000000), .lit (.int .u64 1000000000000), .lit (.int .u64 10000000000000), .lit (.int .u64 100000000000000), .lit (.int .u64 1000000000000000), .lit (.int .u64 10000000000000000), .lit (.int .u64 100000000000000000), .lit (.int .u64 1000000000000000000), .lit (.int .u64 10000000000000000000)]

/-- 'laws.FnSlabsWaste': WHATEVER THE INPUT: true; the input reads as it did. -/
def fnSlabsWasteSpec : ChangeSpec := { name := "fnSlabsWaste", fn := fun _ => fun
  | [d] => { results := [.lit (.bool true)], args := [d] }
  | _ => none }
def fnSlabsWasteRow : OpenClaim := { program := "ytcegmlogjbnoeaadoor", sum := "7d3eb6f9f047bdd0b2b00423ee66c3d6f6e1595cc2ee86f8fd55553ee35737d2", func := "loop.example/steelmill/laws.FnSlabsWaste", spec := "fnSlabsWaste", named := ["internal/strconv.uint64pow10", "math/bits.deBruijn32tab", "math/bits.deBruijn64tab"], apart := false, laid := [("math/bits.deBruijn32tab", laid_math_bits_deBruijn32tab), ("math/bits.deBruijn64tab", laid_math_bits_deBruijn64tab), ("internal/strconv.uint64pow10", laid_internal_strconv_uint64pow10)] }
def FnSlabsWasteSaid : Prop := fnSlabsWasteRow.holds Tryd.pinned (OpenSpec.ofChange fnSlabsWasteSpec)

/-- ITS FALSE NEIGHBOUR: 'it returns false'. Refute it at one input. -/
def fnSlabsWasteWrong : ChangeSpec := { name := "fnSlabsWaste", fn := fun _ => fun
  | [d] => { results := [.lit (.bool false)], args := [d] }
  | _ => none }
def FnSlabsWasteWrongFalsely : Prop := fnSlabsWasteRow.holds Tryd.pinned (OpenSpec.ofChange fnSlabsWasteWrong)

/-- 'laws.FnSlabsLeast': WHATEVER THE INPUT: true; the input reads as it did. -/
def fnSlabsLeastSpec : ChangeSpec := { name := "fnSlabsLeast", fn := fun _ => fun
  | [d] => { results := [.lit (.bool true)], args := [d] }
  | _ => none }
def fnSlabsLeastRow : OpenClaim := { program := "ytcegmlogjbnoeaadoor", sum := "7d3eb6f9f047bdd0b2b00423ee66c3d6f6e1595cc2ee86f8fd55553ee35737d2", func := "loop.example/steelmill/laws.FnSlabsLeast", spec := "fnSlabsLeast", named := ["internal/strconv.uint64pow10", "math/bits.deBruijn32tab", "math/bits.deBruijn64tab"], apart := false, laid := [("math/bits.deBruijn32tab", laid_math_bits_deBruijn32tab), ("math/bits.deBruijn64tab", laid_math_bits_deBruijn64tab), ("internal/strconv.uint64pow10", laid_internal_strconv_uint64pow10)] }
def FnSlabsLeastSaid : Prop := fnSlabsLeastRow.holds Tryd.pinned (OpenSpec.ofChange fnSlabsLeastSpec)

/-- ITS FALSE NEIGHBOUR: 'it returns false'. Refute it at one input. -/
def fnSlabsLeastWrong : ChangeSpec := { name := "fnSlabsLeast", fn := fun _ => fun
  | [d] => { results := [.lit (.bool false)], args := [d] }
  | _ => none }
def FnSlabsLeastWrongFalsely : Prop := fnSlabsLeastRow.holds Tryd.pinned (OpenSpec.ofChange fnSlabsLeastWrong)

/-- 'laws.FnLengthsValid': WHATEVER THE INPUT: true; the input reads as it did. -/
def fnLengthsValidSpec : ChangeSpec := { name := "fnLengthsValid", fn := fun _ => fun
  | [d] => { results := [.lit (.bool true)], args := [d] }
  | _ => none }
def fnLengthsValidRow : OpenClaim := { program := "ytcegmlogjbnoeaadoor", sum := "7d3eb6f9f047bdd0b2b00423ee66c3d6f6e1595cc2ee86f8fd55553ee35737d2", func := "loop.example/steelmill/laws.FnLengthsValid", spec := "fnLengthsValid", named := ["internal/strconv.uint64pow10", "math/bits.deBruijn32tab", "math/bits.deBruijn64tab"], apart := false, laid := [("math/bits.deBruijn32tab", laid_math_bits_deBruijn32tab), ("math/bits.deBruijn64tab", laid_math_bits_deBruijn64tab), ("internal/strconv.uint64pow10", laid_internal_strconv_uint64pow10)] }
def FnLengthsValidSaid : Prop := fnLengthsValidRow.holds Tryd.pinned (OpenSpec.ofChange fnLengthsValidSpec)

/-- ITS FALSE NEIGHBOUR: 'it returns false'. Refute it at one input. -/
def fnLengthsValidWrong : ChangeSpec := { name := "fnLengthsValid", fn := fun _ => fun
  | [d] => { results := [.lit (.bool false)], args := [d] }
  | _ => none }
def FnLengthsValidWrongFalsely : Prop := fnLengthsValidRow.holds Tryd.pinned (OpenSpec.ofChange fnLengthsValidWrong)

/-- 'laws.FnBadValid': WHATEVER THE INPUT: true; the input reads as it did. -/
def fnBadValidSpec : ChangeSpec := { name := "fnBadValid", fn := fun _ => fun
  | [d] => { results := [.lit (.bool true)], args := [d] }
  | _ => none }
def fnBadValidRow : OpenClaim := { program := "ytcegmlogjbnoeaadoor", sum := "7d3eb6f9f047bdd0b2b00423ee66c3d6f6e1595cc2ee86f8fd55553ee35737d2", func := "loop.example/steelmill/laws.FnBadValid", spec := "fnBadValid", named := ["internal/strconv.uint64pow10", "math/bits.deBruijn32tab", "math/bits.deBruijn64tab"], apart := false, laid := [("math/bits.deBruijn32tab", laid_math_bits_deBruijn32tab), ("math/bits.deBruijn64tab", laid_math_bits_deBruijn64tab), ("internal/strconv.uint64pow10", laid_internal_strconv_uint64pow10)] }
def FnBadValidSaid : Prop := fnBadValidRow.holds Tryd.pinned (OpenSpec.ofChange fnBadValidSpec)

/-- ITS FALSE NEIGHBOUR: 'it returns false'. Refute it at one input. -/
def fnBadValidWrong : ChangeSpec := { name := "fnBadValid", fn := fun _ => fun
  | [d] => { results := [.lit (.bool false)], args := [d] }
  | _ => none }
def FnBadValidWrongFalsely : Prop := fnBadValidRow.holds Tryd.pinned (OpenSpec.ofChange fnBadValidWrong)

/-- 'laws.FnWantsValid': WHATEVER THE INPUT: true; the input reads as it did. -/
def fnWantsValidSpec : ChangeSpec := { name := "fnWantsValid", fn := fun _ => fun
  | [d] => { results := [.lit (.bool true)], args := [d] }
  | _ => none }
def fnWantsValidRow : OpenClaim := { program := "ytcegmlogjbnoeaadoor", sum := "7d3eb6f9f047bdd0b2b00423ee66c3d6f6e1595cc2ee86f8fd55553ee35737d2", func := "loop.example/steelmill/laws.FnWantsValid", spec := "fnWantsValid", named := ["internal/strconv.uint64pow10", "math/bits.deBruijn32tab", "math/bits.deBruijn64tab"], apart := false, laid := [("math/bits.deBruijn32tab", laid_math_bits_deBruijn32tab), ("math/bits.deBruijn64tab", laid_math_bits_deBruijn64tab), ("internal/strconv.uint64pow10", laid_internal_strconv_uint64pow10)] }
def FnWantsValidSaid : Prop := fnWantsValidRow.holds Tryd.pinned (OpenSpec.ofChange fnWantsValidSpec)

/-- ITS FALSE NEIGHBOUR: 'it returns false'. Refute it at one input. -/
def fnWantsValidWrong : ChangeSpec := { name := "fnWantsValid", fn := fun _ => fun
  | [d] => { results := [.lit (.bool false)], args := [d] }
  | _ => none }
def FnWantsValidWrongFalsely : Prop := fnWantsValidRow.holds Tryd.pinned (OpenSpec.ofChange fnWantsValidWrong)

/-- 'laws.FnCutLeast': WHATEVER THE INPUT: true; the input reads as it did. -/
def fnCutLeastSpec : ChangeSpec := { name := "fnCutLeast", fn := fun _ => fun
  | [d] => { results := [.lit (.bool true)], args := [d] }
  | _ => none }
def fnCutLeastRow : OpenClaim := { program := "ytcegmlogjbnoeaadoor", sum := "7d3eb6f9f047bdd0b2b00423ee66c3d6f6e1595cc2ee86f8fd55553ee35737d2", func := "loop.example/steelmill/laws.FnCutLeast", spec := "fnCutLeast", named := ["internal/strconv.uint64pow10", "math/bits.deBruijn32tab", "math/bits.deBruijn64tab"], apart := false, laid := [("math/bits.deBruijn32tab", laid_math_bits_deBruijn32tab), ("math/bits.deBruijn64tab", laid_math_bits_deBruijn64tab), ("internal/strconv.uint64pow10", laid_internal_strconv_uint64pow10)] }
def FnCutLeastSaid : Prop := fnCutLeastRow.holds Tryd.pinned (OpenSpec.ofChange fnCutLeastSpec)

/-- ITS FALSE NEIGHBOUR: 'it returns false'. Refute it at one input. -/
def fnCutLeastWrong : ChangeSpec := { name := "fnCutLeast", fn := fun _ => fun
  | [d] => { results := [.lit (.bool false)], args := [d] }
  | _ => none }
def FnCutLeastWrongFalsely : Prop := fnCutLeastRow.holds Tryd.pinned (OpenSpec.ofChange fnCutLeastWrong)

/-- 'laws.FnGoodParts': WHATEVER THE INPUT: true; the input reads as it did. -/
def fnGoodPartsSpec : ChangeSpec := { name := "fnGoodParts", fn := fun _ => fun
  | [d] => { results := [.lit (.bool true)], args := [d] }
  | _ => none }
def fnGoodPartsRow : OpenClaim := { program := "ytcegmlogjbnoeaadoor", sum := "7d3eb6f9f047bdd0b2b00423ee66c3d6f6e1595cc2ee86f8fd55553ee35737d2", func := "loop.example/steelmill/laws.FnGoodParts", spec := "fnGoodParts", named := ["internal/strconv.uint64pow10", "math/bits.deBruijn32tab", "math/bits.deBruijn64tab"], apart := false, laid := [("math/bits.deBruijn32tab", laid_math_bits_deBruijn32tab), ("math/bits.deBruijn64tab", laid_math_bits_deBruijn64tab), ("internal/strconv.uint64pow10", laid_internal_strconv_uint64pow10)] }
def FnGoodPartsSaid : Prop := fnGoodPartsRow.holds Tryd.pinned (OpenSpec.ofChange fnGoodPartsSpec)

/-- ITS FALSE NEIGHBOUR: 'it returns false'. Refute it at one input. -/
def fnGoodPartsWrong : ChangeSpec := { name := "fnGoodParts", fn := fun _ => fun
  | [d] => { results := [.lit (.bool false)], args := [d] }
  | _ => none }
def FnGoodPartsWrongFalsely : Prop := fnGoodPartsRow.holds Tryd.pinned (OpenSpec.ofChange fnGoodPartsWrong)

/-- 'laws.FnCutWaste': WHATEVER THE INPUT: true; the input reads as it did. -/
def fnCutWasteSpec : ChangeSpec := { name := "fnCutWaste", fn := fun _ => fun
  | [d] => { results := [.lit (.bool true)], args := [d] }
  | _ => none }
def fnCutWasteRow : OpenClaim := { program := "ytcegmlogjbnoeaadoor", sum := "7d3eb6f9f047bdd0b2b00423ee66c3d6f6e1595cc2ee86f8fd55553ee35737d2", func := "loop.example/steelmill/laws.FnCutWaste", spec := "fnCutWaste", named := ["internal/strconv.uint64pow10", "math/bits.deBruijn32tab", "math/bits.deBruijn64tab"], apart := false, laid := [("math/bits.deBruijn32tab", laid_math_bits_deBruijn32tab), ("math/bits.deBruijn64tab", laid_math_bits_deBruijn64tab), ("internal/strconv.uint64pow10", laid_internal_strconv_uint64pow10)] }
def FnCutWasteSaid : Prop := fnCutWasteRow.holds Tryd.pinned (OpenSpec.ofChange fnCutWasteSpec)

/-- ITS FALSE NEIGHBOUR: 'it returns false'. Refute it at one input. -/
def fnCutWasteWrong : ChangeSpec := { name := "fnCutWaste", fn := fun _ => fun
  | [d] => { results := [.lit (.bool false)], args := [d] }
  | _ => none }
def FnCutWasteWrongFalsely : Prop := fnCutWasteRow.holds Tryd.pinned (OpenSpec.ofChange fnCutWasteWrong)

/-- 'laws.FnStrandsLeast': WHATEVER THE INPUT: true; the input reads as it did. -/
def fnStrandsLeastSpec : ChangeSpec := { name := "fnStrandsLeast", fn := fun _ => fun
  | [d] => { results := [.lit (.bool true)], args := [d] }
  | _ => none }
def fnStrandsLeastRow : OpenClaim := { program := "ytcegmlogjbnoeaadoor", sum := "7d3eb6f9f047bdd0b2b00423ee66c3d6f6e1595cc2ee86f8fd55553ee35737d2", func := "loop.example/steelmill/laws.FnStrandsLeast", spec := "fnStrandsLeast", named := ["math/bits.deBruijn32tab", "math/bits.deBruijn64tab", "internal/strconv.uint64pow10"], apart := false, laid := [("math/bits.deBruijn32tab", laid_math_bits_deBruijn32tab), ("math/bits.deBruijn64tab", laid_math_bits_deBruijn64tab), ("internal/strconv.uint64pow10", laid_internal_strconv_uint64pow10)] }
def FnStrandsLeastSaid : Prop := fnStrandsLeastRow.holds Tryd.pinned (OpenSpec.ofChange fnStrandsLeastSpec)

/-- ITS FALSE NEIGHBOUR: 'it returns false'. Refute it at one input. -/
def fnStrandsLeastWrong : ChangeSpec := { name := "fnStrandsLeast", fn := fun _ => fun
  | [d] => { results := [.lit (.bool false)], args := [d] }
  | _ => none }
def FnStrandsLeastWrongFalsely : Prop := fnStrandsLeastRow.holds Tryd.pinned (OpenSpec.ofChange fnStrandsLeastWrong)

/-- 'laws.FnCutBest': WHATEVER THE INPUT: true; the input reads as it did. -/
def fnCutBestSpec : ChangeSpec := { name := "fnCutBest", fn := fun _ => fun
  | [d] => { results := [.lit (.bool true)], args := [d] }
  | _ => none }
def fnCutBestRow : OpenClaim := { program := "ytcegmlogjbnoeaadoor", sum := "7d3eb6f9f047bdd0b2b00423ee66c3d6f6e1595cc2ee86f8fd55553ee35737d2", func := "loop.example/steelmill/laws.FnCutBest", spec := "fnCutBest", named := ["internal/strconv.uint64pow10", "math/bits.deBruijn32tab", "math/bits.deBruijn64tab"], apart := false, laid := [("math/bits.deBruijn32tab", laid_math_bits_deBruijn32tab), ("math/bits.deBruijn64tab", laid_math_bits_deBruijn64tab), ("internal/strconv.uint64pow10", laid_internal_strconv_uint64pow10)] }
def FnCutBestSaid : Prop := fnCutBestRow.holds Tryd.pinned (OpenSpec.ofChange fnCutBestSpec)

/-- ITS FALSE NEIGHBOUR: 'it returns false'. Refute it at one input. -/
def fnCutBestWrong : ChangeSpec := { name := "fnCutBest", fn := fun _ => fun
  | [d] => { results := [.lit (.bool false)], args := [d] }
  | _ => none }
def FnCutBestWrongFalsely : Prop := fnCutBestRow.holds Tryd.pinned (OpenSpec.ofChange fnCutBestWrong)

/-- 'laws.FnStrandsOk': WHATEVER THE INPUT: true; the input reads as it did. -/
def fnStrandsOkSpec : ChangeSpec := { name := "fnStrandsOk", fn := fun _ => fun
  | [d] => { results := [.lit (.bool true)], args := [d] }
  | _ => none }
def fnStrandsOkRow : OpenClaim := { program := "ytcegmlogjbnoeaadoor", sum := "7d3eb6f9f047bdd0b2b00423ee66c3d6f6e1595cc2ee86f8fd55553ee35737d2", func := "loop.example/steelmill/laws.FnStrandsOk", spec := "fnStrandsOk", named := ["internal/strconv.uint64pow10", "math/bits.deBruijn32tab", "math/bits.deBruijn64tab"], apart := false, laid := [("math/bits.deBruijn32tab", laid_math_bits_deBruijn32tab), ("math/bits.deBruijn64tab", laid_math_bits_deBruijn64tab), ("internal/strconv.uint64pow10", laid_internal_strconv_uint64pow10)] }
def FnStrandsOkSaid : Prop := fnStrandsOkRow.holds Tryd.pinned (OpenSpec.ofChange fnStrandsOkSpec)

/-- ITS FALSE NEIGHBOUR: 'it returns false'. Refute it at one input. -/
def fnStrandsOkWrong : ChangeSpec := { name := "fnStrandsOk", fn := fun _ => fun
  | [d] => { results := [.lit (.bool false)], args := [d] }
  | _ => none }
def FnStrandsOkWrongFalsely : Prop := fnStrandsOkRow.holds Tryd.pinned (OpenSpec.ofChange fnStrandsOkWrong)

/-- 'laws.FnStrandsMany': WHATEVER THE INPUT: true; the input reads as it did. -/
def fnStrandsManySpec : ChangeSpec := { name := "fnStrandsMany", fn := fun _ => fun
  | [d] => { results := [.lit (.bool true)], args := [d] }
  | _ => none }
def fnStrandsManyRow : OpenClaim := { program := "ytcegmlogjbnoeaadoor", sum := "7d3eb6f9f047bdd0b2b00423ee66c3d6f6e1595cc2ee86f8fd55553ee35737d2", func := "loop.example/steelmill/laws.FnStrandsMany", spec := "fnStrandsMany", named := ["internal/strconv.uint64pow10", "math/bits.deBruijn32tab", "math/bits.deBruijn64tab"], apart := false, laid := [("math/bits.deBruijn32tab", laid_math_bits_deBruijn32tab), ("math/bits.deBruijn64tab", laid_math_bits_deBruijn64tab), ("internal/strconv.uint64pow10", laid_internal_strconv_uint64pow10)] }
def FnStrandsManySaid : Prop := fnStrandsManyRow.holds Tryd.pinned (OpenSpec.ofChange fnStrandsManySpec)

/-- ITS FALSE NEIGHBOUR: 'it returns false'. Refute it at one input. -/
def fnStrandsManyWrong : ChangeSpec := { name := "fnStrandsMany", fn := fun _ => fun
  | [d] => { results := [.lit (.bool false)], args := [d] }
  | _ => none }
def FnStrandsManyWrongFalsely : Prop := fnStrandsManyRow.holds Tryd.pinned (OpenSpec.ofChange fnStrandsManyWrong)

/-- 'laws.FnSlabsOk': WHATEVER THE INPUT: true; the input reads as it did. -/
def fnSlabsOkSpec : ChangeSpec := { name := "fnSlabsOk", fn := fun _ => fun
  | [d] => { results := [.lit (.bool true)], args := [d] }
  | _ => none }
def fnSlabsOkRow : OpenClaim := { program := "ytcegmlogjbnoeaadoor", sum := "7d3eb6f9f047bdd0b2b00423ee66c3d6f6e1595cc2ee86f8fd55553ee35737d2", func := "loop.example/steelmill/laws.FnSlabsOk", spec := "fnSlabsOk", named := ["internal/strconv.uint64pow10", "math/bits.deBruijn32tab", "math/bits.deBruijn64tab"], apart := false, laid := [("math/bits.deBruijn32tab", laid_math_bits_deBruijn32tab), ("math/bits.deBruijn64tab", laid_math_bits_deBruijn64tab), ("internal/strconv.uint64pow10", laid_internal_strconv_uint64pow10)] }
def FnSlabsOkSaid : Prop := fnSlabsOkRow.holds Tryd.pinned (OpenSpec.ofChange fnSlabsOkSpec)

/-- ITS FALSE NEIGHBOUR: 'it returns false'. Refute it at one input. -/
def fnSlabsOkWrong : ChangeSpec := { name := "fnSlabsOk", fn := fun _ => fun
  | [d] => { results := [.lit (.bool false)], args := [d] }
  | _ => none }
def FnSlabsOkWrongFalsely : Prop := fnSlabsOkRow.holds Tryd.pinned (OpenSpec.ofChange fnSlabsOkWrong)

/-- 'laws.FnSlabsBest': WHATEVER THE INPUT: true; the input reads as it did. -/
def fnSlabsBestSpec : ChangeSpec := { name := "fnSlabsBest", fn := fun _ => fun
  | [d] => { results := [.lit (.bool true)], args := [d] }
  | _ => none }
def fnSlabsBestRow : OpenClaim := { program := "ytcegmlogjbnoeaadoor", sum := "7d3eb6f9f047bdd0b2b00423ee66c3d6f6e1595cc2ee86f8fd55553ee35737d2", func := "loop.example/steelmill/laws.FnSlabsBest", spec := "fnSlabsBest", named := ["internal/strconv.uint64pow10", "math/bits.deBruijn32tab", "math/bits.deBruijn64tab"], apart := false, laid := [("math/bits.deBruijn32tab", laid_math_bits_deBruijn32tab), ("math/bits.deBruijn64tab", laid_math_bits_deBruijn64tab), ("internal/strconv.uint64pow10", laid_internal_strconv_uint64pow10)] }
def FnSlabsBestSaid : Prop := fnSlabsBestRow.holds Tryd.pinned (OpenSpec.ofChange fnSlabsBestSpec)

/-- ITS FALSE NEIGHBOUR: 'it returns false'. Refute it at one input. -/
def fnSlabsBestWrong : ChangeSpec := { name := "fnSlabsBest", fn := fun _ => fun
  | [d] => { results := [.lit (.bool false)], args := [d] }
  | _ => none }
def FnSlabsBestWrongFalsely : Prop := fnSlabsBestRow.holds Tryd.pinned (OpenSpec.ofChange fnSlabsBestWrong)

/-- 'laws.FnStrandsFit': WHATEVER THE INPUT: true; the input reads as it did. -/
def fnStrandsFitSpec : ChangeSpec := { name := "fnStrandsFit", fn := fun _ => fun
  | [d] => { results := [.lit (.bool true)], args := [d] }
  | _ => none }
def fnStrandsFitRow : OpenClaim := { program := "ytcegmlogjbnoeaadoor", sum := "7d3eb6f9f047bdd0b2b00423ee66c3d6f6e1595cc2ee86f8fd55553ee35737d2", func := "loop.example/steelmill/laws.FnStrandsFit", spec := "fnStrandsFit", unfollowed := true, recurses := true, named := ["internal/strconv.uint64pow10", "math/bits.deBruijn32tab", "math/bits.deBruijn64tab"], apart := false, laid := [("math/bits.deBruijn32tab", laid_math_bits_deBruijn32tab), ("math/bits.deBruijn64tab", laid_math_bits_deBruijn64tab), ("internal/strconv.uint64pow10", laid_internal_strconv_uint64pow10)] }
def FnStrandsFitSaid : Prop := fnStrandsFitRow.holds Tryd.pinned (OpenSpec.ofChange fnStrandsFitSpec)

/-- ITS FALSE NEIGHBOUR: 'it returns false'. Refute it at one input. -/
def fnStrandsFitWrong : ChangeSpec := { name := "fnStrandsFit", fn := fun _ => fun
  | [d] => { results := [.lit (.bool false)], args := [d] }
  | _ => none }
def FnStrandsFitWrongFalsely : Prop := fnStrandsFitRow.holds Tryd.pinned (OpenSpec.ofChange fnStrandsFitWrong)

/- THE SECOND FORM. 'bulk': how many values and letters a reading holds, each counted each time it is reached (what is shared counts as often as it is met; a slice's spare places count too). A statement '..UptoSaid' is the law's where the arguments, and the package variables that the reading takes, are together of bulk at most 1048576: NARROWER than '..Said'. Prove '..Said' where nothing that the law and all that it calls make is longer than what came in: it says more and counts as full. Else prove '..UptoSaid'. A law counts once. -/
mutual
def uptoBulk {H : Type} : DataW H → Nat
  | .lit (.string bytes) => bytes.length + 1
  | .lit _ => 1
  | .nil => 1
  | .ptr d => uptoBulk d + 1
  | .slice elems spare => uptoBulkAll elems + uptoBulkAll spare + 1
  | .agg parts => uptoBulkAll parts + 1
  | .iface _ d => uptoBulk d + 1
  | .map entries => uptoBulkEntries entries + 1
  | .held _ => 1
def uptoBulkAll {H : Type} : List (DataW H) → Nat
  | [] => 0
  | d :: r => uptoBulk d + uptoBulkAll r
def uptoBulkEntries {H : Type} : List (Lit × DataW H) → Nat
  | [] => 0
  | x :: r => uptoBulkEntry x + uptoBulkEntries r
def uptoBulkEntry {H : Type} : Lit × DataW H → Nat
  | (.string bytes, d) => bytes.length + uptoBulk d + 1
  | (_, d) => uptoBulk d + 1
 end
def uptoSmall : (H : Type) → List (DataW H) → Bool := fun _ ds => decide (uptoBulkAll ds ≤ 1048576)
def OpenSpec.upto (s : _root_.Go.ChangeSpec) : _root_.Go.OpenSpec := { _root_.Go.OpenSpec.ofChange s with cond := some uptoSmall }

/-- 'laws.FnSlabsWaste', WHERE WHAT IT READS IS OF BULK AT MOST 1048576: true; the input reads as it did. -/
def fnSlabsWasteUptoRow : OpenClaim := { program := "ytcegmlogjbnoeaadoor", sum := "7d3eb6f9f047bdd0b2b00423ee66c3d6f6e1595cc2ee86f8fd55553ee35737d2", func := "loop.example/steelmill/laws.FnSlabsWaste", spec := "fnSlabsWaste", named := ["internal/strconv.uint64pow10", "math/bits.deBruijn32tab", "math/bits.deBruijn64tab"], apart := false, laid := [("math/bits.deBruijn32tab", laid_math_bits_deBruijn32tab), ("math/bits.deBruijn64tab", laid_math_bits_deBruijn64tab), ("internal/strconv.uint64pow10", laid_internal_strconv_uint64pow10)], narrowed := true }
def FnSlabsWasteUptoSaid : Prop := fnSlabsWasteUptoRow.holds Tryd.pinned (OpenSpec.upto fnSlabsWasteSpec)

/-- 'laws.FnSlabsLeast', WHERE WHAT IT READS IS OF BULK AT MOST 1048576: true; the input reads as it did. -/
def fnSlabsLeastUptoRow : OpenClaim := { program := "ytcegmlogjbnoeaadoor", sum := "7d3eb6f9f047bdd0b2b00423ee66c3d6f6e1595cc2ee86f8fd55553ee35737d2", func := "loop.example/steelmill/laws.FnSlabsLeast", spec := "fnSlabsLeast", named := ["internal/strconv.uint64pow10", "math/bits.deBruijn32tab", "math/bits.deBruijn64tab"], apart := false, laid := [("math/bits.deBruijn32tab", laid_math_bits_deBruijn32tab), ("math/bits.deBruijn64tab", laid_math_bits_deBruijn64tab), ("internal/strconv.uint64pow10", laid_internal_strconv_uint64pow10)], narrowed := true }
def FnSlabsLeastUptoSaid : Prop := fnSlabsLeastUptoRow.holds Tryd.pinned (OpenSpec.upto fnSlabsLeastSpec)

/-- 'laws.FnLengthsValid', WHERE WHAT IT READS IS OF BULK AT MOST 1048576: true; the input reads as it did. -/
def fnLengthsValidUptoRow : OpenClaim := { program := "ytcegmlogjbnoeaadoor", sum := "7d3eb6f9f047bdd0b2b00423ee66c3d6f6e1595cc2ee86f8fd55553ee35737d2", func := "loop.example/steelmill/laws.FnLengthsValid", spec := "fnLengthsValid", named := ["internal/strconv.uint64pow10", "math/bits.deBruijn32tab", "math/bits.deBruijn64tab"], apart := false, laid := [("math/bits.deBruijn32tab", laid_math_bits_deBruijn32tab), ("math/bits.deBruijn64tab", laid_math_bits_deBruijn64tab), ("internal/strconv.uint64pow10", laid_internal_strconv_uint64pow10)], narrowed := true }
def FnLengthsValidUptoSaid : Prop := fnLengthsValidUptoRow.holds Tryd.pinned (OpenSpec.upto fnLengthsValidSpec)

/-- 'laws.FnBadValid', WHERE WHAT IT READS IS OF BULK AT MOST 1048576: true; the input reads as it did. -/
def fnBadValidUptoRow : OpenClaim := { program := "ytcegmlogjbnoeaadoor", sum := "7d3eb6f9f047bdd0b2b00423ee66c3d6f6e1595cc2ee86f8fd55553ee35737d2", func := "loop.example/steelmill/laws.FnBadValid", spec := "fnBadValid", named := ["internal/strconv.uint64pow10", "math/bits.deBruijn32tab", "math/bits.deBruijn64tab"], apart := false, laid := [("math/bits.deBruijn32tab", laid_math_bits_deBruijn32tab), ("math/bits.deBruijn64tab", laid_math_bits_deBruijn64tab), ("internal/strconv.uint64pow10", laid_internal_strconv_uint64pow10)], narrowed := true }
def FnBadValidUptoSaid : Prop := fnBadValidUptoRow.holds Tryd.pinned (OpenSpec.upto fnBadValidSpec)

/-- 'laws.FnWantsValid', WHERE WHAT IT READS IS OF BULK AT MOST 1048576: true; the input reads as it did. -/
def fnWantsValidUptoRow : OpenClaim := { program := "ytcegmlogjbnoeaadoor", sum := "7d3eb6f9f047bdd0b2b00423ee66c3d6f6e1595cc2ee86f8fd55553ee35737d2", func := "loop.example/steelmill/laws.FnWantsValid", spec := "fnWantsValid", named := ["internal/strconv.uint64pow10", "math/bits.deBruijn32tab", "math/bits.deBruijn64tab"], apart := false, laid := [("math/bits.deBruijn32tab", laid_math_bits_deBruijn32tab), ("math/bits.deBruijn64tab", laid_math_bits_deBruijn64tab), ("internal/strconv.uint64pow10", laid_internal_strconv_uint64pow10)], narrowed := true }
def FnWantsValidUptoSaid : Prop := fnWantsValidUptoRow.holds Tryd.pinned (OpenSpec.upto fnWantsValidSpec)

/-- 'laws.FnCutLeast', WHERE WHAT IT READS IS OF BULK AT MOST 1048576: true; the input reads as it did. -/
def fnCutLeastUptoRow : OpenClaim := { program := "ytcegmlogjbnoeaadoor", sum := "7d3eb6f9f047bdd0b2b00423ee66c3d6f6e1595cc2ee86f8fd55553ee35737d2", func := "loop.example/steelmill/laws.FnCutLeast", spec := "fnCutLeast", named := ["internal/strconv.uint64pow10", "math/bits.deBruijn32tab", "math/bits.deBruijn64tab"], apart := false, laid := [("math/bits.deBruijn32tab", laid_math_bits_deBruijn32tab), ("math/bits.deBruijn64tab", laid_math_bits_deBruijn64tab), ("internal/strconv.uint64pow10", laid_internal_strconv_uint64pow10)], narrowed := true }
def FnCutLeastUptoSaid : Prop := fnCutLeastUptoRow.holds Tryd.pinned (OpenSpec.upto fnCutLeastSpec)

/-- 'laws.FnGoodParts', WHERE WHAT IT READS IS OF BULK AT MOST 1048576: true; the input reads as it did. -/
def fnGoodPartsUptoRow : OpenClaim := { program := "ytcegmlogjbnoeaadoor", sum := "7d3eb6f9f047bdd0b2b00423ee66c3d6f6e1595cc2ee86f8fd55553ee35737d2", func := "loop.example/steelmill/laws.FnGoodParts", spec := "fnGoodParts", named := ["internal/strconv.uint64pow10", "math/bits.deBruijn32tab", "math/bits.deBruijn64tab"], apart := false, laid := [("math/bits.deBruijn32tab", laid_math_bits_deBruijn32tab), ("math/bits.deBruijn64tab", laid_math_bits_deBruijn64tab), ("internal/strconv.uint64pow10", laid_internal_strconv_uint64pow10)], narrowed := true }
def FnGoodPartsUptoSaid : Prop := fnGoodPartsUptoRow.holds Tryd.pinned (OpenSpec.upto fnGoodPartsSpec)

/-- 'laws.FnCutWaste', WHERE WHAT IT READS IS OF BULK AT MOST 1048576: true; the input reads as it did. -/
def fnCutWasteUptoRow : OpenClaim := { program := "ytcegmlogjbnoeaadoor", sum := "7d3eb6f9f047bdd0b2b00423ee66c3d6f6e1595cc2ee86f8fd55553ee35737d2", func := "loop.example/steelmill/laws.FnCutWaste", spec := "fnCutWaste", named := ["internal/strconv.uint64pow10", "math/bits.deBruijn32tab", "math/bits.deBruijn64tab"], apart := false, laid := [("math/bits.deBruijn32tab", laid_math_bits_deBruijn32tab), ("math/bits.deBruijn64tab", laid_math_bits_deBruijn64tab), ("internal/strconv.uint64pow10", laid_internal_strconv_uint64pow10)], narrowed := true }
def FnCutWasteUptoSaid : Prop := fnCutWasteUptoRow.holds Tryd.pinned (OpenSpec.upto fnCutWasteSpec)

/-- 'laws.FnStrandsLeast', WHERE WHAT IT READS IS OF BULK AT MOST 1048576: true; the input reads as it did. -/
def fnStrandsLeastUptoRow : OpenClaim := { program := "ytcegmlogjbnoeaadoor", sum := "7d3eb6f9f047bdd0b2b00423ee66c3d6f6e1595cc2ee86f8fd55553ee35737d2", func := "loop.example/steelmill/laws.FnStrandsLeast", spec := "fnStrandsLeast", named := ["math/bits.deBruijn32tab", "math/bits.deBruijn64tab", "internal/strconv.uint64pow10"], apart := false, laid := [("math/bits.deBruijn32tab", laid_math_bits_deBruijn32tab), ("math/bits.deBruijn64tab", laid_math_bits_deBruijn64tab), ("internal/strconv.uint64pow10", laid_internal_strconv_uint64pow10)], narrowed := true }
def FnStrandsLeastUptoSaid : Prop := fnStrandsLeastUptoRow.holds Tryd.pinned (OpenSpec.upto fnStrandsLeastSpec)

/-- 'laws.FnCutBest', WHERE WHAT IT READS IS OF BULK AT MOST 1048576: true; the input reads as it did. -/
def fnCutBestUptoRow : OpenClaim := { program := "ytcegmlogjbnoeaadoor", sum := "7d3eb6f9f047bdd0b2b00423ee66c3d6f6e1595cc2ee86f8fd55553ee35737d2", func := "loop.example/steelmill/laws.FnCutBest", spec := "fnCutBest", named := ["internal/strconv.uint64pow10", "math/bits.deBruijn32tab", "math/bits.deBruijn64tab"], apart := false, laid := [("math/bits.deBruijn32tab", laid_math_bits_deBruijn32tab), ("math/bits.deBruijn64tab", laid_math_bits_deBruijn64tab), ("internal/strconv.uint64pow10", laid_internal_strconv_uint64pow10)], narrowed := true }
def FnCutBestUptoSaid : Prop := fnCutBestUptoRow.holds Tryd.pinned (OpenSpec.upto fnCutBestSpec)

/-- 'laws.FnStrandsOk', WHERE WHAT IT READS IS OF BULK AT MOST 1048576: true; the input reads as it did. -/
def fnStrandsOkUptoRow : OpenClaim := { program := "ytcegmlogjbnoeaadoor", sum := "7d3eb6f9f047bdd0b2b00423ee66c3d6f6e1595cc2ee86f8fd55553ee35737d2", func := "loop.example/steelmill/laws.FnStrandsOk", spec := "fnStrandsOk", named := ["internal/strconv.uint64pow10", "math/bits.deBruijn32tab", "math/bits.deBruijn64tab"], apart := false, laid := [("math/bits.deBruijn32tab", laid_math_bits_deBruijn32tab), ("math/bits.deBruijn64tab", laid_math_bits_deBruijn64tab), ("internal/strconv.uint64pow10", laid_internal_strconv_uint64pow10)], narrowed := true }
def FnStrandsOkUptoSaid : Prop := fnStrandsOkUptoRow.holds Tryd.pinned (OpenSpec.upto fnStrandsOkSpec)

/-- 'laws.FnStrandsMany', WHERE WHAT IT READS IS OF BULK AT MOST 1048576: true; the input reads as it did. -/
def fnStrandsManyUptoRow : OpenClaim := { program := "ytcegmlogjbnoeaadoor", sum := "7d3eb6f9f047bdd0b2b00423ee66c3d6f6e1595cc2ee86f8fd55553ee35737d2", func := "loop.example/steelmill/laws.FnStrandsMany", spec := "fnStrandsMany", named := ["internal/strconv.uint64pow10", "math/bits.deBruijn32tab", "math/bits.deBruijn64tab"], apart := false, laid := [("math/bits.deBruijn32tab", laid_math_bits_deBruijn32tab), ("math/bits.deBruijn64tab", laid_math_bits_deBruijn64tab), ("internal/strconv.uint64pow10", laid_internal_strconv_uint64pow10)], narrowed := true }
def FnStrandsManyUptoSaid : Prop := fnStrandsManyUptoRow.holds Tryd.pinned (OpenSpec.upto fnStrandsManySpec)

/-- 'laws.FnSlabsOk', WHERE WHAT IT READS IS OF BULK AT MOST 1048576: true; the input reads as it did. -/
def fnSlabsOkUptoRow : OpenClaim := { program := "ytcegmlogjbnoeaadoor", sum := "7d3eb6f9f047bdd0b2b00423ee66c3d6f6e1595cc2ee86f8fd55553ee35737d2", func := "loop.example/steelmill/laws.FnSlabsOk", spec := "fnSlabsOk", named := ["internal/strconv.uint64pow10", "math/bits.deBruijn32tab", "math/bits.deBruijn64tab"], apart := false, laid := [("math/bits.deBruijn32tab", laid_math_bits_deBruijn32tab), ("math/bits.deBruijn64tab", laid_math_bits_deBruijn64tab), ("internal/strconv.uint64pow10", laid_internal_strconv_uint64pow10)], narrowed := true }
def FnSlabsOkUptoSaid : Prop := fnSlabsOkUptoRow.holds Tryd.pinned (OpenSpec.upto fnSlabsOkSpec)

/-- 'laws.FnSlabsBest', WHERE WHAT IT READS IS OF BULK AT MOST 1048576: true; the input reads as it did. -/
def fnSlabsBestUptoRow : OpenClaim := { program := "ytcegmlogjbnoeaadoor", sum := "7d3eb6f9f047bdd0b2b00423ee66c3d6f6e1595cc2ee86f8fd55553ee35737d2", func := "loop.example/steelmill/laws.FnSlabsBest", spec := "fnSlabsBest", named := ["internal/strconv.uint64pow10", "math/bits.deBruijn32tab", "math/bits.deBruijn64tab"], apart := false, laid := [("math/bits.deBruijn32tab", laid_math_bits_deBruijn32tab), ("math/bits.deBruijn64tab", laid_math_bits_deBruijn64tab), ("internal/strconv.uint64pow10", laid_internal_strconv_uint64pow10)], narrowed := true }
def FnSlabsBestUptoSaid : Prop := fnSlabsBestUptoRow.holds Tryd.pinned (OpenSpec.upto fnSlabsBestSpec)

/-- 'laws.FnStrandsFit', WHERE WHAT IT READS IS OF BULK AT MOST 1048576: true; the input reads as it did. -/
def fnStrandsFitUptoRow : OpenClaim := { program := "ytcegmlogjbnoeaadoor", sum := "7d3eb6f9f047bdd0b2b00423ee66c3d6f6e1595cc2ee86f8fd55553ee35737d2", func := "loop.example/steelmill/laws.FnStrandsFit", spec := "fnStrandsFit", unfollowed := true, recurses := true, named := ["internal/strconv.uint64pow10", "math/bits.deBruijn32tab", "math/bits.deBruijn64tab"], apart := false, laid := [("math/bits.deBruijn32tab", laid_math_bits_deBruijn32tab), ("math/bits.deBruijn64tab", laid_math_bits_deBruijn64tab), ("internal/strconv.uint64pow10", laid_internal_strconv_uint64pow10)], narrowed := true }
def FnStrandsFitUptoSaid : Prop := fnStrandsFitUptoRow.holds Tryd.pinned (OpenSpec.upto fnStrandsFitSpec)

end Rows
end Go.Proofs.YtcegmlogjbnoeaaDoor
