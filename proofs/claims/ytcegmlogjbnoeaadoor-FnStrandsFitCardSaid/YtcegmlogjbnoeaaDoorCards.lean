/-
  DERIVED. GIVEN WITH THE SEED: THE CARDS: each row of YtcegmlogjbnoeaaDoorRows.lean that lists a variable, with what it lists TIED to the program's text (the seventh form; the later family's looks); each row that meets fmt, with fmt's text TOLD by the authors' own Lean function (tested against real Go, not proved from fmt's source: count such statements apart). THE CARD IS WHAT COUNTS. Prove the row's statement (the work); the ties are given (YtcegmlogjbnoeaaDoorTie.lean); close each card by the builder's one call (the guide's Derived/Test/ToyasCard.lean, 'card_holds'). Laid BY PROGRAM, IN A SANDBOX (cutbox-door.mjs). By AI agents, Wed Nov 11 2026. No macro, syntax, notation, axiom, sorry.
-/
import Derived.Test.YtcegmlogjbnoeaaDoorRows
import GoSem.ClaimSeven
namespace Go.Proofs.YtcegmlogjbnoeaaDoor
namespace Rows

/-- THE TIED CARD OF 'laws.FnSlabsWaste'. -/
def fnSlabsWasteCard : Claim7 := { stood := { row := fnSlabsWasteRow, standIns := [], harness := (true, "180ce3d704fd12910ff9e24e5bf35af1c9088c4111d3af306cfad293dee32353"), looks := false }, kinds := [], alts := [], laidByText := true, laidKinds := [.data, .data, .data], laidTests := true, laidLooks := .later }
def FnSlabsWasteCardSaid : Prop := Claim7.holds Tryd.pinned (.plain (OpenSpec.ofChange fnSlabsWasteSpec)) fnSlabsWasteCard

/-- THE TIED CARD OF 'laws.FnSlabsLeast'. -/
def fnSlabsLeastCard : Claim7 := { stood := { row := fnSlabsLeastRow, standIns := [], harness := (true, "180ce3d704fd12910ff9e24e5bf35af1c9088c4111d3af306cfad293dee32353"), looks := false }, kinds := [], alts := [], laidByText := true, laidKinds := [.data, .data, .data], laidTests := true, laidLooks := .later }
def FnSlabsLeastCardSaid : Prop := Claim7.holds Tryd.pinned (.plain (OpenSpec.ofChange fnSlabsLeastSpec)) fnSlabsLeastCard

/-- THE TIED CARD OF 'laws.FnLengthsValid'. -/
def fnLengthsValidCard : Claim7 := { stood := { row := fnLengthsValidRow, standIns := [], harness := (true, "180ce3d704fd12910ff9e24e5bf35af1c9088c4111d3af306cfad293dee32353"), looks := false }, kinds := [], alts := [], laidByText := true, laidKinds := [.data, .data, .data], laidTests := true, laidLooks := .later }
def FnLengthsValidCardSaid : Prop := Claim7.holds Tryd.pinned (.plain (OpenSpec.ofChange fnLengthsValidSpec)) fnLengthsValidCard

/-- THE TIED CARD OF 'laws.FnBadValid'. -/
def fnBadValidCard : Claim7 := { stood := { row := fnBadValidRow, standIns := [], harness := (true, "180ce3d704fd12910ff9e24e5bf35af1c9088c4111d3af306cfad293dee32353"), looks := false }, kinds := [], alts := [], laidByText := true, laidKinds := [.data, .data, .data], laidTests := true, laidLooks := .later }
def FnBadValidCardSaid : Prop := Claim7.holds Tryd.pinned (.plain (OpenSpec.ofChange fnBadValidSpec)) fnBadValidCard

/-- THE TIED CARD OF 'laws.FnWantsValid'. -/
def fnWantsValidCard : Claim7 := { stood := { row := fnWantsValidRow, standIns := [], harness := (true, "180ce3d704fd12910ff9e24e5bf35af1c9088c4111d3af306cfad293dee32353"), looks := false }, kinds := [], alts := [], laidByText := true, laidKinds := [.data, .data, .data], laidTests := true, laidLooks := .later }
def FnWantsValidCardSaid : Prop := Claim7.holds Tryd.pinned (.plain (OpenSpec.ofChange fnWantsValidSpec)) fnWantsValidCard

/-- THE TIED CARD OF 'laws.FnCutLeast'. -/
def fnCutLeastCard : Claim7 := { stood := { row := fnCutLeastRow, standIns := [], harness := (true, "180ce3d704fd12910ff9e24e5bf35af1c9088c4111d3af306cfad293dee32353"), looks := false }, kinds := [], alts := [], laidByText := true, laidKinds := [.data, .data, .data], laidTests := true, laidLooks := .later }
def FnCutLeastCardSaid : Prop := Claim7.holds Tryd.pinned (.plain (OpenSpec.ofChange fnCutLeastSpec)) fnCutLeastCard

/-- THE TIED CARD OF 'laws.FnGoodParts'. -/
def fnGoodPartsCard : Claim7 := { stood := { row := fnGoodPartsRow, standIns := [], harness := (true, "180ce3d704fd12910ff9e24e5bf35af1c9088c4111d3af306cfad293dee32353"), looks := false }, kinds := [], alts := [], laidByText := true, laidKinds := [.data, .data, .data], laidTests := true, laidLooks := .later }
def FnGoodPartsCardSaid : Prop := Claim7.holds Tryd.pinned (.plain (OpenSpec.ofChange fnGoodPartsSpec)) fnGoodPartsCard

/-- THE TIED CARD OF 'laws.FnCutWaste'. -/
def fnCutWasteCard : Claim7 := { stood := { row := fnCutWasteRow, standIns := [], harness := (true, "180ce3d704fd12910ff9e24e5bf35af1c9088c4111d3af306cfad293dee32353"), looks := false }, kinds := [], alts := [], laidByText := true, laidKinds := [.data, .data, .data], laidTests := true, laidLooks := .later }
def FnCutWasteCardSaid : Prop := Claim7.holds Tryd.pinned (.plain (OpenSpec.ofChange fnCutWasteSpec)) fnCutWasteCard

/-- THE TIED CARD OF 'laws.FnStrandsLeast'. -/
def fnStrandsLeastCard : Claim7 := { stood := { row := fnStrandsLeastRow, standIns := [], harness := (true, "180ce3d704fd12910ff9e24e5bf35af1c9088c4111d3af306cfad293dee32353"), looks := false }, kinds := [], alts := [], laidByText := true, laidKinds := [.data, .data, .data], laidTests := true, laidLooks := .later }
def FnStrandsLeastCardSaid : Prop := Claim7.holds Tryd.pinned (.plain (OpenSpec.ofChange fnStrandsLeastSpec)) fnStrandsLeastCard

/-- THE TIED CARD OF 'laws.FnCutBest'. -/
def fnCutBestCard : Claim7 := { stood := { row := fnCutBestRow, standIns := [], harness := (true, "180ce3d704fd12910ff9e24e5bf35af1c9088c4111d3af306cfad293dee32353"), looks := false }, kinds := [], alts := [], laidByText := true, laidKinds := [.data, .data, .data], laidTests := true, laidLooks := .later }
def FnCutBestCardSaid : Prop := Claim7.holds Tryd.pinned (.plain (OpenSpec.ofChange fnCutBestSpec)) fnCutBestCard

/-- THE TIED CARD OF 'laws.FnStrandsOk'. -/
def fnStrandsOkCard : Claim7 := { stood := { row := fnStrandsOkRow, standIns := [], harness := (true, "180ce3d704fd12910ff9e24e5bf35af1c9088c4111d3af306cfad293dee32353"), looks := false }, kinds := [], alts := [], laidByText := true, laidKinds := [.data, .data, .data], laidTests := true, laidLooks := .later }
def FnStrandsOkCardSaid : Prop := Claim7.holds Tryd.pinned (.plain (OpenSpec.ofChange fnStrandsOkSpec)) fnStrandsOkCard

/-- THE TIED CARD OF 'laws.FnStrandsMany'. -/
def fnStrandsManyCard : Claim7 := { stood := { row := fnStrandsManyRow, standIns := [], harness := (true, "180ce3d704fd12910ff9e24e5bf35af1c9088c4111d3af306cfad293dee32353"), looks := false }, kinds := [], alts := [], laidByText := true, laidKinds := [.data, .data, .data], laidTests := true, laidLooks := .later }
def FnStrandsManyCardSaid : Prop := Claim7.holds Tryd.pinned (.plain (OpenSpec.ofChange fnStrandsManySpec)) fnStrandsManyCard

/-- THE TIED CARD OF 'laws.FnSlabsOk'. -/
def fnSlabsOkCard : Claim7 := { stood := { row := fnSlabsOkRow, standIns := [], harness := (true, "180ce3d704fd12910ff9e24e5bf35af1c9088c4111d3af306cfad293dee32353"), looks := false }, kinds := [], alts := [], laidByText := true, laidKinds := [.data, .data, .data], laidTests := true, laidLooks := .later }
def FnSlabsOkCardSaid : Prop := Claim7.holds Tryd.pinned (.plain (OpenSpec.ofChange fnSlabsOkSpec)) fnSlabsOkCard

/-- THE TIED CARD OF 'laws.FnSlabsBest'. -/
def fnSlabsBestCard : Claim7 := { stood := { row := fnSlabsBestRow, standIns := [], harness := (true, "180ce3d704fd12910ff9e24e5bf35af1c9088c4111d3af306cfad293dee32353"), looks := false }, kinds := [], alts := [], laidByText := true, laidKinds := [.data, .data, .data], laidTests := true, laidLooks := .later }
def FnSlabsBestCardSaid : Prop := Claim7.holds Tryd.pinned (.plain (OpenSpec.ofChange fnSlabsBestSpec)) fnSlabsBestCard

/-- THE TIED CARD OF 'laws.FnStrandsFit'. -/
def fnStrandsFitCard : Claim7 := { stood := { row := fnStrandsFitRow, standIns := [], harness := (true, "180ce3d704fd12910ff9e24e5bf35af1c9088c4111d3af306cfad293dee32353"), looks := false }, kinds := [], alts := [], laidByText := true, laidKinds := [.data, .data, .data], laidTests := true, laidLooks := .later }
def FnStrandsFitCardSaid : Prop := Claim7.holds Tryd.pinned (.plain (OpenSpec.ofChange fnStrandsFitSpec)) fnStrandsFitCard

/-- THE SECOND FORM's CARD OF 'laws.FnSlabsWaste'. -/
def fnSlabsWasteUptoCard : Claim7 := { stood := { row := fnSlabsWasteUptoRow, standIns := [], harness := (true, "180ce3d704fd12910ff9e24e5bf35af1c9088c4111d3af306cfad293dee32353"), looks := false }, kinds := [], alts := [], laidByText := true, laidKinds := [.data, .data, .data], laidTests := true, laidLooks := .later }
def FnSlabsWasteUptoCardSaid : Prop := Claim7.holds Tryd.pinned (.plain (OpenSpec.upto fnSlabsWasteSpec)) fnSlabsWasteUptoCard

/-- THE SECOND FORM's CARD OF 'laws.FnSlabsLeast'. -/
def fnSlabsLeastUptoCard : Claim7 := { stood := { row := fnSlabsLeastUptoRow, standIns := [], harness := (true, "180ce3d704fd12910ff9e24e5bf35af1c9088c4111d3af306cfad293dee32353"), looks := false }, kinds := [], alts := [], laidByText := true, laidKinds := [.data, .data, .data], laidTests := true, laidLooks := .later }
def FnSlabsLeastUptoCardSaid : Prop := Claim7.holds Tryd.pinned (.plain (OpenSpec.upto fnSlabsLeastSpec)) fnSlabsLeastUptoCard

/-- THE SECOND FORM's CARD OF 'laws.FnLengthsValid'. -/
def fnLengthsValidUptoCard : Claim7 := { stood := { row := fnLengthsValidUptoRow, standIns := [], harness := (true, "180ce3d704fd12910ff9e24e5bf35af1c9088c4111d3af306cfad293dee32353"), looks := false }, kinds := [], alts := [], laidByText := true, laidKinds := [.data, .data, .data], laidTests := true, laidLooks := .later }
def FnLengthsValidUptoCardSaid : Prop := Claim7.holds Tryd.pinned (.plain (OpenSpec.upto fnLengthsValidSpec)) fnLengthsValidUptoCard

/-- THE SECOND FORM's CARD OF 'laws.FnBadValid'. -/
def fnBadValidUptoCard : Claim7 := { stood := { row := fnBadValidUptoRow, standIns := [], harness := (true, "180ce3d704fd12910ff9e24e5bf35af1c9088c4111d3af306cfad293dee32353"), looks := false }, kinds := [], alts := [], laidByText := true, laidKinds := [.data, .data, .data], laidTests := true, laidLooks := .later }
def FnBadValidUptoCardSaid : Prop := Claim7.holds Tryd.pinned (.plain (OpenSpec.upto fnBadValidSpec)) fnBadValidUptoCard

/-- THE SECOND FORM's CARD OF 'laws.FnWantsValid'. -/
def fnWantsValidUptoCard : Claim7 := { stood := { row := fnWantsValidUptoRow, standIns := [], harness := (true, "180ce3d704fd12910ff9e24e5bf35af1c9088c4111d3af306cfad293dee32353"), looks := false }, kinds := [], alts := [], laidByText := true, laidKinds := [.data, .data, .data], laidTests := true, laidLooks := .later }
def FnWantsValidUptoCardSaid : Prop := Claim7.holds Tryd.pinned (.plain (OpenSpec.upto fnWantsValidSpec)) fnWantsValidUptoCard

/-- THE SECOND FORM's CARD OF 'laws.FnCutLeast'. -/
def fnCutLeastUptoCard : Claim7 := { stood := { row := fnCutLeastUptoRow, standIns := [], harness := (true, "180ce3d704fd12910ff9e24e5bf35af1c9088c4111d3af306cfad293dee32353"), looks := false }, kinds := [], alts := [], laidByText := true, laidKinds := [.data, .data, .data], laidTests := true, laidLooks := .later }
def FnCutLeastUptoCardSaid : Prop := Claim7.holds Tryd.pinned (.plain (OpenSpec.upto fnCutLeastSpec)) fnCutLeastUptoCard

/-- THE SECOND FORM's CARD OF 'laws.FnGoodParts'. -/
def fnGoodPartsUptoCard : Claim7 := { stood := { row := fnGoodPartsUptoRow, standIns := [], harness := (true, "180ce3d704fd12910ff9e24e5bf35af1c9088c4111d3af306cfad293dee32353"), looks := false }, kinds := [], alts := [], laidByText := true, laidKinds := [.data, .data, .data], laidTests := true, laidLooks := .later }
def FnGoodPartsUptoCardSaid : Prop := Claim7.holds Tryd.pinned (.plain (OpenSpec.upto fnGoodPartsSpec)) fnGoodPartsUptoCard

/-- THE SECOND FORM's CARD OF 'laws.FnCutWaste'. -/
def fnCutWasteUptoCard : Claim7 := { stood := { row := fnCutWasteUptoRow, standIns := [], harness := (true, "180ce3d704fd12910ff9e24e5bf35af1c9088c4111d3af306cfad293dee32353"), looks := false }, kinds := [], alts := [], laidByText := true, laidKinds := [.data, .data, .data], laidTests := true, laidLooks := .later }
def FnCutWasteUptoCardSaid : Prop := Claim7.holds Tryd.pinned (.plain (OpenSpec.upto fnCutWasteSpec)) fnCutWasteUptoCard

/-- THE SECOND FORM's CARD OF 'laws.FnStrandsLeast'. -/
def fnStrandsLeastUptoCard : Claim7 := { stood := { row := fnStrandsLeastUptoRow, standIns := [], harness := (true, "180ce3d704fd12910ff9e24e5bf35af1c9088c4111d3af306cfad293dee32353"), looks := false }, kinds := [], alts := [], laidByText := true, laidKinds := [.data, .data, .data], laidTests := true, laidLooks := .later }
def FnStrandsLeastUptoCardSaid : Prop := Claim7.holds Tryd.pinned (.plain (OpenSpec.upto fnStrandsLeastSpec)) fnStrandsLeastUptoCard

/-- THE SECOND FORM's CARD OF 'laws.FnCutBest'. -/
def fnCutBestUptoCard : Claim7 := { stood := { row := fnCutBestUptoRow, standIns := [], harness := (true, "180ce3d704fd12910ff9e24e5bf35af1c9088c4111d3af306cfad293dee32353"), looks := false }, kinds := [], alts := [], laidByText := true, laidKinds := [.data, .data, .data], laidTests := true, laidLooks := .later }
def FnCutBestUptoCardSaid : Prop := Claim7.holds Tryd.pinned (.plain (OpenSpec.upto fnCutBestSpec)) fnCutBestUptoCard

/-- THE SECOND FORM's CARD OF 'laws.FnStrandsOk'. -/
def fnStrandsOkUptoCard : Claim7 := { stood := { row := fnStrandsOkUptoRow, standIns := [], harness := (true, "180ce3d704fd12910ff9e24e5bf35af1c9088c4111d3af306cfad293dee32353"), looks := false }, kinds := [], alts := [], laidByText := true, laidKinds := [.data, .data, .data], laidTests := true, laidLooks := .later }
def FnStrandsOkUptoCardSaid : Prop := Claim7.holds Tryd.pinned (.plain (OpenSpec.upto fnStrandsOkSpec)) fnStrandsOkUptoCard

/-- THE SECOND FORM's CARD OF 'laws.FnStrandsMany'. -/
def fnStrandsManyUptoCard : Claim7 := { stood := { row := fnStrandsManyUptoRow, standIns := [], harness := (true, "180ce3d704fd12910ff9e24e5bf35af1c9088c4111d3af306cfad293dee32353"), looks := false }, kinds := [], alts := [], laidByText := true, laidKinds := [.data, .data, .data], laidTests := true, laidLooks := .later }
def FnStrandsManyUptoCardSaid : Prop := Claim7.holds Tryd.pinned (.plain (OpenSpec.upto fnStrandsManySpec)) fnStrandsManyUptoCard

/-- THE SECOND FORM's CARD OF 'laws.FnSlabsOk'. -/
def fnSlabsOkUptoCard : Claim7 := { stood := { row := fnSlabsOkUptoRow, standIns := [], harness := (true, "180ce3d704fd12910ff9e24e5bf35af1c9088c4111d3af306cfad293dee32353"), looks := false }, kinds := [], alts := [], laidByText := true, laidKinds := [.data, .data, .data], laidTests := true, laidLooks := .later }
def FnSlabsOkUptoCardSaid : Prop := Claim7.holds Tryd.pinned (.plain (OpenSpec.upto fnSlabsOkSpec)) fnSlabsOkUptoCard

/-- THE SECOND FORM's CARD OF 'laws.FnSlabsBest'. -/
def fnSlabsBestUptoCard : Claim7 := { stood := { row := fnSlabsBestUptoRow, standIns := [], harness := (true, "180ce3d704fd12910ff9e24e5bf35af1c9088c4111d3af306cfad293dee32353"), looks := false }, kinds := [], alts := [], laidByText := true, laidKinds := [.data, .data, .data], laidTests := true, laidLooks := .later }
def FnSlabsBestUptoCardSaid : Prop := Claim7.holds Tryd.pinned (.plain (OpenSpec.upto fnSlabsBestSpec)) fnSlabsBestUptoCard

/-- THE SECOND FORM's CARD OF 'laws.FnStrandsFit'. -/
def fnStrandsFitUptoCard : Claim7 := { stood := { row := fnStrandsFitUptoRow, standIns := [], harness := (true, "180ce3d704fd12910ff9e24e5bf35af1c9088c4111d3af306cfad293dee32353"), looks := false }, kinds := [], alts := [], laidByText := true, laidKinds := [.data, .data, .data], laidTests := true, laidLooks := .later }
def FnStrandsFitUptoCardSaid : Prop := Claim7.holds Tryd.pinned (.plain (OpenSpec.upto fnStrandsFitSpec)) fnStrandsFitUptoCard
end Rows
end Go.Proofs.YtcegmlogjbnoeaaDoor
