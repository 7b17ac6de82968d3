/-
  DERIVED. GIVEN WITH THE SEED: THE CARDS: each row of YtiddlpgpbafdmaaDoorRows.lean that lists a variable, with what it lists TIED to the program's text (the seventh form; the later family's looks); each row that meets fmt, with fmt's text TOLD by the authors' own Lean function (tested against real Go, not proved from fmt's source: count such statements apart). THE CARD IS WHAT COUNTS. Prove the row's statement (the work); the ties are given (YtiddlpgpbafdmaaDoorTie.lean); close each card by the builder's one call (the guide's Derived/Test/ToyasCard.lean, 'card_holds'). Laid BY PROGRAM, IN A SANDBOX (cutbox-door.mjs). By AI agents, Wed Nov 11 2026. No macro, syntax, notation, axiom, sorry.
-/
import Derived.Test.YtiddlpgpbafdmaaDoorRows
import GoSem.ClaimSeven
namespace Go.Proofs.YtiddlpgpbafdmaaDoor
namespace Rows

/-- THE TIED CARD OF 'laws.FnFurnaceValid'. -/
def fnFurnaceValidCard : Claim7 := { stood := { row := fnFurnaceValidRow, standIns := [], harness := (true, "5b2fac6c2f2dd7d3bdac560dcd953fe3d19e7673fb2d309820d83cdf1ed4c194"), looks := false }, kinds := [], alts := [], laidByText := true, laidKinds := [.data, .data, .data], laidTests := true, laidLooks := .later }
def FnFurnaceValidCardSaid : Prop := Claim7.holds Tryd.pinned (.plain (OpenSpec.ofChange fnFurnaceValidSpec)) fnFurnaceValidCard

/-- THE TIED CARD OF 'laws.FnHeatStep'. -/
def fnHeatStepCard : Claim7 := { stood := { row := fnHeatStepRow, standIns := [], harness := (true, "5b2fac6c2f2dd7d3bdac560dcd953fe3d19e7673fb2d309820d83cdf1ed4c194"), looks := false }, kinds := [], alts := [], laidByText := true, laidKinds := [.data, .data, .data], laidTests := true, laidLooks := .later }
def FnHeatStepCardSaid : Prop := Claim7.holds Tryd.pinned (.plain (OpenSpec.ofChange fnHeatStepSpec)) fnHeatStepCard

/-- THE TIED CARD OF 'laws.FnHeatAfter'. -/
def fnHeatAfterCard : Claim7 := { stood := { row := fnHeatAfterRow, standIns := [], harness := (true, "5b2fac6c2f2dd7d3bdac560dcd953fe3d19e7673fb2d309820d83cdf1ed4c194"), looks := false }, kinds := [], alts := [], laidByText := true, laidKinds := [.data, .data, .data], laidTests := true, laidLooks := .later }
def FnHeatAfterCardSaid : Prop := Claim7.holds Tryd.pinned (.plain (OpenSpec.ofChange fnHeatAfterSpec)) fnHeatAfterCard

/-- THE TIED CARD OF 'laws.FnChargesValid'. -/
def fnChargesValidCard : Claim7 := { stood := { row := fnChargesValidRow, standIns := [], harness := (true, "5b2fac6c2f2dd7d3bdac560dcd953fe3d19e7673fb2d309820d83cdf1ed4c194"), looks := false }, kinds := [], alts := [], laidByText := true, laidKinds := [.data, .data, .data], laidTests := true, laidLooks := .later }
def FnChargesValidCardSaid : Prop := Claim7.holds Tryd.pinned (.plain (OpenSpec.ofChange fnChargesValidSpec)) fnChargesValidCard

/-- THE TIED CARD OF 'laws.FnHeatMinutes'. -/
def fnHeatMinutesCard : Claim7 := { stood := { row := fnHeatMinutesRow, standIns := [], harness := (true, "5b2fac6c2f2dd7d3bdac560dcd953fe3d19e7673fb2d309820d83cdf1ed4c194"), looks := false }, kinds := [], alts := [], laidByText := true, laidKinds := [.data, .data, .data], laidTests := true, laidLooks := .later }
def FnHeatMinutesCardSaid : Prop := Claim7.holds Tryd.pinned (.plain (OpenSpec.ofChange fnHeatMinutesSpec)) fnHeatMinutesCard

/-- THE TIED CARD OF 'laws.FnHeatLeast'. -/
def fnHeatLeastCard : Claim7 := { stood := { row := fnHeatLeastRow, standIns := [], harness := (true, "5b2fac6c2f2dd7d3bdac560dcd953fe3d19e7673fb2d309820d83cdf1ed4c194"), looks := false }, kinds := [], alts := [], laidByText := true, laidKinds := [.data, .data, .data], laidTests := true, laidLooks := .later }
def FnHeatLeastCardSaid : Prop := Claim7.holds Tryd.pinned (.plain (OpenSpec.ofChange fnHeatLeastSpec)) fnHeatLeastCard

/-- THE TIED CARD OF 'laws.FnPassEnd'. -/
def fnPassEndCard : Claim7 := { stood := { row := fnPassEndRow, standIns := [], harness := (true, "5b2fac6c2f2dd7d3bdac560dcd953fe3d19e7673fb2d309820d83cdf1ed4c194"), looks := false }, kinds := [], alts := [], laidByText := true, laidKinds := [.data, .data, .data], laidTests := true, laidLooks := .later }
def FnPassEndCardSaid : Prop := Claim7.holds Tryd.pinned (.plain (OpenSpec.ofChange fnPassEndSpec)) fnPassEndCard

/-- THE TIED CARD OF 'laws.FnPassTimes'. -/
def fnPassTimesCard : Claim7 := { stood := { row := fnPassTimesRow, standIns := [], harness := (true, "5b2fac6c2f2dd7d3bdac560dcd953fe3d19e7673fb2d309820d83cdf1ed4c194"), looks := false }, kinds := [], alts := [], laidByText := true, laidKinds := [.data, .data, .data], laidTests := true, laidLooks := .later }
def FnPassTimesCardSaid : Prop := Claim7.holds Tryd.pinned (.plain (OpenSpec.ofChange fnPassTimesSpec)) fnPassTimesCard

/-- THE TIED CARD OF 'laws.FnPassesOk'. -/
def fnPassesOkCard : Claim7 := { stood := { row := fnPassesOkRow, standIns := [], harness := (true, "5b2fac6c2f2dd7d3bdac560dcd953fe3d19e7673fb2d309820d83cdf1ed4c194"), looks := false }, kinds := [], alts := [], laidByText := true, laidKinds := [.data, .data, .data], laidTests := true, laidLooks := .later }
def FnPassesOkCardSaid : Prop := Claim7.holds Tryd.pinned (.plain (OpenSpec.ofChange fnPassesOkSpec)) fnPassesOkCard

/-- THE TIED CARD OF 'laws.FnPassOver'. -/
def fnPassOverCard : Claim7 := { stood := { row := fnPassOverRow, standIns := [], harness := (true, "5b2fac6c2f2dd7d3bdac560dcd953fe3d19e7673fb2d309820d83cdf1ed4c194"), looks := false }, kinds := [], alts := [], laidByText := true, laidKinds := [.data, .data, .data], laidTests := true, laidLooks := .later }
def FnPassOverCardSaid : Prop := Claim7.holds Tryd.pinned (.plain (OpenSpec.ofChange fnPassOverSpec)) fnPassOverCard

/-- THE TIED CARD OF 'laws.FnSplitEnd'. -/
def fnSplitEndCard : Claim7 := { stood := { row := fnSplitEndRow, standIns := [], harness := (true, "5b2fac6c2f2dd7d3bdac560dcd953fe3d19e7673fb2d309820d83cdf1ed4c194"), looks := false }, kinds := [], alts := [], laidByText := true, laidKinds := [.data, .data, .data], laidTests := true, laidLooks := .later }
def FnSplitEndCardSaid : Prop := Claim7.holds Tryd.pinned (.plain (OpenSpec.ofChange fnSplitEndSpec)) fnSplitEndCard

/-- THE TIED CARD OF 'laws.FnPassInside'. -/
def fnPassInsideCard : Claim7 := { stood := { row := fnPassInsideRow, standIns := [], harness := (true, "5b2fac6c2f2dd7d3bdac560dcd953fe3d19e7673fb2d309820d83cdf1ed4c194"), looks := false }, kinds := [], alts := [], laidByText := true, laidKinds := [.data, .data, .data], laidTests := true, laidLooks := .later }
def FnPassInsideCardSaid : Prop := Claim7.holds Tryd.pinned (.plain (OpenSpec.ofChange fnPassInsideSpec)) fnPassInsideCard

/-- THE SECOND FORM's CARD OF 'laws.FnFurnaceValid'. -/
def fnFurnaceValidUptoCard : Claim7 := { stood := { row := fnFurnaceValidUptoRow, standIns := [], harness := (true, "5b2fac6c2f2dd7d3bdac560dcd953fe3d19e7673fb2d309820d83cdf1ed4c194"), looks := false }, kinds := [], alts := [], laidByText := true, laidKinds := [.data, .data, .data], laidTests := true, laidLooks := .later }
def FnFurnaceValidUptoCardSaid : Prop := Claim7.holds Tryd.pinned (.plain (OpenSpec.upto fnFurnaceValidSpec)) fnFurnaceValidUptoCard

/-- THE SECOND FORM's CARD OF 'laws.FnHeatStep'. -/
def fnHeatStepUptoCard : Claim7 := { stood := { row := fnHeatStepUptoRow, standIns := [], harness := (true, "5b2fac6c2f2dd7d3bdac560dcd953fe3d19e7673fb2d309820d83cdf1ed4c194"), looks := false }, kinds := [], alts := [], laidByText := true, laidKinds := [.data, .data, .data], laidTests := true, laidLooks := .later }
def FnHeatStepUptoCardSaid : Prop := Claim7.holds Tryd.pinned (.plain (OpenSpec.upto fnHeatStepSpec)) fnHeatStepUptoCard

/-- THE SECOND FORM's CARD OF 'laws.FnHeatAfter'. -/
def fnHeatAfterUptoCard : Claim7 := { stood := { row := fnHeatAfterUptoRow, standIns := [], harness := (true, "5b2fac6c2f2dd7d3bdac560dcd953fe3d19e7673fb2d309820d83cdf1ed4c194"), looks := false }, kinds := [], alts := [], laidByText := true, laidKinds := [.data, .data, .data], laidTests := true, laidLooks := .later }
def FnHeatAfterUptoCardSaid : Prop := Claim7.holds Tryd.pinned (.plain (OpenSpec.upto fnHeatAfterSpec)) fnHeatAfterUptoCard

/-- THE SECOND FORM's CARD OF 'laws.FnChargesValid'. -/
def fnChargesValidUptoCard : Claim7 := { stood := { row := fnChargesValidUptoRow, standIns := [], harness := (true, "5b2fac6c2f2dd7d3bdac560dcd953fe3d19e7673fb2d309820d83cdf1ed4c194"), looks := false }, kinds := [], alts := [], laidByText := true, laidKinds := [.data, .data, .data], laidTests := true, laidLooks := .later }
def FnChargesValidUptoCardSaid : Prop := Claim7.holds Tryd.pinned (.plain (OpenSpec.upto fnChargesValidSpec)) fnChargesValidUptoCard

/-- THE SECOND FORM's CARD OF 'laws.FnHeatMinutes'. -/
def fnHeatMinutesUptoCard : Claim7 := { stood := { row := fnHeatMinutesUptoRow, standIns := [], harness := (true, "5b2fac6c2f2dd7d3bdac560dcd953fe3d19e7673fb2d309820d83cdf1ed4c194"), looks := false }, kinds := [], alts := [], laidByText := true, laidKinds := [.data, .data, .data], laidTests := true, laidLooks := .later }
def FnHeatMinutesUptoCardSaid : Prop := Claim7.holds Tryd.pinned (.plain (OpenSpec.upto fnHeatMinutesSpec)) fnHeatMinutesUptoCard

/-- THE SECOND FORM's CARD OF 'laws.FnHeatLeast'. -/
def fnHeatLeastUptoCard : Claim7 := { stood := { row := fnHeatLeastUptoRow, standIns := [], harness := (true, "5b2fac6c2f2dd7d3bdac560dcd953fe3d19e7673fb2d309820d83cdf1ed4c194"), looks := false }, kinds := [], alts := [], laidByText := true, laidKinds := [.data, .data, .data], laidTests := true, laidLooks := .later }
def FnHeatLeastUptoCardSaid : Prop := Claim7.holds Tryd.pinned (.plain (OpenSpec.upto fnHeatLeastSpec)) fnHeatLeastUptoCard

/-- THE SECOND FORM's CARD OF 'laws.FnPassEnd'. -/
def fnPassEndUptoCard : Claim7 := { stood := { row := fnPassEndUptoRow, standIns := [], harness := (true, "5b2fac6c2f2dd7d3bdac560dcd953fe3d19e7673fb2d309820d83cdf1ed4c194"), looks := false }, kinds := [], alts := [], laidByText := true, laidKinds := [.data, .data, .data], laidTests := true, laidLooks := .later }
def FnPassEndUptoCardSaid : Prop := Claim7.holds Tryd.pinned (.plain (OpenSpec.upto fnPassEndSpec)) fnPassEndUptoCard

/-- THE SECOND FORM's CARD OF 'laws.FnPassTimes'. -/
def fnPassTimesUptoCard : Claim7 := { stood := { row := fnPassTimesUptoRow, standIns := [], harness := (true, "5b2fac6c2f2dd7d3bdac560dcd953fe3d19e7673fb2d309820d83cdf1ed4c194"), looks := false }, kinds := [], alts := [], laidByText := true, laidKinds := [.data, .data, .data], laidTests := true, laidLooks := .later }
def FnPassTimesUptoCardSaid : Prop := Claim7.holds Tryd.pinned (.plain (OpenSpec.upto fnPassTimesSpec)) fnPassTimesUptoCard

/-- THE SECOND FORM's CARD OF 'laws.FnPassesOk'. -/
def fnPassesOkUptoCard : Claim7 := { stood := { row := fnPassesOkUptoRow, standIns := [], harness := (true, "5b2fac6c2f2dd7d3bdac560dcd953fe3d19e7673fb2d309820d83cdf1ed4c194"), looks := false }, kinds := [], alts := [], laidByText := true, laidKinds := [.data, .data, .data], laidTests := true, laidLooks := .later }
def FnPassesOkUptoCardSaid : Prop := Claim7.holds Tryd.pinned (.plain (OpenSpec.upto fnPassesOkSpec)) fnPassesOkUptoCard

/-- THE SECOND FORM's CARD OF 'laws.FnPassOver'. -/
def fnPassOverUptoCard : Claim7 := { stood := { row := fnPassOverUptoRow, standIns := [], harness := (true, "5b2fac6c2f2dd7d3bdac560dcd953fe3d19e7673fb2d309820d83cdf1ed4c194"), looks := false }, kinds := [], alts := [], laidByText := true, laidKinds := [.data, .data, .data], laidTests := true, laidLooks := .later }
def FnPassOverUptoCardSaid : Prop := Claim7.holds Tryd.pinned (.plain (OpenSpec.upto fnPassOverSpec)) fnPassOverUptoCard

/-- THE SECOND FORM's CARD OF 'laws.FnSplitEnd'. -/
def fnSplitEndUptoCard : Claim7 := { stood := { row := fnSplitEndUptoRow, standIns := [], harness := (true, "5b2fac6c2f2dd7d3bdac560dcd953fe3d19e7673fb2d309820d83cdf1ed4c194"), looks := false }, kinds := [], alts := [], laidByText := true, laidKinds := [.data, .data, .data], laidTests := true, laidLooks := .later }
def FnSplitEndUptoCardSaid : Prop := Claim7.holds Tryd.pinned (.plain (OpenSpec.upto fnSplitEndSpec)) fnSplitEndUptoCard

/-- THE SECOND FORM's CARD OF 'laws.FnPassInside'. -/
def fnPassInsideUptoCard : Claim7 := { stood := { row := fnPassInsideUptoRow, standIns := [], harness := (true, "5b2fac6c2f2dd7d3bdac560dcd953fe3d19e7673fb2d309820d83cdf1ed4c194"), looks := false }, kinds := [], alts := [], laidByText := true, laidKinds := [.data, .data, .data], laidTests := true, laidLooks := .later }
def FnPassInsideUptoCardSaid : Prop := Claim7.holds Tryd.pinned (.plain (OpenSpec.upto fnPassInsideSpec)) fnPassInsideUptoCard
end Rows
end Go.Proofs.YtiddlpgpbafdmaaDoor
