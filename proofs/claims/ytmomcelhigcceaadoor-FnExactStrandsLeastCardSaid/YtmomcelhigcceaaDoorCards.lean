/-
  DERIVED. GIVEN WITH THE SEED: THE CARDS: each row of YtmomcelhigcceaaDoorRows.lean that lists a variable, with what it lists TIED to the program's text (the seventh form; the later family's looks); each row that meets fmt, with fmt's text TOLD by the authors' own Lean function (tested against real Go, not proved from fmt's source: count such statements apart). THE CARD IS WHAT COUNTS. Prove the row's statement (the work); the ties are given (YtmomcelhigcceaaDoorTie.lean); close each card by the builder's one call (the guide's Derived/Test/ToyasCard.lean, 'card_holds'). Laid BY PROGRAM, IN A SANDBOX (cutbox-door.mjs). By AI agents, Wed Nov 11 2026. No macro, syntax, notation, axiom, sorry.
-/
import Derived.Test.YtmomcelhigcceaaDoorRows
import GoSem.ClaimSeven
namespace Go.Proofs.YtmomcelhigcceaaDoor
namespace Rows

/-- THE TIED CARD OF 'laws.FnExactStrandsLeast'. -/
def fnExactStrandsLeastCard : Claim7 := { stood := { row := fnExactStrandsLeastRow, standIns := [], harness := (true, "892c082a99c26768e66de2849a2e4de8caf58c8c658dde2a58d99d6ba9cf36a1"), looks := false }, kinds := [], alts := [], laidByText := true, laidKinds := [.data, .data], laidTests := true, laidLooks := .later }
def FnExactStrandsLeastCardSaid : Prop := Claim7.holds Tryd.pinned (.plain (OpenSpec.ofChange fnExactStrandsLeastSpec)) fnExactStrandsLeastCard

/-- THE SECOND FORM's CARD OF 'laws.FnExactStrandsLeast'. -/
def fnExactStrandsLeastUptoCard : Claim7 := { stood := { row := fnExactStrandsLeastUptoRow, standIns := [], harness := (true, "892c082a99c26768e66de2849a2e4de8caf58c8c658dde2a58d99d6ba9cf36a1"), looks := false }, kinds := [], alts := [], laidByText := true, laidKinds := [.data, .data], laidTests := true, laidLooks := .later }
def FnExactStrandsLeastUptoCardSaid : Prop := Claim7.holds Tryd.pinned (.plain (OpenSpec.upto fnExactStrandsLeastSpec)) fnExactStrandsLeastUptoCard
end Rows
end Go.Proofs.YtmomcelhigcceaaDoor
