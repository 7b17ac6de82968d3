/-
  DERIVED. GIVEN WITH THE SEED: THE CARDS: each row of YtblbfgoifaddiaaDoorRows.lean that lists a variable, with what it lists TIED to the program's text (the seventh form; the later family's looks); each row that meets fmt, with fmt's text TOLD by the authors' own Lean function (tested against real Go, not proved from fmt's source: count such statements apart). THE CARD IS WHAT COUNTS. Prove the row's statement (the work); the ties are given (YtblbfgoifaddiaaDoorTie.lean); close each card by the builder's one call (the guide's Derived/Test/ToyasCard.lean, 'card_holds'). Laid BY PROGRAM, IN A SANDBOX (cutbox-door.mjs). By AI agents, Wed Nov 11 2026. No macro, syntax, notation, axiom, sorry.
-/
import Derived.Test.YtblbfgoifaddiaaDoorRows
import GoSem.ClaimSeven
namespace Go.Proofs.YtblbfgoifaddiaaDoor
namespace Rows

/-- THE TIED CARD OF 'laws.FnLadleOf'. -/
def fnLadleOfCard : Claim7 := { stood := { row := fnLadleOfRow, standIns := [], harness := (true, "c8eaa001fa1b763e63b81c7c191dc2c0dbcdcba4dbacbba55baae7ff89486b50"), looks := false }, kinds := [], alts := [], laidByText := true, laidKinds := [.data, .data, .data], laidTests := true, laidLooks := .later }
def FnLadleOfCardSaid : Prop := Claim7.holds Tryd.pinned (.plain (OpenSpec.ofChange fnLadleOfSpec)) fnLadleOfCard

/-- THE TIED CARD OF 'laws.FnOrderLost'. -/
def fnOrderLostCard : Claim7 := { stood := { row := fnOrderLostRow, standIns := [], harness := (true, "c8eaa001fa1b763e63b81c7c191dc2c0dbcdcba4dbacbba55baae7ff89486b50"), looks := false }, kinds := [], alts := [], laidByText := true, laidKinds := [.data, .data, .data], laidTests := true, laidLooks := .later }
def FnOrderLostCardSaid : Prop := Claim7.holds Tryd.pinned (.plain (OpenSpec.ofChange fnOrderLostSpec)) fnOrderLostCard

/-- THE TIED CARD OF 'laws.FnBestOrder'. -/
def fnBestOrderCard : Claim7 := { stood := { row := fnBestOrderRow, standIns := [], harness := (true, "c8eaa001fa1b763e63b81c7c191dc2c0dbcdcba4dbacbba55baae7ff89486b50"), looks := false }, kinds := [], alts := [], laidByText := true, laidKinds := [.data, .data, .data], laidTests := true, laidLooks := .later }
def FnBestOrderCardSaid : Prop := Claim7.holds Tryd.pinned (.plain (OpenSpec.ofChange fnBestOrderSpec)) fnBestOrderCard

/-- THE TIED CARD OF 'laws.FnLeastLost'. -/
def fnLeastLostCard : Claim7 := { stood := { row := fnLeastLostRow, standIns := [], harness := (true, "c8eaa001fa1b763e63b81c7c191dc2c0dbcdcba4dbacbba55baae7ff89486b50"), looks := false }, kinds := [], alts := [], laidByText := true, laidKinds := [.data, .data, .data], laidTests := true, laidLooks := .later }
def FnLeastLostCardSaid : Prop := Claim7.holds Tryd.pinned (.plain (OpenSpec.ofChange fnLeastLostSpec)) fnLeastLostCard

/-- THE SECOND FORM's CARD OF 'laws.FnLadleOf'. -/
def fnLadleOfUptoCard : Claim7 := { stood := { row := fnLadleOfUptoRow, standIns := [], harness := (true, "c8eaa001fa1b763e63b81c7c191dc2c0dbcdcba4dbacbba55baae7ff89486b50"), looks := false }, kinds := [], alts := [], laidByText := true, laidKinds := [.data, .data, .data], laidTests := true, laidLooks := .later }
def FnLadleOfUptoCardSaid : Prop := Claim7.holds Tryd.pinned (.plain (OpenSpec.upto fnLadleOfSpec)) fnLadleOfUptoCard

/-- THE SECOND FORM's CARD OF 'laws.FnOrderLost'. -/
def fnOrderLostUptoCard : Claim7 := { stood := { row := fnOrderLostUptoRow, standIns := [], harness := (true, "c8eaa001fa1b763e63b81c7c191dc2c0dbcdcba4dbacbba55baae7ff89486b50"), looks := false }, kinds := [], alts := [], laidByText := true, laidKinds := [.data, .data, .data], laidTests := true, laidLooks := .later }
def FnOrderLostUptoCardSaid : Prop := Claim7.holds Tryd.pinned (.plain (OpenSpec.upto fnOrderLostSpec)) fnOrderLostUptoCard

/-- THE SECOND FORM's CARD OF 'laws.FnBestOrder'. -/
def fnBestOrderUptoCard : Claim7 := { stood := { row := fnBestOrderUptoRow, standIns := [], harness := (true, "c8eaa001fa1b763e63b81c7c191dc2c0dbcdcba4dbacbba55baae7ff89486b50"), looks := false }, kinds := [], alts := [], laidByText := true, laidKinds := [.data, .data, .data], laidTests := true, laidLooks := .later }
def FnBestOrderUptoCardSaid : Prop := Claim7.holds Tryd.pinned (.plain (OpenSpec.upto fnBestOrderSpec)) fnBestOrderUptoCard

/-- THE SECOND FORM's CARD OF 'laws.FnLeastLost'. -/
def fnLeastLostUptoCard : Claim7 := { stood := { row := fnLeastLostUptoRow, standIns := [], harness := (true, "c8eaa001fa1b763e63b81c7c191dc2c0dbcdcba4dbacbba55baae7ff89486b50"), looks := false }, kinds := [], alts := [], laidByText := true, laidKinds := [.data, .data, .data], laidTests := true, laidLooks := .later }
def FnLeastLostUptoCardSaid : Prop := Claim7.holds Tryd.pinned (.plain (OpenSpec.upto fnLeastLostSpec)) fnLeastLostUptoCard
end Rows
end Go.Proofs.YtblbfgoifaddiaaDoor
