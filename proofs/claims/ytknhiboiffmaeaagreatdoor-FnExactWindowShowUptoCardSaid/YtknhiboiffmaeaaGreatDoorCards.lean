/-
  DERIVED. GIVEN WITH THE SEED: THE CARDS: each row of YtknhiboiffmaeaaGreatDoorRows.lean that lists a variable, with what it lists TIED to the program's text (the seventh form; the later family's looks); each row that meets fmt, with fmt's text TOLD by the authors' own Lean function (tested against real Go, not proved from fmt's source: count such statements apart). THE CARD IS WHAT COUNTS. Prove the row's statement (the work); the ties are given (YtknhiboiffmaeaaGreatDoorTie.lean); close each card by the builder's one call (the guide's Derived/Test/ToyasCard.lean, 'card_holds'). Laid BY PROGRAM, IN A SANDBOX (cutbox-door.mjs). By AI agents, Wed Nov 11 2026. No macro, syntax, notation, axiom, sorry.
-/
import Derived.Test.YtknhiboiffmaeaaGreatDoorRows
import GoSem.ClaimSeven
namespace Go.Proofs.YtknhiboiffmaeaaGreatDoor
namespace Rows

/-- THE TIED CARD OF 'laws.FnExactWindowPut'. -/
def fnExactWindowPutCard : Claim7 := { stood := { row := fnExactWindowPutRow, standIns := [], harness := (true, "e14c446d176536165cb8626bbd5b94f886a3dfcd8098888ccce06c010e25caec"), looks := false }, kinds := [], alts := [], laidByText := true, laidKinds := [.data, .data, .data, .data, .data, .pinned], laidTests := true, laidLooks := .later }
def FnExactWindowPutCardSaid : Prop := Claim7.holds Tryz.pinned (.plain (OpenSpec.ofChange fnExactWindowPutSpec)) fnExactWindowPutCard

/-- THE TIED CARD OF 'laws.FnExactWindowShow'. -/
def fnExactWindowShowCard : Claim7 := { stood := { row := fnExactWindowShowRow, standIns := [], harness := (true, "e14c446d176536165cb8626bbd5b94f886a3dfcd8098888ccce06c010e25caec"), looks := false }, kinds := [], alts := [], laidByText := true, laidKinds := [.data, .data, .data, .data, .data, .pinned], laidTests := true, laidLooks := .later }
def FnExactWindowShowCardSaid : Prop := Claim7.holds Tryz.pinned (.plain (OpenSpec.ofChange fnExactWindowShowSpec)) fnExactWindowShowCard

/-- THE TIED CARD OF 'laws.FnExactBrowserOk'. -/
def fnExactBrowserOkCard : Claim7 := { stood := { row := fnExactBrowserOkRow, standIns := [], harness := (true, "e14c446d176536165cb8626bbd5b94f886a3dfcd8098888ccce06c010e25caec"), looks := false }, kinds := [], alts := [], laidByText := true, laidKinds := [.data, .data, .data, .data, .data, .pinned], laidTests := true, laidLooks := .later }
def FnExactBrowserOkCardSaid : Prop := Claim7.holds Tryz.pinned (.plain (OpenSpec.ofChange fnExactBrowserOkSpec)) fnExactBrowserOkCard

/-- THE TIED CARD OF 'laws.FnExactWindowNear'. -/
def fnExactWindowNearCard : Claim7 := { stood := { row := fnExactWindowNearRow, standIns := [], harness := (true, "e14c446d176536165cb8626bbd5b94f886a3dfcd8098888ccce06c010e25caec"), looks := false }, kinds := [], alts := [], laidByText := true, laidKinds := [.data, .data, .data, .data, .data, .pinned], laidTests := true, laidLooks := .later }
def FnExactWindowNearCardSaid : Prop := Claim7.holds Tryz.pinned (.plain (OpenSpec.ofChange fnExactWindowNearSpec)) fnExactWindowNearCard

/-- THE SECOND FORM's CARD OF 'laws.FnExactWindowPut'. -/
def fnExactWindowPutUptoCard : Claim7 := { stood := { row := fnExactWindowPutUptoRow, standIns := [], harness := (true, "e14c446d176536165cb8626bbd5b94f886a3dfcd8098888ccce06c010e25caec"), looks := false }, kinds := [], alts := [], laidByText := true, laidKinds := [.data, .data, .data, .data, .data, .pinned], laidTests := true, laidLooks := .later }
def FnExactWindowPutUptoCardSaid : Prop := Claim7.holds Tryz.pinned (.plain (OpenSpec.upto fnExactWindowPutSpec)) fnExactWindowPutUptoCard

/-- THE SECOND FORM's CARD OF 'laws.FnExactWindowShow'. -/
def fnExactWindowShowUptoCard : Claim7 := { stood := { row := fnExactWindowShowUptoRow, standIns := [], harness := (true, "e14c446d176536165cb8626bbd5b94f886a3dfcd8098888ccce06c010e25caec"), looks := false }, kinds := [], alts := [], laidByText := true, laidKinds := [.data, .data, .data, .data, .data, .pinned], laidTests := true, laidLooks := .later }
def FnExactWindowShowUptoCardSaid : Prop := Claim7.holds Tryz.pinned (.plain (OpenSpec.upto fnExactWindowShowSpec)) fnExactWindowShowUptoCard

/-- THE SECOND FORM's CARD OF 'laws.FnExactBrowserOk'. -/
def fnExactBrowserOkUptoCard : Claim7 := { stood := { row := fnExactBrowserOkUptoRow, standIns := [], harness := (true, "e14c446d176536165cb8626bbd5b94f886a3dfcd8098888ccce06c010e25caec"), looks := false }, kinds := [], alts := [], laidByText := true, laidKinds := [.data, .data, .data, .data, .data, .pinned], laidTests := true, laidLooks := .later }
def FnExactBrowserOkUptoCardSaid : Prop := Claim7.holds Tryz.pinned (.plain (OpenSpec.upto fnExactBrowserOkSpec)) fnExactBrowserOkUptoCard

/-- THE SECOND FORM's CARD OF 'laws.FnExactWindowNear'. -/
def fnExactWindowNearUptoCard : Claim7 := { stood := { row := fnExactWindowNearUptoRow, standIns := [], harness := (true, "e14c446d176536165cb8626bbd5b94f886a3dfcd8098888ccce06c010e25caec"), looks := false }, kinds := [], alts := [], laidByText := true, laidKinds := [.data, .data, .data, .data, .data, .pinned], laidTests := true, laidLooks := .later }
def FnExactWindowNearUptoCardSaid : Prop := Claim7.holds Tryz.pinned (.plain (OpenSpec.upto fnExactWindowNearSpec)) fnExactWindowNearUptoCard
end Rows
end Go.Proofs.YtknhiboiffmaeaaGreatDoor
