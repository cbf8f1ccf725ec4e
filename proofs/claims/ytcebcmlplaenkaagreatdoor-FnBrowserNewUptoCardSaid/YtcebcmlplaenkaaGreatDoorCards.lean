/-
  DERIVED. GIVEN WITH THE SEED: THE CARDS: each row of YtcebcmlplaenkaaGreatDoorRows.lean that lists a variable, with what it lists TIED to the program's text (the seventh form; the later family's looks); each row that meets fmt, with fmt's text TOLD by the authors' own Lean function (tested against real Go, not proved from fmt's source: count such statements apart). THE CARD IS WHAT COUNTS. Prove the row's statement (the work); the ties are given (YtcebcmlplaenkaaGreatDoorTie.lean); close each card by the builder's one call (the guide's Derived/Test/ToyasCard.lean, 'card_holds'). Laid BY PROGRAM, IN A SANDBOX (cutbox-door.mjs). By AI agents, Wed Nov 11 2026. No macro, syntax, notation, axiom, sorry.
-/
import Derived.Test.YtcebcmlplaenkaaGreatDoorRows
import GoSem.ClaimSeven
namespace Go.Proofs.YtcebcmlplaenkaaGreatDoor
namespace Rows

/-- THE TIED CARD OF 'laws.FnExactBrowserNew'. -/
def fnExactBrowserNewCard : Claim7 := { stood := { row := fnExactBrowserNewRow, standIns := [], harness := (true, "20e1a58f74cbe5a9f05d1744ede6024c4fbfbf2194ad04fc4725c9873c52f8e1"), looks := false }, kinds := [], alts := [], laidByText := true, laidKinds := [.data, .data, .data, .data, .data, .pinned], laidTests := true, laidLooks := .later }
def FnExactBrowserNewCardSaid : Prop := Claim7.holds Tryz.pinned (.plain (OpenSpec.ofChange fnExactBrowserNewSpec)) fnExactBrowserNewCard

/-- THE TIED CARD OF 'laws.FnBrowserNew'. -/
def fnBrowserNewCard : Claim7 := { stood := { row := fnBrowserNewRow, standIns := [], harness := (true, "20e1a58f74cbe5a9f05d1744ede6024c4fbfbf2194ad04fc4725c9873c52f8e1"), looks := false }, kinds := [], alts := [], laidByText := true, laidKinds := [.data, .data, .data, .data, .data, .pinned], laidTests := true, laidLooks := .later }
def FnBrowserNewCardSaid : Prop := Claim7.holds Tryz.pinned (.plain (OpenSpec.ofChange fnBrowserNewSpec)) fnBrowserNewCard

/-- THE TIED CARD OF 'laws.FnWindowNew'. -/
def fnWindowNewCard : Claim7 := { stood := { row := fnWindowNewRow, standIns := [], harness := (true, "20e1a58f74cbe5a9f05d1744ede6024c4fbfbf2194ad04fc4725c9873c52f8e1"), looks := false }, kinds := [], alts := [], laidByText := true, laidKinds := [.data, .data, .data, .data, .data, .pinned], laidTests := true, laidLooks := .later }
def FnWindowNewCardSaid : Prop := Claim7.holds Tryz.pinned (.plain (OpenSpec.ofChange fnWindowNewSpec)) fnWindowNewCard

/-- THE SECOND FORM's CARD OF 'laws.FnExactBrowserNew'. -/
def fnExactBrowserNewUptoCard : Claim7 := { stood := { row := fnExactBrowserNewUptoRow, standIns := [], harness := (true, "20e1a58f74cbe5a9f05d1744ede6024c4fbfbf2194ad04fc4725c9873c52f8e1"), looks := false }, kinds := [], alts := [], laidByText := true, laidKinds := [.data, .data, .data, .data, .data, .pinned], laidTests := true, laidLooks := .later }
def FnExactBrowserNewUptoCardSaid : Prop := Claim7.holds Tryz.pinned (.plain (OpenSpec.upto fnExactBrowserNewSpec)) fnExactBrowserNewUptoCard

/-- THE SECOND FORM's CARD OF 'laws.FnBrowserNew'. -/
def fnBrowserNewUptoCard : Claim7 := { stood := { row := fnBrowserNewUptoRow, standIns := [], harness := (true, "20e1a58f74cbe5a9f05d1744ede6024c4fbfbf2194ad04fc4725c9873c52f8e1"), looks := false }, kinds := [], alts := [], laidByText := true, laidKinds := [.data, .data, .data, .data, .data, .pinned], laidTests := true, laidLooks := .later }
def FnBrowserNewUptoCardSaid : Prop := Claim7.holds Tryz.pinned (.plain (OpenSpec.upto fnBrowserNewSpec)) fnBrowserNewUptoCard

/-- THE SECOND FORM's CARD OF 'laws.FnWindowNew'. -/
def fnWindowNewUptoCard : Claim7 := { stood := { row := fnWindowNewUptoRow, standIns := [], harness := (true, "20e1a58f74cbe5a9f05d1744ede6024c4fbfbf2194ad04fc4725c9873c52f8e1"), looks := false }, kinds := [], alts := [], laidByText := true, laidKinds := [.data, .data, .data, .data, .data, .pinned], laidTests := true, laidLooks := .later }
def FnWindowNewUptoCardSaid : Prop := Claim7.holds Tryz.pinned (.plain (OpenSpec.upto fnWindowNewSpec)) fnWindowNewUptoCard
end Rows
end Go.Proofs.YtcebcmlplaenkaaGreatDoor
