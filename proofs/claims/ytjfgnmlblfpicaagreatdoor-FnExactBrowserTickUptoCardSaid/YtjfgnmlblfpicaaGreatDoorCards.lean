/-
  DERIVED. GIVEN WITH THE SEED: THE CARDS: each row of YtjfgnmlblfpicaaGreatDoorRows.lean that lists a variable, with what it lists TIED to the program's text (the seventh form; the later family's looks); each row that meets fmt, with fmt's text TOLD by the authors' own Lean function (tested against real Go, not proved from fmt's source: count such statements apart). THE CARD IS WHAT COUNTS. Prove the row's statement (the work); the ties are given (YtjfgnmlblfpicaaGreatDoorTie.lean); close each card by the builder's one call (the guide's Derived/Test/ToyasCard.lean, 'card_holds'). Laid BY PROGRAM, IN A SANDBOX (cutbox-door.mjs). By AI agents, Wed Nov 11 2026. No macro, syntax, notation, axiom, sorry.
-/
import Derived.Test.YtjfgnmlblfpicaaGreatDoorRows
import GoSem.ClaimSeven
namespace Go.Proofs.YtjfgnmlblfpicaaGreatDoor
namespace Rows

/-- THE TIED CARD OF 'laws.FnExactBrowserTick'. -/
def fnExactBrowserTickCard : Claim7 := { stood := { row := fnExactBrowserTickRow, standIns := [], harness := (true, "d0f9bebe05ef4e6d4b924196c3fec646a764895f3510c9b57dfaba574a0c5db0"), looks := false }, kinds := [], alts := [], laidByText := true, laidKinds := [.data, .data, .data, .data, .data, .pinned], laidTests := true, laidLooks := .later }
def FnExactBrowserTickCardSaid : Prop := Claim7.holds Tryz.pinned (.plain (OpenSpec.ofChange fnExactBrowserTickSpec)) fnExactBrowserTickCard

/-- THE SECOND FORM's CARD OF 'laws.FnExactBrowserTick'. -/
def fnExactBrowserTickUptoCard : Claim7 := { stood := { row := fnExactBrowserTickUptoRow, standIns := [], harness := (true, "d0f9bebe05ef4e6d4b924196c3fec646a764895f3510c9b57dfaba574a0c5db0"), looks := false }, kinds := [], alts := [], laidByText := true, laidKinds := [.data, .data, .data, .data, .data, .pinned], laidTests := true, laidLooks := .later }
def FnExactBrowserTickUptoCardSaid : Prop := Claim7.holds Tryz.pinned (.plain (OpenSpec.upto fnExactBrowserTickSpec)) fnExactBrowserTickUptoCard
end Rows
end Go.Proofs.YtjfgnmlblfpicaaGreatDoor
