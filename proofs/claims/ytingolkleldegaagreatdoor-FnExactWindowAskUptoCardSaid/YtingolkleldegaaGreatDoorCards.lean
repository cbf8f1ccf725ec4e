/-
  DERIVED. GIVEN WITH THE SEED: THE CARDS: each row of YtingolkleldegaaGreatDoorRows.lean that lists a variable, with what it lists TIED to the program's text (the seventh form; the later family's looks); each row that meets fmt, with fmt's text TOLD by the authors' own Lean function (tested against real Go, not proved from fmt's source: count such statements apart). THE CARD IS WHAT COUNTS. Prove the row's statement (the work); the ties are given (YtingolkleldegaaGreatDoorTie.lean); close each card by the builder's one call (the guide's Derived/Test/ToyasCard.lean, 'card_holds'). Laid BY PROGRAM, IN A SANDBOX (cutbox-door.mjs). By AI agents, Wed Nov 11 2026. No macro, syntax, notation, axiom, sorry.
-/
import Derived.Test.YtingolkleldegaaGreatDoorRows
import GoSem.ClaimSeven
namespace Go.Proofs.YtingolkleldegaaGreatDoor
namespace Rows

/-- THE TIED CARD OF 'laws.FnExactWindowAsk'. -/
def fnExactWindowAskCard : Claim7 := { stood := { row := fnExactWindowAskRow, standIns := [], harness := (true, "7c1d416ee6ce5bdbcad3a470fc5b4c26f04364e46ca355d7949aaf67140b5f9a"), looks := false }, kinds := [], alts := [], laidByText := true, laidKinds := [.data, .data, .data, .data, .data, .pinned], laidTests := true, laidLooks := .later }
def FnExactWindowAskCardSaid : Prop := Claim7.holds Tryz.pinned (.plain (OpenSpec.ofChange fnExactWindowAskSpec)) fnExactWindowAskCard

/-- THE TIED CARD OF 'laws.FnExactWindowBy'. -/
def fnExactWindowByCard : Claim7 := { stood := { row := fnExactWindowByRow, standIns := [], harness := (true, "7c1d416ee6ce5bdbcad3a470fc5b4c26f04364e46ca355d7949aaf67140b5f9a"), looks := false }, kinds := [], alts := [], laidByText := true, laidKinds := [.data, .data, .data, .data, .data, .pinned], laidTests := true, laidLooks := .later }
def FnExactWindowByCardSaid : Prop := Claim7.holds Tryz.pinned (.plain (OpenSpec.ofChange fnExactWindowBySpec)) fnExactWindowByCard

/-- THE SECOND FORM's CARD OF 'laws.FnExactWindowAsk'. -/
def fnExactWindowAskUptoCard : Claim7 := { stood := { row := fnExactWindowAskUptoRow, standIns := [], harness := (true, "7c1d416ee6ce5bdbcad3a470fc5b4c26f04364e46ca355d7949aaf67140b5f9a"), looks := false }, kinds := [], alts := [], laidByText := true, laidKinds := [.data, .data, .data, .data, .data, .pinned], laidTests := true, laidLooks := .later }
def FnExactWindowAskUptoCardSaid : Prop := Claim7.holds Tryz.pinned (.plain (OpenSpec.upto fnExactWindowAskSpec)) fnExactWindowAskUptoCard

/-- THE SECOND FORM's CARD OF 'laws.FnExactWindowBy'. -/
def fnExactWindowByUptoCard : Claim7 := { stood := { row := fnExactWindowByUptoRow, standIns := [], harness := (true, "7c1d416ee6ce5bdbcad3a470fc5b4c26f04364e46ca355d7949aaf67140b5f9a"), looks := false }, kinds := [], alts := [], laidByText := true, laidKinds := [.data, .data, .data, .data, .data, .pinned], laidTests := true, laidLooks := .later }
def FnExactWindowByUptoCardSaid : Prop := Claim7.holds Tryz.pinned (.plain (OpenSpec.upto fnExactWindowBySpec)) fnExactWindowByUptoCard
end Rows
end Go.Proofs.YtingolkleldegaaGreatDoor
