/-
  DERIVED. GIVEN WITH THE SEED: THE CARDS: each row of YtdbcbihjkjfmlaaGreatDoorRows.lean that lists a variable, with what it lists TIED to the program's text (the seventh form; the later family's looks); each row that meets fmt, with fmt's text TOLD by the authors' own Lean function (tested against real Go, not proved from fmt's source: count such statements apart). THE CARD IS WHAT COUNTS. Prove the row's statement (the work); the ties are given (YtdbcbihjkjfmlaaGreatDoorTie.lean); close each card by the builder's one call (the guide's Derived/Test/ToyasCard.lean, 'card_holds'). Laid BY PROGRAM, IN A SANDBOX (cutbox-door.mjs). By AI agents, Wed Nov 11 2026. No macro, syntax, notation, axiom, sorry.
-/
import Derived.Test.YtdbcbihjkjfmlaaGreatDoorRows
import GoSem.ClaimSeven
namespace Go.Proofs.YtdbcbihjkjfmlaaGreatDoor
namespace Rows

/-- THE TIED CARD OF 'laws.FnWindowNew'. -/
def fnWindowNewCard : Claim7 := { stood := { row := fnWindowNewRow, standIns := [], harness := (true, "c1b153b3565a4921b4a9bd500620357dda2b85376a45e5268ef82baad569f21e"), looks := false }, kinds := [], alts := [], laidByText := true, laidKinds := [.data, .data, .data, .data, .data, .pinned], laidTests := true, laidLooks := .later }
def FnWindowNewCardSaid : Prop := Claim7.holds Tryz.pinned (.plain (OpenSpec.ofChange fnWindowNewSpec)) fnWindowNewCard

/-- THE TIED CARD OF 'laws.FnExactWindowPut'. -/
def fnExactWindowPutCard : Claim7 := { stood := { row := fnExactWindowPutRow, standIns := [], harness := (true, "c1b153b3565a4921b4a9bd500620357dda2b85376a45e5268ef82baad569f21e"), looks := false }, kinds := [], alts := [], laidByText := true, laidKinds := [.data, .data, .data, .data, .data, .pinned], laidTests := true, laidLooks := .later }
def FnExactWindowPutCardSaid : Prop := Claim7.holds Tryz.pinned (.plain (OpenSpec.ofChange fnExactWindowPutSpec)) fnExactWindowPutCard

/-- THE TIED CARD OF 'laws.FnExactWindowShow'. -/
def fnExactWindowShowCard : Claim7 := { stood := { row := fnExactWindowShowRow, standIns := [], harness := (true, "c1b153b3565a4921b4a9bd500620357dda2b85376a45e5268ef82baad569f21e"), looks := false }, kinds := [], alts := [], laidByText := true, laidKinds := [.data, .data, .data, .data, .data, .pinned], laidTests := true, laidLooks := .later }
def FnExactWindowShowCardSaid : Prop := Claim7.holds Tryz.pinned (.plain (OpenSpec.ofChange fnExactWindowShowSpec)) fnExactWindowShowCard

/-- THE TIED CARD OF 'laws.FnExactWindowNow'. -/
def fnExactWindowNowCard : Claim7 := { stood := { row := fnExactWindowNowRow, standIns := [], harness := (true, "c1b153b3565a4921b4a9bd500620357dda2b85376a45e5268ef82baad569f21e"), looks := false }, kinds := [], alts := [], laidByText := true, laidKinds := [.data, .data, .data, .data, .data, .pinned], laidTests := true, laidLooks := .later }
def FnExactWindowNowCardSaid : Prop := Claim7.holds Tryz.pinned (.plain (OpenSpec.ofChange fnExactWindowNowSpec)) fnExactWindowNowCard

/-- THE TIED CARD OF 'laws.FnExactBrowserOk'. -/
def fnExactBrowserOkCard : Claim7 := { stood := { row := fnExactBrowserOkRow, standIns := [], harness := (true, "c1b153b3565a4921b4a9bd500620357dda2b85376a45e5268ef82baad569f21e"), looks := false }, kinds := [], alts := [], laidByText := true, laidKinds := [.data, .data, .data, .data, .data, .pinned], laidTests := true, laidLooks := .later }
def FnExactBrowserOkCardSaid : Prop := Claim7.holds Tryz.pinned (.plain (OpenSpec.ofChange fnExactBrowserOkSpec)) fnExactBrowserOkCard

/-- THE TIED CARD OF 'laws.FnWindowSteps'. -/
def fnWindowStepsCard : Claim7 := { stood := { row := fnWindowStepsRow, standIns := [], harness := (true, "c1b153b3565a4921b4a9bd500620357dda2b85376a45e5268ef82baad569f21e"), looks := false }, kinds := [], alts := [], laidByText := true, laidKinds := [.data, .data, .data, .data, .data, .pinned], laidTests := true, laidLooks := .later }
def FnWindowStepsCardSaid : Prop := Claim7.holds Tryz.pinned (.plain (OpenSpec.ofChange fnWindowStepsSpec)) fnWindowStepsCard

/-- THE TIED CARD OF 'laws.FnExactWindowNear'. -/
def fnExactWindowNearCard : Claim7 := { stood := { row := fnExactWindowNearRow, standIns := [], harness := (true, "c1b153b3565a4921b4a9bd500620357dda2b85376a45e5268ef82baad569f21e"), looks := false }, kinds := [], alts := [], laidByText := true, laidKinds := [.data, .data, .data, .data, .data, .pinned], laidTests := true, laidLooks := .later }
def FnExactWindowNearCardSaid : Prop := Claim7.holds Tryz.pinned (.plain (OpenSpec.ofChange fnExactWindowNearSpec)) fnExactWindowNearCard

/-- THE TIED CARD OF 'laws.FnWindowLive'. -/
def fnWindowLiveCard : Claim7 := { stood := { row := fnWindowLiveRow, standIns := [], harness := (true, "c1b153b3565a4921b4a9bd500620357dda2b85376a45e5268ef82baad569f21e"), looks := false }, kinds := [], alts := [], laidByText := true, laidKinds := [.data, .data, .data, .data, .data, .pinned], laidTests := true, laidLooks := .later }
def FnWindowLiveCardSaid : Prop := Claim7.holds Tryz.pinned (.plain (OpenSpec.ofChange fnWindowLiveSpec)) fnWindowLiveCard

/-- THE SECOND FORM's CARD OF 'laws.FnWindowNew'. -/
def fnWindowNewUptoCard : Claim7 := { stood := { row := fnWindowNewUptoRow, standIns := [], harness := (true, "c1b153b3565a4921b4a9bd500620357dda2b85376a45e5268ef82baad569f21e"), looks := false }, kinds := [], alts := [], laidByText := true, laidKinds := [.data, .data, .data, .data, .data, .pinned], laidTests := true, laidLooks := .later }
def FnWindowNewUptoCardSaid : Prop := Claim7.holds Tryz.pinned (.plain (OpenSpec.upto fnWindowNewSpec)) fnWindowNewUptoCard

/-- THE SECOND FORM's CARD OF 'laws.FnExactWindowPut'. -/
def fnExactWindowPutUptoCard : Claim7 := { stood := { row := fnExactWindowPutUptoRow, standIns := [], harness := (true, "c1b153b3565a4921b4a9bd500620357dda2b85376a45e5268ef82baad569f21e"), looks := false }, kinds := [], alts := [], laidByText := true, laidKinds := [.data, .data, .data, .data, .data, .pinned], laidTests := true, laidLooks := .later }
def FnExactWindowPutUptoCardSaid : Prop := Claim7.holds Tryz.pinned (.plain (OpenSpec.upto fnExactWindowPutSpec)) fnExactWindowPutUptoCard

/-- THE SECOND FORM's CARD OF 'laws.FnExactWindowShow'. -/
def fnExactWindowShowUptoCard : Claim7 := { stood := { row := fnExactWindowShowUptoRow, standIns := [], harness := (true, "c1b153b3565a4921b4a9bd500620357dda2b85376a45e5268ef82baad569f21e"), looks := false }, kinds := [], alts := [], laidByText := true, laidKinds := [.data, .data, .data, .data, .data, .pinned], laidTests := true, laidLooks := .later }
def FnExactWindowShowUptoCardSaid : Prop := Claim7.holds Tryz.pinned (.plain (OpenSpec.upto fnExactWindowShowSpec)) fnExactWindowShowUptoCard

/-- THE SECOND FORM's CARD OF 'laws.FnExactWindowNow'. -/
def fnExactWindowNowUptoCard : Claim7 := { stood := { row := fnExactWindowNowUptoRow, standIns := [], harness := (true, "c1b153b3565a4921b4a9bd500620357dda2b85376a45e5268ef82baad569f21e"), looks := false }, kinds := [], alts := [], laidByText := true, laidKinds := [.data, .data, .data, .data, .data, .pinned], laidTests := true, laidLooks := .later }
def FnExactWindowNowUptoCardSaid : Prop := Claim7.holds Tryz.pinned (.plain (OpenSpec.upto fnExactWindowNowSpec)) fnExactWindowNowUptoCard

/-- THE SECOND FORM's CARD OF 'laws.FnExactBrowserOk'. -/
def fnExactBrowserOkUptoCard : Claim7 := { stood := { row := fnExactBrowserOkUptoRow, standIns := [], harness := (true, "c1b153b3565a4921b4a9bd500620357dda2b85376a45e5268ef82baad569f21e"), looks := false }, kinds := [], alts := [], laidByText := true, laidKinds := [.data, .data, .data, .data, .data, .pinned], laidTests := true, laidLooks := .later }
def FnExactBrowserOkUptoCardSaid : Prop := Claim7.holds Tryz.pinned (.plain (OpenSpec.upto fnExactBrowserOkSpec)) fnExactBrowserOkUptoCard

/-- THE SECOND FORM's CARD OF 'laws.FnWindowSteps'. -/
def fnWindowStepsUptoCard : Claim7 := { stood := { row := fnWindowStepsUptoRow, standIns := [], harness := (true, "c1b153b3565a4921b4a9bd500620357dda2b85376a45e5268ef82baad569f21e"), looks := false }, kinds := [], alts := [], laidByText := true, laidKinds := [.data, .data, .data, .data, .data, .pinned], laidTests := true, laidLooks := .later }
def FnWindowStepsUptoCardSaid : Prop := Claim7.holds Tryz.pinned (.plain (OpenSpec.upto fnWindowStepsSpec)) fnWindowStepsUptoCard

/-- THE SECOND FORM's CARD OF 'laws.FnExactWindowNear'. -/
def fnExactWindowNearUptoCard : Claim7 := { stood := { row := fnExactWindowNearUptoRow, standIns := [], harness := (true, "c1b153b3565a4921b4a9bd500620357dda2b85376a45e5268ef82baad569f21e"), looks := false }, kinds := [], alts := [], laidByText := true, laidKinds := [.data, .data, .data, .data, .data, .pinned], laidTests := true, laidLooks := .later }
def FnExactWindowNearUptoCardSaid : Prop := Claim7.holds Tryz.pinned (.plain (OpenSpec.upto fnExactWindowNearSpec)) fnExactWindowNearUptoCard

/-- THE SECOND FORM's CARD OF 'laws.FnWindowLive'. -/
def fnWindowLiveUptoCard : Claim7 := { stood := { row := fnWindowLiveUptoRow, standIns := [], harness := (true, "c1b153b3565a4921b4a9bd500620357dda2b85376a45e5268ef82baad569f21e"), looks := false }, kinds := [], alts := [], laidByText := true, laidKinds := [.data, .data, .data, .data, .data, .pinned], laidTests := true, laidLooks := .later }
def FnWindowLiveUptoCardSaid : Prop := Claim7.holds Tryz.pinned (.plain (OpenSpec.upto fnWindowLiveSpec)) fnWindowLiveUptoCard
end Rows
end Go.Proofs.YtdbcbihjkjfmlaaGreatDoor
