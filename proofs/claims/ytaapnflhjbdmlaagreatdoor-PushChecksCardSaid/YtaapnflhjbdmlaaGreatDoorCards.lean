/-
  DERIVED. GIVEN WITH THE SEED: THE CARDS: each row of YtaapnflhjbdmlaaGreatDoorRows.lean that lists a variable, with what it lists TIED to the program's text (the seventh form; the later family's looks); each row that meets fmt, with fmt's text TOLD by the authors' own Lean function (tested against real Go, not proved from fmt's source: count such statements apart). THE CARD IS WHAT COUNTS. Prove the row's statement (the work); the ties are given (YtaapnflhjbdmlaaGreatDoorTie.lean); close each card by the builder's one call (the guide's Derived/Test/ToyasCard.lean, 'card_holds'). Laid BY PROGRAM, IN A SANDBOX (cutbox-door.mjs). By AI agents, Wed Nov 11 2026. No macro, syntax, notation, axiom, sorry.
-/
import Derived.Test.YtaapnflhjbdmlaaGreatDoorRows
import GoSem.ClaimSeven
namespace Go.Proofs.YtaapnflhjbdmlaaGreatDoor
namespace Rows

/-- THE TIED CARD OF 'squeegeelaw04.PushSets'. -/
def pushSetsCard : Claim7 := { stood := { row := pushSetsRow, standIns := [], harness := (true, "d12891d0e368292c9e11e338a3f12ccd53320f2ad86cd5cd5ff09b227dadf1bb"), looks := false }, kinds := [], alts := [], laidByText := true, laidKinds := [.data, .pinned], laidTests := true, laidLooks := .later }
def PushSetsCardSaid : Prop := Claim7.holds Tryz.pinned (.plain (OpenSpec.ofChange pushSetsSpec)) pushSetsCard

/-- THE TIED CARD OF 'squeegeelaw04.PushBuechi'. -/
def pushBuechiCard : Claim7 := { stood := { row := pushBuechiRow, standIns := [], harness := (true, "d12891d0e368292c9e11e338a3f12ccd53320f2ad86cd5cd5ff09b227dadf1bb"), looks := false }, kinds := [], alts := [], laidByText := true, laidKinds := [.data, .pinned], laidTests := true, laidLooks := .later }
def PushBuechiCardSaid : Prop := Claim7.holds Tryz.pinned (.plain (OpenSpec.ofChange pushBuechiSpec)) pushBuechiCard

/-- THE TIED CARD OF 'squeegeelaw04.PushChecks'. -/
def pushChecksCard : Claim7 := { stood := { row := pushChecksRow, standIns := [], harness := (true, "d12891d0e368292c9e11e338a3f12ccd53320f2ad86cd5cd5ff09b227dadf1bb"), looks := false }, kinds := [], alts := [], laidByText := true, laidKinds := [.data, .pinned], laidTests := true, laidLooks := .later }
def PushChecksCardSaid : Prop := Claim7.holds Tryz.pinned (.plain (OpenSpec.ofChange pushChecksSpec)) pushChecksCard

/-- THE SECOND FORM's CARD OF 'squeegeelaw04.PushSets'. -/
def pushSetsUptoCard : Claim7 := { stood := { row := pushSetsUptoRow, standIns := [], harness := (true, "d12891d0e368292c9e11e338a3f12ccd53320f2ad86cd5cd5ff09b227dadf1bb"), looks := false }, kinds := [], alts := [], laidByText := true, laidKinds := [.data, .pinned], laidTests := true, laidLooks := .later }
def PushSetsUptoCardSaid : Prop := Claim7.holds Tryz.pinned (.plain (OpenSpec.upto pushSetsSpec)) pushSetsUptoCard

/-- THE SECOND FORM's CARD OF 'squeegeelaw04.PushBuechi'. -/
def pushBuechiUptoCard : Claim7 := { stood := { row := pushBuechiUptoRow, standIns := [], harness := (true, "d12891d0e368292c9e11e338a3f12ccd53320f2ad86cd5cd5ff09b227dadf1bb"), looks := false }, kinds := [], alts := [], laidByText := true, laidKinds := [.data, .pinned], laidTests := true, laidLooks := .later }
def PushBuechiUptoCardSaid : Prop := Claim7.holds Tryz.pinned (.plain (OpenSpec.upto pushBuechiSpec)) pushBuechiUptoCard

/-- THE SECOND FORM's CARD OF 'squeegeelaw04.PushChecks'. -/
def pushChecksUptoCard : Claim7 := { stood := { row := pushChecksUptoRow, standIns := [], harness := (true, "d12891d0e368292c9e11e338a3f12ccd53320f2ad86cd5cd5ff09b227dadf1bb"), looks := false }, kinds := [], alts := [], laidByText := true, laidKinds := [.data, .pinned], laidTests := true, laidLooks := .later }
def PushChecksUptoCardSaid : Prop := Claim7.holds Tryz.pinned (.plain (OpenSpec.upto pushChecksSpec)) pushChecksUptoCard
end Rows
end Go.Proofs.YtaapnflhjbdmlaaGreatDoor
