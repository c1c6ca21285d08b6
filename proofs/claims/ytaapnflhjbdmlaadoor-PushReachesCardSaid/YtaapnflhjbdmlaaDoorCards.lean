/-
  DERIVED. GIVEN WITH THE SEED: THE CARDS: each row of YtaapnflhjbdmlaaDoorRows.lean that lists a variable, with what it lists TIED to the program's text (the seventh form; the later family's looks); each row that meets fmt, with fmt's text TOLD by the authors' own Lean function (tested against real Go, not proved from fmt's source: count such statements apart). THE CARD IS WHAT COUNTS. Prove the row's statement (the work); the ties are given (YtaapnflhjbdmlaaDoorTie.lean); close each card by the builder's one call (the guide's Derived/Test/ToyasCard.lean, 'card_holds'). Laid BY PROGRAM, IN A SANDBOX (cutbox-door.mjs). By AI agents, Wed Nov 11 2026. No macro, syntax, notation, axiom, sorry.
-/
import Derived.Test.YtaapnflhjbdmlaaDoorRows
import GoSem.ClaimSeven
namespace Go.Proofs.YtaapnflhjbdmlaaDoor
namespace Rows

/-- THE TIED CARD OF 'squeegeelaw04.PushNext'. -/
def pushNextCard : Claim7 := { stood := { row := pushNextRow, standIns := [], harness := (true, "46d34bc9521eeaae305d9bc42406f84dacf919742837d5d34c039099d259524f"), looks := false }, kinds := [], alts := [], laidByText := true, laidKinds := [.data, .pinned], laidTests := true, laidLooks := .later }
def PushNextCardSaid : Prop := Claim7.holds Tryd.pinned (.plain (OpenSpec.ofChange pushNextSpec)) pushNextCard

/-- THE TIED CARD OF 'squeegeelaw04.PushOn'. -/
def pushOnCard : Claim7 := { stood := { row := pushOnRow, standIns := [], harness := (true, "46d34bc9521eeaae305d9bc42406f84dacf919742837d5d34c039099d259524f"), looks := false }, kinds := [], alts := [], laidByText := true, laidKinds := [.data, .pinned], laidTests := true, laidLooks := .later }
def PushOnCardSaid : Prop := Claim7.holds Tryd.pinned (.plain (OpenSpec.ofChange pushOnSpec)) pushOnCard

/-- THE TIED CARD OF 'squeegeelaw04.PushReaches'. -/
def pushReachesCard : Claim7 := { stood := { row := pushReachesRow, standIns := [], harness := (true, "46d34bc9521eeaae305d9bc42406f84dacf919742837d5d34c039099d259524f"), looks := false }, kinds := [], alts := [], laidByText := true, laidKinds := [.data, .pinned], laidTests := true, laidLooks := .later }
def PushReachesCardSaid : Prop := Claim7.holds Tryd.pinned (.plain (OpenSpec.ofChange pushReachesSpec)) pushReachesCard

/-- THE TIED CARD OF 'squeegeelaw04.PushRuns'. -/
def pushRunsCard : Claim7 := { stood := { row := pushRunsRow, standIns := [], harness := (true, "46d34bc9521eeaae305d9bc42406f84dacf919742837d5d34c039099d259524f"), looks := false }, kinds := [], alts := [], laidByText := true, laidKinds := [.data, .pinned], laidTests := true, laidLooks := .later }
def PushRunsCardSaid : Prop := Claim7.holds Tryd.pinned (.plain (OpenSpec.ofChange pushRunsSpec)) pushRunsCard

/-- THE TIED CARD OF 'squeegeelaw04.PushBelow'. -/
def pushBelowCard : Claim7 := { stood := { row := pushBelowRow, standIns := [], harness := (true, "46d34bc9521eeaae305d9bc42406f84dacf919742837d5d34c039099d259524f"), looks := false }, kinds := [], alts := [], laidByText := true, laidKinds := [.data, .pinned], laidTests := true, laidLooks := .later }
def PushBelowCardSaid : Prop := Claim7.holds Tryd.pinned (.plain (OpenSpec.ofChange pushBelowSpec)) pushBelowCard

/-- THE SECOND FORM's CARD OF 'squeegeelaw04.PushNext'. -/
def pushNextUptoCard : Claim7 := { stood := { row := pushNextUptoRow, standIns := [], harness := (true, "46d34bc9521eeaae305d9bc42406f84dacf919742837d5d34c039099d259524f"), looks := false }, kinds := [], alts := [], laidByText := true, laidKinds := [.data, .pinned], laidTests := true, laidLooks := .later }
def PushNextUptoCardSaid : Prop := Claim7.holds Tryd.pinned (.plain (OpenSpec.upto pushNextSpec)) pushNextUptoCard

/-- THE SECOND FORM's CARD OF 'squeegeelaw04.PushOn'. -/
def pushOnUptoCard : Claim7 := { stood := { row := pushOnUptoRow, standIns := [], harness := (true, "46d34bc9521eeaae305d9bc42406f84dacf919742837d5d34c039099d259524f"), looks := false }, kinds := [], alts := [], laidByText := true, laidKinds := [.data, .pinned], laidTests := true, laidLooks := .later }
def PushOnUptoCardSaid : Prop := Claim7.holds Tryd.pinned (.plain (OpenSpec.upto pushOnSpec)) pushOnUptoCard

/-- THE SECOND FORM's CARD OF 'squeegeelaw04.PushReaches'. -/
def pushReachesUptoCard : Claim7 := { stood := { row := pushReachesUptoRow, standIns := [], harness := (true, "46d34bc9521eeaae305d9bc42406f84dacf919742837d5d34c039099d259524f"), looks := false }, kinds := [], alts := [], laidByText := true, laidKinds := [.data, .pinned], laidTests := true, laidLooks := .later }
def PushReachesUptoCardSaid : Prop := Claim7.holds Tryd.pinned (.plain (OpenSpec.upto pushReachesSpec)) pushReachesUptoCard

/-- THE SECOND FORM's CARD OF 'squeegeelaw04.PushRuns'. -/
def pushRunsUptoCard : Claim7 := { stood := { row := pushRunsUptoRow, standIns := [], harness := (true, "46d34bc9521eeaae305d9bc42406f84dacf919742837d5d34c039099d259524f"), looks := false }, kinds := [], alts := [], laidByText := true, laidKinds := [.data, .pinned], laidTests := true, laidLooks := .later }
def PushRunsUptoCardSaid : Prop := Claim7.holds Tryd.pinned (.plain (OpenSpec.upto pushRunsSpec)) pushRunsUptoCard

/-- THE SECOND FORM's CARD OF 'squeegeelaw04.PushBelow'. -/
def pushBelowUptoCard : Claim7 := { stood := { row := pushBelowUptoRow, standIns := [], harness := (true, "46d34bc9521eeaae305d9bc42406f84dacf919742837d5d34c039099d259524f"), looks := false }, kinds := [], alts := [], laidByText := true, laidKinds := [.data, .pinned], laidTests := true, laidLooks := .later }
def PushBelowUptoCardSaid : Prop := Claim7.holds Tryd.pinned (.plain (OpenSpec.upto pushBelowSpec)) pushBelowUptoCard
end Rows
end Go.Proofs.YtaapnflhjbdmlaaDoor
