/-
  NARROWER THAN 'FOR EVERY INPUT', by the rows' own cells (each row's printed sentence says how): PushNext: laid · PushOn: laid · PushReaches: laid · PushRuns: laid · PushBelow: laid.
  DERIVED. THE GIVEN ROWS OF THIS SEAT. 5 by the template 'for every input the law returns true; each argument reads behind the call as it read before'; 0 by the template 'total and deterministic' (their statements: YtaapnflhjbdmlaaDoorTotals.lean).
  GIVEN WITH THE SEED: the statements are not yours to turn. If you find one false, say at which input.
  Laid BY PROGRAM, IN A SANDBOX (cutbox-rows.mjs): the forced cells as the released guide's own fill.sh prints them over the translation 118c85426ac5c532… (all of the seat's roots in one cut). By AI agents, Wed Nov 11 2026. No macro, syntax, notation, axiom, sorry.
-/
import Derived.Test.YtaapnflhjbdmlaaDoorChecked
import GoSem.PinnedTables
import GoSem.Claim
import GoSem.ClaimJoined
import GoSem.ClaimMapViews
import Derived.JoinedTies
import Derived.KernelRfl
namespace Go.Proofs.YtaapnflhjbdmlaaDoor
/- THE CELL 'sum', in the pinned program and in every row, IS THE sha256 OF THE DUMP (.gsa) THAT YtaapnflhjbdmlaaDoorProg.lean LOADS. Nothing in Lean hashes anything: it is a label: what it is worth is what the hold of that sum in a sandbox is worth. -/
noncomputable def Tryd.pinned : Pinned := { name := "ytaapnflhjbdmlaadoor", sum := "118c85426ac5c532ef484078139bed038edc31927c0b88c451a1007ab50c8e47", checked := Tryd.checked }
namespace Rows
def none {H : Type} : Left H := { results := [], args := [] }

/- WHAT THE LISTED PACKAGE-LEVEL VARIABLES READ AS WHEN THE CALL BEGINS. Each datum BY PROGRAM (the guide's laid-datum.mjs) off the statement by which the dump's own 'gosem.cut.vars' lays the variable. In a bare row this is a premise. The card (YtaapnflhjbdmlaaDoorCards.lean) ties it to the program's text. -/
def laid_unicode_utf8_acceptRanges {H : Type} : DataW H := .agg [.agg [.lit (.int .u8 128), .lit (.int .u8 191)], .agg [.lit (.int .u8 160), .lit (.int .u8 191)], .agg [.lit (.int .u8 128), .lit (.int .u8 159)], .agg [.lit (.int .u8 144), .lit (.int .u8 191)], .agg [.lit (.int .u8 128), .lit (.int .u8 143)], .agg [.lit (.int .u8 0), .lit (.int .u8 0)], .agg [.lit (.int .u8 0), .lit (.int .u8 0)], .agg [.lit (.int .u8 0), .lit (.int .u8 0)], .agg [.lit (.int .u8 0), .lit (.int .u8 0)], .agg [.lit (.int .u8 0), .lit (.int .u8 0)], .agg [.lit (.int .u8 0), .lit (.int .u8 0)], .agg [.lit (.int .u8 0), .lit (.int .u8 0)], .agg [.lit (.int .u8 0), .lit (.int .u8 0)], .agg [.lit (.int .u8 0), .lit (.int .u8 0)], .agg [.lit (.int .u8 0), .lit (.int .u8 0)], .agg [.lit (.int .u8 0), .lit (.int .u8 0)]]
/-- One of Go's own tables, pinned by name: the form's constant. -/
def laid_unicode_utf8_first : DataW Unit := Go.Pinned.utf8First

/-- 'squeegeelaw04.PushNext': WHATEVER THE INPUT: true; the input reads as it did. -/
def pushNextSpec : ChangeSpec := { name := "pushNext", fn := fun _ => fun
  | [d1, d2] => { results := [.lit (.bool true)], args := [d1, d2] }
  | _ => none }
def pushNextRow : OpenClaim := { program := "ytaapnflhjbdmlaadoor", sum := "118c85426ac5c532ef484078139bed038edc31927c0b88c451a1007ab50c8e47", func := "squeegee/squeegeelaw04.PushNext", spec := "pushNext", inPlace := ["internal/bytealg.IndexByteString", "internal/bytealg.IndexString"], unfollowed := true, recurses := true, named := ["unicode/utf8.first", "unicode/utf8.acceptRanges", "internal/bytealg.MaxLen"], plainKeys := false, apart := false, laid := [("unicode/utf8.acceptRanges", laid_unicode_utf8_acceptRanges), ("unicode/utf8.first", laid_unicode_utf8_first)] }
def PushNextSaid : Prop := pushNextRow.holds Tryd.pinned (OpenSpec.ofChange pushNextSpec)

/-- ITS FALSE NEIGHBOUR: 'it returns false'. Refute it at one input. -/
def pushNextWrong : ChangeSpec := { name := "pushNext", fn := fun _ => fun
  | [d1, d2] => { results := [.lit (.bool false)], args := [d1, d2] }
  | _ => none }
def PushNextWrongFalsely : Prop := pushNextRow.holds Tryd.pinned (OpenSpec.ofChange pushNextWrong)

/-- 'squeegeelaw04.PushOn': WHATEVER THE INPUT: true; the input reads as it did. -/
def pushOnSpec : ChangeSpec := { name := "pushOn", fn := fun _ => fun
  | [d1, d2, d3] => { results := [.lit (.bool true)], args := [d1, d2, d3] }
  | _ => none }
def pushOnRow : OpenClaim := { program := "ytaapnflhjbdmlaadoor", sum := "118c85426ac5c532ef484078139bed038edc31927c0b88c451a1007ab50c8e47", func := "squeegee/squeegeelaw04.PushOn", spec := "pushOn", inPlace := ["internal/bytealg.IndexByteString", "internal/bytealg.IndexString"], unfollowed := true, recurses := true, named := ["unicode/utf8.first", "unicode/utf8.acceptRanges", "internal/bytealg.MaxLen"], plainKeys := false, apart := false, laid := [("unicode/utf8.acceptRanges", laid_unicode_utf8_acceptRanges), ("unicode/utf8.first", laid_unicode_utf8_first)] }
def PushOnSaid : Prop := pushOnRow.holds Tryd.pinned (OpenSpec.ofChange pushOnSpec)

/-- ITS FALSE NEIGHBOUR: 'it returns false'. Refute it at one input. -/
def pushOnWrong : ChangeSpec := { name := "pushOn", fn := fun _ => fun
  | [d1, d2, d3] => { results := [.lit (.bool false)], args := [d1, d2, d3] }
  | _ => none }
def PushOnWrongFalsely : Prop := pushOnRow.holds Tryd.pinned (OpenSpec.ofChange pushOnWrong)

/-- 'squeegeelaw04.PushReaches': WHATEVER THE INPUT: true; the input reads as it did. -/
def pushReachesSpec : ChangeSpec := { name := "pushReaches", fn := fun _ => fun
  | [d1, d2, d3] => { results := [.lit (.bool true)], args := [d1, d2, d3] }
  | _ => none }
def pushReachesRow : OpenClaim := { program := "ytaapnflhjbdmlaadoor", sum := "118c85426ac5c532ef484078139bed038edc31927c0b88c451a1007ab50c8e47", func := "squeegee/squeegeelaw04.PushReaches", spec := "pushReaches", inPlace := ["internal/bytealg.IndexByteString", "internal/bytealg.IndexString"], unfollowed := true, recurses := true, named := ["unicode/utf8.first", "unicode/utf8.acceptRanges", "internal/bytealg.MaxLen"], plainKeys := false, apart := false, laid := [("unicode/utf8.acceptRanges", laid_unicode_utf8_acceptRanges), ("unicode/utf8.first", laid_unicode_utf8_first)] }
def PushReachesSaid : Prop := pushReachesRow.holds Tryd.pinned (OpenSpec.ofChange pushReachesSpec)

/-- ITS FALSE NEIGHBOUR: 'it returns false'. Refute it at one input. -/
def pushReachesWrong : ChangeSpec := { name := "pushReaches", fn := fun _ => fun
  | [d1, d2, d3] => { results := [.lit (.bool false)], args := [d1, d2, d3] }
  | _ => none }
def PushReachesWrongFalsely : Prop := pushReachesRow.holds Tryd.pinned (OpenSpec.ofChange pushReachesWrong)

/-- 'squeegeelaw04.PushRuns': WHATEVER THE INPUT: true; the input reads as it did. -/
def pushRunsSpec : ChangeSpec := { name := "pushRuns", fn := fun _ => fun
  | [d1, d2, d3] => { results := [.lit (.bool true)], args := [d1, d2, d3] }
  | _ => none }
def pushRunsRow : OpenClaim := { program := "ytaapnflhjbdmlaadoor", sum := "118c85426ac5c532ef484078139bed038edc31927c0b88c451a1007ab50c8e47", func := "squeegee/squeegeelaw04.PushRuns", spec := "pushRuns", inPlace := ["internal/bytealg.IndexByteString", "internal/bytealg.IndexString"], unfollowed := true, recurses := true, named := ["unicode/utf8.first", "unicode/utf8.acceptRanges", "internal/bytealg.MaxLen"], plainKeys := false, apart := false, laid := [("unicode/utf8.acceptRanges", laid_unicode_utf8_acceptRanges), ("unicode/utf8.first", laid_unicode_utf8_first)] }
def PushRunsSaid : Prop := pushRunsRow.holds Tryd.pinned (OpenSpec.ofChange pushRunsSpec)

/-- ITS FALSE NEIGHBOUR: 'it returns false'. Refute it at one input. -/
def pushRunsWrong : ChangeSpec := { name := "pushRuns", fn := fun _ => fun
  | [d1, d2, d3] => { results := [.lit (.bool false)], args := [d1, d2, d3] }
  | _ => none }
def PushRunsWrongFalsely : Prop := pushRunsRow.holds Tryd.pinned (OpenSpec.ofChange pushRunsWrong)

/-- 'squeegeelaw04.PushBelow': WHATEVER THE INPUT: true; the input reads as it did. -/
def pushBelowSpec : ChangeSpec := { name := "pushBelow", fn := fun _ => fun
  | [d1, d2, d3] => { results := [.lit (.bool true)], args := [d1, d2, d3] }
  | _ => none }
def pushBelowRow : OpenClaim := { program := "ytaapnflhjbdmlaadoor", sum := "118c85426ac5c532ef484078139bed038edc31927c0b88c451a1007ab50c8e47", func := "squeegee/squeegeelaw04.PushBelow", spec := "pushBelow", inPlace := ["internal/bytealg.IndexByteString", "internal/bytealg.IndexString"], unfollowed := true, recurses := true, named := ["unicode/utf8.first", "unicode/utf8.acceptRanges", "internal/bytealg.MaxLen"], plainKeys := false, apart := false, laid := [("unicode/utf8.acceptRanges", laid_unicode_utf8_acceptRanges), ("unicode/utf8.first", laid_unicode_utf8_first)] }
def PushBelowSaid : Prop := pushBelowRow.holds Tryd.pinned (OpenSpec.ofChange pushBelowSpec)

/-- ITS FALSE NEIGHBOUR: 'it returns false'. Refute it at one input. -/
def pushBelowWrong : ChangeSpec := { name := "pushBelow", fn := fun _ => fun
  | [d1, d2, d3] => { results := [.lit (.bool false)], args := [d1, d2, d3] }
  | _ => none }
def PushBelowWrongFalsely : Prop := pushBelowRow.holds Tryd.pinned (OpenSpec.ofChange pushBelowWrong)

/- THE SECOND FORM. 'bulk': how many values and letters a reading holds, each counted each time it is reached (what is shared counts as often as it is met; a slice's spare places count too). A statement '..UptoSaid' is the law's where the arguments, and the package variables that the reading takes, are together of bulk at most 1048576: NARROWER than '..Said'. Prove '..Said' where nothing that the law and all that it calls make is longer than what came in: it says more and counts as full. Else prove '..UptoSaid'. A law counts once. -/
mutual
def uptoBulk {H : Type} : DataW H → Nat
  | .lit (.string bytes) => bytes.length + 1
  | .lit _ => 1
  | .nil => 1
  | .ptr d => uptoBulk d + 1
  | .slice elems spare => uptoBulkAll elems + uptoBulkAll spare + 1
  | .agg parts => uptoBulkAll parts + 1
  | .iface _ d => uptoBulk d + 1
  | .map entries => uptoBulkEntries entries + 1
  | .held _ => 1
def uptoBulkAll {H : Type} : List (DataW H) → Nat
  | [] => 0
  | d :: r => uptoBulk d + uptoBulkAll r
def uptoBulkEntries {H : Type} : List (Lit × DataW H) → Nat
  | [] => 0
  | x :: r => uptoBulkEntry x + uptoBulkEntries r
def uptoBulkEntry {H : Type} : Lit × DataW H → Nat
  | (.string bytes, d) => bytes.length + uptoBulk d + 1
  | (_, d) => uptoBulk d + 1
 end
def uptoSmall : (H : Type) → List (DataW H) → Bool := fun _ ds => decide (uptoBulkAll ds ≤ 1048576)
def OpenSpec.upto (s : _root_.Go.ChangeSpec) : _root_.Go.OpenSpec := { _root_.Go.OpenSpec.ofChange s with cond := some uptoSmall }

/-- 'squeegeelaw04.PushNext', WHERE WHAT IT READS IS OF BULK AT MOST 1048576: true; the input reads as it did. -/
def pushNextUptoRow : OpenClaim := { program := "ytaapnflhjbdmlaadoor", sum := "118c85426ac5c532ef484078139bed038edc31927c0b88c451a1007ab50c8e47", func := "squeegee/squeegeelaw04.PushNext", spec := "pushNext", inPlace := ["internal/bytealg.IndexByteString", "internal/bytealg.IndexString"], unfollowed := true, recurses := true, named := ["unicode/utf8.first", "unicode/utf8.acceptRanges", "internal/bytealg.MaxLen"], plainKeys := false, apart := false, laid := [("unicode/utf8.acceptRanges", laid_unicode_utf8_acceptRanges), ("unicode/utf8.first", laid_unicode_utf8_first)], narrowed := true }
def PushNextUptoSaid : Prop := pushNextUptoRow.holds Tryd.pinned (OpenSpec.upto pushNextSpec)

/-- 'squeegeelaw04.PushOn', WHERE WHAT IT READS IS OF BULK AT MOST 1048576: true; the input reads as it did. -/
def pushOnUptoRow : OpenClaim := { program := "ytaapnflhjbdmlaadoor", sum := "118c85426ac5c532ef484078139bed038edc31927c0b88c451a1007ab50c8e47", func := "squeegee/squeegeelaw04.PushOn", spec := "pushOn", inPlace := ["internal/bytealg.IndexByteString", "internal/bytealg.IndexString"], unfollowed := true, recurses := true, named := ["unicode/utf8.first", "unicode/utf8.acceptRanges", "internal/bytealg.MaxLen"], plainKeys := false, apart := false, laid := [("unicode/utf8.acceptRanges", laid_unicode_utf8_acceptRanges), ("unicode/utf8.first", laid_unicode_utf8_first)], narrowed := true }
def PushOnUptoSaid : Prop := pushOnUptoRow.holds Tryd.pinned (OpenSpec.upto pushOnSpec)

/-- 'squeegeelaw04.PushReaches', WHERE WHAT IT READS IS OF BULK AT MOST 1048576: true; the input reads as it did. -/
def pushReachesUptoRow : OpenClaim := { program := "ytaapnflhjbdmlaadoor", sum := "118c85426ac5c532ef484078139bed038edc31927c0b88c451a1007ab50c8e47", func := "squeegee/squeegeelaw04.PushReaches", spec := "pushReaches", inPlace := ["internal/bytealg.IndexByteString", "internal/bytealg.IndexString"], unfollowed := true, recurses := true, named := ["unicode/utf8.first", "unicode/utf8.acceptRanges", "internal/bytealg.MaxLen"], plainKeys := false, apart := false, laid := [("unicode/utf8.acceptRanges", laid_unicode_utf8_acceptRanges), ("unicode/utf8.first", laid_unicode_utf8_first)], narrowed := true }
def PushReachesUptoSaid : Prop := pushReachesUptoRow.holds Tryd.pinned (OpenSpec.upto pushReachesSpec)

/-- 'squeegeelaw04.PushRuns', WHERE WHAT IT READS IS OF BULK AT MOST 1048576: true; the input reads as it did. -/
def pushRunsUptoRow : OpenClaim := { program := "ytaapnflhjbdmlaadoor", sum := "118c85426ac5c532ef484078139bed038edc31927c0b88c451a1007ab50c8e47", func := "squeegee/squeegeelaw04.PushRuns", spec := "pushRuns", inPlace := ["internal/bytealg.IndexByteString", "internal/bytealg.IndexString"], unfollowed := true, recurses := true, named := ["unicode/utf8.first", "unicode/utf8.acceptRanges", "internal/bytealg.MaxLen"], plainKeys := false, apart := false, laid := [("unicode/utf8.acceptRanges", laid_unicode_utf8_acceptRanges), ("unicode/utf8.first", laid_unicode_utf8_first)], narrowed := true }
def PushRunsUptoSaid : Prop := pushRunsUptoRow.holds Tryd.pinned (OpenSpec.upto pushRunsSpec)

/-- 'squeegeelaw04.PushBelow', WHERE WHAT IT READS IS OF BULK AT MOST 1048576: true; the input reads as it did. -/
def pushBelowUptoRow : OpenClaim := { program := "ytaapnflhjbdmlaadoor", sum := "118c85426ac5c532ef484078139bed038edc31927c0b88c451a1007ab50c8e47", func := "squeegee/squeegeelaw04.PushBelow", spec := "pushBelow", inPlace := ["internal/bytealg.IndexByteString", "internal/bytealg.IndexString"], unfollowed := true, recurses := true, named := ["unicode/utf8.first", "unicode/utf8.acceptRanges", "internal/bytealg.MaxLen"], plainKeys := false, apart := false, laid := [("unicode/utf8.acceptRanges", laid_unicode_utf8_acceptRanges), ("unicode/utf8.first", laid_unicode_utf8_first)], narrowed := true }
def PushBelowUptoSaid : Prop := pushBelowUptoRow.holds Tryd.pinned (OpenSpec.upto pushBelowSpec)

end Rows
end Go.Proofs.YtaapnflhjbdmlaaDoor
