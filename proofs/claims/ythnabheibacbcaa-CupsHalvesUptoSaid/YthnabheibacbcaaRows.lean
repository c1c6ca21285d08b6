/-
  No cell of these rows narrows 'for every input' (looked for: loops, veiled, ifaces, maps, wideKeys, modest, calm, conditions, laid).
  DERIVED. THE GIVEN ROWS OF THIS SEAT. 10 by the template 'for every input the law returns true; each argument reads behind the call as it read before'; 0 by the template 'total and deterministic' (their statements: YthnabheibacbcaaTotals.lean).
  GIVEN WITH THE SEED: the statements are not yours to turn. If you find one false, say at which input.
  Laid BY PROGRAM, IN A SANDBOX (cutbox-rows.mjs): the forced cells as the released guide's own fill.sh prints them over the translation 57b3d57cef3fb05f… (all of the seat's roots in one cut). By AI agents, Wed Nov 11 2026. No macro, syntax, notation, axiom, sorry.
-/
import Derived.Test.YthnabheibacbcaaChecked
import GoSem.Claim
import GoSem.ClaimJoined
import GoSem.ClaimMapViews
import Derived.JoinedTies
import Derived.KernelRfl
namespace Go.Proofs.Ythnabheibacbcaa
/- THE CELL 'sum', in the pinned program and in every row, IS THE sha256 OF THE DUMP (.gsa) THAT YthnabheibacbcaaProg.lean LOADS. Nothing in Lean hashes anything: it is a label: what it is worth is what the hold of that sum in a sandbox is worth. -/
noncomputable def Try.pinned : Pinned := { name := "ythnabheibacbcaa", sum := "57b3d57cef3fb05f7acf9085da891c680cdeb63ca8fd5ff8b1362fd0d74d35d1", checked := Try.checked }
namespace Rows
def none {H : Type} : Left H := { results := [], args := [] }

/-- 'squeegeelaw09.CupsTurns': WHATEVER THE INPUT: true; the input reads as it did. -/
def cupsTurnsSpec : ChangeSpec := { name := "cupsTurns", fn := fun _ => fun
  | [d1, d2, d3] => { results := [.lit (.bool true)], args := [d1, d2, d3] }
  | _ => none }
def cupsTurnsRow : OpenClaim := { program := "ythnabheibacbcaa", sum := "57b3d57cef3fb05f7acf9085da891c680cdeb63ca8fd5ff8b1362fd0d74d35d1", func := "squeegee/squeegeelaw09.CupsTurns", spec := "cupsTurns", unfollowed := true, recurses := true, plainKeys := false, apart := false }
def CupsTurnsSaid : Prop := cupsTurnsRow.holds Try.pinned (OpenSpec.ofChange cupsTurnsSpec)

/-- ITS FALSE NEIGHBOUR: 'it returns false'. Refute it at one input. -/
def cupsTurnsWrong : ChangeSpec := { name := "cupsTurns", fn := fun _ => fun
  | [d1, d2, d3] => { results := [.lit (.bool false)], args := [d1, d2, d3] }
  | _ => none }
def CupsTurnsWrongFalsely : Prop := cupsTurnsRow.holds Try.pinned (OpenSpec.ofChange cupsTurnsWrong)

/-- 'squeegeelaw09.CupsLongest': WHATEVER THE INPUT: true; the input reads as it did. -/
def cupsLongestSpec : ChangeSpec := { name := "cupsLongest", fn := fun _ => fun
  | [d1, d2] => { results := [.lit (.bool true)], args := [d1, d2] }
  | _ => none }
def cupsLongestRow : OpenClaim := { program := "ythnabheibacbcaa", sum := "57b3d57cef3fb05f7acf9085da891c680cdeb63ca8fd5ff8b1362fd0d74d35d1", func := "squeegee/squeegeelaw09.CupsLongest", spec := "cupsLongest", unfollowed := true, recurses := true, plainKeys := false, apart := false }
def CupsLongestSaid : Prop := cupsLongestRow.holds Try.pinned (OpenSpec.ofChange cupsLongestSpec)

/-- ITS FALSE NEIGHBOUR: 'it returns false'. Refute it at one input. -/
def cupsLongestWrong : ChangeSpec := { name := "cupsLongest", fn := fun _ => fun
  | [d1, d2] => { results := [.lit (.bool false)], args := [d1, d2] }
  | _ => none }
def CupsLongestWrongFalsely : Prop := cupsLongestRow.holds Try.pinned (OpenSpec.ofChange cupsLongestWrong)

/-- 'squeegeelaw09.CupsCounts': WHATEVER THE INPUT: true; the input reads as it did. -/
def cupsCountsSpec : ChangeSpec := { name := "cupsCounts", fn := fun _ => fun
  | [d1, d2] => { results := [.lit (.bool true)], args := [d1, d2] }
  | _ => none }
def cupsCountsRow : OpenClaim := { program := "ythnabheibacbcaa", sum := "57b3d57cef3fb05f7acf9085da891c680cdeb63ca8fd5ff8b1362fd0d74d35d1", func := "squeegee/squeegeelaw09.CupsCounts", spec := "cupsCounts", unfollowed := true, recurses := true, plainKeys := false, apart := false }
def CupsCountsSaid : Prop := cupsCountsRow.holds Try.pinned (OpenSpec.ofChange cupsCountsSpec)

/-- ITS FALSE NEIGHBOUR: 'it returns false'. Refute it at one input. -/
def cupsCountsWrong : ChangeSpec := { name := "cupsCounts", fn := fun _ => fun
  | [d1, d2] => { results := [.lit (.bool false)], args := [d1, d2] }
  | _ => none }
def CupsCountsWrongFalsely : Prop := cupsCountsRow.holds Try.pinned (OpenSpec.ofChange cupsCountsWrong)

/-- 'squeegeelaw09.CupsAbrego': WHATEVER THE INPUT: true; the input reads as it did. -/
def cupsAbregoSpec : ChangeSpec := { name := "cupsAbrego", fn := fun _ => fun
  | [d1, d2] => { results := [.lit (.bool true)], args := [d1, d2] }
  | _ => none }
def cupsAbregoRow : OpenClaim := { program := "ythnabheibacbcaa", sum := "57b3d57cef3fb05f7acf9085da891c680cdeb63ca8fd5ff8b1362fd0d74d35d1", func := "squeegee/squeegeelaw09.CupsAbrego", spec := "cupsAbrego", unfollowed := true, recurses := true, plainKeys := false, apart := false }
def CupsAbregoSaid : Prop := cupsAbregoRow.holds Try.pinned (OpenSpec.ofChange cupsAbregoSpec)

/-- ITS FALSE NEIGHBOUR: 'it returns false'. Refute it at one input. -/
def cupsAbregoWrong : ChangeSpec := { name := "cupsAbrego", fn := fun _ => fun
  | [d1, d2] => { results := [.lit (.bool false)], args := [d1, d2] }
  | _ => none }
def CupsAbregoWrongFalsely : Prop := cupsAbregoRow.holds Try.pinned (OpenSpec.ofChange cupsAbregoWrong)

/-- 'squeegeelaw09.CupsHalves': WHATEVER THE INPUT: true; the input reads as it did. -/
def cupsHalvesSpec : ChangeSpec := { name := "cupsHalves", fn := fun _ => fun
  | [d1, d2, d3] => { results := [.lit (.bool true)], args := [d1, d2, d3] }
  | _ => none }
def cupsHalvesRow : OpenClaim := { program := "ythnabheibacbcaa", sum := "57b3d57cef3fb05f7acf9085da891c680cdeb63ca8fd5ff8b1362fd0d74d35d1", func := "squeegee/squeegeelaw09.CupsHalves", spec := "cupsHalves", unfollowed := true, recurses := true, plainKeys := false, apart := false }
def CupsHalvesSaid : Prop := cupsHalvesRow.holds Try.pinned (OpenSpec.ofChange cupsHalvesSpec)

/-- ITS FALSE NEIGHBOUR: 'it returns false'. Refute it at one input. -/
def cupsHalvesWrong : ChangeSpec := { name := "cupsHalves", fn := fun _ => fun
  | [d1, d2, d3] => { results := [.lit (.bool false)], args := [d1, d2, d3] }
  | _ => none }
def CupsHalvesWrongFalsely : Prop := cupsHalvesRow.holds Try.pinned (OpenSpec.ofChange cupsHalvesWrong)

/-- 'squeegeelaw09.CupsJudges': WHATEVER THE INPUT: true; the input reads as it did. -/
def cupsJudgesSpec : ChangeSpec := { name := "cupsJudges", fn := fun _ => fun
  | [d1, d2, d3] => { results := [.lit (.bool true)], args := [d1, d2, d3] }
  | _ => none }
def cupsJudgesRow : OpenClaim := { program := "ythnabheibacbcaa", sum := "57b3d57cef3fb05f7acf9085da891c680cdeb63ca8fd5ff8b1362fd0d74d35d1", func := "squeegee/squeegeelaw09.CupsJudges", spec := "cupsJudges", unfollowed := true, recurses := true, plainKeys := false, apart := false }
def CupsJudgesSaid : Prop := cupsJudgesRow.holds Try.pinned (OpenSpec.ofChange cupsJudgesSpec)

/-- ITS FALSE NEIGHBOUR: 'it returns false'. Refute it at one input. -/
def cupsJudgesWrong : ChangeSpec := { name := "cupsJudges", fn := fun _ => fun
  | [d1, d2, d3] => { results := [.lit (.bool false)], args := [d1, d2, d3] }
  | _ => none }
def CupsJudgesWrongFalsely : Prop := cupsJudgesRow.holds Try.pinned (OpenSpec.ofChange cupsJudgesWrong)

/-- 'squeegeelaw09.CupsErdos': WHATEVER THE INPUT: true; the input reads as it did. -/
def cupsErdosSpec : ChangeSpec := { name := "cupsErdos", fn := fun _ => fun
  | [d1, d2] => { results := [.lit (.bool true)], args := [d1, d2] }
  | _ => none }
def cupsErdosRow : OpenClaim := { program := "ythnabheibacbcaa", sum := "57b3d57cef3fb05f7acf9085da891c680cdeb63ca8fd5ff8b1362fd0d74d35d1", func := "squeegee/squeegeelaw09.CupsErdos", spec := "cupsErdos", unfollowed := true, recurses := true, plainKeys := false, apart := false }
def CupsErdosSaid : Prop := cupsErdosRow.holds Try.pinned (OpenSpec.ofChange cupsErdosSpec)

/-- ITS FALSE NEIGHBOUR: 'it returns false'. Refute it at one input. -/
def cupsErdosWrong : ChangeSpec := { name := "cupsErdos", fn := fun _ => fun
  | [d1, d2] => { results := [.lit (.bool false)], args := [d1, d2] }
  | _ => none }
def CupsErdosWrongFalsely : Prop := cupsErdosRow.holds Try.pinned (OpenSpec.ofChange cupsErdosWrong)

/-- 'squeegeelaw09.CupsPolygons': WHATEVER THE INPUT: true; the input reads as it did. -/
def cupsPolygonsSpec : ChangeSpec := { name := "cupsPolygons", fn := fun _ => fun
  | [d1, d2] => { results := [.lit (.bool true)], args := [d1, d2] }
  | _ => none }
def cupsPolygonsRow : OpenClaim := { program := "ythnabheibacbcaa", sum := "57b3d57cef3fb05f7acf9085da891c680cdeb63ca8fd5ff8b1362fd0d74d35d1", func := "squeegee/squeegeelaw09.CupsPolygons", spec := "cupsPolygons", unfollowed := true, recurses := true, plainKeys := false, apart := false }
def CupsPolygonsSaid : Prop := cupsPolygonsRow.holds Try.pinned (OpenSpec.ofChange cupsPolygonsSpec)

/-- ITS FALSE NEIGHBOUR: 'it returns false'. Refute it at one input. -/
def cupsPolygonsWrong : ChangeSpec := { name := "cupsPolygons", fn := fun _ => fun
  | [d1, d2] => { results := [.lit (.bool false)], args := [d1, d2] }
  | _ => none }
def CupsPolygonsWrongFalsely : Prop := cupsPolygonsRow.holds Try.pinned (OpenSpec.ofChange cupsPolygonsWrong)

/-- 'squeegeelaw09.CupsChecks': WHATEVER THE INPUT: true; the input reads as it did. -/
def cupsChecksSpec : ChangeSpec := { name := "cupsChecks", fn := fun _ => fun
  | [d] => { results := [.lit (.bool true)], args := [d] }
  | _ => none }
def cupsChecksRow : OpenClaim := { program := "ythnabheibacbcaa", sum := "57b3d57cef3fb05f7acf9085da891c680cdeb63ca8fd5ff8b1362fd0d74d35d1", func := "squeegee/squeegeelaw09.CupsChecks", spec := "cupsChecks", unfollowed := true, recurses := true, plainKeys := false, apart := false }
def CupsChecksSaid : Prop := cupsChecksRow.holds Try.pinned (OpenSpec.ofChange cupsChecksSpec)

/-- ITS FALSE NEIGHBOUR: 'it returns false'. Refute it at one input. -/
def cupsChecksWrong : ChangeSpec := { name := "cupsChecks", fn := fun _ => fun
  | [d] => { results := [.lit (.bool false)], args := [d] }
  | _ => none }
def CupsChecksWrongFalsely : Prop := cupsChecksRow.holds Try.pinned (OpenSpec.ofChange cupsChecksWrong)

/-- 'squeegeelaw09.CupsLines': WHATEVER THE INPUT: true; the input reads as it did. -/
def cupsLinesSpec : ChangeSpec := { name := "cupsLines", fn := fun _ => fun
  | [d] => { results := [.lit (.bool true)], args := [d] }
  | _ => none }
def cupsLinesRow : OpenClaim := { program := "ythnabheibacbcaa", sum := "57b3d57cef3fb05f7acf9085da891c680cdeb63ca8fd5ff8b1362fd0d74d35d1", func := "squeegee/squeegeelaw09.CupsLines", spec := "cupsLines", unfollowed := true, recurses := true, plainKeys := false, apart := false }
def CupsLinesSaid : Prop := cupsLinesRow.holds Try.pinned (OpenSpec.ofChange cupsLinesSpec)

/-- ITS FALSE NEIGHBOUR: 'it returns false'. Refute it at one input. -/
def cupsLinesWrong : ChangeSpec := { name := "cupsLines", fn := fun _ => fun
  | [d] => { results := [.lit (.bool false)], args := [d] }
  | _ => none }
def CupsLinesWrongFalsely : Prop := cupsLinesRow.holds Try.pinned (OpenSpec.ofChange cupsLinesWrong)

/- THE SECOND FORM. 'bulk': how many values and letters a reading holds, each counted each time it is reached (what is shared counts as often as it is met; a slice's spare places count too). A statement '..UptoSaid' is the law's where the arguments, and the package variables that the reading takes, are together of bulk at most 1048576: NARROWER than '..Said'. Prove '..Said' where nothing that the law and all that it calls make is longer than what came in: it says more and counts as full. Else prove '..UptoSaid'. A law counts once. -/
mutual
def uptoBulk {H : Type} : DataW H → Nat
  | .lit (.string bytes) => bytes.length + 1
  | .lit _ => 1
  | .nil => 1
  | .ptr d => uptoBulk d + 1
  | .slice elems spare => uptoBulkAll elems + uptoBulkAll spare + 1
  | .agg parts => uptoBulkAll parts + 1
  | .iface _ d => uptoBulk d + 1
  | .map entries => uptoBulkEntries entries + 1
  | .held _ => 1
def uptoBulkAll {H : Type} : List (DataW H) → Nat
  | [] => 0
  | d :: r => uptoBulk d + uptoBulkAll r
def uptoBulkEntries {H : Type} : List (Lit × DataW H) → Nat
  | [] => 0
  | x :: r => uptoBulkEntry x + uptoBulkEntries r
def uptoBulkEntry {H : Type} : Lit × DataW H → Nat
  | (.string bytes, d) => bytes.length + uptoBulk d + 1
  | (_, d) => uptoBulk d + 1
 end
def uptoSmall : (H : Type) → List (DataW H) → Bool := fun _ ds => decide (uptoBulkAll ds ≤ 1048576)
def OpenSpec.upto (s : _root_.Go.ChangeSpec) : _root_.Go.OpenSpec := { _root_.Go.OpenSpec.ofChange s with cond := some uptoSmall }

/-- 'squeegeelaw09.CupsTurns', WHERE WHAT IT READS IS OF BULK AT MOST 1048576: true; the input reads as it did. -/
def cupsTurnsUptoRow : OpenClaim := { program := "ythnabheibacbcaa", sum := "57b3d57cef3fb05f7acf9085da891c680cdeb63ca8fd5ff8b1362fd0d74d35d1", func := "squeegee/squeegeelaw09.CupsTurns", spec := "cupsTurns", unfollowed := true, recurses := true, plainKeys := false, apart := false, narrowed := true }
def CupsTurnsUptoSaid : Prop := cupsTurnsUptoRow.holds Try.pinned (OpenSpec.upto cupsTurnsSpec)

/-- 'squeegeelaw09.CupsLongest', WHERE WHAT IT READS IS OF BULK AT MOST 1048576: true; the input reads as it did. -/
def cupsLongestUptoRow : OpenClaim := { program := "ythnabheibacbcaa", sum := "57b3d57cef3fb05f7acf9085da891c680cdeb63ca8fd5ff8b1362fd0d74d35d1", func := "squeegee/squeegeelaw09.CupsLongest", spec := "cupsLongest", unfollowed := true, recurses := true, plainKeys := false, apart := false, narrowed := true }
def CupsLongestUptoSaid : Prop := cupsLongestUptoRow.holds Try.pinned (OpenSpec.upto cupsLongestSpec)

/-- 'squeegeelaw09.CupsCounts', WHERE WHAT IT READS IS OF BULK AT MOST 1048576: true; the input reads as it did. -/
def cupsCountsUptoRow : OpenClaim := { program := "ythnabheibacbcaa", sum := "57b3d57cef3fb05f7acf9085da891c680cdeb63ca8fd5ff8b1362fd0d74d35d1", func := "squeegee/squeegeelaw09.CupsCounts", spec := "cupsCounts", unfollowed := true, recurses := true, plainKeys := false, apart := false, narrowed := true }
def CupsCountsUptoSaid : Prop := cupsCountsUptoRow.holds Try.pinned (OpenSpec.upto cupsCountsSpec)

/-- 'squeegeelaw09.CupsAbrego', WHERE WHAT IT READS IS OF BULK AT MOST 1048576: true; the input reads as it did. -/
def cupsAbregoUptoRow : OpenClaim := { program := "ythnabheibacbcaa", sum := "57b3d57cef3fb05f7acf9085da891c680cdeb63ca8fd5ff8b1362fd0d74d35d1", func := "squeegee/squeegeelaw09.CupsAbrego", spec := "cupsAbrego", unfollowed := true, recurses := true, plainKeys := false, apart := false, narrowed := true }
def CupsAbregoUptoSaid : Prop := cupsAbregoUptoRow.holds Try.pinned (OpenSpec.upto cupsAbregoSpec)

/-- 'squeegeelaw09.CupsHalves', WHERE WHAT IT READS IS OF BULK AT MOST 1048576: true; the input reads as it did. -/
def cupsHalvesUptoRow : OpenClaim := { program := "ythnabheibacbcaa", sum := "57b3d57cef3fb05f7acf9085da891c680cdeb63ca8fd5ff8b1362fd0d74d35d1", func := "squeegee/squeegeelaw09.CupsHalves", spec := "cupsHalves", unfollowed := true, recurses := true, plainKeys := false, apart := false, narrowed := true }
def CupsHalvesUptoSaid : Prop := cupsHalvesUptoRow.holds Try.pinned (OpenSpec.upto cupsHalvesSpec)

/-- 'squeegeelaw09.CupsJudges', WHERE WHAT IT READS IS OF BULK AT MOST 1048576: true; the input reads as it did. -/
def cupsJudgesUptoRow : OpenClaim := { program := "ythnabheibacbcaa", sum := "57b3d57cef3fb05f7acf9085da891c680cdeb63ca8fd5ff8b1362fd0d74d35d1", func := "squeegee/squeegeelaw09.CupsJudges", spec := "cupsJudges", unfollowed := true, recurses := true, plainKeys := false, apart := false, narrowed := true }
def CupsJudgesUptoSaid : Prop := cupsJudgesUptoRow.holds Try.pinned (OpenSpec.upto cupsJudgesSpec)

/-- 'squeegeelaw09.CupsErdos', WHERE WHAT IT READS IS OF BULK AT MOST 1048576: true; the input reads as it did. -/
def cupsErdosUptoRow : OpenClaim := { program := "ythnabheibacbcaa", sum := "57b3d57cef3fb05f7acf9085da891c680cdeb63ca8fd5ff8b1362fd0d74d35d1", func := "squeegee/squeegeelaw09.CupsErdos", spec := "cupsErdos", unfollowed := true, recurses := true, plainKeys := false, apart := false, narrowed := true }
def CupsErdosUptoSaid : Prop := cupsErdosUptoRow.holds Try.pinned (OpenSpec.upto cupsErdosSpec)

/-- 'squeegeelaw09.CupsPolygons', WHERE WHAT IT READS IS OF BULK AT MOST 1048576: true; the input reads as it did. -/
def cupsPolygonsUptoRow : OpenClaim := { program := "ythnabheibacbcaa", sum := "57b3d57cef3fb05f7acf9085da891c680cdeb63ca8fd5ff8b1362fd0d74d35d1", func := "squeegee/squeegeelaw09.CupsPolygons", spec := "cupsPolygons", unfollowed := true, recurses := true, plainKeys := false, apart := false, narrowed := true }
def CupsPolygonsUptoSaid : Prop := cupsPolygonsUptoRow.holds Try.pinned (OpenSpec.upto cupsPolygonsSpec)

/-- 'squeegeelaw09.CupsChecks', WHERE WHAT IT READS IS OF BULK AT MOST 1048576: true; the input reads as it did. -/
def cupsChecksUptoRow : OpenClaim := { program := "ythnabheibacbcaa", sum := "57b3d57cef3fb05f7acf9085da891c680cdeb63ca8fd5ff8b1362fd0d74d35d1", func := "squeegee/squeegeelaw09.CupsChecks", spec := "cupsChecks", unfollowed := true, recurses := true, plainKeys := false, apart := false, narrowed := true }
def CupsChecksUptoSaid : Prop := cupsChecksUptoRow.holds Try.pinned (OpenSpec.upto cupsChecksSpec)

/-- 'squeegeelaw09.CupsLines', WHERE WHAT IT READS IS OF BULK AT MOST 1048576: true; the input reads as it did. -/
def cupsLinesUptoRow : OpenClaim := { program := "ythnabheibacbcaa", sum := "57b3d57cef3fb05f7acf9085da891c680cdeb63ca8fd5ff8b1362fd0d74d35d1", func := "squeegee/squeegeelaw09.CupsLines", spec := "cupsLines", unfollowed := true, recurses := true, plainKeys := false, apart := false, narrowed := true }
def CupsLinesUptoSaid : Prop := cupsLinesUptoRow.holds Try.pinned (OpenSpec.upto cupsLinesSpec)

end Rows
end Go.Proofs.Ythnabheibacbcaa
