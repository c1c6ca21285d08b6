/-
  No cell of these rows narrows 'for every input' (looked for: loops, veiled, ifaces, maps, wideKeys, modest, calm, conditions, laid).
  DERIVED. THE GIVEN ROWS OF THIS SEAT. 10 by the template 'for every input the law returns true; each argument reads behind the call as it read before'; 0 by the template 'total and deterministic' (their statements: YtadonoacmpkolaaTotals.lean).
  GIVEN WITH THE SEED: the statements are not yours to turn. If you find one false, say at which input.
  Laid BY PROGRAM, IN A SANDBOX (cutbox-rows.mjs): the forced cells as the released guide's own fill.sh prints them over the translation c8c46118a8824b37… (all of the seat's roots in one cut). By AI agents, Wed Nov 11 2026. No macro, syntax, notation, axiom, sorry.
-/
import Derived.Test.YtadonoacmpkolaaChecked
import GoSem.Claim
import GoSem.ClaimJoined
import GoSem.ClaimMapViews
import Derived.JoinedTies
import Derived.KernelRfl
namespace Go.Proofs.Ytadonoacmpkolaa
/- THE CELL 'sum', in the pinned program and in every row, IS THE sha256 OF THE DUMP (.gsa) THAT YtadonoacmpkolaaProg.lean LOADS. Nothing in Lean hashes anything: it is a label: what it is worth is what the hold of that sum in a sandbox is worth. -/
noncomputable def Try.pinned : Pinned := { name := "ytadonoacmpkolaa", sum := "c8c46118a8824b37a71b103088e8cec8f7f5fddf92e66d6847617811b85163ab", checked := Try.checked }
namespace Rows
def none {H : Type} : Left H := { results := [], args := [] }

/-- 'squeegeelaw08.BidSingles': WHATEVER THE INPUT: true; the input reads as it did. -/
def bidSinglesSpec : ChangeSpec := { name := "bidSingles", fn := fun _ => fun
  | [d1, d2] => { results := [.lit (.bool true)], args := [d1, d2] }
  | _ => none }
def bidSinglesRow : OpenClaim := { program := "ytadonoacmpkolaa", sum := "c8c46118a8824b37a71b103088e8cec8f7f5fddf92e66d6847617811b85163ab", func := "squeegee/squeegeelaw08.BidSingles", spec := "bidSingles", unfollowed := true, recurses := true, apart := false }
def BidSinglesSaid : Prop := bidSinglesRow.holds Try.pinned (OpenSpec.ofChange bidSinglesSpec)

/-- ITS FALSE NEIGHBOUR: 'it returns false'. Refute it at one input. -/
def bidSinglesWrong : ChangeSpec := { name := "bidSingles", fn := fun _ => fun
  | [d1, d2] => { results := [.lit (.bool false)], args := [d1, d2] }
  | _ => none }
def BidSinglesWrongFalsely : Prop := bidSinglesRow.holds Try.pinned (OpenSpec.ofChange bidSinglesWrong)

/-- 'squeegeelaw08.BidSeconds': WHATEVER THE INPUT: true; the input reads as it did. -/
def bidSecondsSpec : ChangeSpec := { name := "bidSeconds", fn := fun _ => fun
  | [d] => { results := [.lit (.bool true)], args := [d] }
  | _ => none }
def bidSecondsRow : OpenClaim := { program := "ytadonoacmpkolaa", sum := "c8c46118a8824b37a71b103088e8cec8f7f5fddf92e66d6847617811b85163ab", func := "squeegee/squeegeelaw08.BidSeconds", spec := "bidSeconds", unfollowed := true, recurses := true, apart := false }
def BidSecondsSaid : Prop := bidSecondsRow.holds Try.pinned (OpenSpec.ofChange bidSecondsSpec)

/-- ITS FALSE NEIGHBOUR: 'it returns false'. Refute it at one input. -/
def bidSecondsWrong : ChangeSpec := { name := "bidSeconds", fn := fun _ => fun
  | [d] => { results := [.lit (.bool false)], args := [d] }
  | _ => none }
def BidSecondsWrongFalsely : Prop := bidSecondsRow.holds Try.pinned (OpenSpec.ofChange bidSecondsWrong)

/-- 'squeegeelaw08.BidBest': WHATEVER THE INPUT: true; the input reads as it did. -/
def bidBestSpec : ChangeSpec := { name := "bidBest", fn := fun _ => fun
  | [d1, d2, d3] => { results := [.lit (.bool true)], args := [d1, d2, d3] }
  | _ => none }
def bidBestRow : OpenClaim := { program := "ytadonoacmpkolaa", sum := "c8c46118a8824b37a71b103088e8cec8f7f5fddf92e66d6847617811b85163ab", func := "squeegee/squeegeelaw08.BidBest", spec := "bidBest", unfollowed := true, recurses := true, apart := false }
def BidBestSaid : Prop := bidBestRow.holds Try.pinned (OpenSpec.ofChange bidBestSpec)

/-- ITS FALSE NEIGHBOUR: 'it returns false'. Refute it at one input. -/
def bidBestWrong : ChangeSpec := { name := "bidBest", fn := fun _ => fun
  | [d1, d2, d3] => { results := [.lit (.bool false)], args := [d1, d2, d3] }
  | _ => none }
def BidBestWrongFalsely : Prop := bidBestRow.holds Try.pinned (OpenSpec.ofChange bidBestWrong)

/-- 'squeegeelaw08.BidGains': WHATEVER THE INPUT: true; the input reads as it did. -/
def bidGainsSpec : ChangeSpec := { name := "bidGains", fn := fun _ => fun
  | [d1, d2, d3] => { results := [.lit (.bool true)], args := [d1, d2, d3] }
  | _ => none }
def bidGainsRow : OpenClaim := { program := "ytadonoacmpkolaa", sum := "c8c46118a8824b37a71b103088e8cec8f7f5fddf92e66d6847617811b85163ab", func := "squeegee/squeegeelaw08.BidGains", spec := "bidGains", unfollowed := true, recurses := true, apart := false }
def BidGainsSaid : Prop := bidGainsRow.holds Try.pinned (OpenSpec.ofChange bidGainsSpec)

/-- ITS FALSE NEIGHBOUR: 'it returns false'. Refute it at one input. -/
def bidGainsWrong : ChangeSpec := { name := "bidGains", fn := fun _ => fun
  | [d1, d2, d3] => { results := [.lit (.bool false)], args := [d1, d2, d3] }
  | _ => none }
def BidGainsWrongFalsely : Prop := bidGainsRow.holds Try.pinned (OpenSpec.ofChange bidGainsWrong)

/-- 'squeegeelaw08.BidCores': WHATEVER THE INPUT: true; the input reads as it did. -/
def bidCoresSpec : ChangeSpec := { name := "bidCores", fn := fun _ => fun
  | [d1, d2, d3] => { results := [.lit (.bool true)], args := [d1, d2, d3] }
  | _ => none }
def bidCoresRow : OpenClaim := { program := "ytadonoacmpkolaa", sum := "c8c46118a8824b37a71b103088e8cec8f7f5fddf92e66d6847617811b85163ab", func := "squeegee/squeegeelaw08.BidCores", spec := "bidCores", unfollowed := true, recurses := true, apart := false }
def BidCoresSaid : Prop := bidCoresRow.holds Try.pinned (OpenSpec.ofChange bidCoresSpec)

/-- ITS FALSE NEIGHBOUR: 'it returns false'. Refute it at one input. -/
def bidCoresWrong : ChangeSpec := { name := "bidCores", fn := fun _ => fun
  | [d1, d2, d3] => { results := [.lit (.bool false)], args := [d1, d2, d3] }
  | _ => none }
def BidCoresWrongFalsely : Prop := bidCoresRow.holds Try.pinned (OpenSpec.ofChange bidCoresWrong)

/-- 'squeegeelaw08.BidVickrey': WHATEVER THE INPUT: true; the input reads as it did. -/
def bidVickreySpec : ChangeSpec := { name := "bidVickrey", fn := fun _ => fun
  | [d1, d2, d3] => { results := [.lit (.bool true)], args := [d1, d2, d3] }
  | _ => none }
def bidVickreyRow : OpenClaim := { program := "ytadonoacmpkolaa", sum := "c8c46118a8824b37a71b103088e8cec8f7f5fddf92e66d6847617811b85163ab", func := "squeegee/squeegeelaw08.BidVickrey", spec := "bidVickrey", unfollowed := true, recurses := true, apart := false }
def BidVickreySaid : Prop := bidVickreyRow.holds Try.pinned (OpenSpec.ofChange bidVickreySpec)

/-- ITS FALSE NEIGHBOUR: 'it returns false'. Refute it at one input. -/
def bidVickreyWrong : ChangeSpec := { name := "bidVickrey", fn := fun _ => fun
  | [d1, d2, d3] => { results := [.lit (.bool false)], args := [d1, d2, d3] }
  | _ => none }
def BidVickreyWrongFalsely : Prop := bidVickreyRow.holds Try.pinned (OpenSpec.ofChange bidVickreyWrong)

/-- 'squeegeelaw08.BidWorth': WHATEVER THE INPUT: true; the input reads as it did. -/
def bidWorthSpec : ChangeSpec := { name := "bidWorth", fn := fun _ => fun
  | [d1, d2, d3] => { results := [.lit (.bool true)], args := [d1, d2, d3] }
  | _ => none }
def bidWorthRow : OpenClaim := { program := "ytadonoacmpkolaa", sum := "c8c46118a8824b37a71b103088e8cec8f7f5fddf92e66d6847617811b85163ab", func := "squeegee/squeegeelaw08.BidWorth", spec := "bidWorth", unfollowed := true, recurses := true, apart := false }
def BidWorthSaid : Prop := bidWorthRow.holds Try.pinned (OpenSpec.ofChange bidWorthSpec)

/-- ITS FALSE NEIGHBOUR: 'it returns false'. Refute it at one input. -/
def bidWorthWrong : ChangeSpec := { name := "bidWorth", fn := fun _ => fun
  | [d1, d2, d3] => { results := [.lit (.bool false)], args := [d1, d2, d3] }
  | _ => none }
def BidWorthWrongFalsely : Prop := bidWorthRow.holds Try.pinned (OpenSpec.ofChange bidWorthWrong)

/-- 'squeegeelaw08.BidShapley': WHATEVER THE INPUT: true; the input reads as it did. -/
def bidShapleySpec : ChangeSpec := { name := "bidShapley", fn := fun _ => fun
  | [d1, d2, d3] => { results := [.lit (.bool true)], args := [d1, d2, d3] }
  | _ => none }
def bidShapleyRow : OpenClaim := { program := "ytadonoacmpkolaa", sum := "c8c46118a8824b37a71b103088e8cec8f7f5fddf92e66d6847617811b85163ab", func := "squeegee/squeegeelaw08.BidShapley", spec := "bidShapley", unfollowed := true, recurses := true, apart := false }
def BidShapleySaid : Prop := bidShapleyRow.holds Try.pinned (OpenSpec.ofChange bidShapleySpec)

/-- ITS FALSE NEIGHBOUR: 'it returns false'. Refute it at one input. -/
def bidShapleyWrong : ChangeSpec := { name := "bidShapley", fn := fun _ => fun
  | [d1, d2, d3] => { results := [.lit (.bool false)], args := [d1, d2, d3] }
  | _ => none }
def BidShapleyWrongFalsely : Prop := bidShapleyRow.holds Try.pinned (OpenSpec.ofChange bidShapleyWrong)

/-- 'squeegeelaw08.BidClears': WHATEVER THE INPUT: true; the input reads as it did. -/
def bidClearsSpec : ChangeSpec := { name := "bidClears", fn := fun _ => fun
  | [d1, d2, d3] => { results := [.lit (.bool true)], args := [d1, d2, d3] }
  | _ => none }
def bidClearsRow : OpenClaim := { program := "ytadonoacmpkolaa", sum := "c8c46118a8824b37a71b103088e8cec8f7f5fddf92e66d6847617811b85163ab", func := "squeegee/squeegeelaw08.BidClears", spec := "bidClears", unfollowed := true, recurses := true, apart := false }
def BidClearsSaid : Prop := bidClearsRow.holds Try.pinned (OpenSpec.ofChange bidClearsSpec)

/-- ITS FALSE NEIGHBOUR: 'it returns false'. Refute it at one input. -/
def bidClearsWrong : ChangeSpec := { name := "bidClears", fn := fun _ => fun
  | [d1, d2, d3] => { results := [.lit (.bool false)], args := [d1, d2, d3] }
  | _ => none }
def BidClearsWrongFalsely : Prop := bidClearsRow.holds Try.pinned (OpenSpec.ofChange bidClearsWrong)

/-- 'squeegeelaw08.BidChecks': WHATEVER THE INPUT: true; the input reads as it did. -/
def bidChecksSpec : ChangeSpec := { name := "bidChecks", fn := fun _ => fun
  | [d1, d2, d3] => { results := [.lit (.bool true)], args := [d1, d2, d3] }
  | _ => none }
def bidChecksRow : OpenClaim := { program := "ytadonoacmpkolaa", sum := "c8c46118a8824b37a71b103088e8cec8f7f5fddf92e66d6847617811b85163ab", func := "squeegee/squeegeelaw08.BidChecks", spec := "bidChecks", unfollowed := true, recurses := true, apart := false }
def BidChecksSaid : Prop := bidChecksRow.holds Try.pinned (OpenSpec.ofChange bidChecksSpec)

/-- ITS FALSE NEIGHBOUR: 'it returns false'. Refute it at one input. -/
def bidChecksWrong : ChangeSpec := { name := "bidChecks", fn := fun _ => fun
  | [d1, d2, d3] => { results := [.lit (.bool false)], args := [d1, d2, d3] }
  | _ => none }
def BidChecksWrongFalsely : Prop := bidChecksRow.holds Try.pinned (OpenSpec.ofChange bidChecksWrong)

/- THE SECOND FORM. 'bulk': how many values and letters a reading holds, each counted each time it is reached (what is shared counts as often as it is met; a slice's spare places count too). A statement '..UptoSaid' is the law's where the arguments, and the package variables that the reading takes, are together of bulk at most 1048576: NARROWER than '..Said'. Prove '..Said' where nothing that the law and all that it calls make is longer than what came in: it says more and counts as full. Else prove '..UptoSaid'. A law counts once. -/
mutual
def uptoBulk {H : Type} : DataW H → Nat
  | .lit (.string bytes) => bytes.length + 1
  | .lit _ => 1
  | .nil => 1
  | .ptr d => uptoBulk d + 1
  | .slice elems spare => uptoBulkAll elems + uptoBulkAll spare + 1
  | .agg parts => uptoBulkAll parts + 1
  | .iface _ d => uptoBulk d + 1
  | .map entries => uptoBulkEntries entries + 1
  | .held _ => 1
def uptoBulkAll {H : Type} : List (DataW H) → Nat
  | [] => 0
  | d :: r => uptoBulk d + uptoBulkAll r
def uptoBulkEntries {H : Type} : List (Lit × DataW H) → Nat
  | [] => 0
  | x :: r => uptoBulkEntry x + uptoBulkEntries r
def uptoBulkEntry {H : Type} : Lit × DataW H → Nat
  | (.string bytes, d) => bytes.length + uptoBulk d + 1
  | (_, d) => uptoBulk d + 1
 end
def uptoSmall : (H : Type) → List (DataW H) → Bool := fun _ ds => decide (uptoBulkAll ds ≤ 1048576)
def OpenSpec.upto (s : _root_.Go.ChangeSpec) : _root_.Go.OpenSpec := { _root_.Go.OpenSpec.ofChange s with cond := some uptoSmall }

/-- 'squeegeelaw08.BidSingles', WHERE WHAT IT READS IS OF BULK AT MOST 1048576: true; the input reads as it did. -/
def bidSinglesUptoRow : OpenClaim := { program := "ytadonoacmpkolaa", sum := "c8c46118a8824b37a71b103088e8cec8f7f5fddf92e66d6847617811b85163ab", func := "squeegee/squeegeelaw08.BidSingles", spec := "bidSingles", unfollowed := true, recurses := true, apart := false, narrowed := true }
def BidSinglesUptoSaid : Prop := bidSinglesUptoRow.holds Try.pinned (OpenSpec.upto bidSinglesSpec)

/-- 'squeegeelaw08.BidSeconds', WHERE WHAT IT READS IS OF BULK AT MOST 1048576: true; the input reads as it did. -/
def bidSecondsUptoRow : OpenClaim := { program := "ytadonoacmpkolaa", sum := "c8c46118a8824b37a71b103088e8cec8f7f5fddf92e66d6847617811b85163ab", func := "squeegee/squeegeelaw08.BidSeconds", spec := "bidSeconds", unfollowed := true, recurses := true, apart := false, narrowed := true }
def BidSecondsUptoSaid : Prop := bidSecondsUptoRow.holds Try.pinned (OpenSpec.upto bidSecondsSpec)

/-- 'squeegeelaw08.BidBest', WHERE WHAT IT READS IS OF BULK AT MOST 1048576: true; the input reads as it did. -/
def bidBestUptoRow : OpenClaim := { program := "ytadonoacmpkolaa", sum := "c8c46118a8824b37a71b103088e8cec8f7f5fddf92e66d6847617811b85163ab", func := "squeegee/squeegeelaw08.BidBest", spec := "bidBest", unfollowed := true, recurses := true, apart := false, narrowed := true }
def BidBestUptoSaid : Prop := bidBestUptoRow.holds Try.pinned (OpenSpec.upto bidBestSpec)

/-- 'squeegeelaw08.BidGains', WHERE WHAT IT READS IS OF BULK AT MOST 1048576: true; the input reads as it did. -/
def bidGainsUptoRow : OpenClaim := { program := "ytadonoacmpkolaa", sum := "c8c46118a8824b37a71b103088e8cec8f7f5fddf92e66d6847617811b85163ab", func := "squeegee/squeegeelaw08.BidGains", spec := "bidGains", unfollowed := true, recurses := true, apart := false, narrowed := true }
def BidGainsUptoSaid : Prop := bidGainsUptoRow.holds Try.pinned (OpenSpec.upto bidGainsSpec)

/-- 'squeegeelaw08.BidCores', WHERE WHAT IT READS IS OF BULK AT MOST 1048576: true; the input reads as it did. -/
def bidCoresUptoRow : OpenClaim := { program := "ytadonoacmpkolaa", sum := "c8c46118a8824b37a71b103088e8cec8f7f5fddf92e66d6847617811b85163ab", func := "squeegee/squeegeelaw08.BidCores", spec := "bidCores", unfollowed := true, recurses := true, apart := false, narrowed := true }
def BidCoresUptoSaid : Prop := bidCoresUptoRow.holds Try.pinned (OpenSpec.upto bidCoresSpec)

/-- 'squeegeelaw08.BidVickrey', WHERE WHAT IT READS IS OF BULK AT MOST 1048576: true; the input reads as it did. -/
def bidVickreyUptoRow : OpenClaim := { program := "ytadonoacmpkolaa", sum := "c8c46118a8824b37a71b103088e8cec8f7f5fddf92e66d6847617811b85163ab", func := "squeegee/squeegeelaw08.BidVickrey", spec := "bidVickrey", unfollowed := true, recurses := true, apart := false, narrowed := true }
def BidVickreyUptoSaid : Prop := bidVickreyUptoRow.holds Try.pinned (OpenSpec.upto bidVickreySpec)

/-- 'squeegeelaw08.BidWorth', WHERE WHAT IT READS IS OF BULK AT MOST 1048576: true; the input reads as it did. -/
def bidWorthUptoRow : OpenClaim := { program := "ytadonoacmpkolaa", sum := "c8c46118a8824b37a71b103088e8cec8f7f5fddf92e66d6847617811b85163ab", func := "squeegee/squeegeelaw08.BidWorth", spec := "bidWorth", unfollowed := true, recurses := true, apart := false, narrowed := true }
def BidWorthUptoSaid : Prop := bidWorthUptoRow.holds Try.pinned (OpenSpec.upto bidWorthSpec)

/-- 'squeegeelaw08.BidShapley', WHERE WHAT IT READS IS OF BULK AT MOST 1048576: true; the input reads as it did. -/
def bidShapleyUptoRow : OpenClaim := { program := "ytadonoacmpkolaa", sum := "c8c46118a8824b37a71b103088e8cec8f7f5fddf92e66d6847617811b85163ab", func := "squeegee/squeegeelaw08.BidShapley", spec := "bidShapley", unfollowed := true, recurses := true, apart := false, narrowed := true }
def BidShapleyUptoSaid : Prop := bidShapleyUptoRow.holds Try.pinned (OpenSpec.upto bidShapleySpec)

/-- 'squeegeelaw08.BidClears', WHERE WHAT IT READS IS OF BULK AT MOST 1048576: true; the input reads as it did. -/
def bidClearsUptoRow : OpenClaim := { program := "ytadonoacmpkolaa", sum := "c8c46118a8824b37a71b103088e8cec8f7f5fddf92e66d6847617811b85163ab", func := "squeegee/squeegeelaw08.BidClears", spec := "bidClears", unfollowed := true, recurses := true, apart := false, narrowed := true }
def BidClearsUptoSaid : Prop := bidClearsUptoRow.holds Try.pinned (OpenSpec.upto bidClearsSpec)

/-- 'squeegeelaw08.BidChecks', WHERE WHAT IT READS IS OF BULK AT MOST 1048576: true; the input reads as it did. -/
def bidChecksUptoRow : OpenClaim := { program := "ytadonoacmpkolaa", sum := "c8c46118a8824b37a71b103088e8cec8f7f5fddf92e66d6847617811b85163ab", func := "squeegee/squeegeelaw08.BidChecks", spec := "bidChecks", unfollowed := true, recurses := true, apart := false, narrowed := true }
def BidChecksUptoSaid : Prop := bidChecksUptoRow.holds Try.pinned (OpenSpec.upto bidChecksSpec)

end Rows
end Go.Proofs.Ytadonoacmpkolaa
