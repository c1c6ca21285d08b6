/- The bundles within a bundle: the iterator. -/
import Derived.RangeFuncNested
import Derived.RangeFuncBound
import Derived.RangeFuncCalls
import Derived.RangeFuncLeaves
import Derived.Shelf.Abstract
import Derived.Shelf.RegionOpen
import Derived.OwnWalkIn
import Derived.TacticsInMore
import Derived.LoopNIn
import Derived.LoopIn
import Derived.Test.YtadonoacmpkolaaW5
namespace Go.Proofs.Ytadonoacmpkolaa
open Go.RowKit Go.Shelf
attribute [local go_sem] Oper.semAt_some
attribute [local go_sem high] walk_shl walk_shr walk_bit walk_rem walk_and walk_or walk_andNot

/-! ### the order in which they come -/
def nextSub (s set : Nat) : Nat := (18446744073709551616 + s - set) % 18446744073709551616 &&& set
/-- the bundles from s on, at most f of them -/
def chainFrom (set : Nat) : Nat → Nat → List Nat
  | 0, _ => []
  | f + 1, s => s :: if s = set then [] else chainFrom set f (nextSub s set)
def endsFrom (set : Nat) : Nat → Nat → Bool
  | 0, _ => false
  | f + 1, s => s == set || endsFrom set f (nextSub s set)
/-- the bundles within set, rising -/
def subs (set : Nat) : List Nat := (List.range (set + 1)).filter fun s => s &&& set == s

theorem chain_ok : ∀ set, set < 64 → chainFrom set 64 0 = subs set ∧ endsFrom set 64 0 = true := by decide +kernel
theorem next_lt : ∀ set, set < 64 → ∀ s, s < 64 → s &&& set = s → s ≠ set → s < nextSub s set := by decide +kernel
theorem sub_walk (s set : Nat) (_ : s ≤ set) (hset : set < 64) : bits .and .i64 ((s : Int) - (set : Int)) (set : Int) = ((nextSub s set : Nat) : Int) := by
  have hx : nextSub s set ≤ set := Nat.and_le_right
  show IntKind.i64.wrap ((BitVec.ofInt 64 ((s : Int) - (set : Int)) &&& BitVec.ofInt 64 (set : Int)).toNat : Int) = _
  have e : (BitVec.ofInt 64 ((s : Int) - (set : Int))).toNat = (18446744073709551616 + s - set) % 18446744073709551616 := by
    rw [BitVec.toNat_ofInt]
    have : (((2 : Int) ^ 64 : Int)) = 18446744073709551616 := by decide
    omega
  rw [BitVec.toNat_and, e, ofInt64 set (by omega)]
  exact wrap_small _ (by omega) (by unfold nextSub at hx; omega)
theorem nextSub_le (s set : Nat) : nextSub s set ≤ set := Nat.and_le_right
theorem nextSub_sub (s set : Nat) : nextSub s set &&& set = nextSub s set := by unfold nextSub; rw [Nat.and_assoc, Nat.and_self]
theorem sub_le {s set : Nat} (h : s &&& set = s) : s ≤ set := by rw [← h]; exact Nat.and_le_right

/-- block b is as it was -/
def keepB (b : Nat) (W W' : World) : Prop := W'.heap[b]? = W.heap[b]?

abbrev Sb (set : Nat) := { s : Nat // s &&& set = s }
def encSb (set : Nat) (s : Sb set) : Array Value := #[.int .i64 (s.1 : Int)]

set_option maxHeartbeats 1000000 in
theorem within1_stops (set : Nat) (hset : set < 64) (n Bn : Nat) (hn : 1 ≤ n) (w : World) (hw : w.cell? ⟨Bn, 0, none⟩ = some (.int .i64 (set : Int))) :
    SeqStopsK Fence.wide n Try.prog 74 #[.pointer (some ⟨Bn, 0, none⟩)] (encSb set) (keepB Bn) (fun xs => xs.map (·.1) = subs set) (fun _ => True) 64 w := fun l J Jx W hW _ _ hY h0 => by
  refine callsIn_of_wp Try.func74 rfl trivial ?_ rfl
  simp only [Try.ntmps74, List.size_toArray, List.length_cons, List.length_nil, Nat.reduceAdd, Nat.reduceSub, Array.replicate_succ, Array.replicate_zero, List.push_toArray, List.append_toArray, List.nil_append, List.cons_append]
  have hc0 : W.cell? ⟨Bn, 0, none⟩ = some (.int .i64 (set : Int)) := (hW.cell (p := ⟨Bn, 0, none⟩) (lt_of_cell hw)).trans hw
  obtain ⟨hch, hen⟩ := chain_ok set hset
  replace hch := Lib.hid hch
  replace hen := Lib.hid hen
  replace hY := Lib.hid hY
  replace hw := Lib.hid hw
  gi_wp2
  gi_loopw [3] (fun p wr => ∃ (pre : List (Sb set)) (s f : Nat), s &&& set = s ∧ p = .int .i64 (s : Int) ∧ Hid (pre.map (·.1) ++ chainFrom set f s = subs set) ∧ Hid (endsFrom set f s = true) ∧ pre.length + f ≤ 64 ∧ J pre wr ∧ wr.cell? ⟨Bn, 0, none⟩ = some (.int .i64 (set : Int)))
    (fun p wr => 64 - (intOf p).toNat)
  case atStart => exact ⟨[], 0, 64, Nat.zero_and _, rfl, hch, hen, Nat.le_refl _, h0, hc0⟩
  case round =>
    obtain ⟨pre, s, f, hs, rfl, hc, he, hl, hJ, hcell⟩ := hrel
    cases f with
    | zero => cases he.out
    | succ f =>
      obtain ⟨fn, tmps, assign, body, hy, hR⟩ := hY.out pre ⟨s, hs⟩ wr hJ (by omega)
      dsimp only [encSb] at hy
      have hsle := sub_le hs
      by_cases hse : s = set
      · have hne : ((s : Int) != (set : Int)) = false := by simp [hse]
        have hd := Lib.hid (show (pre ++ [(⟨s, hs⟩ : Sb set)]).map (·.1) = subs set by rw [← hc.out, chainFrom, if_pos hse]; simp)
        replace hse := Lib.hid hse
        replace hs := Lib.hid hs
        gi_wp2
        refine hR.mono ?_
        rintro e W3 (⟨rfl, hJ3, hk3⟩ | ⟨rfl, hJx3⟩)
        · have hcell3 : W3.cell? ⟨Bn, 0, none⟩ = some (.int .i64 (set : Int)) := (World.cell?_of_block (a := ⟨Bn, 0, none⟩) hk3).trans hcell
          gi_wp2
          go_end0
          exact ⟨⟨_, rfl⟩, .inl ⟨_, hd.out, hJ3⟩⟩
        · gi_wp2
          go_end0
          exact ⟨⟨_, rfl⟩, .inr ⟨_, trivial, hJx3⟩⟩
      · have hne : ((s : Int) != (set : Int)) = true := by simp; omega
        have hlt := next_lt set hset s (by omega) hs hse
        have hle := nextSub_le s set
        have hw1 := sub_walk s set hsle hset
        have hd := Lib.hid (show (pre ++ [(⟨s, hs⟩ : Sb set)]).map (·.1) ++ chainFrom set f (nextSub s set) = subs set by rw [← hc.out, chainFrom, if_neg hse]; simp)
        have he2 := Lib.hid (show endsFrom set f (nextSub s set) = true by have := he.out; rw [endsFrom] at this; simpa [hse] using this)
        replace hse := Lib.hid hse
        replace hs := Lib.hid hs
        gi_wp2
        refine hR.mono ?_
        rintro e W3 (⟨rfl, hJ3, hk3⟩ | ⟨rfl, hJx3⟩)
        · have hcell3 : W3.cell? ⟨Bn, 0, none⟩ = some (.int .i64 (set : Int)) := (World.cell?_of_block (a := ⟨Bn, 0, none⟩) hk3).trans hcell
          gi_wp2
          go_roundw
          case rel => exact ⟨_, nextSub s set, f, nextSub_sub s set, rfl, hd, he2, by simp; omega, hJ3, hcell3⟩
          case measure => simp [intOf]; omega
        · gi_wp2
          go_end0
          exact ⟨⟨_, rfl⟩, .inr ⟨_, trivial, hJx3⟩⟩

set_option maxHeartbeats 400000 in
theorem within_any (w : World) (set : Nat) :
    Calls Try.prog 68 #[.int .i64 (set : Int)] w fun e w' => e = .returned (.func (.func 74) #[] #[.pointer (some ⟨w.heap.size, 0, none⟩)]) ∧ w.alloc (.cells #[.int .i64 (set : Int)] 3) = w' := by
  have hmf : ∀ (fn : Fn) (first cap : Array Value) (w : World), (Instr.makeFunc fn first cap).run Try.prog w = .ok (.func fn first cap) w := fun _ _ _ _ => rfl
  go_enter Try.func68, Try.ntmps68
  go_wp2
  go_ret
  exact ⟨rfl, rfl⟩

end Go.Proofs.Ytadonoacmpkolaa
