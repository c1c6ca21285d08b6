/- The rules of a head, one after the other: the iterator. No condition. -/
import Derived.RangeFuncNested
import Derived.RangeFuncBound
import Derived.RangeFuncCalls
import Derived.RangeFuncLeaves
import Derived.Shelf.Abstract
import Derived.Shelf.RegionOpen
import Derived.OwnWalkIn
import Derived.TacticsInMore
import Derived.LoopNIn
import Derived.LoopIn
import Derived.Test.YtaapnflhjbdmlaaDoorW7
import Derived.Test.YtaapnflhjbdmlaaDoorGX
namespace Go.Proofs.YtaapnflhjbdmlaaDoor
open Go.RowKit Go.Shelf
attribute [local go_sem] Oper.semAt_some

def isHead (l : List RuleB) (p t : Int) (i : Nat) : Bool := (rAt l i).fr == p && (rAt l i).top == t
/-- the rules of a head among the first k, with their indices -/
def rulesTo (l : List RuleB) (p t : Int) (k : Nat) : List (Nat × RuleB) := ((List.range k).filter (isHead l p t)).map fun i => (i, rAt l i)
theorem rulesTo_succ (l : List RuleB) (p t : Int) (k : Nat) : rulesTo l p t (k + 1) = if isHead l p t k = true then rulesTo l p t k ++ [(k, rAt l k)] else rulesTo l p t k := by
  unfold rulesTo
  rw [List.range_succ, List.filter_append]
  by_cases h : isHead l p t k = true
  · simp [h]
  · simp [h]
theorem rulesTo_len (l : List RuleB) (p t : Int) (k : Nat) : (rulesTo l p t k).length ≤ k := by
  unfold rulesTo
  rw [List.length_map]
  have := List.length_filter_le (isHead l p t) (List.range k)
  rwa [List.length_range] at this
/-- the blocks are as they were -/
def keepBs (bs : List Nat) (W W' : World) : Prop := ∀ b ∈ bs, W'.heap[b]? = W.heap[b]?
theorem keepBs.refl (bs : List Nat) (W : World) : keepBs bs W W := fun _ _ => rfl
theorem keepBs.trans {bs : List Nat} {A B D : World} (h : keepBs bs A B) (h2 : keepBs bs B D) : keepBs bs A D := fun b hb => (h2 b hb).trans (h b hb)
theorem keepBs.cell {bs : List Nat} {W W' : World} (h : keepBs bs W W') {p : Addr} {v : Value} (hb : p.block ∈ bs) (hc : W.cell? p = some v) : W'.cell? p = some v := (World.cell?_of_block (h p.block hb)).trans hc
theorem keepBs.lt {bs : List Nat} {W W' : World} (h : keepBs bs W W') (hlt : ∀ b ∈ bs, b < W.heap.size) : ∀ b ∈ bs, b < W'.heap.size := fun b hb => by
  have h1 := h b hb
  rw [Array.getElem?_eq_getElem (hlt b hb)] at h1
  exact (Array.getElem?_eq_some_iff.1 h1).1
theorem keepBs.alloc {bs : List Nat} {W W' : World} (h : keepBs bs W W') (o : Obj) (hlt : ∀ b ∈ bs, b < W.heap.size) : keepBs bs W (W'.alloc o) := fun b hb => (Below.heap_alloc _ o b (h.lt hlt b hb)).trans (h b hb)
/-- a rule with its index, that puts at most two letters -/
abbrev RB := { x : Nat × RuleB // x.2.put.size ≤ 2 }
def encIR (x : RB) : Array Value := #[.int .i64 (x.1.1 : Int), rv x.1.2]
def headBs (Bs Bc Bt Br : Nat) : List Nat := [Bs, Bc, Bt, Br]
theorem Rls.block {w : World} {A : Option Addr} {n cap : Nat} {l : List RuleB} (h : Rls w (.slice A n cap) l) (B : Nat) (hB : B < w.heap.size) : ∃ Br, Br < w.heap.size ∧ (0 < l.length → ∃ off, A = some ⟨Br, off, none⟩) := by
  by_cases h0 : 0 < l.length
  · obtain ⟨b, off, e, hc, _⟩ := Rls.at h h0
    exact ⟨b, lt_of_cell hc, fun _ => ⟨off, e⟩⟩
  · exact ⟨B, hB, fun h => absurd h h0⟩

set_option maxHeartbeats 2000000 in
theorem rules1_stops (l : List RuleB) (p t : Int) (A : Option Addr) (n cap Bs Bc Bt Br m : Nat) (hm : 1 ≤ m) (w : World) (hs : w.cell? ⟨Bs, 1, none⟩ = some (.slice A n cap)) (hp : w.cell? ⟨Bc, 0, none⟩ = some (.int .i64 p)) (ht : w.cell? ⟨Bt, 0, none⟩ = some (.int .u8 t))
    (hr : Rls w (.slice A n cap) l) (hl : l.length ≤ 30) (hput : ∀ r ∈ l, r.put.size ≤ 2) (hBr : Br < w.heap.size) (hBr2 : 0 < l.length → ∃ off, A = some ⟨Br, off, none⟩) :
    SeqStopsK Fence.wide m Tryd.prog 46 #[.pointer (some ⟨Bs, 0, none⟩), .pointer (some ⟨Bc, 0, none⟩), .pointer (some ⟨Bt, 0, none⟩)] encIR (keepBs (headBs Bs Bc Bt Br)) (fun xs => xs.map (·.1) = rulesTo l p t l.length) (fun _ => True) 31 w := fun ll J Jx W hW hAb _ hY h0 => by
  refine callsIn_of_wp Tryd.func46 rfl trivial ?_ rfl
  simp only [Tryd.ntmps46, List.size_toArray, List.length_cons, List.length_nil, Nat.reduceAdd, Nat.reduceSub, Array.replicate_succ, Array.replicate_zero, List.push_toArray, List.append_toArray, List.nil_append, List.cons_append]
  replace hs := cell_below hs hW
  replace hp := cell_below hp hW
  replace ht := cell_below ht hW
  replace hr : Rls W (.slice A n cap) l := Els.then hr hW
  obtain ⟨hn2, hcap, hmax⟩ := Els.len hr
  unfold maxLen at hmax
  have hn := Lib.hid hn2
  have hat := Lib.hid (fun i (hi : i < l.length) => Rls.at hr hi)
  have hlt : ∀ b ∈ headBs Bs Bc Bt Br, b < W.heap.size := by
    intro b hb
    simp only [headBs, List.mem_cons, List.mem_nil_iff, or_false] at hb
    rcases hb with rfl | rfl | rfl | rfl
    · exact lt_of_cell hs
    · exact lt_of_cell hp
    · exact lt_of_cell ht
    · have := hW.size; omega
  replace hlt := Lib.hid hlt
  replace hY := Lib.hid hY
  replace hAb := Lib.hid hAb
  clear hn2 hr
  gi_wp2
  gi_loopw [10] (fun c wr => ∃ (i : Nat) (pre : List RB), i ≤ n ∧ c = .int .i64 (i : Int) ∧ Hid (pre.map (·.1) = rulesTo l p t i) ∧ Hid (J pre wr) ∧ Hid (keepBs (headBs Bs Bc Bt Br) W wr))
    (fun c wr => n - (intOf c).toNat)
  case atStart => exact ⟨0, [], Nat.zero_le _, rfl, rfl, h0, keepBs.refl _ _⟩
  case round =>
    obtain ⟨i, pre, hi, rfl, hpre, hJ, hK⟩ := hrel
    have cs := hK.out.cell (by simp [headBs]) hs
    have cp := hK.out.cell (by simp [headBs]) hp
    have ct := hK.out.cell (by simp [headBs]) ht
    by_cases hlti : i < n
    case neg =>
      obtain rfl : i = n := by omega
      have hfin := Lib.hid (show pre.map (·.1) = rulesTo l p t l.length by rw [hpre.out, hn.out])
      gi_wp2
      go_end0
      exact ⟨⟨_, rfl⟩, .inl ⟨_, hfin.out, hJ.out⟩⟩
    have hil : i < l.length := by have := hn.out; omega
    obtain ⟨off, rfl⟩ := hBr2 (by omega)
    obtain ⟨b', off', e, q0, q1, q2, q3⟩ := hat.out i hil
    cases e
    replace q0 := hK.out.cell (by simp [headBs]) q0
    replace q1 := hK.out.cell (by simp [headBs]) q1
    replace q2 := hK.out.cell (by simp [headBs]) q2
    replace q3 := hK.out.cell (by simp [headBs]) q3
    have hsucc := Lib.hid (rulesTo_succ l p t i)
    have hih : Hid (isHead l p t i = ((rAt l i).fr == p && (rAt l i).top == t)) := rfl
    have hplen : pre.length < 31 := by have h1 := congrArg List.length hpre.out; rw [List.length_map] at h1; have := rulesTo_len l p t i; omega
    have hpu := hput (rAt l i) (by rw [rAt_eq hil]; exact List.getElem_mem hil)
    generalize rAt l i = r at *
    obtain ⟨f, tt, o, s⟩ := r
    dsimp only at q0 q1 q2 q3 hpu
    have hih := Lib.hid (show isHead l p t i = (f == p && tt == t) from hih.out)
    have hJ1 := Lib.hid (hAb.out pre wr (wr.alloc (.cells #[.int .i64 f, .int .u8 tt, .int .i64 o, .string s] 63)) none hJ.out (World.grownBy_alloc _ _ none) (by intro r e; cases e))
    have hK1 := Lib.hid (hK.out.alloc (.cells #[.int .i64 f, .int .u8 tt, .int .i64 o, .string s] 63) hlt.out)
    have ap := fun o => cell_below cp (below1 wr o)
    have at' := fun o => cell_below ct (below1 wr o)
    by_cases h1 : f = p
    case neg =>
      have hn1 := Lib.hid (show rulesTo l p t (i + 1) = rulesTo l p t i by rw [hsucc.out, if_neg]; rw [hih.out]; simp [h1])
      have h1' : (f == p) = false := by simp [h1]
      gi_wp2
      refine ⟨(by intro f hf; cases hf), ?_⟩
      gi_wp2
      go_roundw
      case rel => exact ⟨i + 1, pre, by omega, by go_num, Lib.hid (by rw [hn1.out]; exact hpre.out), hJ1, hK1⟩
      case measure => simp [intOf]; omega
    subst h1
    by_cases h2 : tt = t
    case neg =>
      have h2h := Lib.hid h2
      have hn1 := Lib.hid (show rulesTo l f t (i + 1) = rulesTo l f t i by rw [hsucc.out, if_neg]; rw [hih.out]; simp [h2])
      have h2' : (tt == t) = false := by simp [h2]
      gi_wp2
      refine ⟨(by intro f hf; cases hf), ?_⟩
      gi_wp2
      go_roundw
      case rel => exact ⟨i + 1, pre, by omega, by go_num, Lib.hid (by rw [hn1.out]; exact hpre.out), hJ1, hK1⟩
      case measure => simp [intOf]; omega
    subst h2
    have hn1 := Lib.hid (show rulesTo l f tt (i + 1) = pre.map (·.1) ++ [(i, ⟨f, tt, o, s⟩)] by rw [hsucc.out, if_pos, hpre.out]; rw [hih.out]; simp)
    obtain ⟨fn, tmps, assign, body, hy, hR⟩ := hY.out pre ⟨(i, ⟨f, tt, o, s⟩), hpu⟩ _ hJ1.out hplen
    dsimp only [encIR] at hy
    gi_wp2
    refine hR.mono ?_
    rintro e W3 (⟨rfl, hJ3, hk3⟩ | ⟨rfl, hJx3⟩)
    · have hK3 := Lib.hid (hK1.out.trans hk3)
      gi_wp2
      go_roundw
      case rel => exact ⟨i + 1, _, by omega, by go_num, Lib.hid (by rw [List.map_append]; exact hn1.out.symm), hJ3, hK3⟩
      case measure => simp [intOf]; omega
    · gi_wp2
      refine bodyPost_ret (results_none rfl _ _ _) rfl ?_
      exact ⟨⟨_, rfl⟩, .inr ⟨_, trivial, hJx3⟩⟩

set_option maxHeartbeats 400000 in
theorem rules_any (w : World) (C : Int) (A : Option Addr) (n cap : Nat) (p t : Int) :
    Calls Tryd.prog 28 #[sv C (.slice A n cap), .int .i64 p, .int .u8 t] w fun e w' => e = .returned (.func (.func 46) #[] #[.pointer (some ⟨w.heap.size, 0, none⟩), .pointer (some ⟨w.heap.size + 1, 0, none⟩), .pointer (some ⟨w.heap.size + 1 + 1, 0, none⟩)]) ∧
      ((w.alloc (.cells #[.int .i64 C, .slice A n cap] 38)).alloc (.cells #[.int .i64 p] 3)).alloc (.cells #[.int .u8 t] 5) = w' := by
  go_enter Tryd.func28, Tryd.ntmps28
  go_wp2
  go_ret
  exact ⟨rfl, rfl⟩
end Go.Proofs.YtaapnflhjbdmlaaDoor
