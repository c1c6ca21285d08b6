/- slices.Index, slices.Contains at points; cups.Check. No condition. -/
import Derived.Test.YthnabheibacbcaaC1
namespace Go.Proofs.Ythnabheibacbcaa
open Go.RowKit
attribute [local go_sem high] eql22

/-- the first index from k on (n places) at which p is true, else -1 -/
def firstFrom (p : Nat → Bool) : Nat → Nat → Int
  | _, 0 => -1
  | k, n + 1 => if p k then (k : Int) else firstFrom p (k + 1) n
theorem firstFrom_any (p : Nat → Bool) (n : Nat) : ∀ k, decide (0 ≤ firstFrom p k n) = (List.range n).any (fun j => p (k + j)) := by
  induction n with
  | zero => intro k; rfl
  | succ n ih =>
    intro k
    rw [firstFrom, List.range_succ_eq_map, List.any_cons, List.any_map]
    by_cases h : p k
    · rw [if_pos h]; simp [h]
    · rw [if_neg h, ih]
      simp only [Nat.add_zero, Function.comp_def]
      rw [show p k = false by simpa using h, Bool.false_or]
      congr 1
      funext j
      congr 1
      omega
theorem cell_below {w w' : World} {p : Addr} {c : Value} (h : w.cell? p = some c) (hb : Below w.heap.size w w') : w'.cell? p = some c := by rw [hb.cell (lt_of_cell h)]; exact h
def eqPt (a b : Pt) : Bool := decide (a = b)
theorem eqPt_iff (a1 a2 b1 b2 : Int) : eqPt (a1, a2) (b1, b2) = (a1 == b1 && a2 == b2) := by
  unfold eqPt; rw [Bool.eq_iff_iff]; simp

set_option maxHeartbeats 400000 in
theorem index_any (w : World) (v : Value) (l : List Pt) (x y : Int) (h : Pts w v l) :
    Calls Try.prog 88 #[v, .agg #[.int .i64 x, .int .i64 y]] w fun e w' => e = .returned (.int .i64 (firstFrom (fun i => eqPt (x, y) (ptA l i)) 0 l.length)) ∧ Below w.heap.size w w' := by
  obtain ⟨W, hW⟩ : ∃ W, w.alloc (.cells #[I x, I y] 22) = W := ⟨_, rfl⟩
  have hB : Below w.heap.size w W := by rw [← hW]; exact below1 _ _
  have k1 : Blk W w.heap.size 22 #[I x, I y] := by rw [← hW]; exact Blk.new w 22 _
  replace h := h.then hB
  obtain ⟨A, cap, rfl, hl, hcap, hn, hat⟩ := h.open
  obtain ⟨p1, p2⟩ := k1.two
  replace hat := Lib.hid hat
  replace hB := Lib.hid hB
  clear hn h k1
  unfold maxLen at hcap
  go_enter Try.func88, Try.ntmps88
  go_wp2
  go_loopw [8] (fun i wr => ∃ k : Nat, k ≤ l.length ∧ i = .int .i64 k ∧ Hid (firstFrom (fun i => eqPt (x, y) (ptA l i)) 0 l.length = firstFrom (fun i => eqPt (x, y) (ptA l i)) k (l.length - k)) ∧ Hid (Below W.heap.size W wr)) (fun i _ => l.length - (intOf i).toNat)
  case atStart => exact ⟨0, Nat.zero_le _, rfl, rfl, Below.refl _ _⟩
  case round =>
    obtain ⟨k, hk, rfl, ht, hBW⟩ := hrel
    by_cases hlt : k < l.length
    · obtain ⟨b, off, rfl, q1, q2⟩ := hat.out k hlt
      replace q1 := cell_below q1 hBW.out
      replace q2 := cell_below q2 hBW.out
      replace p1 := cell_below p1 hBW.out
      replace p2 := cell_below p2 hBW.out
      have hs : Hid (l.length - k = (l.length - (k + 1)) + 1) := by unfold Hid; omega
      generalize hp : ptA l k = p at *
      obtain ⟨x2, y2⟩ := p
      dsimp only at q1 q2
      by_cases hp2 : (x == x2 && y == y2) = true
      · have hr := Lib.hid (show firstFrom (fun i => eqPt (x, y) (ptA l i)) 0 l.length = (k : Int) by rw [ht.out, hs.out, firstFrom, if_pos (by rw [hp, eqPt_iff, hp2])])
        go_wp2
        go_quiet (fail)
        go_wp2
        go_ret
        exact ⟨ret_int hr.out.symm, bthen hB.out (below_drewN hBW.out _)⟩
      · have hr := Lib.hid (show firstFrom (fun i => eqPt (x, y) (ptA l i)) 0 l.length = firstFrom (fun i => eqPt (x, y) (ptA l i)) (k + 1) (l.length - (k + 1)) by rw [ht.out, hs.out, firstFrom, if_neg (by rw [hp, eqPt_iff]; exact hp2)])
        replace hp2 : (x == x2 && y == y2) = false := by simpa using hp2
        go_wp2
        go_quiet (fail)
        go_wp2
        go_roundw
        case rel => exact ⟨k + 1, by omega, by go_num, hr, below_drewN hBW.out _⟩
        case measure => simp [intOf]; omega
    · obtain rfl : k = l.length := by omega
      have hr := Lib.hid (show firstFrom (fun i => eqPt (x, y) (ptA l i)) 0 l.length = -1 by rw [ht.out, Nat.sub_self, firstFrom])
      go_wp2
      go_ret
      exact ⟨ret_int hr.out.symm, bthen hB.out hBW.out⟩

/-- slices.Contains -/
def hasPt (l : List Pt) (p : Pt) : Bool := l.any fun q => eqPt p q
theorem any_ptA (f : Pt → Bool) (l : List Pt) : (List.range l.length).any (fun j => f (ptA l j)) = l.any f := by
  rw [Bool.eq_iff_iff, List.any_eq_true, List.any_eq_true]
  constructor
  · rintro ⟨j, hj, h⟩
    have hj := List.mem_range.1 hj
    exact ⟨l[j], List.getElem_mem hj, by rw [← ptA_eq hj]; exact h⟩
  · rintro ⟨x, hx, h⟩
    obtain ⟨j, hj, rfl⟩ := List.getElem_of_mem hx
    exact ⟨j, List.mem_range.2 hj, by rw [ptA_eq hj]; exact h⟩

set_option maxHeartbeats 400000 in
theorem contains_any (w : World) (v : Value) (l : List Pt) (x y : Int) (h : Pts w v l) :
    Calls Try.prog 70 #[v, .agg #[.int .i64 x, .int .i64 y]] w fun e w' => e = .returned (.bool (hasPt l (x, y))) ∧ Below w.heap.size w w' := by
  obtain ⟨W, hW⟩ : ∃ W, w.alloc (.cells #[I x, I y] 22) = W := ⟨_, rfl⟩
  have hB : Below w.heap.size w W := by rw [← hW]; exact below1 _ _
  have k1 : Blk W w.heap.size 22 #[I x, I y] := by rw [← hW]; exact Blk.new w 22 _
  have H := Lib.hid (index_any W v l x y (h.then hB))
  have hr := Lib.hid (show decide (0 ≤ firstFrom (fun i => eqPt (x, y) (ptA l i)) 0 l.length) = hasPt l (x, y) by rw [firstFrom_any]; simp only [Nat.zero_add]; exact any_ptA (eqPt (x, y)) l)
  obtain ⟨p1, p2⟩ := k1.two
  replace hB := Lib.hid hB
  clear h k1
  generalize firstFrom (fun i => eqPt (x, y) (ptA l i)) 0 l.length = r at H hr
  go_enter Try.func70, Try.ntmps70
  go_wp2_with (go_at_call 88; refine H.out.mono ?_; rintro e w1 ⟨rfl, hb⟩; replace hb := Lib.hid hb)
  go_ret
  exact ⟨ret_bool hr.out, bthen hB.out hb.out⟩
end Go.Proofs.Ythnabheibacbcaa
