/- slices.Index, slices.Contains of rules; push.Check. No condition. -/
import Derived.Test.YtaapnflhjbdmlaaDoorW2
import Derived.Test.YtaapnflhjbdmlaaDoorEq
import Derived.Test.YtaapnflhjbdmlaaDoorGrow
namespace Go.Proofs.YtaapnflhjbdmlaaDoor
open Go.RowKit
attribute [local go_sem high] eql63 eql61

def hasR (l : List RuleB) (r : RuleB) : Bool := l.any fun s => eqR r s
/-- the first index from k on (n places) at which p is true, else -1 -/
def firstFrom (p : Nat → Bool) : Nat → Nat → Int
  | _, 0 => -1
  | k, n + 1 => if p k then (k : Int) else firstFrom p (k + 1) n
theorem firstFrom_any (p : Nat → Bool) (n : Nat) : ∀ k, decide (0 ≤ firstFrom p k n) = (List.range n).any (fun j => p (k + j)) := by
  induction n with
  | zero => intro k; rfl
  | succ n ih =>
    intro k
    rw [firstFrom, List.range_succ_eq_map, List.any_cons, List.any_map]
    by_cases h : p k
    · rw [if_pos h]; simp [h]
    · rw [if_neg h, ih]
      simp only [Nat.add_zero, Function.comp_def]
      rw [show p k = false by simpa using h, Bool.false_or]
      congr 1
      funext j
      congr 1
      omega
def rz : RuleB := ⟨0, 0, 0, ⟨#[]⟩⟩
def rAt (l : List RuleB) (i : Nat) : RuleB := l.getD i rz
theorem rAt_eq {l : List RuleB} {i : Nat} (h : i < l.length) : rAt l i = l[i] := by unfold rAt; simp [List.getD, h]
theorem any_rAt (p : RuleB → Bool) (l : List RuleB) : (List.range l.length).any (fun i => p (rAt l i)) = l.any p := by
  rw [Bool.eq_iff_iff, List.any_eq_true, List.any_eq_true]
  constructor
  · rintro ⟨i, hi, h⟩
    rw [List.mem_range] at hi
    rw [rAt_eq hi] at h
    exact ⟨_, List.getElem_mem hi, h⟩
  · rintro ⟨x, hx, h⟩
    obtain ⟨i, hi, rfl⟩ := List.getElem_of_mem hx
    exact ⟨i, List.mem_range.2 hi, by rw [rAt_eq hi]; exact h⟩
theorem Rls.at {w : World} {A : Option Addr} {n cap : Nat} {l : List RuleB} (h : Rls w (.slice A n cap) l) {i : Nat} (hi : i < l.length) : ∃ b off, A = some ⟨b, off, none⟩ ∧
    w.cell? ⟨b, off + i * 4, none⟩ = some (.int .i64 (rAt l i).fr) ∧ w.cell? ⟨b, off + i * 4 + 1, none⟩ = some (.int .u8 (rAt l i).top) ∧ w.cell? ⟨b, off + i * 4 + 2, none⟩ = some (.int .i64 (rAt l i).to) ∧ w.cell? ⟨b, off + i * 4 + 3, none⟩ = some (.string (rAt l i).put) := by
  obtain ⟨b, off, rfl, hc⟩ := Rls.cells h (by omega)
  rw [rAt_eq hi]
  exact ⟨b, off, rfl, hc i hi⟩
theorem Blk.four {w : World} {g t : Nat} {a b c d : Value} (h : Blk w g t #[a, b, c, d]) : w.cell? ⟨g, 0, none⟩ = some a ∧ w.cell? ⟨g, 1, none⟩ = some b ∧ w.cell? ⟨g, 2, none⟩ = some c ∧ w.cell? ⟨g, 3, none⟩ = some d :=
  ⟨h.cell 0, h.cell 1, h.cell 2, h.cell 3⟩
theorem Blk.two {w : World} {g t : Nat} {a b : Value} (h : Blk w g t #[a, b]) : w.cell? ⟨g, 0, none⟩ = some a ∧ w.cell? ⟨g, 1, none⟩ = some b := ⟨h.cell 0, h.cell 1⟩

set_option maxHeartbeats 1000000 in
theorem index_any (w : World) (v : Value) (l : List RuleB) (f t o : Int) (s : ByteArray) (h : Rls w v l) :
    Calls Tryd.prog 54 #[v, rv ⟨f, t, o, s⟩] w fun e w' => e = .returned (.int .i64 (firstFrom (fun i => eqR ⟨f, t, o, s⟩ (rAt l i)) 0 l.length)) ∧ Below w.heap.size w w' := by
  obtain ⟨W, hW⟩ : ∃ W, w.alloc (.cells #[.int .i64 f, .int .u8 t, .int .i64 o, .string s] 63) = W := ⟨_, rfl⟩
  have hB : Below w.heap.size w W := by rw [← hW]; exact below1 _ _
  have k1 : Blk W w.heap.size 63 #[.int .i64 f, .int .u8 t, .int .i64 o, .string s] := by rw [← hW]; exact Blk.new w 63 _
  replace h : Rls W v l := Els.then h hB
  obtain ⟨A, n, cap, rfl, hn⟩ := Els.shape h
  obtain ⟨hn2, hcap, hmax⟩ := Els.len h
  unfold maxLen at hmax
  obtain ⟨p0, p1, p2, p3⟩ := k1.four
  replace h := Lib.hid h
  replace hB := Lib.hid hB
  clear hn2 k1
  go_enter Tryd.func54, Tryd.ntmps54
  go_wp2
  go_loopw [8] (fun i wr => ∃ k : Nat, k ≤ n ∧ i = .int .i64 k ∧ Hid (firstFrom (fun i => eqR ⟨f, t, o, s⟩ (rAt l i)) 0 l.length = firstFrom (fun i => eqR ⟨f, t, o, s⟩ (rAt l i)) k (l.length - k)) ∧ Hid (Below W.heap.size W wr)) (fun i _ => n - (intOf i).toNat)
  case atStart => exact ⟨0, Nat.zero_le _, rfl, rfl, Below.refl _ _⟩
  case round =>
    obtain ⟨k, hk, rfl, ht, hBW⟩ := hrel
    by_cases hlt : k < n
    · have hkl : k < l.length := by have := hn.out; omega
      obtain ⟨b, off, rfl, q0, q1, q2, q3⟩ := Rls.at h.out hkl
      replace q0 := cell_below q0 hBW.out
      replace q1 := cell_below q1 hBW.out
      replace q2 := cell_below q2 hBW.out
      replace q3 := cell_below q3 hBW.out
      replace p0 := cell_below p0 hBW.out
      replace p1 := cell_below p1 hBW.out
      replace p2 := cell_below p2 hBW.out
      replace p3 := cell_below p3 hBW.out
      have hs : Hid (l.length - k = (l.length - (k + 1)) + 1) := by unfold Hid; omega
      clear hkl
      generalize hp : rAt l k = p at *
      obtain ⟨f2, t2, o2, s2⟩ := p
      dsimp only at q0 q1 q2 q3
      by_cases hp2 : eqR ⟨f, t, o, s⟩ ⟨f2, t2, o2, s2⟩ = true
      · have hr := Lib.hid (show firstFrom (fun i => eqR ⟨f, t, o, s⟩ (rAt l i)) 0 l.length = (k : Int) by rw [ht.out, hs.out, firstFrom, if_pos (by rw [hp, hp2])])
        go_wp2
        go_quiet (fail)
        go_wp2
        go_ret
        exact ⟨ret_int hr.out.symm, bthen hB.out (below_drewN hBW.out _)⟩
      · have hr := Lib.hid (show firstFrom (fun i => eqR ⟨f, t, o, s⟩ (rAt l i)) 0 l.length = firstFrom (fun i => eqR ⟨f, t, o, s⟩ (rAt l i)) (k + 1) (l.length - (k + 1)) by rw [ht.out, hs.out, firstFrom, if_neg (by rw [hp]; exact hp2)])
        replace hp2 : eqR ⟨f, t, o, s⟩ ⟨f2, t2, o2, s2⟩ = false := by simpa using hp2
        go_wp2
        go_quiet (fail)
        go_wp2
        go_roundw
        case rel => exact ⟨k + 1, by omega, by go_num, hr, below_drewN hBW.out _⟩
        case measure => simp [intOf]; omega
    · obtain rfl : k = n := by omega
      have hr := Lib.hid (show firstFrom (fun i => eqR ⟨f, t, o, s⟩ (rAt l i)) 0 l.length = -1 by rw [ht.out, ← hn.out, Nat.sub_self, firstFrom])
      go_wp2
      go_ret
      exact ⟨ret_int hr.out.symm, bthen hB.out hBW.out⟩

theorem contains_any (w : World) (v : Value) (l : List RuleB) (f t o : Int) (s : ByteArray) (h : Rls w v l) :
    Calls Tryd.prog 42 #[v, rv ⟨f, t, o, s⟩] w fun e w' => e = .returned (.bool (hasR l ⟨f, t, o, s⟩)) ∧ Below w.heap.size w w' := by
  obtain ⟨W, hW⟩ : ∃ W, w.alloc (.cells #[.int .i64 f, .int .u8 t, .int .i64 o, .string s] 63) = W := ⟨_, rfl⟩
  have hB : Below w.heap.size w W := by rw [← hW]; exact below1 _ _
  have k1 : Blk W w.heap.size 63 #[.int .i64 f, .int .u8 t, .int .i64 o, .string s] := by rw [← hW]; exact Blk.new w 63 _
  have H := Lib.hid (index_any W v l f t o s (Els.then h hB))
  have hr := Lib.hid (show decide (0 ≤ firstFrom (fun i => eqR ⟨f, t, o, s⟩ (rAt l i)) 0 l.length) = hasR l ⟨f, t, o, s⟩ by rw [firstFrom_any]; simp only [Nat.zero_add]; exact any_rAt (eqR ⟨f, t, o, s⟩) l)
  obtain ⟨p0, p1, p2, p3⟩ := k1.four
  replace hB := Lib.hid hB
  clear h k1
  generalize firstFrom (fun i => eqR ⟨f, t, o, s⟩ (rAt l i)) 0 l.length = r at H hr
  go_enter Tryd.func42, Tryd.ntmps42
  go_wp2_with (go_at_call 54; refine H.out.mono ?_; rintro e w1 ⟨rfl, hb⟩; replace hb := Lib.hid hb)
  go_ret
  exact ⟨ret_bool hr.out, bthen hB.out hb.out⟩
end Go.Proofs.YtaapnflhjbdmlaaDoor
