/- slices.Index, slices.Contains of rules; push.Check. No condition. push.Check. No condition. R.Word, R.Proper. No condition. -/
import Derived.Test.YtaapnflhjbdmlaaGreatDoorW2
import Derived.Test.YtaapnflhjbdmlaaGreatDoorEq
import Derived.Test.YtaapnflhjbdmlaaGreatDoorGrow
namespace Go.Proofs.YtaapnflhjbdmlaaGreatDoor
section
open Go.RowKit
attribute [local go_sem high] eql63 eql61

def hasR (l : List RuleB) (r : RuleB) : Bool := l.any fun s => eqR r s
/-- the first index from k on (n places) at which p is true, else -1 -/
def firstFrom (p : Nat → Bool) : Nat → Nat → Int
  | _, 0 => -1
  | k, n + 1 => if p k then (k : Int) else firstFrom p (k + 1) n
theorem firstFrom_any (p : Nat → Bool) (n : Nat) : ∀ k, decide (0 ≤ firstFrom p k n) = (List.range n).any (fun j => p (k + j)) := by
  induction n with
  | zero => intro k; rfl
  | succ n ih =>
    intro k
    rw [firstFrom, List.range_succ_eq_map, List.any_cons, List.any_map]
    by_cases h : p k
    · rw [if_pos h]; simp [h]
    · rw [if_neg h, ih]
      simp only [Nat.add_zero, Function.comp_def]
      rw [show p k = false by simpa using h, Bool.false_or]
      congr 1
      funext j
      congr 1
      omega
def rz : RuleB := ⟨0, 0, 0, ⟨#[]⟩⟩
def rAt (l : List RuleB) (i : Nat) : RuleB := l.getD i rz
theorem rAt_eq {l : List RuleB} {i : Nat} (h : i < l.length) : rAt l i = l[i] := by unfold rAt; simp [List.getD, h]
theorem any_rAt (p : RuleB → Bool) (l : List RuleB) : (List.range l.length).any (fun i => p (rAt l i)) = l.any p := by
  rw [Bool.eq_iff_iff, List.any_eq_true, List.any_eq_true]
  constructor
  · rintro ⟨i, hi, h⟩
    rw [List.mem_range] at hi
    rw [rAt_eq hi] at h
    exact ⟨_, List.getElem_mem hi, h⟩
  · rintro ⟨x, hx, h⟩
    obtain ⟨i, hi, rfl⟩ := List.getElem_of_mem hx
    exact ⟨i, List.mem_range.2 hi, by rw [rAt_eq hi]; exact h⟩
theorem Rls.at {w : World} {A : Option Addr} {n cap : Nat} {l : List RuleB} (h : Rls w (.slice A n cap) l) {i : Nat} (hi : i < l.length) : ∃ b off, A = some ⟨b, off, none⟩ ∧
    w.cell? ⟨b, off + i * 4, none⟩ = some (.int .i64 (rAt l i).fr) ∧ w.cell? ⟨b, off + i * 4 + 1, none⟩ = some (.int .u8 (rAt l i).top) ∧ w.cell? ⟨b, off + i * 4 + 2, none⟩ = some (.int .i64 (rAt l i).to) ∧ w.cell? ⟨b, off + i * 4 + 3, none⟩ = some (.string (rAt l i).put) := by
  obtain ⟨b, off, rfl, hc⟩ := Rls.cells h (by omega)
  rw [rAt_eq hi]
  exact ⟨b, off, rfl, hc i hi⟩
theorem Blk.four {w : World} {g t : Nat} {a b c d : Value} (h : Blk w g t #[a, b, c, d]) : w.cell? ⟨g, 0, none⟩ = some a ∧ w.cell? ⟨g, 1, none⟩ = some b ∧ w.cell? ⟨g, 2, none⟩ = some c ∧ w.cell? ⟨g, 3, none⟩ = some d :=
  ⟨h.cell 0, h.cell 1, h.cell 2, h.cell 3⟩
theorem Blk.two {w : World} {g t : Nat} {a b : Value} (h : Blk w g t #[a, b]) : w.cell? ⟨g, 0, none⟩ = some a ∧ w.cell? ⟨g, 1, none⟩ = some b := ⟨h.cell 0, h.cell 1⟩

set_option maxHeartbeats 1000000 in
theorem index_any (w : World) (v : Value) (l : List RuleB) (f t o : Int) (s : ByteArray) (h : Rls w v l) :
    Calls Tryz.prog 75 #[v, rv ⟨f, t, o, s⟩] w fun e w' => e = .returned (.int .i64 (firstFrom (fun i => eqR ⟨f, t, o, s⟩ (rAt l i)) 0 l.length)) ∧ Below w.heap.size w w' := by
  obtain ⟨W, hW⟩ : ∃ W, w.alloc (.cells #[.int .i64 f, .int .u8 t, .int .i64 o, .string s] 79) = W := ⟨_, rfl⟩
  have hB : Below w.heap.size w W := by rw [← hW]; exact below1 _ _
  have k1 : Blk W w.heap.size 79 #[.int .i64 f, .int .u8 t, .int .i64 o, .string s] := by rw [← hW]; exact Blk.new w 79 _
  replace h : Rls W v l := Els.then h hB
  obtain ⟨A, n, cap, rfl, hn⟩ := Els.shape h
  obtain ⟨hn2, hcap, hmax⟩ := Els.len h
  unfold maxLen at hmax
  obtain ⟨p0, p1, p2, p3⟩ := k1.four
  replace h := Lib.hid h
  replace hB := Lib.hid hB
  clear hn2 k1
  go_enter Tryz.func75, Tryz.ntmps75
  go_wp2
  go_loopw [8] (fun i wr => ∃ k : Nat, k ≤ n ∧ i = .int .i64 k ∧ Hid (firstFrom (fun i => eqR ⟨f, t, o, s⟩ (rAt l i)) 0 l.length = firstFrom (fun i => eqR ⟨f, t, o, s⟩ (rAt l i)) k (l.length - k)) ∧ Hid (Below W.heap.size W wr)) (fun i _ => n - (intOf i).toNat)
  case atStart => exact ⟨0, Nat.zero_le _, rfl, rfl, Below.refl _ _⟩
  case round =>
    obtain ⟨k, hk, rfl, ht, hBW⟩ := hrel
    by_cases hlt : k < n
    · have hkl : k < l.length := by have := hn.out; omega
      obtain ⟨b, off, rfl, q0, q1, q2, q3⟩ := Rls.at h.out hkl
      replace q0 := cell_below q0 hBW.out
      replace q1 := cell_below q1 hBW.out
      replace q2 := cell_below q2 hBW.out
      replace q3 := cell_below q3 hBW.out
      replace p0 := cell_below p0 hBW.out
      replace p1 := cell_below p1 hBW.out
      replace p2 := cell_below p2 hBW.out
      replace p3 := cell_below p3 hBW.out
      have hs : Hid (l.length - k = (l.length - (k + 1)) + 1) := by unfold Hid; omega
      clear hkl
      generalize hp : rAt l k = p at *
      obtain ⟨f2, t2, o2, s2⟩ := p
      dsimp only at q0 q1 q2 q3
      by_cases hp2 : eqR ⟨f, t, o, s⟩ ⟨f2, t2, o2, s2⟩ = true
      · have hr := Lib.hid (show firstFrom (fun i => eqR ⟨f, t, o, s⟩ (rAt l i)) 0 l.length = (k : Int) by rw [ht.out, hs.out, firstFrom, if_pos (by rw [hp, hp2])])
        go_wp2
        go_quiet (fail)
        go_wp2
        go_ret
        exact ⟨ret_int hr.out.symm, bthen hB.out (below_drewN hBW.out _)⟩
      · have hr := Lib.hid (show firstFrom (fun i => eqR ⟨f, t, o, s⟩ (rAt l i)) 0 l.length = firstFrom (fun i => eqR ⟨f, t, o, s⟩ (rAt l i)) (k + 1) (l.length - (k + 1)) by rw [ht.out, hs.out, firstFrom, if_neg (by rw [hp]; exact hp2)])
        replace hp2 : eqR ⟨f, t, o, s⟩ ⟨f2, t2, o2, s2⟩ = false := by simpa using hp2
        go_wp2
        go_quiet (fail)
        go_wp2
        go_roundw
        case rel => exact ⟨k + 1, by omega, by go_num, hr, below_drewN hBW.out _⟩
        case measure => simp [intOf]; omega
    · obtain rfl : k = n := by omega
      have hr := Lib.hid (show firstFrom (fun i => eqR ⟨f, t, o, s⟩ (rAt l i)) 0 l.length = -1 by rw [ht.out, ← hn.out, Nat.sub_self, firstFrom])
      go_wp2
      go_ret
      exact ⟨ret_int hr.out.symm, bthen hB.out hBW.out⟩

theorem contains_any (w : World) (v : Value) (l : List RuleB) (f t o : Int) (s : ByteArray) (h : Rls w v l) :
    Calls Tryz.prog 52 #[v, rv ⟨f, t, o, s⟩] w fun e w' => e = .returned (.bool (hasR l ⟨f, t, o, s⟩)) ∧ Below w.heap.size w w' := by
  obtain ⟨W, hW⟩ : ∃ W, w.alloc (.cells #[.int .i64 f, .int .u8 t, .int .i64 o, .string s] 79) = W := ⟨_, rfl⟩
  have hB : Below w.heap.size w W := by rw [← hW]; exact below1 _ _
  have k1 : Blk W w.heap.size 79 #[.int .i64 f, .int .u8 t, .int .i64 o, .string s] := by rw [← hW]; exact Blk.new w 79 _
  have H := Lib.hid (index_any W v l f t o s (Els.then h hB))
  have hr := Lib.hid (show decide (0 ≤ firstFrom (fun i => eqR ⟨f, t, o, s⟩ (rAt l i)) 0 l.length) = hasR l ⟨f, t, o, s⟩ by rw [firstFrom_any]; simp only [Nat.zero_add]; exact any_rAt (eqR ⟨f, t, o, s⟩) l)
  obtain ⟨p0, p1, p2, p3⟩ := k1.four
  replace hB := Lib.hid hB
  clear h k1
  generalize firstFrom (fun i => eqR ⟨f, t, o, s⟩ (rAt l i)) 0 l.length = r at H hr
  go_enter Tryz.func52, Tryz.ntmps52
  go_wp2_with (go_at_call 75; refine H.out.mono ?_; rintro e w1 ⟨rfl, hb⟩; replace hb := Lib.hid hb)
  go_ret
  exact ⟨ret_bool hr.out, bthen hB.out hb.out⟩
end
section
open Go.RowKit

def ctlB (C i : Int) : Bool := decide (0 ≤ i) && decide (i < C)
def ruleB (C : Int) (r : RuleB) : Bool := ctlB C r.fr && ctlB C r.to && !decide (r.top < 97) && !decide (101 < r.top) && !decide (2 < r.put.size) && wordB (cs r.put)
def rOk (C : Int) (l : List RuleB) (i : Nat) : Bool := ruleB C (rAt l i) && !hasR (l.take i) (rAt l i)
/-- whether these are a system -/
def sysB (C : Int) (l : List RuleB) : Bool := decide (1 ≤ C) && decide (C ≤ 5) && decide (l.length ≤ 30) && (List.range l.length).all (rOk C l)
def checkE (C : Int) (l : List RuleB) : Int := if sysB C l = true then 0 else 40
theorem sysB_iff {C : Int} {l : List RuleB} : sysB C l = true ↔ 1 ≤ C ∧ C ≤ 5 ∧ l.length ≤ 30 ∧ ∀ i, i < l.length → rOk C l i = true := by
  simp [sysB, and_assoc]
theorem checkE_bad {C : Int} {l : List RuleB} (h : C < 1 ∨ 5 < C ∨ 30 < l.length ∨ ∃ i, i < l.length ∧ rOk C l i = false) : checkE C l = 40 := by
  unfold checkE
  rw [if_neg]
  rw [sysB_iff]
  rintro ⟨h1, h2, h3, h4⟩
  rcases h with h | h | h | ⟨i, hi, h⟩
  · omega
  · omega
  · omega
  · rw [h4 i hi] at h; cases h
theorem checkE_ok {C : Int} {l : List RuleB} (h1 : 1 ≤ C) (h2 : C ≤ 5) (h3 : l.length ≤ 30) (h4 : ∀ i, i < l.length → rOk C l i = true) : checkE C l = 0 := by
  unfold checkE
  rw [if_pos (sysB_iff.2 ⟨h1, h2, h3, h4⟩)]

theorem ctl_any (w : World) (b : Nat) (C i : Int) (h : w.cell? ⟨b, 0, none⟩ = some (.int .i64 C)) : Calls Tryz.prog 50 #[.int .i64 i, .pointer (some ⟨b, 0, none⟩)] w fun e w' => e = .returned (.bool (ctlB C i)) ∧ Below w.heap.size w w' := by
  unfold ctlB
  by_cases h1 : 0 ≤ i
  · go_enter Tryz.func50, Tryz.ntmps50
    go_wp2
    go_ret
    exact ⟨ret_bool (by simp [h1]), Below.refl _ _⟩
  · go_enter Tryz.func50, Tryz.ntmps50
    go_wp2
    go_ret
    exact ⟨ret_bool (by simp; omega), Below.refl _ _⟩

set_option maxHeartbeats 4000000 in
theorem check_any (w : World) (C : Int) (v : Value) (l : List RuleB) (h : Rls w v l) (hs : ∀ r ∈ l, r.put.size ≤ 9223372036854775807) :
    Calls Tryz.prog 29 #[sv C v] w fun e w' => e = .returned (.int .i64 (checkE C l)) ∧ Below w.heap.size w w' := by
  obtain ⟨W, hW⟩ : ∃ W, w.alloc (.cells #[.int .i64 C, v] 40) = W := ⟨_, rfl⟩
  have hB : Below w.heap.size w W := by rw [← hW]; exact below1 _ _
  have k1 : Blk W w.heap.size 40 #[.int .i64 C, v] := by rw [← hW]; exact Blk.new w 40 _
  replace h : Rls W v l := Els.then h hB
  obtain ⟨A, n, cap, rfl, hn⟩ := Els.shape h
  obtain ⟨hn2, hcap, hmax⟩ := Els.len h
  unfold maxLen at hmax
  obtain ⟨p0, p1⟩ := k1.two
  replace h := Lib.hid h
  replace hB := Lib.hid hB
  replace hs := Lib.hid hs
  clear hn2 k1
  by_cases h1 : C < 1
  · have hr := Lib.hid (checkE_bad (l := l) (.inl h1))
    go_enter Tryz.func29, Tryz.ntmps29
    go_wp2
    go_ret
    exact ⟨ret_int hr.out.symm, hB.out⟩
  by_cases h2 : 5 < C
  · have hr := Lib.hid (checkE_bad (l := l) (.inr (.inl h2)))
    go_enter Tryz.func29, Tryz.ntmps29
    go_wp2
    go_ret
    exact ⟨ret_int hr.out.symm, hB.out⟩
  by_cases h3 : 30 < n
  · have hr := Lib.hid (checkE_bad (C := C) (l := l) (.inr (.inr (.inl (by have := hn.out; omega)))))
    go_enter Tryz.func29, Tryz.ntmps29
    go_wp2
    go_ret
    exact ⟨ret_int hr.out.symm, hB.out⟩
  go_enter Tryz.func29, Tryz.ntmps29
  go_wp2
  go_loopw [24] (fun i wr => ∃ k : Nat, k ≤ n ∧ i = .int .i64 k ∧ Hid (∀ i, i < k → rOk C l i = true) ∧ Hid (Below W.heap.size W wr)) (fun i _ => n - (intOf i).toNat)
  case atStart => exact ⟨0, Nat.zero_le _, rfl, fun i hi => by omega, Below.refl _ _⟩
  case round =>
    obtain ⟨k, hk, rfl, hok, hBW⟩ := hrel
    by_cases hlt : k < n
    case neg =>
      obtain rfl : k = n := by omega
      have hr := Lib.hid (checkE_ok (C := C) (l := l) (by omega) (by omega) (by have := hn.out; omega) (fun i hi => hok.out i (by rw [hn.out]; exact hi)))
      go_wp2
      go_ret
      exact ⟨ret_int hr.out.symm, bthen hB.out hBW.out⟩
    have hkl : k < l.length := by have := hn.out; omega
    obtain ⟨b, off, rfl, q0, q1, q2, q3⟩ := Rls.at h.out hkl
    replace q0 := cell_below q0 hBW.out
    replace q1 := cell_below q1 hBW.out
    replace q2 := cell_below q2 hBW.out
    replace q3 := cell_below q3 hBW.out
    have hbad := Lib.hid (fun hx => checkE_bad (C := C) (l := l) (.inr (.inr (.inr ⟨k, hkl, hx⟩))))
    have hpk : Hid (rOk C l k = (ruleB C (rAt l k) && !hasR (l.take k) (rAt l k))) := rfl
    have hsk := hs.out (rAt l k) (by rw [rAt_eq hkl]; exact List.getElem_mem hkl)
    have hsh := Lib.hid (Els.take h.out k (by omega))
    generalize hp : rAt l k = p at *
    obtain ⟨f, t, o, s⟩ := p
    dsimp only at q0 q1 q2 q3 hsk
    obtain ⟨W1, hW1⟩ : ∃ W1, wr.alloc (.cells #[.int .i64 f, .int .u8 t, .int .i64 o, .string s] 79) = W1 := ⟨_, rfl⟩
    have k1 : Blk W1 wr.heap.size 79 #[.int .i64 f, .int .u8 t, .int .i64 o, .string s] := by rw [← hW1]; exact Blk.new wr 79 _
    have hBx := Lib.hid (show Below W.heap.size W W1 by rw [← hW1]; exact bthen hBW.out (below1 _ _))
    have c0 : ∀ g : Gr W1, g.w1.cell? ⟨wr.heap.size, 0, none⟩ = some (.int .i64 f) := fun g => g.cell k1.four.1
    have c1 : ∀ g : Gr W1, g.w1.cell? ⟨wr.heap.size, 1, none⟩ = some (.int .u8 t) := fun g => g.cell k1.four.2.1
    have c2 : ∀ g : Gr W1, g.w1.cell? ⟨wr.heap.size, 2, none⟩ = some (.int .i64 o) := fun g => g.cell k1.four.2.2.1
    have c3 : ∀ g : Gr W1, g.w1.cell? ⟨wr.heap.size, 3, none⟩ = some (.string s) := fun g => g.cell k1.four.2.2.2
    have g1 : ∀ g : Gr W1, g.w1.cell? ⟨w.heap.size, 1, none⟩ = some (.slice (some ⟨b, off, none⟩) n cap) := fun g => g.cell (cell_below p1 hBx.out)
    have hC1 := Lib.hid (fun (g : Gr W1) => grow_of (ctl_any g.w1 w.heap.size C f (g.cell (cell_below p0 hBx.out))))
    have hC2 := Lib.hid (fun (g : Gr W1) => grow_of (ctl_any g.w1 w.heap.size C o (g.cell (cell_below p0 hBx.out))))
    have hIs := Lib.hid (fun (g : Gr W1) => grow_of (isWord_any s g.w1 hsk))
    have hCon := Lib.hid (fun g : Gr W1 => grow_of (contains_any g.w1 _ (l.take k) f t o s (Els.then hsh.out (bthen hBx.out g.h))))
    clear k1 hkl hsk p0 p1
    have hpd : rOk C l k = (ctlB C f && ctlB C o && !decide (t < 97) && !decide (101 < t) && !decide (2 < s.size) && wordB (cs s) && !hasR (l.take k) ⟨f, t, o, s⟩) := hpk.out
    replace hpd := Lib.hid hpd
    clear hpk
    cases e1 : ctlB C f
    · have hr := Lib.hid (hbad.out (by rw [hpd.out, e1]; rfl))
      rw [e1] at hC1
      replace e1 := Lib.hid e1
      clear hCon hIs hC2
      go_wp2
      refine wp_region_grow (by kernel_rfl) (by kernel_rfl) ?_
      repeat (go_big_quiet_step (first | (go_at_call 50; with_reducible exact hC1.out _)))
      refine wpQuiet_nil ?_
      rintro _ ⟨g, rfl⟩
      have hBg := Lib.hid (bthen hBx.out g.h)
      go_wp2
      go_ret
      exact ⟨ret_int hr.out.symm, bthen hB.out hBg.out⟩
    rw [e1] at hC1
    cases e2 : ctlB C o
    · have hr := Lib.hid (hbad.out (by rw [hpd.out, e1, e2]; rfl))
      rw [e2] at hC2
      replace e1 := Lib.hid e1
      replace e2 := Lib.hid e2
      clear hCon hIs
      go_wp2
      refine wp_region_grow (by kernel_rfl) (by kernel_rfl) ?_
      repeat (go_big_quiet_step (first | (go_at_call 50; with_reducible exact hC1.out _) | (go_at_call 50; with_reducible exact hC2.out _)))
      refine wpQuiet_nil ?_
      rintro _ ⟨g, rfl⟩
      have hBg := Lib.hid (bthen hBx.out g.h)
      go_wp2
      go_ret
      exact ⟨ret_int hr.out.symm, bthen hB.out hBg.out⟩
    rw [e2] at hC2
    by_cases e3 : t < 97
    · have hr := Lib.hid (hbad.out (by rw [hpd.out, e1, e2]; simp [e3]))
      replace e1 := Lib.hid e1
      replace e2 := Lib.hid e2
      clear hCon hIs
      go_wp2
      refine wp_region_grow (by kernel_rfl) (by kernel_rfl) ?_
      repeat (go_big_quiet_step (first | (go_at_call 50; with_reducible exact hC1.out _) | (go_at_call 50; with_reducible exact hC2.out _)))
      refine wpQuiet_nil ?_
      rintro _ ⟨g, rfl⟩
      have hBg := Lib.hid (bthen hBx.out g.h)
      go_wp2
      go_ret
      exact ⟨ret_int hr.out.symm, bthen hB.out hBg.out⟩
    have d3 : decide (t < 97) = false := by simp; omega
    by_cases e4 : 101 < t
    · have d4 : decide (101 < t) = true := by simp; omega
      have hr := Lib.hid (hbad.out (by rw [hpd.out, e1, e2]; simp [e4]))
      replace e1 := Lib.hid e1
      replace e2 := Lib.hid e2
      clear hCon hIs
      go_wp2
      refine wp_region_grow (by kernel_rfl) (by kernel_rfl) ?_
      repeat (go_big_quiet_step (first | (go_at_call 50; with_reducible exact hC1.out _) | (go_at_call 50; with_reducible exact hC2.out _)))
      refine wpQuiet_nil ?_
      rintro _ ⟨g, rfl⟩
      have hBg := Lib.hid (bthen hBx.out g.h)
      go_wp2
      go_ret
      exact ⟨ret_int hr.out.symm, bthen hB.out hBg.out⟩
    have d4 : decide (101 < t) = false := by simp; omega
    by_cases e5 : 2 < s.size
    · have d5 : decide ((2 : Int) < s.size) = true := by simp; omega
      have hr := Lib.hid (hbad.out (by rw [hpd.out, e1, e2]; simp [e5]))
      have e5' : (2 : Int) < s.size := by omega
      replace e1 := Lib.hid e1
      replace e2 := Lib.hid e2
      clear hCon hIs
      go_wp2
      refine wp_region_grow (by kernel_rfl) (by kernel_rfl) ?_
      repeat (go_big_quiet_step (first | (go_at_call 50; with_reducible exact hC1.out _) | (go_at_call 50; with_reducible exact hC2.out _)))
      refine wpQuiet_nil ?_
      rintro _ ⟨g, rfl⟩
      have hBg := Lib.hid (bthen hBx.out g.h)
      go_wp2
      go_ret
      exact ⟨ret_int hr.out.symm, bthen hB.out hBg.out⟩
    have e5' : ¬ (2 : Int) < s.size := by omega
    have d5 : decide ((2 : Int) < s.size) = false := by simp; omega
    cases e6 : wordB (cs s)
    · have hr := Lib.hid (hbad.out (by rw [hpd.out, e6]; simp))
      rw [e6] at hIs
      replace e1 := Lib.hid e1
      replace e2 := Lib.hid e2
      replace e6 := Lib.hid e6
      clear hCon
      go_wp2
      refine wp_region_grow (by kernel_rfl) (by kernel_rfl) ?_
      repeat (go_big_quiet_step (first | (go_at_call 50; with_reducible exact hC1.out _) | (go_at_call 50; with_reducible exact hC2.out _) | (go_at_call 51; exact hIs.out _)))
      refine wpQuiet_nil ?_
      rintro _ ⟨g, rfl⟩
      have hBg := Lib.hid (bthen hBx.out g.h)
      go_wp2
      go_ret
      exact ⟨ret_int hr.out.symm, bthen hB.out hBg.out⟩
    rw [e6] at hIs
    cases e7 : hasR (l.take k) ⟨f, t, o, s⟩
    · have hok2 := Lib.hid (show rOk C l k = true by rw [hpd.out, e1, e2, e6, e7]; simp [e3, e4, e5])
      rw [e7] at hCon
      replace e1 := Lib.hid e1
      replace e2 := Lib.hid e2
      replace e6 := Lib.hid e6
      replace e7 := Lib.hid e7
      go_wp2
      refine wp_region_grow (by kernel_rfl) (by kernel_rfl) ?_
      repeat (go_big_quiet_step (first | (go_at_call 50; with_reducible exact hC1.out _) | (go_at_call 50; with_reducible exact hC2.out _) | (go_at_call 51; exact hIs.out _) | (go_at_call 52; exact hCon.out _)))
      refine wpQuiet_nil ?_
      rintro _ ⟨g, rfl⟩
      have hBg := Lib.hid (bthen hBx.out g.h)
      go_wp2
      go_roundw
      case rel => exact ⟨k + 1, by omega, by go_num, fun j hj => by
        by_cases hjk : j < k
        · exact hok.out j hjk
        · obtain rfl : j = k := by omega
          exact hok2.out, hBg.out⟩
      case measure => simp [intOf]; omega
    · have hr := Lib.hid (hbad.out (by rw [hpd.out, e7]; simp))
      rw [e7] at hCon
      replace e1 := Lib.hid e1
      replace e2 := Lib.hid e2
      replace e6 := Lib.hid e6
      replace e7 := Lib.hid e7
      go_wp2
      refine wp_region_grow (by kernel_rfl) (by kernel_rfl) ?_
      repeat (go_big_quiet_step (first | (go_at_call 50; with_reducible exact hC1.out _) | (go_at_call 50; with_reducible exact hC2.out _) | (go_at_call 51; exact hIs.out _) | (go_at_call 52; exact hCon.out _)))
      refine wpQuiet_nil ?_
      rintro _ ⟨g, rfl⟩
      have hBg := Lib.hid (bthen hBx.out g.h)
      go_wp2
      go_ret
      exact ⟨ret_int hr.out.symm, bthen hB.out hBg.out⟩
end
section
open Go.RowKit

def ch (s : ByteArray) (i : Nat) : Int := (cs s).getD i 0
theorem ch_eq {s : ByteArray} {i : Nat} (h : i < s.size) : ch s i = (s[i].toNat : Int) := by
  unfold ch cs
  have h2 : i < s.data.toList.length := by simpa using h
  simp [List.getD, List.getElem?_map, List.getElem?_eq_getElem h2]
  rfl
theorem word_bad {s : ByteArray} {i : Nat} (h : i < s.size) (h2 : ch s i < 97 ∨ 101 < ch s i) : wordB (cs s) = false := by
  rw [Bool.eq_false_iff]
  intro hh
  rw [word_iff] at hh
  have hi : i < (cs s).length := by rw [cs_length]; exact h
  have := hh (cs s)[i] (List.getElem_mem hi)
  unfold ch at h2
  simp [List.getD, hi] at h2
  omega
theorem word_ok {s : ByteArray} (h : ∀ i, i < s.size → 97 ≤ ch s i ∧ ch s i ≤ 101) : wordB (cs s) = true := by
  rw [word_iff]
  intro a ha
  obtain ⟨i, hi, rfl⟩ := List.getElem_of_mem ha
  have := h i (by rw [← cs_length]; exact hi)
  unfold ch at this
  simpa [List.getD, hi] using this

set_option maxHeartbeats 1000000 in
theorem wordR_same (w : World) (s : ByteArray) (hs : s.size ≤ 9223372036854775807) : Calls Tryz.prog 34 #[.string s] w fun e w' => e = .returned (.bool (wordB (cs s))) ∧ w' = w := by
  go_enter Tryz.func34, Tryz.ntmps34
  go_wp2
  go_loopw [3] (fun c wr => ∃ k : Nat, k ≤ s.size ∧ c = .int .i64 k ∧ Hid (∀ i, i < k → 97 ≤ ch s i ∧ ch s i ≤ 101) ∧ Hid (wr = w)) (fun c _ => s.size - (intOf c).toNat)
  case atStart => exact ⟨0, Nat.zero_le _, rfl, fun i hi => by omega, rfl⟩
  case round =>
    obtain ⟨k, hk, rfl, hok, hB⟩ := hrel
    by_cases hlt : k < s.size
    case neg =>
      obtain rfl : k = s.size := by omega
      have hr := Lib.hid (word_ok hok.out)
      go_wp2
      go_ret
      exact ⟨ret_bool hr.out.symm, hB.out⟩
    have hx : ((s[k]'hlt).toNat : Int) = ch s k := (ch_eq hlt).symm
    by_cases h1 : ch s k < 97
    · have hr := Lib.hid (word_bad hlt (.inl h1))
      go_wp2
      go_ret
      exact ⟨ret_bool hr.out.symm, hB.out⟩
    by_cases h2 : 101 < ch s k
    · have hr := Lib.hid (word_bad hlt (.inr h2))
      go_wp2
      go_ret
      exact ⟨ret_bool hr.out.symm, hB.out⟩
    have h12 := Lib.hid (show 97 ≤ ch s k ∧ ch s k ≤ 101 by omega)
    go_wp2
    go_roundw
    case rel => exact ⟨k + 1, by omega, by go_num, fun j hj => by
      by_cases hjk : j < k
      · exact hok.out j hjk
      · obtain rfl : j = k := by omega
        exact h12.out, hB⟩
    case measure => simp [intOf]; omega

theorem wordR_any (w : World) (s : ByteArray) (hs : s.size ≤ 9223372036854775807) : Calls Tryz.prog 34 #[.string s] w fun e w' => e = .returned (.bool (wordB (cs s))) ∧ Below w.heap.size w w' :=
  (wordR_same w s hs).mono fun _ _ ⟨h1, h2⟩ => ⟨h1, by rw [h2]; exact Below.refl _ _⟩

def properB (C : Int) (c : ConfB) : Bool := ctlB C c.ctl && wordB (cs c.st) && decide (c.st.size ≤ 20)
set_option maxHeartbeats 1000000 in
theorem proper_any (w : World) (C : Int) (v : Value) (c : Int) (s : ByteArray) (hs : s.size ≤ 9223372036854775807) (_hv : v.oneCell' = true) :
    Calls Tryz.prog 22 #[sv C v, cv ⟨c, s⟩] w fun e w' => e = .returned (.bool (properB C ⟨c, s⟩)) ∧ Below w.heap.size w w' := by
  have hW := Lib.hid (fun W (hb : Below w.heap.size w W) => (wordR_any W s hs))
  unfold properB ctlB
  have hb0 := Lib.hid (bthen (below1 w (.cells #[.int .i64 C, v] 24)) (below1 _ (.cells #[.int .i64 c, .string s] 53)))
  have kX := (Blk.new (w.alloc (.cells #[.int .i64 C, v] 24)) 53 #[.int .i64 c, .string s]).two.2
  rw [alloc_size] at kX
  replace kX := Lib.hid kX
  by_cases h1 : 0 ≤ c
  case neg =>
    go_enter Tryz.func22, Tryz.ntmps22
    go_wp2_with (go_at_call 34; fail)
    go_ret
    exact ⟨ret_bool (by simp; omega), hb0.out⟩
  by_cases h2 : c < C
  case neg =>
    go_enter Tryz.func22, Tryz.ntmps22
    go_wp2_with (go_at_call 34; fail)
    go_ret
    exact ⟨ret_bool (by simp; omega), hb0.out⟩
  cases h3 : wordB (cs s)
  · rw [h3] at hW
    go_enter Tryz.func22, Tryz.ntmps22
    go_wp2_with (go_at_call 34; refine (hW.out _ hb0.out).mono ?_; rintro e w' ⟨rfl, hb⟩; replace hb := Lib.hid hb)
    go_ret
    exact ⟨ret_bool (by simp), bthen hb0.out hb.out⟩
  · rw [h3] at hW
    go_enter Tryz.func22, Tryz.ntmps22
    go_wp2_with (go_at_call 34; refine (hW.out _ hb0.out).mono ?_; rintro e w' ⟨rfl, hb⟩; have c1 := cell_below kX.out hb; replace hb := Lib.hid hb)
    go_ret
    exact ⟨ret_bool (by simp [h1, h2]; try omega), bthen hb0.out hb.out⟩
end
end Go.Proofs.YtaapnflhjbdmlaaGreatDoor
