/- push.Check. No condition. -/
import Derived.Test.YtaapnflhjbdmlaaDoorW3
namespace Go.Proofs.YtaapnflhjbdmlaaDoor
open Go.RowKit

def ctlB (C i : Int) : Bool := decide (0 ≤ i) && decide (i < C)
def ruleB (C : Int) (r : RuleB) : Bool := ctlB C r.fr && ctlB C r.to && !decide (r.top < 97) && !decide (101 < r.top) && !decide (2 < r.put.size) && wordB (cs r.put)
def rOk (C : Int) (l : List RuleB) (i : Nat) : Bool := ruleB C (rAt l i) && !hasR (l.take i) (rAt l i)
/-- whether these are a system -/
def sysB (C : Int) (l : List RuleB) : Bool := decide (1 ≤ C) && decide (C ≤ 5) && decide (l.length ≤ 30) && (List.range l.length).all (rOk C l)
def checkE (C : Int) (l : List RuleB) : Int := if sysB C l = true then 0 else 40
theorem sysB_iff {C : Int} {l : List RuleB} : sysB C l = true ↔ 1 ≤ C ∧ C ≤ 5 ∧ l.length ≤ 30 ∧ ∀ i, i < l.length → rOk C l i = true := by
  simp [sysB, and_assoc]
theorem checkE_bad {C : Int} {l : List RuleB} (h : C < 1 ∨ 5 < C ∨ 30 < l.length ∨ ∃ i, i < l.length ∧ rOk C l i = false) : checkE C l = 40 := by
  unfold checkE
  rw [if_neg]
  rw [sysB_iff]
  rintro ⟨h1, h2, h3, h4⟩
  rcases h with h | h | h | ⟨i, hi, h⟩
  · omega
  · omega
  · omega
  · rw [h4 i hi] at h; cases h
theorem checkE_ok {C : Int} {l : List RuleB} (h1 : 1 ≤ C) (h2 : C ≤ 5) (h3 : l.length ≤ 30) (h4 : ∀ i, i < l.length → rOk C l i = true) : checkE C l = 0 := by
  unfold checkE
  rw [if_pos (sysB_iff.2 ⟨h1, h2, h3, h4⟩)]

theorem ctl_any (w : World) (b : Nat) (C i : Int) (h : w.cell? ⟨b, 0, none⟩ = some (.int .i64 C)) : Calls Tryd.prog 40 #[.int .i64 i, .pointer (some ⟨b, 0, none⟩)] w fun e w' => e = .returned (.bool (ctlB C i)) ∧ Below w.heap.size w w' := by
  unfold ctlB
  by_cases h1 : 0 ≤ i
  · go_enter Tryd.func40, Tryd.ntmps40
    go_wp2
    go_ret
    exact ⟨ret_bool (by simp [h1]), Below.refl _ _⟩
  · go_enter Tryd.func40, Tryd.ntmps40
    go_wp2
    go_ret
    exact ⟨ret_bool (by simp; omega), Below.refl _ _⟩

set_option maxHeartbeats 4000000 in
theorem check_any (w : World) (C : Int) (v : Value) (l : List RuleB) (h : Rls w v l) (hs : ∀ r ∈ l, r.put.size ≤ 9223372036854775807) :
    Calls Tryd.prog 26 #[sv C v] w fun e w' => e = .returned (.int .i64 (checkE C l)) ∧ Below w.heap.size w w' := by
  obtain ⟨W, hW⟩ : ∃ W, w.alloc (.cells #[.int .i64 C, v] 38) = W := ⟨_, rfl⟩
  have hB : Below w.heap.size w W := by rw [← hW]; exact below1 _ _
  have k1 : Blk W w.heap.size 38 #[.int .i64 C, v] := by rw [← hW]; exact Blk.new w 38 _
  replace h : Rls W v l := Els.then h hB
  obtain ⟨A, n, cap, rfl, hn⟩ := Els.shape h
  obtain ⟨hn2, hcap, hmax⟩ := Els.len h
  unfold maxLen at hmax
  obtain ⟨p0, p1⟩ := k1.two
  replace h := Lib.hid h
  replace hB := Lib.hid hB
  replace hs := Lib.hid hs
  clear hn2 k1
  by_cases h1 : C < 1
  · have hr := Lib.hid (checkE_bad (l := l) (.inl h1))
    go_enter Tryd.func26, Tryd.ntmps26
    go_wp2
    go_ret
    exact ⟨ret_int hr.out.symm, hB.out⟩
  by_cases h2 : 5 < C
  · have hr := Lib.hid (checkE_bad (l := l) (.inr (.inl h2)))
    go_enter Tryd.func26, Tryd.ntmps26
    go_wp2
    go_ret
    exact ⟨ret_int hr.out.symm, hB.out⟩
  by_cases h3 : 30 < n
  · have hr := Lib.hid (checkE_bad (C := C) (l := l) (.inr (.inr (.inl (by have := hn.out; omega)))))
    go_enter Tryd.func26, Tryd.ntmps26
    go_wp2
    go_ret
    exact ⟨ret_int hr.out.symm, hB.out⟩
  go_enter Tryd.func26, Tryd.ntmps26
  go_wp2
  go_loopw [24] (fun i wr => ∃ k : Nat, k ≤ n ∧ i = .int .i64 k ∧ Hid (∀ i, i < k → rOk C l i = true) ∧ Hid (Below W.heap.size W wr)) (fun i _ => n - (intOf i).toNat)
  case atStart => exact ⟨0, Nat.zero_le _, rfl, fun i hi => by omega, Below.refl _ _⟩
  case round =>
    obtain ⟨k, hk, rfl, hok, hBW⟩ := hrel
    by_cases hlt : k < n
    case neg =>
      obtain rfl : k = n := by omega
      have hr := Lib.hid (checkE_ok (C := C) (l := l) (by omega) (by omega) (by have := hn.out; omega) (fun i hi => hok.out i (by rw [hn.out]; exact hi)))
      go_wp2
      go_ret
      exact ⟨ret_int hr.out.symm, bthen hB.out hBW.out⟩
    have hkl : k < l.length := by have := hn.out; omega
    obtain ⟨b, off, rfl, q0, q1, q2, q3⟩ := Rls.at h.out hkl
    replace q0 := cell_below q0 hBW.out
    replace q1 := cell_below q1 hBW.out
    replace q2 := cell_below q2 hBW.out
    replace q3 := cell_below q3 hBW.out
    have hbad := Lib.hid (fun hx => checkE_bad (C := C) (l := l) (.inr (.inr (.inr ⟨k, hkl, hx⟩))))
    have hpk : Hid (rOk C l k = (ruleB C (rAt l k) && !hasR (l.take k) (rAt l k))) := rfl
    have hsk := hs.out (rAt l k) (by rw [rAt_eq hkl]; exact List.getElem_mem hkl)
    have hsh := Lib.hid (Els.take h.out k (by omega))
    generalize hp : rAt l k = p at *
    obtain ⟨f, t, o, s⟩ := p
    dsimp only at q0 q1 q2 q3 hsk
    obtain ⟨W1, hW1⟩ : ∃ W1, wr.alloc (.cells #[.int .i64 f, .int .u8 t, .int .i64 o, .string s] 63) = W1 := ⟨_, rfl⟩
    have k1 : Blk W1 wr.heap.size 63 #[.int .i64 f, .int .u8 t, .int .i64 o, .string s] := by rw [← hW1]; exact Blk.new wr 63 _
    have hBx := Lib.hid (show Below W.heap.size W W1 by rw [← hW1]; exact bthen hBW.out (below1 _ _))
    have c0 : ∀ g : Gr W1, g.w1.cell? ⟨wr.heap.size, 0, none⟩ = some (.int .i64 f) := fun g => g.cell k1.four.1
    have c1 : ∀ g : Gr W1, g.w1.cell? ⟨wr.heap.size, 1, none⟩ = some (.int .u8 t) := fun g => g.cell k1.four.2.1
    have c2 : ∀ g : Gr W1, g.w1.cell? ⟨wr.heap.size, 2, none⟩ = some (.int .i64 o) := fun g => g.cell k1.four.2.2.1
    have c3 : ∀ g : Gr W1, g.w1.cell? ⟨wr.heap.size, 3, none⟩ = some (.string s) := fun g => g.cell k1.four.2.2.2
    have g1 : ∀ g : Gr W1, g.w1.cell? ⟨w.heap.size, 1, none⟩ = some (.slice (some ⟨b, off, none⟩) n cap) := fun g => g.cell (cell_below p1 hBx.out)
    have hC1 := Lib.hid (fun (g : Gr W1) => grow_of (ctl_any g.w1 w.heap.size C f (g.cell (cell_below p0 hBx.out))))
    have hC2 := Lib.hid (fun (g : Gr W1) => grow_of (ctl_any g.w1 w.heap.size C o (g.cell (cell_below p0 hBx.out))))
    have hIs := Lib.hid (fun (g : Gr W1) => grow_of (isWord_any s g.w1 hsk))
    have hCon := Lib.hid (fun g : Gr W1 => grow_of (contains_any g.w1 _ (l.take k) f t o s (Els.then hsh.out (bthen hBx.out g.h))))
    clear k1 hkl hsk p0 p1
    have hpd : rOk C l k = (ctlB C f && ctlB C o && !decide (t < 97) && !decide (101 < t) && !decide (2 < s.size) && wordB (cs s) && !hasR (l.take k) ⟨f, t, o, s⟩) := hpk.out
    replace hpd := Lib.hid hpd
    clear hpk
    cases e1 : ctlB C f
    · have hr := Lib.hid (hbad.out (by rw [hpd.out, e1]; rfl))
      rw [e1] at hC1
      replace e1 := Lib.hid e1
      clear hCon hIs hC2
      go_wp2
      refine wp_region_grow (by kernel_rfl) (by kernel_rfl) ?_
      repeat (go_big_quiet_step (first | (go_at_call 40; with_reducible exact hC1.out _)))
      refine wpQuiet_nil ?_
      rintro _ ⟨g, rfl⟩
      have hBg := Lib.hid (bthen hBx.out g.h)
      go_wp2
      go_ret
      exact ⟨ret_int hr.out.symm, bthen hB.out hBg.out⟩
    rw [e1] at hC1
    cases e2 : ctlB C o
    · have hr := Lib.hid (hbad.out (by rw [hpd.out, e1, e2]; rfl))
      rw [e2] at hC2
      replace e1 := Lib.hid e1
      replace e2 := Lib.hid e2
      clear hCon hIs
      go_wp2
      refine wp_region_grow (by kernel_rfl) (by kernel_rfl) ?_
      repeat (go_big_quiet_step (first | (go_at_call 40; with_reducible exact hC1.out _) | (go_at_call 40; with_reducible exact hC2.out _)))
      refine wpQuiet_nil ?_
      rintro _ ⟨g, rfl⟩
      have hBg := Lib.hid (bthen hBx.out g.h)
      go_wp2
      go_ret
      exact ⟨ret_int hr.out.symm, bthen hB.out hBg.out⟩
    rw [e2] at hC2
    by_cases e3 : t < 97
    · have hr := Lib.hid (hbad.out (by rw [hpd.out, e1, e2]; simp [e3]))
      replace e1 := Lib.hid e1
      replace e2 := Lib.hid e2
      clear hCon hIs
      go_wp2
      refine wp_region_grow (by kernel_rfl) (by kernel_rfl) ?_
      repeat (go_big_quiet_step (first | (go_at_call 40; with_reducible exact hC1.out _) | (go_at_call 40; with_reducible exact hC2.out _)))
      refine wpQuiet_nil ?_
      rintro _ ⟨g, rfl⟩
      have hBg := Lib.hid (bthen hBx.out g.h)
      go_wp2
      go_ret
      exact ⟨ret_int hr.out.symm, bthen hB.out hBg.out⟩
    have d3 : decide (t < 97) = false := by simp; omega
    by_cases e4 : 101 < t
    · have d4 : decide (101 < t) = true := by simp; omega
      have hr := Lib.hid (hbad.out (by rw [hpd.out, e1, e2]; simp [e4]))
      replace e1 := Lib.hid e1
      replace e2 := Lib.hid e2
      clear hCon hIs
      go_wp2
      refine wp_region_grow (by kernel_rfl) (by kernel_rfl) ?_
      repeat (go_big_quiet_step (first | (go_at_call 40; with_reducible exact hC1.out _) | (go_at_call 40; with_reducible exact hC2.out _)))
      refine wpQuiet_nil ?_
      rintro _ ⟨g, rfl⟩
      have hBg := Lib.hid (bthen hBx.out g.h)
      go_wp2
      go_ret
      exact ⟨ret_int hr.out.symm, bthen hB.out hBg.out⟩
    have d4 : decide (101 < t) = false := by simp; omega
    by_cases e5 : 2 < s.size
    · have d5 : decide ((2 : Int) < s.size) = true := by simp; omega
      have hr := Lib.hid (hbad.out (by rw [hpd.out, e1, e2]; simp [e5]))
      have e5' : (2 : Int) < s.size := by omega
      replace e1 := Lib.hid e1
      replace e2 := Lib.hid e2
      clear hCon hIs
      go_wp2
      refine wp_region_grow (by kernel_rfl) (by kernel_rfl) ?_
      repeat (go_big_quiet_step (first | (go_at_call 40; with_reducible exact hC1.out _) | (go_at_call 40; with_reducible exact hC2.out _)))
      refine wpQuiet_nil ?_
      rintro _ ⟨g, rfl⟩
      have hBg := Lib.hid (bthen hBx.out g.h)
      go_wp2
      go_ret
      exact ⟨ret_int hr.out.symm, bthen hB.out hBg.out⟩
    have e5' : ¬ (2 : Int) < s.size := by omega
    have d5 : decide ((2 : Int) < s.size) = false := by simp; omega
    cases e6 : wordB (cs s)
    · have hr := Lib.hid (hbad.out (by rw [hpd.out, e6]; simp))
      rw [e6] at hIs
      replace e1 := Lib.hid e1
      replace e2 := Lib.hid e2
      replace e6 := Lib.hid e6
      clear hCon
      go_wp2
      refine wp_region_grow (by kernel_rfl) (by kernel_rfl) ?_
      repeat (go_big_quiet_step (first | (go_at_call 40; with_reducible exact hC1.out _) | (go_at_call 40; with_reducible exact hC2.out _) | (go_at_call 41; exact hIs.out _)))
      refine wpQuiet_nil ?_
      rintro _ ⟨g, rfl⟩
      have hBg := Lib.hid (bthen hBx.out g.h)
      go_wp2
      go_ret
      exact ⟨ret_int hr.out.symm, bthen hB.out hBg.out⟩
    rw [e6] at hIs
    cases e7 : hasR (l.take k) ⟨f, t, o, s⟩
    · have hok2 := Lib.hid (show rOk C l k = true by rw [hpd.out, e1, e2, e6, e7]; simp [e3, e4, e5])
      rw [e7] at hCon
      replace e1 := Lib.hid e1
      replace e2 := Lib.hid e2
      replace e6 := Lib.hid e6
      replace e7 := Lib.hid e7
      go_wp2
      refine wp_region_grow (by kernel_rfl) (by kernel_rfl) ?_
      repeat (go_big_quiet_step (first | (go_at_call 40; with_reducible exact hC1.out _) | (go_at_call 40; with_reducible exact hC2.out _) | (go_at_call 41; exact hIs.out _) | (go_at_call 42; exact hCon.out _)))
      refine wpQuiet_nil ?_
      rintro _ ⟨g, rfl⟩
      have hBg := Lib.hid (bthen hBx.out g.h)
      go_wp2
      go_roundw
      case rel => exact ⟨k + 1, by omega, by go_num, fun j hj => by
        by_cases hjk : j < k
        · exact hok.out j hjk
        · obtain rfl : j = k := by omega
          exact hok2.out, hBg.out⟩
      case measure => simp [intOf]; omega
    · have hr := Lib.hid (hbad.out (by rw [hpd.out, e7]; simp))
      rw [e7] at hCon
      replace e1 := Lib.hid e1
      replace e2 := Lib.hid e2
      replace e6 := Lib.hid e6
      replace e7 := Lib.hid e7
      go_wp2
      refine wp_region_grow (by kernel_rfl) (by kernel_rfl) ?_
      repeat (go_big_quiet_step (first | (go_at_call 40; with_reducible exact hC1.out _) | (go_at_call 40; with_reducible exact hC2.out _) | (go_at_call 41; exact hIs.out _) | (go_at_call 42; exact hCon.out _)))
      refine wpQuiet_nil ?_
      rintro _ ⟨g, rfl⟩
      have hBg := Lib.hid (bthen hBx.out g.h)
      go_wp2
      go_ret
      exact ⟨ret_int hr.out.symm, bthen hB.out hBg.out⟩
end Go.Proofs.YtaapnflhjbdmlaaDoor
