/- R.Check. No condition. -/
import Derived.Test.YtaapnflhjbdmlaaGreatDoorWC
namespace Go.Proofs.YtaapnflhjbdmlaaGreatDoor
open Go.RowKit
attribute [local go_sem high] eql63 eql61

theorem sysB_bad {C : Int} {l : List RuleB} (h : C < 1 ∨ 5 < C ∨ 30 < l.length ∨ ∃ i, i < l.length ∧ rOk C l i = false) : sysB C l = false := by
  have := checkE_bad h
  unfold checkE at this
  cases e : sysB C l
  · rfl
  · rw [e] at this; simp at this
theorem eqR_comm (a b : RuleB) : eqR a b = eqR b a := by
  rw [Bool.eq_iff_iff, eqR_iff, eqR_iff]
  exact ⟨Eq.symm, Eq.symm⟩
theorem take_rAt {l : List RuleB} {i : Nat} (h : i < l.length) : l.take (i + 1) = l.take i ++ [rAt l i] := by rw [rAt_eq h]; exact List.take_succ_eq_append_getElem h
theorem hasR_step {l : List RuleB} {r : RuleB} {k : Nat} (hk : k < l.length) : hasR (l.take (k + 1)) r = (hasR (l.take k) r || eqR (rAt l k) r) := by
  rw [take_rAt hk]
  unfold hasR
  rw [List.any_append]
  simp [eqR_comm]
theorem hasR_mono {l : List RuleB} {r : RuleB} {k i : Nat} (hki : k < i) (hi : i ≤ l.length) (h : eqR (rAt l k) r = true) : hasR (l.take i) r = true := by
  unfold hasR
  rw [List.any_eq_true]
  refine ⟨rAt l k, ?_, by rw [eqR_comm]; exact h⟩
  rw [List.mem_take_iff_getElem]
  exact ⟨k, by omega, (rAt_eq (by omega)).symm⟩

set_option maxHeartbeats 4000000 in
theorem checkR_any (w : World) (C : Int) (v : Value) (l : List RuleB) (h : Rls w v l) (hs : ∀ r ∈ l, r.put.size ≤ 9223372036854775807) :
    Calls Tryz.prog 8 #[sv C v] w fun e w' => e = .returned (.bool (sysB C l)) ∧ Below w.heap.size w w' := by
  obtain ⟨W, hW⟩ : ∃ W, w.alloc (.cells #[.int .i64 C, v] 24) = W := ⟨_, rfl⟩
  have hB : Below w.heap.size w W := by rw [← hW]; exact below1 _ _
  have k1 : Blk W w.heap.size 24 #[.int .i64 C, v] := by rw [← hW]; exact Blk.new w 24 _
  replace h : Rls W v l := Els.then h hB
  obtain ⟨A, n, cap, rfl, hn⟩ := Els.shape h
  obtain ⟨hn2, hcap, hmax⟩ := Els.len h
  unfold maxLen at hmax
  obtain ⟨p0, p1⟩ := k1.two
  replace h := Lib.hid h
  replace hB := Lib.hid hB
  replace hs := Lib.hid hs
  clear hn2 k1
  by_cases h1 : C < 1
  · have hr := Lib.hid (sysB_bad (l := l) (.inl h1))
    go_enter Tryz.func8, Tryz.ntmps8
    go_wp2
    go_ret
    exact ⟨ret_bool hr.out.symm, hB.out⟩
  by_cases h2 : 5 < C
  · have hr := Lib.hid (sysB_bad (l := l) (.inr (.inl h2)))
    go_enter Tryz.func8, Tryz.ntmps8
    go_wp2
    go_ret
    exact ⟨ret_bool hr.out.symm, hB.out⟩
  by_cases h3 : 30 < n
  · have hr := Lib.hid (sysB_bad (C := C) (l := l) (.inr (.inr (.inl (by have := hn.out; omega)))))
    go_enter Tryz.func8, Tryz.ntmps8
    go_wp2
    go_ret
    exact ⟨ret_bool hr.out.symm, hB.out⟩
  go_enter Tryz.func8, Tryz.ntmps8
  go_wp2
  go_loopw [3] (fun i wr => ∃ k : Nat, k ≤ n ∧ i = .int .i64 k ∧ Hid (∀ i, i < k → rOk C l i = true) ∧ Hid (Below W.heap.size W wr)) (fun i _ => n - (intOf i).toNat)
  case atStart => exact ⟨0, Nat.zero_le _, rfl, fun i hi => by omega, Below.refl _ _⟩
  case round =>
    obtain ⟨k, hk, rfl, hok, hBW⟩ := hrel
    replace p0 := cell_below p0 hBW.out
    replace p1 := cell_below p1 hBW.out
    by_cases hlt : k < n
    case neg =>
      obtain rfl : k = n := by omega
      have hr := Lib.hid (sysB_iff.2 ⟨show 1 ≤ C by omega, show C ≤ 5 by omega, show l.length ≤ 30 by have := hn.out; omega, (fun i hi => hok.out i (by rw [hn.out]; exact hi))⟩)
      go_wp2
      go_ret
      exact ⟨ret_bool hr.out.symm, bthen hB.out hBW.out⟩
    have hkl : k < l.length := by have := hn.out; omega
    obtain ⟨b, off, rfl, q0, q1, q2, q3⟩ := Rls.at h.out hkl
    replace q0 := cell_below q0 hBW.out
    replace q1 := cell_below q1 hBW.out
    replace q2 := cell_below q2 hBW.out
    replace q3 := cell_below q3 hBW.out
    have hbad := Lib.hid (fun hx => sysB_bad (C := C) (l := l) (.inr (.inr (.inr ⟨k, hkl, hx⟩))))
    have hpk : Hid (rOk C l k = (ruleB C (rAt l k) && !hasR (l.take k) (rAt l k))) := rfl
    have hsk := hs.out (rAt l k) (by rw [rAt_eq hkl]; exact List.getElem_mem hkl)
    generalize hp : rAt l k = p at *
    obtain ⟨f, t, o, s⟩ := p
    dsimp only at q0 q1 q2 q3 hsk
    have hpd : rOk C l k = (ctlB C f && ctlB C o && !decide (t < 97) && !decide (101 < t) && !decide (2 < s.size) && wordB (cs s) && !hasR (l.take k) ⟨f, t, o, s⟩) := hpk.out
    replace hpd := Lib.hid hpd
    have hp := Lib.hid hp
    have hWd := Lib.hid (fun W => wordR_same W s hsk)
    clear hpk hsk hkl
    have a0 := fun o => cell_below p0 (below1 wr o)
    have hB1 := Lib.hid (bthen hBW.out (below1 wr (.cells #[.int .i64 f, .int .u8 t, .int .i64 o, .string s] 76)))
    by_cases e1 : f < 0
    · have hr := Lib.hid (hbad.out (by rw [hpd.out]; unfold ctlB; simp [show ¬ 0 ≤ f by omega]))
      go_wp2
      go_ret
      exact ⟨ret_bool hr.out.symm, bthen hB.out hB1.out⟩
    by_cases e2 : C ≤ f
    · have hr := Lib.hid (hbad.out (by rw [hpd.out]; unfold ctlB; simp [show ¬ f < C by omega]))
      go_wp2
      go_ret
      exact ⟨ret_bool hr.out.symm, bthen hB.out hB1.out⟩
    by_cases e3 : o < 0
    · have hr := Lib.hid (hbad.out (by rw [hpd.out]; unfold ctlB; simp [show ¬ 0 ≤ o by omega]))
      go_wp2
      go_ret
      exact ⟨ret_bool hr.out.symm, bthen hB.out hB1.out⟩
    by_cases e4 : C ≤ o
    · have hr := Lib.hid (hbad.out (by rw [hpd.out]; unfold ctlB; simp [show ¬ o < C by omega]))
      go_wp2
      go_ret
      exact ⟨ret_bool hr.out.symm, bthen hB.out hB1.out⟩
    by_cases e5 : t < 97
    · have hr := Lib.hid (hbad.out (by rw [hpd.out]; unfold ctlB; simp [e5]))
      go_wp2
      go_ret
      exact ⟨ret_bool hr.out.symm, bthen hB.out hB1.out⟩
    by_cases e6 : 101 < t
    · have hr := Lib.hid (hbad.out (by rw [hpd.out]; unfold ctlB; simp [e6]))
      go_wp2
      go_ret
      exact ⟨ret_bool hr.out.symm, bthen hB.out hB1.out⟩
    cases e7 : wordB (cs s)
    · have hr := Lib.hid (hbad.out (by rw [hpd.out, e7]; simp))
      rw [e7] at hWd
      replace e7 := Lib.hid e7
      go_wp2_with (go_at_call 34; refine (hWd.out _).mono ?_; rintro e w' ⟨rfl, rfl⟩)
      go_ret
      exact ⟨ret_bool hr.out.symm, bthen hB.out hB1.out⟩
    rw [e7] at hWd
    by_cases e8 : 2 < s.size
    · have hr := Lib.hid (hbad.out (by rw [hpd.out]; unfold ctlB; simp [e8]))
      replace e7 := Lib.hid e7
      have e8' : (2 : Int) < s.size := by omega
      go_wp2_with (go_at_call 34; refine (hWd.out _).mono ?_; rintro e w' ⟨rfl, rfl⟩)
      go_ret
      exact ⟨ret_bool hr.out.symm, bthen hB.out hB1.out⟩
    have hru := Lib.hid (show rOk C l k = !hasR (l.take k) ⟨f, t, o, s⟩ by
      rw [hpd.out, e7]; unfold ctlB; simp [e5, e6, e8, show 0 ≤ f by omega, show f < C by omega, show 0 ≤ o by omega, show o < C by omega])
    replace e7 := Lib.hid e7
    have e8' : ¬ (2 : Int) < s.size := by omega
    go_wp2_with (go_at_call 34; refine (hWd.out _).mono ?_; rintro e w' ⟨rfl, rfl⟩)
    have k1 := Blk.new wr 76 #[.int .i64 f, .int .u8 t, .int .i64 o, .string s]
    obtain ⟨W1, hW1⟩ : ∃ W1, wr.alloc (.cells #[.int .i64 f, .int .u8 t, .int .i64 o, .string s] 76) = W1 := ⟨_, rfl⟩
    rw [hW1] at k1 hB1
    rw [hW1]
    obtain ⟨r0, r1, r2, r3⟩ := k1.four
    replace p1 := cell_below p1 (show Below wr.heap.size wr W1 by rw [← hW1]; exact below1 _ _)
    clear hW1 k1 hWd a0 q0 q1 q2 q3 e1 e2 e3 e4 e5 e6 e8 e8'
    go_loopw [5] (fun c wx => ∃ j : Nat, j ≤ k ∧ c = .int .i64 (j : Int) ∧ Hid (hasR (l.take j) ⟨f, t, o, s⟩ = false) ∧ Hid (Below W1.heap.size W1 wx)) (fun c _ => k - (intOf c).toNat)
    case atStart => exact ⟨0, Nat.zero_le _, rfl, by unfold Hid hasR; simp, Below.refl _ _⟩
    case round =>
      obtain ⟨j, hj, rfl, hno, hBj⟩ := hrel
      by_cases hlt2 : j < k
      case neg =>
        obtain rfl : j = k := by omega
        have hnew := Lib.hid (show rOk C l j = true by rw [hru.out, hno.out]; rfl)
        go_wp2
        go_roundw
        case rel => exact ⟨j + 1, by omega, by go_num, Lib.hid (fun i hi => by rcases Nat.lt_or_ge i j with h | h; exact hok.out i h; rw [show i = j by omega]; exact hnew.out), bthen hB1.out hBj.out⟩
        case measure => simp [intOf]; omega
      have hjl : j < l.length := by have := hn.out; omega
      obtain ⟨b', off', e, q0, q1, q2, q3⟩ := Rls.at h.out hjl
      injection e with e
      injection e with e1 e2
      subst e1 e2
      replace q0 := cell_below q0 (bthen hB1.out hBj.out)
      replace q1 := cell_below q1 (bthen hB1.out hBj.out)
      replace q2 := cell_below q2 (bthen hB1.out hBj.out)
      replace q3 := cell_below q3 (bthen hB1.out hBj.out)
      replace p1 := cell_below p1 hBj.out
      replace r0 := cell_below r0 hBj.out
      replace r1 := cell_below r1 hBj.out
      replace r2 := cell_below r2 hBj.out
      replace r3 := cell_below r3 hBj.out
      have hst := Lib.hid (hasR_step (r := ⟨f, t, o, s⟩) hjl)
      have hmo := Lib.hid (fun hx => hasR_mono (l := l) (r := ⟨f, t, o, s⟩) (k := j) (i := k) hlt2 (by have := hn.out; omega) hx)
      clear hjl
      generalize rAt l j = p at *
      obtain ⟨f2, t2, o2, s2⟩ := p
      dsimp only at q0 q1 q2 q3
      by_cases hq : eqR ⟨f2, t2, o2, s2⟩ ⟨f, t, o, s⟩ = true
      · have hr := Lib.hid (hbad.out (by rw [hru.out, hmo.out hq]; rfl))
        go_wp2
        go_quiet (fail)
        go_wp2
        go_ret
        exact ⟨ret_bool hr.out.symm, bthen hB.out (bthen hB1.out (below_drewN hBj.out _))⟩
      · replace hq : eqR ⟨f2, t2, o2, s2⟩ ⟨f, t, o, s⟩ = false := by simpa using hq
        have hno2 := Lib.hid (show hasR (l.take (j + 1)) ⟨f, t, o, s⟩ = false by rw [hst.out, hno.out, hq]; rfl)
        go_wp2
        go_quiet (fail)
        go_wp2
        go_roundw
        case rel => exact ⟨j + 1, by omega, by go_num, hno2, below_drewN hBj.out _⟩
        case measure => simp [intOf]; omega
end Go.Proofs.YtaapnflhjbdmlaaGreatDoor
