/- checkAll without acceptors. No condition. -/
import Derived.Test.YtaapnflhjbdmlaaGreatDoorWC
namespace Go.Proofs.YtaapnflhjbdmlaaGreatDoor
open Go.RowKit

theorem indexF_nil (w : World) (f : Value) : Calls Tryz.prog 84 #[.slice none 0 0, f] w fun e w' => e = .returned (.int .i64 (-1)) ∧ w' = w := by
  go_enter Tryz.func84, Tryz.ntmps84
  go_wp2
  go_loopw [8] (fun i wr => i = .int .i64 0 ∧ Hid (wr = w)) (fun i _ => 0)
  case atStart => exact ⟨rfl, rfl⟩
  case round =>
    obtain ⟨rfl, hw⟩ := hrel
    go_wp2
    go_ret
    exact ⟨rfl, hw.out⟩
theorem containsF_nil (w : World) (f : Value) : Calls Tryz.prog 69 #[.slice none 0 0, f] w fun e w' => e = .returned (.bool false) ∧ w' = w := by
  have H := Lib.hid (indexF_nil w f)
  go_enter Tryz.func69, Tryz.ntmps69
  go_wp2_with (go_at_call 84; refine H.out.mono ?_; rintro e w1 ⟨rfl, rfl⟩)
  go_ret
  exact ⟨rfl, rfl⟩

def allE (C : Int) (l : List RuleB) (c : List ConfB) : Int := if sysB C l = true then if c.all (properB C) = true then 0 else 21 else 40

theorem allE_sys {C : Int} {l : List RuleB} {c : List ConfB} (h : sysB C l = false) : allE C l c = 40 := by unfold allE; simp [h]
theorem allE_bad {C : Int} {l : List RuleB} {c : List ConfB} (h : sysB C l = true) {i : Nat} (hi : i < c.length) (h2 : properB C c[i] = false) : allE C l c = 21 := by
  unfold allE
  rw [if_pos h, if_neg]
  rw [List.all_eq_true]
  intro hh
  rw [hh _ (List.getElem_mem hi)] at h2
  cases h2
theorem allE_ok {C : Int} {l : List RuleB} {c : List ConfB} (h : sysB C l = true) (h2 : ∀ i (hi : i < c.length), properB C c[i] = true) : allE C l c = 0 := by
  unfold allE
  rw [if_pos h, if_pos]
  rw [List.all_eq_true]
  intro x hx
  obtain ⟨i, hi, rfl⟩ := List.getElem_of_mem hx
  exact h2 i hi

set_option maxHeartbeats 4000000 in
theorem checkAll_any (w : World) (C : Int) (v vs : Value) (l : List RuleB) (c : List ConfB) (h : Rls w v l) (hc : Els ElC w vs c) (hs : ∀ r ∈ l, r.put.size ≤ 9223372036854775807) (hcs : ∀ x ∈ c, x.st.size ≤ 9223372036854775807) :
    Calls Tryz.prog 46 #[sv C v, .slice none 0 0, vs] w fun e w' => e = .returned (.int .i64 (allE C l c)) ∧ Below w.heap.size w w' := by
  obtain ⟨W, hW⟩ : ∃ W, w.alloc (.cells #[.int .i64 C, v] 40) = W := ⟨_, rfl⟩
  have hB : Below w.heap.size w W := by rw [← hW]; exact below1 _ _
  have k1 : Blk W w.heap.size 40 #[.int .i64 C, v] := by rw [← hW]; exact Blk.new w 40 _
  replace hc : Els ElC W vs c := Els.then hc hB
  have H := check_any W C v l (Els.then h hB) hs
  obtain ⟨A', n', cap', rfl, _⟩ := Els.shape h
  obtain ⟨A, n, cap, rfl, hn⟩ := Els.shape hc
  obtain ⟨hn2, hcap, hmax⟩ := Els.len hc
  unfold maxLen at hmax
  obtain ⟨p0, p1⟩ := k1.two
  have hcell := Lib.hid (fun h0 => Els.cell hc h0)
  replace hB := Lib.hid hB
  replace hcs := Lib.hid hcs
  clear hn2 k1 h hc hs
  unfold checkE at H
  cases e : sysB C l
  · have hr := Lib.hid (allE_sys (c := c) e)
    rw [e] at H
    replace H := Lib.hid H
    replace e := Lib.hid e
    go_enter Tryz.func46, Tryz.ntmps46
    go_wp2_with (go_at_call 29; refine H.out.mono ?_; rintro e w1 ⟨rfl, hb⟩; replace hb := Lib.hid hb)
    go_ret
    exact ⟨ret_int hr.out.symm, bthen hB.out hb.out⟩
  rw [e] at H
  replace H := Lib.hid H
  have hbad := Lib.hid (fun i (hi : i < c.length) h2 => allE_bad (c := c) e hi h2)
  have hgood := Lib.hid (fun h2 => allE_ok (c := c) e h2)
  replace e := Lib.hid e
  go_enter Tryz.func46, Tryz.ntmps46
  go_wp2_with (first
    | (go_at_call 29; refine H.out.mono ?_; clear H; rintro e w1 ⟨rfl, hb⟩; have hb := Lib.hid hb)
    | (go_at_call 69; refine (containsF_nil _ _).mono ?_; rintro e w2 ⟨rfl, rfl⟩))
  replace p0 := cell_below p0 hb.out
  go_loopw [20] (fun i wr => ∃ k : Nat, k ≤ n ∧ i = .int .i64 k ∧ Hid (∀ i (hi : i < c.length), i < k → properB C c[i] = true) ∧ Hid (Below w2.heap.size w2 wr)) (fun i _ => n - (intOf i).toNat)
  case atStart => exact ⟨0, Nat.zero_le _, rfl, fun i _ hi => by omega, Below.refl _ _⟩
  case round =>
    obtain ⟨k, hk, rfl, hok, hBW⟩ := hrel
    by_cases hlt : k < n
    case neg =>
      obtain rfl : k = n := by omega
      have hr := Lib.hid (hgood.out (fun i hi => hok.out i hi (by rw [hn.out]; exact hi)))
      go_wp2
      go_ret
      exact ⟨ret_int hr.out.symm, bthen hB.out (bthen hb.out hBW.out)⟩
    have hkl : k < c.length := by have := hn.out; omega
    obtain ⟨b, off, rfl, hat⟩ := hcell.out (by omega)
    have q0 := cell_below (cell_below (hat k hkl 0 _ rfl) hb.out) hBW.out
    have q1 := cell_below (cell_below (hat k hkl 1 _ rfl) hb.out) hBW.out
    replace p0 := cell_below p0 hBW.out
    have a0 := fun o => cell_below p0 (below1 wr o)
    replace hbad := Lib.hid (fun h2 => hbad.out k hkl h2)
    have hsk := hcs.out c[k] (List.getElem_mem hkl)
    have hck : ∀ i (hi : i < c.length), i < k + 1 → i < k ∨ c[i] = c[k] := fun i hi hik => by
      rcases Nat.lt_or_ge i k with h | h
      · exact .inl h
      · right; congr 1; omega
    replace hck := Lib.hid hck
    clear hat
    generalize c[k] = p at *
    obtain ⟨x, s⟩ := p
    change wr.cell? ⟨b, off + k * 2 + 0, none⟩ = some (.int .i64 x) at q0
    change wr.cell? ⟨b, off + k * 2 + 1, none⟩ = some (.string s) at q1
    rw [Nat.add_zero] at q0
    dsimp only at hsk
    have hpd : properB C ⟨x, s⟩ = (ctlB C x && wordB (cs s) && decide (s.size ≤ 20)) := rfl
    unfold ctlB at hpd
    replace hpd := Lib.hid hpd
    have hB1 := Lib.hid (bthen hBW.out (below1 wr (.cells #[.int .i64 x, .string s] 60)))
    have hI := Lib.hid (isWord_any s (wr.alloc (.cells #[.int .i64 x, .string s] 60)) hsk)
    by_cases e1 : x < 0
    · have hr := Lib.hid (hbad.out (by rw [hpd.out]; simp [show ¬ 0 ≤ x by omega]))
      go_wp2
      go_ret
      exact ⟨ret_int hr.out.symm, bthen hB.out (bthen hb.out hB1.out)⟩
    by_cases e2 : C ≤ x
    · have hr := Lib.hid (hbad.out (by rw [hpd.out]; simp [show ¬ x < C by omega]))
      go_wp2
      go_ret
      exact ⟨ret_int hr.out.symm, bthen hB.out (bthen hb.out hB1.out)⟩
    by_cases e3 : 20 < s.size
    · have hr := Lib.hid (hbad.out (by rw [hpd.out]; simp [show ¬ s.size ≤ 20 by omega]))
      have e3' : (20 : Int) < s.size := by omega
      go_wp2
      go_ret
      exact ⟨ret_int hr.out.symm, bthen hB.out (bthen hb.out hB1.out)⟩
    have e3' : ¬ (20 : Int) < s.size := by omega
    cases e4 : wordB (cs s)
    · have hr := Lib.hid (hbad.out (by rw [hpd.out, e4]; simp))
      rw [e4] at hI
      replace e4 := Lib.hid e4
      go_wp2_with (go_at_call 51; refine hI.out.mono ?_; rintro e w2 ⟨rfl, hb2⟩; replace hb2 := Lib.hid hb2)
      go_ret
      exact ⟨ret_int hr.out.symm, bthen hB.out (bthen hb.out (bthen hB1.out hb2.out))⟩
    · rw [e4] at hI
      have hnew := Lib.hid (show properB C ⟨x, s⟩ = true by rw [hpd.out, e4]; simp; omega)
      replace e4 := Lib.hid e4
      go_wp2_with (go_at_call 51; refine hI.out.mono ?_; rintro e w2 ⟨rfl, hb2⟩; replace hb2 := Lib.hid hb2)
      go_roundw
      case rel => exact ⟨k + 1, by omega, by go_num, fun j hj hjk => by
        rcases hck.out j hj hjk with h | h
        · exact hok.out j hj h
        · rw [h]; exact hnew.out, bthen hB1.out hb2.out⟩
      case measure => simp [intOf]; omega
end Go.Proofs.YtaapnflhjbdmlaaGreatDoor
