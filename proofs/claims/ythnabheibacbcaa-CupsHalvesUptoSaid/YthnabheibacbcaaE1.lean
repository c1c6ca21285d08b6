/- own; R.Check. No condition. -/
import Derived.Test.YthnabheibacbcaaC5
namespace Go.Proofs.Ythnabheibacbcaa
open Go.RowKit
attribute [local go_sem high] eql22

def cut15 (l : List Pt) : List Pt := l.take 15
theorem cut15_len (l : List Pt) : (cut15 l).length ≤ 15 := by unfold cut15; rw [List.length_take]; omega

set_option maxHeartbeats 1000000 in
theorem own_any (w : World) (v : Value) (l : List Pt) (h : Pts w v l) :
    Calls Try.prog 33 #[v] w fun e w' => ∃ v', e = .returned v' ∧ OwnP w.heap.size w' v' (cut15 l) ∧ Below w.heap.size w w' := by
  have hk := cut15_len l
  obtain ⟨A, n, cap, rfl, hn⟩ := h.shape
  obtain ⟨_, cap', e, hl, hcm, hnone, _⟩ := h.open
  injection e with e1 e2 e3
  subst e1 e3
  unfold maxLen at hcm
  have hl' : n ≤ cap := by rw [e2]; exact hl
  rw [← e2] at hl
  by_cases h15 : n ≤ 15
  · have hmin : min (n : Int) 15 = n := by omega
    have ht : cut15 l = l := List.take_of_length_le (by have := hn.out; omega)
    rw [ht]
    rcases A with _ | ad
    · have hc0 := hnone rfl
      have hn0 : n = 0 := by omega
      have hll : l = [] := List.length_eq_zero_iff.1 (by rw [← hn.out]; exact hn0)
      subst hll hc0 hn0
      clear hmin hnone e2
      have h := Lib.hid h
      go_enter Try.func33, Try.ntmps33
      go_wp2_with (at_builtin; refine wpList_append_pts _ rfl (.tmp 4) (.tmp 9) 31 rfl w.heap.size Try.underlying31 info22 _ [] rfl (OwnP.nil _ _) _ rfl [] h.out (by simp) (Nat.le_refl _) ?_; intro v' w' h1 h2 _ _)
      go_ret
      exact ⟨_, rfl, h1, h2⟩
    · clear hnone e2
      have h := Lib.hid h
      go_enter Try.func33, Try.ntmps33
      go_wp2_with (at_builtin; refine wpList_append_pts _ rfl (.tmp 4) (.tmp 9) 31 rfl w.heap.size Try.underlying31 info22 _ [] rfl (OwnP.nil _ _) _ rfl l h.out (by have := hn.out; simp; omega) (Nat.le_refl _) ?_; intro v' w' h1 h2 _ _)
      go_ret
      exact ⟨_, rfl, h1, h2⟩
  · have hmin : min (n : Int) 15 = 15 := by omega
    rcases A with _ | ad
    · have hc0 := hnone rfl
      omega
    have h := Lib.hid (h.take 15 (by have := hn.out; omega))
    clear hnone e2
    go_enter Try.func33, Try.ntmps33
    go_wp2_with (at_builtin; refine wpList_append_pts _ rfl (.tmp 4) (.tmp 9) 31 rfl w.heap.size Try.underlying31 info22 _ [] rfl (OwnP.nil _ _) _ rfl (l.take 15) h.out (by simp; omega) (Nat.le_refl _) ?_; intro v' w' h1 h2 _ _)
    go_ret
    exact ⟨_, rfl, h1, h2⟩

theorem checkB_bad {l : List Pt} {i : Nat} (hi : i < l.length) (h : pOk l i = false) : checkB l = false := by
  unfold checkB
  rw [Bool.and_eq_false_iff]
  right
  rw [List.all_eq_false]
  exact ⟨i, List.mem_range.2 hi, by simp [h]⟩
theorem checkB_good {l : List Pt} (h : ∀ i, i < l.length → pOk l i = true) : checkB l = (decide (1 ≤ l.length) && decide (l.length ≤ 14)) := by
  unfold checkB
  rw [show (List.range l.length).all (pOk l) = true from List.all_eq_true.2 fun i hi => h i (List.mem_range.1 hi), Bool.and_true]
theorem hasPt_step (l : List Pt) (p : Pt) (k : Nat) (hk : k < l.length) : hasPt (l.take (k + 1)) p = (hasPt (l.take k) p || eqPt p (ptA l k)) := by
  rw [take_ptA hk]
  unfold hasPt
  rw [List.any_append]
  simp
theorem hasPt_mono {l : List Pt} {p : Pt} {k i : Nat} (hki : k < i) (hi : i ≤ l.length) (h : eqPt p (ptA l k) = true) : hasPt (l.take i) p = true := by
  unfold hasPt
  rw [List.any_eq_true]
  refine ⟨ptA l k, ?_, h⟩
  rw [List.mem_take_iff_getElem]
  exact ⟨k, by omega, (ptA_eq (by omega)).symm⟩

set_option maxHeartbeats 2000000 in
theorem checkR_any (w : World) (v : Value) (l : List Pt) (h : Pts w v l) :
    Calls Try.prog 35 #[v] w fun e w' => e = .returned (.bool (checkB l)) ∧ Below w.heap.size w w' := by
  obtain ⟨A, n, cap, rfl, hn⟩ := h.shape
  obtain ⟨_, cap', e, hl, hcm, _, hat⟩ := h.open
  injection e with e1 e2 e3
  subst e1 e3
  unfold maxLen at hcm
  have hat := Lib.hid hat
  have hl' : n ≤ cap := by rw [e2]; exact hl
  clear e2 hl h
  go_enter Try.func35, Try.ntmps35
  go_wp2
  go_loopw [3] (fun c wr => ∃ i : Nat, i ≤ n ∧ c = .int .i64 (i : Int) ∧ Hid (∀ j, j < i → pOk l j = true) ∧ Hid (Below w.heap.size w wr)) (fun c _ => n - (intOf c).toNat)
  case atStart => exact ⟨0, Nat.zero_le _, rfl, Lib.hid (fun j hj => absurd hj (Nat.not_lt_zero _)), Below.refl _ _⟩
  case round =>
    obtain ⟨i, hi, rfl, hok, hB⟩ := hrel
    by_cases hlt : i < n
    case neg =>
      obtain rfl : i = n := by omega
      have hr := Lib.hid (show checkB l = (decide (1 ≤ i) && decide (i ≤ 14)) by rw [checkB_good (fun j hj => hok.out j (by rw [hn.out]; exact hj)), ← hn.out])
      by_cases h1 : 1 ≤ i
      · go_wp2
        go_ret
        refine ⟨ret_bool ?_, hB.out⟩
        rw [hr.out]
        simp [h1]
        try omega
      · obtain rfl : i = 0 := by omega
        go_wp2
        go_ret
        exact ⟨ret_bool (by rw [hr.out]; rfl), hB.out⟩
    have hil : i < l.length := by rw [← hn.out]; exact hlt
    obtain ⟨b, o, rfl, hx, hy⟩ := hat.out i hil
    have hxw := cell_below hx hB.out
    have hyw := cell_below hy hB.out
    have hpd : pOk l i = (okB (ptA l i) && !hasPt (l.take i) (ptA l i)) := rfl
    obtain ⟨p, hp⟩ : ∃ p, ptA l i = p := ⟨_, rfl⟩
    rw [hp] at hx hy hxw hyw hpd
    obtain ⟨p1, p2⟩ := p
    have hpd := Lib.hid hpd
    have hp := Lib.hid hp
    have hPl := Lib.hid (place_any2 wr p1 p2)
    by_cases hok1 : okB (p1, p2) = true
    case neg =>
      have hok1 : okB (p1, p2) = false := by simpa using hok1
      have hr := Lib.hid (show checkB l = false from checkB_bad hil (by rw [hpd.out, hok1]; rfl))
      have hok1 := Lib.hid hok1
      go_wp2_with (go_at_call 14; refine hPl.out.mono ?_; rintro e w1 ⟨rfl, h1⟩; rw [hok1.out]; replace hB := Lib.hid (bthen hB.out h1))
      go_ret
      exact ⟨ret_bool (by rw [hr.out]), hB.out⟩
    have hok1 := Lib.hid hok1
    go_wp2_with (go_at_call 14; refine hPl.out.mono ?_; rintro e w1 ⟨rfl, h1⟩; rw [hok1.out]; replace hB := Lib.hid (bthen hB.out h1))
    go_loopw [4] (fun c wr => ∃ k : Nat, k ≤ i ∧ c = .int .i64 (k : Int) ∧ Hid (hasPt (l.take k) (p1, p2) = false) ∧ Hid (Below w.heap.size w wr)) (fun c _ => i - (intOf c).toNat)
    case atStart => exact ⟨0, Nat.zero_le _, rfl, by unfold Hid hasPt; simp, hB⟩
    case round =>
      clear hxw hyw hB
      obtain ⟨k, hk, rfl, hno, hB⟩ := hrel
      by_cases hlt2 : k < i
      case neg =>
        obtain rfl : k = i := by omega
        have hnew := Lib.hid (show pOk l k = true by rw [hpd.out, hok1.out, hno.out]; rfl)
        go_wp2
        go_roundw
        case rel => exact ⟨k + 1, by omega, by go_num, Lib.hid (fun j hj => by rcases Nat.lt_or_ge j k with h | h; exact hok.out j h; rw [show j = k by omega]; exact hnew.out), hB⟩
        case measure => simp [intOf]; omega
      have hkl : k < l.length := by omega
      have hxw := cell_below hx hB.out
      have hyw := cell_below hy hB.out
      obtain ⟨b', o', e, kx, ky⟩ := hat.out k hkl
      cases e
      have kx := cell_below kx hB.out
      have ky := cell_below ky hB.out
      obtain ⟨q, hq⟩ : ∃ q, ptA l k = q := ⟨_, rfl⟩
      rw [hq] at kx ky
      obtain ⟨q1, q2⟩ := q
      have hq := Lib.hid hq
      have hE : eqPt (p1, p2) (q1, q2) = (q1 == p1 && q2 == p2) := by rw [eqPt_iff, BEq.comm (a := p1), BEq.comm (a := p2)]
      by_cases heq : (q1 == p1 && q2 == p2) = true
      · have hr := Lib.hid (show checkB l = false from checkB_bad hil (by rw [hpd.out, hasPt_mono hlt2 (by omega) (by rw [hq.out, hE]; exact heq)]; simp))
        clear hE
        go_wp2
        go_quiet (fail)
        go_wp2
        go_ret
        exact ⟨ret_bool (by rw [hr.out]), below_drewN hB.out nq⟩
      · have heq : (q1 == p1 && q2 == p2) = false := by simpa using heq
        have hst := Lib.hid (show hasPt (l.take (k + 1)) (p1, p2) = false by rw [hasPt_step l _ k hkl, hno.out, hq.out, hE, heq]; rfl)
        clear hE
        go_wp2
        go_quiet (fail)
        go_wp2
        go_roundw
        case rel => exact ⟨k + 1, by omega, by go_num, hst, Lib.hid (below_drewN hB.out nq)⟩
        case measure => simp [intOf]; omega
end Go.Proofs.Ythnabheibacbcaa
