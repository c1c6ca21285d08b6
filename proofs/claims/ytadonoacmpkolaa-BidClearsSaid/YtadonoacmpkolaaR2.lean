/- The reference: Offer, Check. -/
import Derived.Test.YtadonoacmpkolaaW5
namespace Go.Proofs.Ytadonoacmpkolaa
open Go.RowKit
attribute [local go_sem high] walk_shl walk_shr walk_bit walk_rem walk_and walk_or walk_andNot

set_option maxRecDepth 100000 in
set_option maxHeartbeats 800000 in
theorem roffer_any (w : World) (v : Value) (l : List Int) (m : Nat) (h : Ints w v l) (hm : m ≤ 6) :
    Calls Try.prog 36 #[.int .i64 (m : Int), v] w fun e w' => e = .returned (.bool (isBidB m l)) ∧ ∃ d, w.drewN d = w' := by
  have hsm : smallS m := smallS_of (by omega)
  have h64 := p2_le64 hm
  obtain ⟨A, cap, rfl, hl, hcap, hn, hat⟩ := h.open
  replace hat := Lib.hid hat
  clear hn h
  unfold maxLen at hcap
  by_cases hlen : l.length = p2 m
  case neg =>
    have hr := Lib.hid (isBidB_len hlen)
    have hne : (((l.length : Nat) : Int) != ((p2 m : Nat) : Int)) = true := by simp; omega
    replace hlen := Lib.hid hlen
    clear hat
    go_enter Try.func36, Try.ntmps36
    go_wp2
    go_ret
    exact ⟨ret_bool hr.out.symm, 0, rfl⟩
  have hne : (((l.length : Nat) : Int) != ((p2 m : Nat) : Int)) = false := by simp; omega
  have hp := p2_pos m
  have hl64 : l.length ≤ 64 := by omega
  have hl0 : 0 < l.length := by omega
  obtain ⟨b0, o0, rfl, hc0⟩ := hat.out 0 (by omega)
  simp only [Nat.add_zero] at hc0
  by_cases h0 : at0 l 0 = 0
  case neg =>
    have hr := Lib.hid (isBidB_zero (m := m) h0)
    have hne0 : (at0 l 0 != 0) = true := by simp [h0]
    replace hlen := Lib.hid hlen
    replace h0 := Lib.hid h0
    clear hat
    go_enter Try.func36, Try.ntmps36
    go_wp2
    go_ret
    exact ⟨ret_bool hr.out.symm, 0, rfl⟩
  have hne0 : (at0 l 0 != 0) = false := by simp [h0]
  replace hlen := Lib.hid hlen
  replace h0 := Lib.hid h0
  go_enter Try.func36, Try.ntmps36
  go_wp2
  go_loopw [5] (fun i wr => ∃ s : Nat, s ≤ l.length ∧ i = .int .i64 s ∧ Hid (∀ j, j < s → offOk m l j = true) ∧ ∃ d, wr = w.drewN d) (fun i _ => l.length - (intOf i).toNat)
  case atStart => exact ⟨0, Nat.zero_le _, rfl, fun j hj => by omega, 0, rfl⟩
  case round =>
    obtain ⟨s, hs, rfl, hok, d, rfl⟩ := hrel
    by_cases hlt : s < l.length
    case neg =>
      obtain rfl : s = l.length := by omega
      have hr := Lib.hid (isBidB_yes hlen.out h0.out hok.out)
      go_wp2
      go_ret
      exact ⟨ret_bool hr.out.symm, d, rfl⟩
    have hss : small s := small_of (by omega)
    obtain ⟨b1, o1, he, hc1⟩ := hat.out s hlt
    cases he
    by_cases hneg : at0 l s < 0
    · have hr := Lib.hid (isBidB_off hlt (offOk_neg (m := m) hneg))
      go_wp2
      go_ret
      exact ⟨ret_bool hr.out.symm, d, rfl⟩
    by_cases hbig : 1000000 < at0 l s
    · have hr := Lib.hid (isBidB_off hlt (offOk_big (m := m) hbig))
      go_wp2
      go_ret
      exact ⟨ret_bool hr.out.symm, d, rfl⟩
    go_wp2
    go_loopw [6] (fun i wr => ∃ k : Nat, k ≤ m ∧ i = .int .i64 k ∧ Hid (∀ j, j < k → ¬ (bitOf s j = 1 ∧ at0 l s < at0 l (andN s (p2 j)))) ∧ ∃ d, wr = w.drewN d) (fun i _ => m - (intOf i).toNat)
    case atStart => exact ⟨0, Nat.zero_le _, rfl, fun j hj => by omega, d, rfl⟩
    case round =>
      obtain ⟨k, hk, rfl, hno, d, rfl⟩ := hrel
      by_cases hkm : k < m
      case neg =>
        obtain rfl : k = m := by omega
        have hr := Lib.hid (offOk_yes (by omega) (by omega) hno.out)
        go_wp2
        go_roundw
        case rel => exact ⟨s + 1, by omega, by go_num, fun j hj => by
          by_cases hjs : j < s
          · exact hok.out j hjs
          · obtain rfl : j = s := by omega
            exact hr.out, d, rfl⟩
        case measure => simp [intOf]; omega
      have hsk : smallS k := smallS_of (by omega)
      have hpk := p2_le (m := k) (k := 6) (by omega)
      have hskp : small (p2 k) := small_of (by unfold p2 at *; omega)
      by_cases hb : bitOf s k = 1
      · have hbb := bitOf_is hb
        have hle := andN_le s (p2 k)
        obtain ⟨b2, o2, he, hc2⟩ := hat.out (andN s (p2 k)) (by omega)
        cases he
        by_cases hless : at0 l s < at0 l (andN s (p2 k))
        · have hr := Lib.hid (isBidB_off hlt (offOk_less hkm hb hless))
          replace hb := Lib.hid hb
          go_wp2_with fail
          go_quiet (fail)
          go_wp2
          go_ret
          exact ⟨ret_bool hr.out.symm, _, (World.drewN_drewN ..).symm⟩
        · have hh : Hid (¬ at0 l s < at0 l (andN s (p2 k))) := hless
          replace hb := Lib.hid hb
          go_wp2_with fail
          go_quiet (fail)
          go_wp2
          go_roundw
          case rel => exact ⟨k + 1, by omega, by go_num, fun j hj => by
            by_cases hjs : j < k
            · exact hno.out j hjs
            · obtain rfl : j = k := by omega
              exact fun h => absurd h.2 (Int.not_lt.2 hh.out), _, rfl⟩
          case measure => simp [intOf]; omega
      · have hbb := bitOf_ne hb
        replace hb := Lib.hid hb
        go_wp2_with fail
        go_quiet (fail)
        go_wp2
        go_roundw
        case rel => exact ⟨k + 1, by omega, by go_num, fun j hj => by
          by_cases hjs : j < k
          · exact hno.out j hjs
          · obtain rfl : j = k := by omega
            exact fun h => hb.out h.1, _, rfl⟩
        case measure => simp [intOf]; omega

theorem any_take {xs : List (List Int)} {p : List Int → Bool} {k : Nat} (hk : k < xs.length) (h : ∀ j, j < k → p (rowAt xs j) = false) (hp : p (rowAt xs k) = true) : xs.any p = true := by
  rw [rowAt_eq hk] at hp
  exact List.any_eq_true.2 ⟨_, List.getElem_mem hk, hp⟩
theorem any_none {xs : List (List Int)} {p : List Int → Bool} (h : ∀ j, j < xs.length → p (rowAt xs j) = false) : xs.any p = false := by
  rw [List.any_eq_false]
  intro x hx
  obtain ⟨i, hi, rfl⟩ := List.getElem_of_mem hx
  have := h i hi
  rw [rowAt_eq hi] at this
  rw [this]
  decide

set_option maxHeartbeats 800000 in
theorem rcheck_any (w : World) (v : Value) (xs : List (List Int)) (m : Int) (h : Rows2 w v xs) :
    Calls Try.prog 44 #[.int .i64 m, v] w fun e w' => e = .returned (.int .i64 (checkE m xs)) ∧ ∃ d, w.drewN d = w' := by
  have hcs : m < 1 ∨ (¬ m < 1 ∧ 6 < m) ∨ (¬ m < 1 ∧ ¬ 6 < m) := by omega
  obtain ⟨E, hE⟩ : ∃ E, E = checkE m xs := ⟨_, rfl⟩
  rw [← hE]
  obtain ⟨A, cap, rfl, hl, hcap, hn, hat⟩ := h.open
  replace hat := Lib.hid hat
  clear hn h
  unfold maxLen at hcap
  rcases hcs with h1 | ⟨h1, h2⟩ | ⟨h1, h2⟩
  · have hr := Lib.hid (show E = 1 by rw [hE]; simp [checkE, h1])
    clear hE
    go_enter Try.func44, Try.ntmps44
    go_wp2
    go_ret
    exact ⟨ret_int hr.out.symm, 0, rfl⟩
  · have hr := Lib.hid (show E = 1 by rw [hE]; simp [checkE, h2])
    clear hE
    go_enter Try.func44, Try.ntmps44
    go_wp2
    go_ret
    exact ⟨ret_int hr.out.symm, 0, rfl⟩
  have h12 : ¬ (m < 1 ∨ 6 < m) := by omega
  by_cases h3 : xs.length < 1
  · have hr := Lib.hid (show E = 80 by rw [hE]; simp only [checkE]; rw [if_neg h12, if_pos (.inl h3)])
    clear hE h12
    go_enter Try.func44, Try.ntmps44
    go_wp2
    go_ret
    exact ⟨ret_int hr.out.symm, 0, rfl⟩
  by_cases h4 : 6 < xs.length
  · have hr := Lib.hid (show E = 80 by rw [hE]; simp only [checkE]; rw [if_neg h12, if_pos (.inr (.inl h4))])
    clear hE h12
    go_enter Try.func44, Try.ntmps44
    go_wp2
    go_ret
    exact ⟨ret_int hr.out.symm, 0, rfl⟩
  obtain ⟨k, rfl⟩ : ∃ k : Nat, m = k := ⟨m.toNat, by omega⟩
  have hk6 : k ≤ 6 := by omega
  have hE1 : Hid (∀ j, j < xs.length → isBidB k (rowAt xs j) = false → E = 80) := fun j hj hb => by
    rw [hE]; simp only [checkE]; rw [if_neg h12, if_pos]
    refine .inr (.inr ?_)
    rw [Int.toNat_natCast]
    refine List.any_eq_true.2 ⟨_, List.getElem_mem hj, ?_⟩
    rw [rowAt_eq hj] at hb
    rw [hb]; rfl
  have hE2 : Hid ((∀ j, j < xs.length → isBidB k (rowAt xs j) = true) → E = 0) := fun hb => by
    rw [hE]; simp only [checkE]; rw [if_neg h12, if_neg]
    rintro (h | h | h)
    · exact h3 h
    · exact h4 h
    · rw [Int.toNat_natCast, any_none fun j hj => by rw [hb j hj]; rfl] at h
      cases h
  clear hE h12
  go_enter Try.func44, Try.ntmps44
  go_wp2
  go_loopw [5] (fun i wr => ∃ s : Nat, s ≤ xs.length ∧ i = .int .i64 s ∧ Hid (∀ j, j < s → isBidB k (rowAt xs j) = true) ∧ ∃ d, wr = w.drewN d) (fun i _ => xs.length - (intOf i).toNat)
  case atStart => exact ⟨0, Nat.zero_le _, rfl, fun j hj => by omega, 0, rfl⟩
  case round =>
    obtain ⟨s, hs, rfl, hok, d, rfl⟩ := hrel
    by_cases hlt : s < xs.length
    · obtain ⟨b1, o1, A1, cap1, rfl, hc1, hi1⟩ := hat.out s hlt
      have hcall := Lib.hid (roffer_any (w.drewN d) _ _ k (Ints.drewN hi1 d) hk6)
      clear hi1
      cases hb : isBidB k (rowAt xs s)
      · rw [hb] at hcall
        have hr := Lib.hid (hE1.out s hlt hb)
        clear hb
        go_wp2_with (go_at_call 36; refine hcall.out.mono ?_; rintro e w2 ⟨rfl, d2, rfl⟩)
        go_ret
        exact ⟨ret_int hr.out.symm, _, rfl⟩
      · rw [hb] at hcall
        replace hb := Lib.hid hb
        go_wp2_with (go_at_call 36; refine hcall.out.mono ?_; rintro e w2 ⟨rfl, d2, rfl⟩)
        go_roundw
        case rel => exact ⟨s + 1, by omega, by go_num, fun j hj => by
          by_cases hjs : j < s
          · exact hok.out j hjs
          · obtain rfl : j = s := by omega
            exact hb.out, _, rfl⟩
        case measure => simp [intOf]; omega
    · obtain rfl : s = xs.length := by omega
      have hr := Lib.hid (hE2.out hok.out)
      go_wp2
      go_ret
      exact ⟨ret_int hr.out.symm, d, rfl⟩

end Go.Proofs.Ytadonoacmpkolaa
