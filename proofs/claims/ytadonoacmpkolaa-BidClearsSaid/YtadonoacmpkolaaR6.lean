/- The reference: IsCore. -/
import Derived.Test.YtadonoacmpkolaaW21
namespace Go.Proofs.Ytadonoacmpkolaa
open Go.RowKit
attribute [local go_sem high] walk_shl walk_shr walk_bit walk_rem walk_and walk_or walk_andNot

set_option maxRecDepth 100000 in
set_option maxHeartbeats 2000000 in
theorem rcore_any (w : World) (v u : Value) (xs : List (List Int)) (ps : List Int) (m : Nat) (h : Rows2 w v xs) (hu : Ints w u ps) (hE : Bids m xs) (hl : ps.length = xs.length) :
    Calls Try.prog 40 #[.int .i64 (m : Int), v, u] w fun e w' => e = .returned (.bool (coreB m xs ps)) ∧ Below w.heap.size w w' := by
  have hbe := Lib.hid (rbest_any w v xs m h hE)
  have hev := Lib.hid (fun W (hB : Below w.heap.size w W) => everyone_any W v xs (Rows2.below h (Nat.le_refl _) hB) hE.l6)
  have hwo := Lib.hid (fun W (hB : Below w.heap.size w W) s (hs : s ≤ 1000000) => worth_any W v xs m s (Rows2.below h (Nat.le_refl _) hB) hE hs)
  have hob := Lib.hid (ownsOf_bd hE)
  have hl6 := hE.l6
  have hn64 := p2_le64 hE.l6
  have hn1 := p2_pos xs.length
  have hcp := Lib.hid (fun i (hi : i < xs.length) h => coreB_pay (m := m) (ps := ps) hi h)
  have hcs := Lib.hid (fun s (hs : s < p2 xs.length) h => coreB_set (m := m) (ps := ps) hs h)
  have hcy := Lib.hid (coreB_yes (m := m) (xs := xs) (ps := ps))
  have hws : Hid (∀ s, 0 ≤ tblAt s xs 0 (p2 m - 1) ∧ tblAt s xs 0 (p2 m - 1) ≤ 6000000) := fun s => by
    have h1 := wts_bounds (selR s 0 xs) (fun b hb t => (hE.ok b (selR_sub s xs 0 b hb)).2 t) (p2 m - 1)
    have h2 := selP_len s xs xs.length
    rw [selP_all] at h2
    unfold tblAt
    rw [List.drop_zero]
    refine ⟨h1.1, Int.le_trans h1.2 ?_⟩
    have : ((selR s 0 xs).length : Int) ≤ 6 := by omega
    omega
  have hsd : Hid (∀ s, setOk m xs (ownsOf m xs) ps s = decide (tblAt s xs 0 (p2 m - 1) - inUpto (ownsOf m xs) s xs.length ≤ outUpto ps s xs.length)) := fun s => by
    unfold setOk tblAt; rw [List.drop_zero]
  have hown := Lib.hid (at0_owns m xs)
  have hrl : Hid (∀ k, k < xs.length → (rowAt xs k).length = p2 m) := fun k hk => (hE.row k hk).1
  have hnl := Lib.hid (fun i => natAt_lt' (m := m) xs i)
  have hall := Lib.hid (alloc_length xs (p2 m - 1))
  have hpp := p2_pos m
  have h64 := p2_le64 hE.m6
  generalize coreB m xs ps = core at *
  generalize alloc xs (p2 m - 1) = ls at *
  generalize ownsOf m xs = os at *
  obtain ⟨A, cap, rfl, _, hcap, _, hat⟩ := h.open
  obtain ⟨B, cu, rfl, _, hcu, _, hau⟩ := hu.open
  rw [hl] at hau ⊢
  replace hat := Lib.hid hat
  replace hau := Lib.hid hau
  clear h hu hE
  unfold maxLen at hcap hcu
  have hpl := Lib.hid hl
  clear hl
  obtain ⟨N, hN⟩ : ∃ N, N = p2 xs.length := ⟨_, rfl⟩
  obtain ⟨E, hEE⟩ : ∃ E, E = p2 xs.length - 1 := ⟨_, rfl⟩
  rw [← hN] at hn64 hcs hcy
  rw [← hEE] at hev
  have hNE : N = E + 1 := by omega
  have hE63 : E ≤ 63 := by omega
  clear hN hEE hn1
  replace hNE := Lib.hid hNE
  -- the offers, and the payments, in any later world
  go_enter Try.func40, Try.ntmps40
  go_wp2_with (go_at_call 30; refine hbe.out.mono ?_; rintro e w3 ⟨v3, rfl, ho3, hB3⟩; obtain ⟨A3, c3, rfl, _, hc3, _, hat3⟩ := (OwnI.ints ho3).open; rw [casts_length, hall.out] at hat3 ⊢; unfold maxLen at hc3; replace hat3 := Lib.hid hat3; clear ho3; replace hB3 := Lib.hid hB3)
  clear hbe
  have hau3 : Hid (∀ i, i < xs.length → ∃ b off, B = some ⟨b, off, none⟩ ∧ w3.cell? ⟨b, off + i, none⟩ = some (.int .i64 (at0 ps i))) := fun i hi => by
    obtain ⟨b, off, e, hc⟩ := hau.out i hi
    exact ⟨b, off, e, (hB3.out.cell (p := ⟨b, off + i, none⟩) (lt_of_cell hc)).trans hc⟩
  have hof3 : Hid (∀ i, i < xs.length → ∃ b1 o1 b4 o4 cap1 b5 o5, A = some ⟨b1, o1, none⟩ ∧ A3 = some ⟨b5, o5, none⟩ ∧ cap1 ≤ 2 ^ 63 - 1 ∧ p2 m ≤ cap1 ∧ w3.cell? ⟨b1, o1 + i, none⟩ = some (.slice (some ⟨b4, o4, none⟩) (p2 m) cap1) ∧
      w3.cell? ⟨b4, o4 + natAt ls i, none⟩ = some (.int .i64 (at0 os i)) ∧ w3.cell? ⟨b5, o5 + i, none⟩ = some (.int .i64 ((natAt ls i : Nat) : Int)) ∧ natAt ls i < p2 m) := fun i hi => by
    obtain ⟨b1, o1, A2, cap2, e1, hc1, hi1⟩ := hat.out i hi
    have hrj := hrl.out i hi
    obtain ⟨A4, cap4, e4, hl4, hcap4, _, hat4⟩ := hi1.open
    cases e4
    obtain ⟨b4, o4, rfl, hc4⟩ := hat4 (natAt ls i) (by rw [hrj]; exact hnl.out i)
    obtain ⟨b5, o5, e5, hc5⟩ := hat3.out i hi
    rw [at0_casts] at hc5
    rw [← hown.out i hi] at hc4
    rw [hrj] at hc1 hl4
    exact ⟨b1, o1, b4, o4, cap2, b5, o5, e1, e5, hcap4, hl4, (hB3.out.cell (p := ⟨b1, o1 + i, none⟩) (lt_of_cell hc1)).trans hc1, (hB3.out.cell (p := ⟨b4, o4 + natAt ls i, none⟩) (lt_of_cell hc4)).trans hc4, hc5, hnl.out i⟩
  clear hat hau hat3 hown hrl hnl hall
  go_loopw [8] (fun i wr => ∃ k : Nat, k ≤ xs.length ∧ i = .int .i64 (k : Int) ∧ Hid (∀ j, j < k → paysOk os ps j = true) ∧ ∃ d, wr = w3.drewN d) (fun i _ => xs.length - (intOf i).toNat)
  case atStart => exact ⟨0, Nat.zero_le _, rfl, (fun j hj => absurd hj (by omega)), 0, rfl⟩
  case round =>
    obtain ⟨k, hk, rfl, hpk, d, rfl⟩ := hrel
    by_cases hlt : k < xs.length
    · obtain ⟨b2, o2, rfl, hc2⟩ := hau3.out k hlt
      obtain ⟨b1, o1, b4, o4, cap1, b5, o5, rfl, rfl, hq1, hq2, hc1, hc4, hc5, hq3⟩ := hof3.out k hlt
      have hpd : Hid (paysOk os ps k = (decide (0 ≤ at0 ps k) && decide (at0 ps k ≤ at0 os k))) := rfl
      have hno := Lib.hid (hcp.out k hlt)
      generalize at0 ps k = x at *
      generalize at0 os k = y at *
      generalize natAt ls k = nk at *
      by_cases hx : x < 0
      · have hr := Lib.hid (hno.out (by rw [hpd.out]; simp; omega))
        go_wp2_with fail
        go_quiet (fail)
        go_wp2
        go_ret
        exact ⟨by rw [hr.out]; rfl, below_drewN (below_drewN hB3.out d) _⟩
      · by_cases hy : y < x
        · have hr := Lib.hid (hno.out (by rw [hpd.out]; simp; omega))
          go_wp2_with fail
          go_quiet (fail)
          go_wp2
          go_ret
          exact ⟨by rw [hr.out]; rfl, below_drewN (below_drewN hB3.out d) _⟩
        · have hr := Lib.hid (show paysOk os ps k = true by rw [hpd.out]; simp; omega)
          go_wp2_with fail
          go_quiet (fail)
          go_wp2
          go_roundw
          case rel => exact ⟨k + 1, by omega, by go_num, (fun j hj => by
            by_cases e : j = k
            · rw [e]; exact hr.out
            · exact hpk.out j (by omega)), _, rfl⟩
          case measure => simp [intOf]; try omega
    · obtain rfl : k = xs.length := by omega
      have hpb : Hid (∀ i, 0 ≤ at0 ps i ∧ at0 ps i ≤ 1000000) := fun i => by
        by_cases hi : i < xs.length
        · have h1 := hpk.out i hi
          unfold paysOk at h1
          simp only [Bool.and_eq_true, decide_eq_true_eq] at h1
          have := hob.out i
          omega
        · have : at0 ps i = 0 := by unfold at0; simp [List.getD, List.getElem?_eq_none (show ps.length ≤ i by rw [hpl.out]; omega)]
          rw [this]; decide
      have hib := Lib.hid (inUpto_bd os · hob.out)
      have hob2 := Lib.hid (outUpto_bd ps · hpb.out)
      have hcy2 := Lib.hid (hcy.out hpk.out)
      clear hcp hcy hpk
      go_wp2
      go_loopw [9] (fun i wr => ∃ s : Nat, s ≤ E + 1 ∧ i = .int .i64 (s : Int) ∧ Hid (∀ j, j < s → setOk m xs os ps j = true) ∧ Hid (Below w3.heap.size w3 wr)) (fun i _ => E + 1 - (intOf i).toNat)
      case atStart => exact ⟨0, Nat.zero_le _, rfl, (fun j hj => absurd hj (by omega)), below_drewN (Below.refl _ _) d⟩
      case round =>
        obtain ⟨s, hs, rfl, hss, hB⟩ := hrel
        have hev1 := Lib.hid (hev.out wr (bthen hB3.out hB.out))
        by_cases hlt2 : (s : Int) ≤ (E : Int)
        · have hsm : small s := small_of (by have := hNE.out; omega)
          have hno := Lib.hid (hcs.out s (by rw [hNE.out]; omega))
          have hsd1 := Lib.hid (hsd.out s)
          have hws1 := hws.out s
          obtain ⟨wo, rfl⟩ : ∃ wo : World, wo = wr := ⟨_, rfl⟩
          go_wp2_with (go_at_call 28; refine hev1.out.mono ?_; rintro e w6 ⟨rfl, rfl⟩)
          go_loopw [10, 11, 12] (fun p o i wr => ∃ k : Nat, k ≤ xs.length ∧ i = .int .i64 (k : Int) ∧ p = .int .i64 (outUpto ps s k) ∧ o = .int .i64 (inUpto os s k) ∧ ∃ d, wr = wo.drewN d) (fun _ _ i _ => xs.length - (intOf i).toNat)
          case atStart => exact ⟨0, Nat.zero_le _, rfl, rfl, rfl, 0, rfl⟩
          case round =>
            obtain ⟨k, hk, rfl, rfl, rfl, d2, rfl⟩ := hrel
            by_cases hlt3 : k < xs.length
            · obtain ⟨b2, o2, rfl, hc2⟩ := hau3.out k hlt3
              obtain ⟨b1, o1, b4, o4, cap1, b5, o5, rfl, rfl, hq1, hq2, hc1, hc4, hc5, hq3⟩ := hof3.out k hlt3
              replace hc1 := (hB.out.cell (p := ⟨b1, o1 + k, none⟩) (lt_of_cell hc1)).trans hc1
              replace hc2 := (hB.out.cell (p := ⟨b2, o2 + k, none⟩) (lt_of_cell hc2)).trans hc2
              replace hc4 := (hB.out.cell (p := ⟨b4, o4 + natAt ls k, none⟩) (lt_of_cell hc4)).trans hc4
              replace hc5 := (hB.out.cell (p := ⟨b5, o5 + k, none⟩) (lt_of_cell hc5)).trans hc5
              have hso : Hid (outUpto ps s (k + 1) = if bitOf s k = 1 then outUpto ps s k else outUpto ps s k + at0 ps k) := rfl
              have hsi : Hid (inUpto os s (k + 1) = if bitOf s k = 1 then inUpto os s k + at0 os k else inUpto os s k) := rfl
              have hb1 := hib.out s k
              have hb2 := hob2.out s k
              have hb3 := hob.out k
              have hb4 := hpb.out k
              generalize outUpto ps s k = pk at *
              generalize inUpto os s k = ik at *
              generalize at0 ps k = pp at *
              generalize at0 os k = oo at *
              generalize natAt ls k = nk at *
              by_cases hb : bitOf s k = 1
              · have hbb := bitOf_is hb
                rw [if_pos hb] at hso hsi
                have hwr : IntKind.i64.wrap (ik + oo) = ik + oo := IntWalk.i64_in _ (by omega)
                clear hb1 hb2 hb3 hb4
                replace hb := Lib.hid hb
                go_wp2_with fail
                go_quiet (fail)
                go_wp2
                go_roundw
                case rel => exact ⟨k + 1, by omega, by go_num, by rw [hso.out], by rw [hsi.out], _, rfl⟩
                case measure => simp [intOf]; try omega
              · have hbb := bitOf_ne hb
                rw [if_neg hb] at hso hsi
                have hwr : IntKind.i64.wrap (pk + pp) = pk + pp := IntWalk.i64_in _ (by omega)
                clear hb1 hb2 hb3 hb4
                replace hb := Lib.hid hb
                go_wp2
                go_roundw
                case rel => exact ⟨k + 1, by omega, by go_num, by rw [hso.out], by rw [hsi.out], _, rfl⟩
                case measure => simp [intOf]; try omega
            · obtain rfl : k = xs.length := by omega
              have hbc := Lib.hid (hwo.out (wo.drewN d2) (below_drewN (bthen hB3.out hB.out) d2) s (by have := hNE.out; omega))
              have hb1 := hib.out s xs.length
              have hb2 := hob2.out s xs.length
              generalize outUpto ps s xs.length = pk at *
              generalize inUpto os s xs.length = ik at *
              generalize tblAt s xs 0 (p2 m - 1) = W0 at *
              have hwr : IntKind.i64.wrap (W0 - ik) = W0 - ik := IntWalk.i64_in _ (by omega)
              clear hb1 hb2 hws1
              have hBw : Hid (Below w3.heap.size w3 (wo.drewN d2)) := below_drewN hB.out d2
              by_cases hcmp : pk < W0 - ik
              · have hr := Lib.hid (hno.out (by rw [hsd1.out]; simp; omega))
                go_wp2_with (go_at_call 27; refine hbc.out.mono ?_; rintro e w5 ⟨rfl, hB5⟩; replace hB5 := Lib.hid (bthen hBw.out hB5))
                go_ret
                exact ⟨by rw [hr.out]; rfl, bthen hB3.out hB5.out⟩
              · have hr := Lib.hid (show setOk m xs os ps s = true by rw [hsd1.out]; simp; omega)
                go_wp2_with (go_at_call 27; refine hbc.out.mono ?_; rintro e w5 ⟨rfl, hB5⟩; replace hB5 := Lib.hid (bthen hBw.out hB5))
                go_roundw
                case rel => exact ⟨s + 1, by omega, by go_num, (fun j hj => by
                  by_cases e : j = s
                  · rw [e]; exact hr.out
                  · exact hss.out j (by omega)), hB5.out⟩
                case measure => simp [intOf]; try omega
        · have hr := Lib.hid (hcy2.out (fun j hj => hss.out j (by have := hNE.out; omega)))
          go_wp2_with (go_at_call 28; refine hev1.out.mono ?_; rintro e w6 ⟨rfl, rfl⟩)
          go_ret
          exact ⟨by rw [hr.out]; rfl, bthen hB3.out hB.out⟩
end Go.Proofs.Ytadonoacmpkolaa
