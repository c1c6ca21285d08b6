/- R.Layers: the hulls of what is left. No condition. -/
import Derived.Test.YthnabheibacbcaaF23
namespace Go.Proofs.Ythnabheibacbcaa
open Go.RowKit

theorem restL_step {H ks : List Nat} {i : Nat} (hi : i < ks.length) : restL H (ks.take (i + 1)) = if natAt ks i ∈ H then restL H (ks.take i) else restL H (ks.take i) ++ [natAt ks i] := by
  unfold restL
  rw [List.take_succ_eq_append_getElem hi, ← natAt_eq hi, List.filter_append]
  by_cases h : natAt ks i ∈ H <;> simp [h]

set_option maxHeartbeats 4000000 in
set_option maxRecDepth 100000 in
theorem LayersR_ok (w : World) (v : Value) (l : List Pt) (os : List Nat) (h : Pts w v l) (hok : OkL l) (hgen : Gen l) (hl14 : l.length ≤ 14) (hord : Ordd l os) :
    Calls Try.prog 28 #[v] w fun e w' => ∃ v', e = .returned v' ∧ OwnRows w.heap.size 33 w' v' ((laysL (tur l) os.length os).map nats) ∧ Below w.heap.size w w' := by
  obtain ⟨A, n, cap, rfl, hn⟩ := h.shape
  have hn14 : n ≤ 14 := by rw [hn.out]; exact hl14
  have hoN : os.length ≤ n := by rw [hord.1.length_eq, List.length_range, hn.out]; exact Nat.le_refl _
  have hRH := Lib.hid (fun W (hb : Below w.heap.size w W) (vx : Value) (ks so : List Nat) (hx : Ints W vx (nats ks)) (hp : ks.Perm so) (hs : so.Sublist os) (hne : so ≠ []) (h14 : ks.length ≤ 14) =>
    hullR_any W _ vx l ks (hullL (tur l) so) (h.then hb) hok hgen hx (fun k hk => by have := hord.1.mem_iff.1 (hs.subset (hp.mem_iff.1 hk)); simpa using this) h14 ((rest_isH hgen hord hs hne).congr fun x => (hp.mem_iff).symm)
      (by have := hullL_len (t := tur l) so; have := hp.length_eq; omega))
  have hstep := Lib.hid (fun (so : List Nat) (hs : so.Sublist os) (hne : so ≠ []) => restL_len (rest_isH hgen hord hs hne))
  replace hord := Lib.hid hord
  obtain ⟨M, hM⟩ : ∃ M, w.heap.size = M := ⟨_, rfl⟩
  rw [hM]
  clear h hok hgen hl14
  go_enter Try.func28, Try.ntmps28
  go_wp2
  go_loopw [3, 4] (fun c3 c4 wr => ∃ (i : Nat) (A3 : Option Addr) (C3 : Nat), i ≤ n ∧ c4 = .int .i64 (i : Int) ∧ c3 = .slice A3 i C3 ∧ Hid (OwnI M 3 wr (.slice A3 i C3) (nats (List.range i))) ∧ Hid (Below M w wr)) (fun _ c _ => n - (intOf c).toNat)
  case atStart => exact ⟨0, none, 0, Nat.zero_le _, rfl, rfl, by unfold Hid; exact own_nil _ _ _, Below.refl _ _⟩
  case round =>
    obtain ⟨i, A3, C3, hi, rfl, rfl, hO, hB⟩ := hrel
    have hMw : M ≤ wr.heap.size := by have := hB.out.size; omega
    by_cases hlt : i < n
    · go_wp2_with (at_builtin; refine wpList_append_int rfl (.tmp 17) (.tmp 19) 33 rfl M 3 Try.underlying33 info3 _ _ rfl rfl hO.out rfl rfl (by rw [nats_length, List.length_range]; omega) hMw ?_; intro v2 w2 h2 hb2 _; obtain ⟨A5, n5, c5, rfl, hn5⟩ := OwnL.shape h2; have hn5' := (show n5 = i + 1 by rw [hn5.out]; simp [nats_length]); subst hn5'; have h2 := Lib.hid h2; have hb2 := Lib.hid (hB.out.trans hb2))
      go_roundw
      case rel => exact ⟨i + 1, _, _, by omega, by go_num, rfl, Lib.hid (by rw [List.range_succ, nats_append]; exact h2.out), hb2⟩
      case measure => simp [intOf]; omega
    obtain rfl : i = n := by omega
    have hp0 := Lib.hid (show (List.range i).Perm os by rw [hn.out]; exact hord.out.1.symm)
    go_wp2
    go_loopw [3, 5] (fun c3 c5 wr => ∃ (ks so : List Nat) (done : List (List Nat)) (k m : Nat) (A3 : Option Addr) (C3 : Nat) (A5 : Option Addr) (n5 C5 : Nat), c3 = .slice A3 m C3 ∧ c5 = .slice A5 n5 C5 ∧ m ≤ i ∧ Hid (m = ks.length) ∧
      Hid (OwnI M 3 wr (.slice A3 m C3) (nats ks)) ∧ Hid (ks.Perm so) ∧ Hid (so.Sublist os) ∧ Hid (OwnRows M 33 wr (.slice A5 n5 C5) (done.map nats)) ∧ Hid (done ++ laysL (tur l) k so = laysL (tur l) os.length os) ∧ Hid (so.length ≤ k) ∧
      Hid (Below M w wr) ∧ Hid (done.length + so.length ≤ os.length) ∧ Hid (∀ b, Value.ownBlock (.slice A3 m C3) = some b → Value.ownBlock (.slice A5 n5 C5) ≠ some b)) (fun c _ _ => lenV c)
    case atStart => exact ⟨List.range i, os, [], os.length, i, A3, C3, none, 0, 0, rfl, rfl, Nat.le_refl _, Lib.hid (by simp), hO, hp0, Lib.hid (List.Sublist.refl _), Lib.hid (own_nil _ _ _), Lib.hid rfl, Lib.hid (Nat.le_refl _), hB, Lib.hid (by simp), Lib.hid (fun b _ => by simp [Value.ownBlock])⟩
    case round =>
      clear hMw hO hB
      obtain ⟨ks, so, done, k, m, A3, C3, A5, n5, C5, rfl, rfl, hm, hmk, hO, hp, hS, hR, hd, hk, hB, hdl, hap⟩ := hrel
      have hMw : M ≤ wr.heap.size := by have := hB.out.size; omega
      have hkl := hp.out.length_eq
      by_cases hlt2 : (m : Int) > 0
      case neg =>
        have h0 : so = [] := List.eq_nil_of_length_eq_zero (by rw [← hkl, ← hmk.out]; omega)
        replace hkl := Lib.hid hkl
        replace h0 := Lib.hid h0
        go_wp2
        go_ret
        refine ⟨_, rfl, ?_, hB.out⟩
        have := hd.out
        rw [h0.out, laysL_stop, List.append_nil] at this
        rw [← this]
        exact hR.out
      have hne : so ≠ [] := by intro e; rw [e] at hkl; have := hmk.out; simp at hkl; rw [hkl] at this; simp at this; omega
      have hlenr := Lib.hid (hstep.out so hS.out hne)
      have hst := Lib.hid (laysL_step (tur l) hne hk.out)
      have hHl := hullL_len (t := tur l) so
      have hH := Lib.hid (hRH.out wr (by rw [hM]; exact hB.out) _ ks so (OwnI.ints hO.out) hp.out hS.out hne (by rw [← hmk.out]; omega))
      obtain ⟨H, hHe⟩ : ∃ H, hullL (tur l) so = H := ⟨_, rfl⟩
      rw [hHe] at hlenr hst hH hHl
      have hH28 : H.length ≤ 28 := by have := hmk.out; omega
      obtain ⟨b3, c3', e3, hb31, hb32, hc31, hc32, -, -⟩ := OwnI.open hO.out (by rw [nats_length, ← hmk.out]; omega)
      injection e3 with e31 e32 e33
      subst e31 e33
      have hb35 := Lib.hid (hap.out b3 rfl)
      have hl5 := Lib.hid (OwnL.lt hR.out)
      replace hkl := Lib.hid hkl
      clear hne hHl hHe hc31 hc32 e32
      go_upto_region 10 with first
        | (go_at_call 45; refine hH.out.mono ?_; rintro e w3 ⟨v6, rfl, hv6, hb3⟩; obtain ⟨A6, n6, c6, rfl, hn6⟩ := OwnL.shape hv6; rw [nats_length] at hn6; have hz3 := hb3.size; have hsl3 := Lib.hid (OwnL.slc hv6); have hR3 := Lib.hid (OwnRows.below hR.out (Nat.le_refl _) hb3); have hO3 := Lib.hid (OwnL.below hO.out (Nat.le_refl _) hb3); replace hb3 := Lib.hid hb3; clear hv6)
        | (at_builtin; refine wpList_append_row rfl (.tmp 27) (.tmp 29) 40 rfl M 33 Try.underlying40 info33 (.slice A5 n5 C5) _ rfl rfl hR3.out rfl rfl hsl3.out (fun b hb e => by have := (hl5.out b e).2; have := hb.1; omega) (by rw [List.length_map]; have := hdl.out; omega) (by omega) ?_; intro v5 w6 hR6 hB6 hG6; obtain ⟨A5', n5', C5', rfl, -⟩ := OwnL.shape hR6; replace hR6 := Lib.hid hR6; replace hB6 := Lib.hid hB6; replace hG6 := Lib.hid hG6)
      have hz6 := hB6.out.size
      have hx6 := Lib.hid (show ∀ j, j < m → w6.cell? ⟨b3, j, none⟩ = some (.int .i64 ((natAt ks j : Nat) : Int)) from fun j hj => by
        have h1 := (own_len hO3.out).2.2.2.2.2.1 j hj
        rw [at0_nats] at h1
        exact gcell hG6.out h1 (fun e => hb35.out e.symm))
      have hh6 := Lib.hid (show Ints w6 (.slice A6 n6 c6) (nats H) from Slc.keep hsl3.out (fun b hb hlt => ⟨trivial, hG6.out.block b hlt (fun e => by have := (hl5.out b e.symm).2; have := hb.1; omega)⟩) fun _ _ _ h => h)
      have hn28 : n6 ≤ 28 := by rw [hn6.out]; exact hH28
      obtain ⟨_, c6', e6, hl6, hcm6, _, hat6⟩ := hh6.out.open
      injection e6 with e61 e62 e63
      subst e61 e63
      unfold maxLen at hcm6
      rw [← e62] at hl6
      clear e62 hcm6
      replace hat6 := Lib.hid hat6
      have hBw6 := Lib.hid (hB.out.trans ((hb3.out.mono hMw).trans hB6.out))
      clear hO3 hR3 hsl3 hH hb35
      go_wp2
      go_loopw [7, 8] (fun c7 c8 wr2 => ∃ (j : Nat) (A7 : Option Addr) (n7 C7 : Nat), j ≤ m ∧ c8 = .int .i64 (j : Int) ∧ c7 = .slice A7 n7 C7 ∧ Hid (OwnI w6.heap.size 3 wr2 (.slice A7 n7 C7) (nats (restL H (ks.take j)))) ∧ Hid (Below w6.heap.size w6 wr2)) (fun _ c _ => m - (intOf c).toNat)
      case atStart => exact ⟨0, none, 0, 0, Nat.zero_le _, rfl, rfl, by unfold Hid; exact own_nil _ _ _, Below.refl _ _⟩
      case round =>
        obtain ⟨j, A7, n7, C7, hj, rfl, rfl, hO7, hB7⟩ := hrel
        have hz7 := hB7.out.size
        by_cases hlt3 : j < m
        case neg =>
          obtain rfl : j = m := by omega
          have hn7 : n7 = (restL H ks).length := by
            obtain ⟨A', n', cap', e, h1⟩ := OwnL.shape hO7.out
            injection e with _ e2 _
            rw [e2, h1.out, nats_length, List.take_of_length_le (by rw [← hmk.out]; exact Nat.le_refl _)]
          have hpr : (restL H ks).Perm (restL H so) := hp.out.filter _
          have hpl := hpr.length_eq
          have hn7' := Lib.hid hn7
          have hsub := (restL_sub H ks).length_le
          rw [← hn7, ← hmk.out] at hsub
          replace hpl := Lib.hid hpl
          replace hn7 := Lib.hid hn7
          go_wp2
          go_roundw
          case rel =>
            have h1 := hpl.out
            have h2 := hlenr.out
            have h3 := hk.out
            have h4 := hdl.out
            have h5 := hkl.out
            have h6 := hn7.out
            refine ⟨restL H ks, restL H so, done ++ [H], k - 1, n7, A7, C7, A5', n5', C5', rfl, rfl, by omega, hn7, Lib.hid ?_, Lib.hid hpr, Lib.hid ((restL_sub H so).trans hS.out), Lib.hid ?_, Lib.hid ?_, Lib.hid (by omega), Lib.hid ?_, Lib.hid (by rw [List.length_append]; simp; omega), Lib.hid ?_⟩
            · have := hO7.out
              rw [List.take_of_length_le (by rw [← hmk.out]; exact Nat.le_refl _)] at this
              exact OwnL.lo_le this (by omega)
            · rw [List.map_append]
              exact OwnRows.below hR6.out (Nat.le_refl _) hB7.out
            · have := hd.out
              rw [hst.out] at this
              rw [List.append_assoc]
              exact this
            · exact hBw6.out.trans (hB7.out.mono (by omega))
            · intro b e1 e2
              have h1 := (OwnL.lt hO7.out b e1).1
              have h2 := (OwnL.lt hR6.out b e2).2
              omega
          case measure => have h1 := hpl.out; have h2 := hlenr.out; have h5 := hkl.out; have h6 := hn7.out; have h7 := hmk.out; simp only [lenV]; omega
        have cx := hx6.out j hlt3
        have hjk : j < ks.length := by rw [← hmk.out]; exact hlt3
        have hn7b : n7 ≤ 14 := by
          obtain ⟨A', n', cap', e, h1⟩ := OwnL.shape hO7.out
          injection e with _ e2 _
          have h2 := (restL_sub H (ks.take j)).length_le
          rw [List.length_take] at h2
          rw [e2, h1.out, nats_length]
          omega
        have hn7e := Lib.hid (show n7 = (restL H (ks.take j)).length by
          obtain ⟨A', n', cap', e, h1⟩ := OwnL.shape hO7.out
          injection e with _ e2 _
          rw [e2, h1.out, nats_length])
        have hrs := Lib.hid (restL_step (H := H) hjk)
        have hmem := Lib.hid (memB_nats H (natAt ks j))
        obtain ⟨x, hx⟩ : ∃ x, natAt ks j = x := ⟨_, rfl⟩
        rw [hx] at cx hrs hmem
        replace hx := Lib.hid hx
        go_wp2
        obtain ⟨w9, hw9⟩ : ∃ w9, w9 = wr := ⟨_, rfl⟩
        rw [← hw9] at hO7 hB7 hz7
        go_loopw [9, 10] (fun c9 c10 wr3 => ∃ (q : Nat) (b : Bool), q ≤ n6 ∧ c10 = .int .i64 (q : Int) ∧ c9 = .bool b ∧ Hid (memB ((nats H).take q) (x : Int) = b) ∧ Hid (Below w9.heap.size w9 wr3)) (fun _ c _ => n6 - (intOf c).toNat)
        case atStart => exact ⟨0, false, Nat.zero_le _, rfl, rfl, Lib.hid rfl, by rw [hw9]; exact Below.refl _ _⟩
        case round =>
          obtain ⟨q, b, hq, rfl, rfl, hbq, hB9⟩ := hrel
          have hz9 := hB9.out.size
          clear hw9
          have hB79 := Lib.hid (hB7.out.trans (hB9.out.mono hz7))
          by_cases hlt4 : q < n6
          · have hqh : q < (nats H).length := by rw [nats_length, ← hn6.out]; exact hlt4
            obtain ⟨bh, oh, rfl, hch⟩ := hat6.out q hqh
            have hch := cell_below hch hB79.out
            have cx := cell_below cx hB79.out
            have hms := Lib.hid (memB_step (nats H) (x : Int) q hqh)
            rw [hbq.out] at hms
            generalize at0 (nats H) q = y at *
            cases b
            · by_cases hyx : y = (x : Int)
              · have hyx' : (y == (x : Int)) = true := by simp [hyx]
                rw [hyx'] at hms
                replace hyx := Lib.hid hyx
                go_wp2
                go_quiet (fail)
                go_wp2
                go_roundw
                case rel => exact ⟨q + 1, true, by omega, by go_num, rfl, hms, Lib.hid (below_drewN hB9.out nq)⟩
                case measure => simp [intOf]; omega
              · have hyx' : (y == (x : Int)) = false := by simp [hyx]
                rw [hyx'] at hms
                go_wp2
                go_quiet (fail)
                go_wp2
                go_roundw
                case rel => exact ⟨q + 1, false, by omega, by go_num, by simp [hyx], hms, Lib.hid (below_drewN hB9.out nq)⟩
                case measure => simp [intOf]; omega
            · go_wp2
              go_quiet (fail)
              go_wp2
              go_roundw
              case rel => exact ⟨q + 1, true, by omega, by go_num, by simp, Lib.hid (by rw [hms.out]; simp), Lib.hid (below_drewN hB9.out nq)⟩
              case measure => simp [intOf]; omega
          obtain rfl : q = n6 := by omega
          have hbx := Lib.hid (show decide (x ∈ H) = b by
            have := hbq.out
            rw [List.take_of_length_le (by rw [nats_length, ← hn6.out]; exact Nat.le_refl _), hmem.out] at this
            exact this)
          have hO9 := Lib.hid (OwnL.below hO7.out (Nat.le_refl _) hB9.out)
          have cx := cell_below cx hB79.out
          cases b
          · have hxn : x ∉ H := by have := hbx.out; simpa using this
            rw [if_neg hxn] at hrs
            have hrs := Lib.hid hrs.out
            go_wp2_with (at_builtin; refine wpList_append_int rfl (.tmp 57) (.tmp 62) 33 rfl w6.heap.size 3 Try.underlying33 info3 _ _ rfl rfl hO9.out rfl rfl (by rw [nats_length, ← hn7e.out]; omega) (by omega) ?_; intro v2 w2 h2 hb2 _; obtain ⟨A8, n8, c8, rfl, hn8⟩ := OwnL.shape h2; replace hn8 := Lib.hid hn8; have h2 := Lib.hid h2; have hb2 := Lib.hid (hB79.out.trans hb2))
            go_roundw
            case rel => exact ⟨j + 1, _, _, _, by omega, by go_num, rfl, Lib.hid (by rw [hrs.out, nats_append]; exact h2.out), hb2⟩
            case measure => simp [intOf]; omega
          · have hxn : x ∈ H := by have := hbx.out; simpa using this
            rw [if_pos hxn] at hrs
            have hrs := Lib.hid hrs.out
            go_wp2
            go_roundw
            case rel => exact ⟨j + 1, _, _, _, by omega, by go_num, rfl, Lib.hid (by rw [hrs.out]; exact hO9.out), hB79⟩
            case measure => simp [intOf]; omega
end Go.Proofs.Ythnabheibacbcaa
