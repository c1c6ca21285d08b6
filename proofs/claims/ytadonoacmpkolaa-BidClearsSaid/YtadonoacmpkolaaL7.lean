/- BidCores: the walk. -/
import Derived.Test.YtadonoacmpkolaaW19
import Derived.Test.YtadonoacmpkolaaR6
namespace Go.Proofs.Ytadonoacmpkolaa
open Go.RowKit

theorem OwnI.setN {lo e : Nat} {w : World} {g n cap : Nat} {xs : List Int} (h : OwnI lo e w (.slice (some ⟨g, 0, none⟩) n cap) xs) (hl : xs.length = n) (i : Nat) (x : Int) :
    OwnI lo e (w.setCell ⟨g, i, none⟩ (.int .i64 x)) (.slice (some ⟨g, 0, none⟩) n cap) (xs.set i x) := by
  have := (OwnI.set (xs := xs) (by rw [hl]; exact h) i x).1
  rw [List.length_set, hl] at this
  exact this

theorem OwnI.cellI {lo e : Nat} {w : World} {g n cap : Nat} {xs : List Int} (h : OwnI lo e w (.slice (some ⟨g, 0, none⟩) n cap) xs) (i : Nat) (hi : i < xs.length) :
    w.cell? ⟨g, i, none⟩ = some (.int .i64 (at0 xs i)) ∧ w.frozen? ⟨g, i, none⟩ = false := by
  obtain ⟨g', cap', e, _, _, _, _, h1, h2⟩ := OwnI.open h (by omega)
  obtain rfl : g = g' := by injection e with a; injection a with a; injection a
  exact ⟨h1 i hi, h2 i⟩
theorem OwnL.cellAt' {α : Type} {lo e : Nat} {R : Value → α → Prop} {w : World} {g n cap : Nat} {xs : List α} (h : OwnL lo e R w (.slice (some ⟨g, 0, none⟩) n cap) xs) (i : Nat) (hi : i < xs.length) :
    (∃ c, w.cell? ⟨g, i, none⟩ = some c) ∧ w.frozen? ⟨g, i, none⟩ = false := by
  obtain ⟨g', cap', e, _, _, _, _, h1, h2⟩ := OwnL.open h (by omega)
  obtain rfl : g = g' := by injection e with a; injection a with a; injection a
  obtain ⟨c, hc, _⟩ := h1 i hi
  exact ⟨⟨c, hc⟩, h2 i⟩

set_option maxRecDepth 100000 in
set_option maxHeartbeats 4000000 in
theorem BidCores_walk (w : World) (m : Int) (v : Value) (xs : List (List Int)) (u : Value) (pay : List Int) (_ : -9223372036854775808 ≤ m ∧ m ≤ 9223372036854775807) (h : Rows2 w v xs) (hu : Ints w u pay) :
    Calls Try.prog 7 #[.int .i64 m, v, u] w fun e w' => e = .returned (.bool true) ∧ Below w.heap.size w w' := by
  have ht := Lib.hid (tame_any w v xs m h)
  clear h
  have haw := Lib.hid awake_any
  have hli := Lib.hid (fun W (hB : Below w.heap.size w W) => list_any W u pay 8 (Ints.below hu (Nat.le_refl _) hB) (by omega) (by omega))
  obtain ⟨Au, cu, rfl, hlu, hcu, _, hatu⟩ := hu.open
  unfold maxLen at hcu
  replace hatu := Lib.hid hatu
  clear hu
  go_enter Try.func7, Try.ntmps7
  go_wp2_with (first
    | (go_at_call 21; refine ht.out.mono ?_; rintro e w1 ⟨v1, k, ys, rfl, hk1, hk4, hoy, hy1, hy4, hT, hB1⟩; have hE := hT.bids hk1 (by omega) hy1 (by omega); have hr1 := OwnRows.rows hoy; obtain ⟨A1, c1, rfl, hlc1, hcm1, _, _⟩ := Rows2.open hr1; unfold maxLen at hcm1; replace hE := Lib.hid hE; replace hr1 := Lib.hid hr1; replace hB1 := Lib.hid hB1; clear hoy hT)
    | (go_at_call 18; refine (hli.out _ hB1.out).mono ?_; rintro e w2 ⟨v2, rfl, hoy, hB2⟩; obtain ⟨A2, n2, c2, rfl, hn2⟩ := OwnL.shape hoy; have hy := Lib.hid (OwnI.ints hoy); replace hr1 := Lib.hid (hr1.out.then hB2); replace hB2 := Lib.hid (bthen hB1.out hB2); clear hoy hn2)
    | (go_at_call 30; refine (rbest_any _ _ ys k hr1.out hE.out).mono ?_; rintro e w3 ⟨v3, rfl, hoa, hB3⟩; obtain ⟨A3, n3, c3, rfl, hn3⟩ := OwnL.shape hoa; have hya := Lib.hid (OwnI.ints hoa); replace hy := Lib.hid (Ints.below hy.out (Nat.le_refl _) hB3); replace hr1 := Lib.hid (hr1.out.then hB3); replace hB3 := Lib.hid (bthen hB2.out hB3); clear hoa hn3))
  clear ht hB1 hli hB2
  obtain ⟨l0, hl0⟩ : ∃ l0, l0 = List.take (8 : Int).toNat pay := ⟨_, rfl⟩
  rw [← hl0] at hy
  clear hl0
  have hall : (casts (alloc ys (p2 k - 1))).length = ys.length := by rw [casts_length, alloc_length]
  have hna := Lib.hid (fun i => natAt_lt' (m := k) ys i)
  have hrow := Lib.hid (fun i (hi : i < ys.length) => (hE.out.row i hi).1)
  have hac := Lib.hid (at0_casts (alloc ys (p2 k - 1)))
  generalize casts (alloc ys (p2 k - 1)) = ca at *
  generalize alloc ys (p2 k - 1) = ls at *
  obtain ⟨A3', c3', e3, _, hcm3, _, hata⟩ := hya.out.open
  rw [hall] at e3 hata
  cases e3
  unfold maxLen at hcm3
  replace hata := Lib.hid hata
  obtain ⟨A1', c1', e1, _, _, _, hatr⟩ := hr1.out.open
  cases e1
  replace hatr := Lib.hid hatr
  have hlen := Lib.hid hall
  clear hall hya
  go_loopw [8, 10] (fun y i wr => ∃ (r : Nat) (A : Option Addr) (n c : Nat) (l : List Int), r ≤ 3 ∧ i = .int .i64 (r : Int) ∧ y = .slice A n c ∧ Hid (n = l.length) ∧ Hid (Ints wr (.slice A n c) l) ∧ Hid (Below w3.heap.size w3 wr)) (fun _ i _ => 3 - (intOf i).toNat)
  case atStart =>
    have hnn : n2 = l0.length := by obtain ⟨_, _, e, _⟩ := hy.out; injection e
    exact ⟨0, _, _, _, _, by omega, rfl, rfl, hnn, hy.out, Below.refl _ _⟩
  case round =>
    clear hy
    obtain ⟨r, A4, n4, c4, l, hr, rfl, rfl, hnl, hy, hB⟩ := hrel
    by_cases hr2 : (r : Int) < 3
    · have hRx := Lib.hid (Rows2.below hr1.out (Nat.le_refl _) hB.out)
      have hcm4 : c4 ≤ 2 ^ 63 - 1 ∧ n4 ≤ c4 := by
        obtain ⟨_, _, e, h1, h2, _⟩ := hy.out
        injection e with _ e1 e2
        subst e1 e2
        exact ⟨h2, h1⟩
      obtain ⟨hcm4, hcm5⟩ := hcm4
      have hcs : ((n4 : Int) != (ys.length : Int)) = true ∧ Hid (l.length ≠ ys.length) ∨ ((n4 : Int) != (ys.length : Int)) = false ∧ Hid (l.length = ys.length) := by
        have := hnl.out
        by_cases e : n4 = ys.length
        · exact .inr ⟨by simp [e], by show _ = _; omega⟩
        · exact .inl ⟨by simp; omega, by show _ ≠ _; omega⟩
      have hpa := Lib.hid (fun W (hW : Below wr.heap.size wr W) => rpayments_any W _ ys k (Rows2.below hRx.out (Nat.le_refl _) hW) hE.out)
      have hpl : (paysOf k ys).length = ys.length := by unfold paysOf; rw [tab_length]
      generalize paysOf k ys = ps0 at *
      replace hpl := Lib.hid hpl
      have hmain : ∃ (is : Bool) (E : Int), Hid (Calls Try.prog 39 #[.int .i64 (k : Int), .slice A1 ys.length c1, .slice A4 n4 c4] wr fun e w' => e = .returned (.tuple #[.bool is, .int .i64 E]) ∧ Below wr.heap.size wr w') ∧
          ((((n4 : Int) != (ys.length : Int)) = true ∧ is = false ∧ E = 1) ∨ (((n4 : Int) != (ys.length : Int)) = false ∧ E = 0 ∧ Hid (∀ W, Below wr.heap.size wr W → Calls Try.prog 40 #[.int .i64 (k : Int), .slice A1 ys.length c1, .slice A4 n4 c4] W fun e w' => e = .returned (.bool is) ∧ Below W.heap.size W w'))) := by
        rcases hcs with ⟨h1, h2⟩ | ⟨h1, h2⟩
        · exact ⟨false, 1, IsCore_len wr _ _ ys l k hRx.out hy.out hE.out h2.out, .inl ⟨h1, rfl, rfl⟩⟩
        · exact ⟨_, 0, IsCore_ok wr _ _ ys l k hRx.out hy.out hE.out h2.out, .inr ⟨h1, rfl, fun W hW => rcore_any W _ _ ys l k (Rows2.below hRx.out (Nat.le_refl _) hW) (Ints.below hy.out (Nat.le_refl _) hW) hE.out h2.out⟩⟩
      obtain ⟨is, E, h39, hcs2⟩ := hmain
      clear hcs
      rcases hcs2 with ⟨hne, rfl, rfl⟩ | ⟨hne, rfl, h40⟩
      all_goals (
        go_wp2_with (first
          | (go_at_call 39; refine h39.out.mono ?_; rintro e w5 ⟨rfl, hB5⟩; replace hB5 := Lib.hid hB5)
          | (go_at_call 40; refine (h40.out _ hB5.out).mono ?_; rintro e w7 ⟨rfl, hB7⟩; replace hB5 := Lib.hid (bthen hB5.out hB7))
          | (go_at_call 31; refine (hpa.out _ hB5.out).mono ?_; rintro e w6 ⟨v6, rfl, ho6, hB6⟩; obtain ⟨g6, c6, rfl, hg6, hg6', hl6, hm6, _, _⟩ := OwnI.open ho6 (by rw [hpl.out]; omega); rw [hpl.out] at ho6 hl6 ⊢; unfold maxLen at hm6; replace ho6 := Lib.hid (OwnL.lo_le ho6 (Nat.le_trans hB.out.size hB5.out.size)); replace hB6 := Lib.hid (bthen hB.out (bthen hB5.out hB6))))
        have hsz6 : w3.heap.size ≤ g6 := Nat.le_trans (Nat.le_trans hB.out.size hB5.out.size) hg6
        clear h39 hpa hRx hB hB5 hy hnl
        replace hl6 := Lib.hid hl6
        have hr0 : r = 0 ∨ ((r : Int) == 0) = false := by
          by_cases e : r = 0
          · exact .inl e
          · exact .inr (by simp; omega)
        rcases hr0 with rfl | hr0
        · have e0 : ((0 : Nat) : Int) = 0 := rfl
          rw [e0]
          clear e0
          go_loopw [14] (fun i W => ∃ (j : Nat) (ql : List Int), j ≤ ys.length ∧ i = .int .i64 (j : Int) ∧ Hid (ql.length = ys.length) ∧ Hid (OwnI w3.heap.size 2 W (.slice (some ⟨g6, 0, none⟩) ys.length c6) ql) ∧ Hid (Below w3.heap.size w3 W)) (fun i _ => ys.length - (intOf i).toNat)
          case atStart => exact ⟨0, _, Nat.zero_le _, rfl, hpl.out, ho6.out, hB6.out⟩
          case round =>
            clear ho6 hB6
            obtain ⟨j, ql, hj, rfl, hql, hoq, hBq⟩ := hrel
            by_cases hjl : j < ys.length
            · obtain ⟨b1, o1, A2, cap2, rfl, hc1, hi1⟩ := hatr.out j hjl
              have hrj := hrow.out j hjl
              obtain ⟨A5, cap5, e5, hl5, hcap5, _, hat5⟩ := hi1.open
              cases e5
              obtain ⟨b4, o4, rfl, hc4⟩ := hat5 (natAt ls j) (by rw [hrj]; exact hna.out j)
              obtain ⟨b5, o5, rfl, hc5⟩ := hata.out j hjl
              have hnj := hna.out j
              rw [hac.out] at hc5
              rw [hrj] at hc1 hl5
              clear hat5 hi1
              unfold maxLen at hcap5
              replace hc1 := (hBq.out.cell (p := ⟨b1, o1 + j, none⟩) (lt_of_cell hc1)).trans hc1
              replace hc4 := (hBq.out.cell (p := ⟨b4, o4 + natAt ls j, none⟩) (lt_of_cell hc4)).trans hc4
              replace hc5 := (hBq.out.cell (p := ⟨b5, o5 + j, none⟩) (lt_of_cell hc5)).trans hc5
              obtain ⟨⟨c9, hc9⟩, hf9⟩ := OwnL.cellAt' hoq.out j (by rw [hql.out]; exact hjl)
              generalize natAt ls j = nj at *
              generalize at0 (rowAt ys j) nj = yv at *
              have hst := OwnI.setN hoq.out hql.out j yv
              have hBs := hBq.out.setCell (p := ⟨g6, j, none⟩) hsz6 (.int .i64 yv)
              have hjp : ((j : Int) < (pay.length : Int)) ∨ ¬ ((j : Int) < (pay.length : Int)) := Classical.em _
              go_wp2
              go_region
              obtain ⟨w9, hw9⟩ : ∃ w9, w9 = (wr.setCell ⟨g6, j, none⟩ (.int .i64 yv)).drew := ⟨_, rfl⟩
              rw [← hw9]
              have hst9 : Hid (OwnI w3.heap.size 2 w9 (.slice (some ⟨g6, 0, none⟩) ys.length c6) (ql.set j yv)) := by rw [hw9]; exact OwnL.drewN hst 1
              have hB9 : Hid (Below w3.heap.size w3 w9) := by rw [hw9]; exact below_drewN hBs 1
              have hql9 : Hid ((ql.set j yv).length = ys.length) := by show _ = _; rw [List.length_set, hql.out]
              clear hw9 hst hBs hoq hBq hql hc1 hc4 hc5 hc9 hf9
              generalize ql.set j yv = ql9 at *
              obtain ⟨hc9, hf9⟩ := OwnI.cellI hst9.out j (by rw [hql9.out]; exact hjl)
              have hst := Lib.hid (fun x => OwnI.setN hst9.out hql9.out j x)
              have hBs := Lib.hid (fun x => hB9.out.setCell (p := ⟨g6, j, none⟩) hsz6 x)
              generalize at0 ql9 j = z9 at *
              rcases hjp with hjp | hjp
              · obtain ⟨b8, o8, rfl, hc8⟩ := hatu.out j (by omega)
                replace hc8 := ((bthen hB3.out hB9.out).cell (p := ⟨b8, o8 + j, none⟩) (lt_of_cell hc8)).trans hc8
                generalize at0 pay j = pj at *
                go_wp2
                go_region
                go_wp2
                go_roundw
                case rel => exact ⟨j + 1, _, by omega, by go_num, by show _ = _; rw [List.length_set, hql9.out], OwnL.drewN (hst.out _) 1, below_drewN (hBs.out _) 1⟩
                case measure => simp [intOf]; try omega
              · go_wp2
                go_roundw
                case rel => exact ⟨j + 1, _, by omega, by go_num, hql9.out, hst9.out, hB9.out⟩
                case measure => simp [intOf]; try omega
            · obtain rfl : j = ys.length := by omega
              go_wp2
              go_roundw
              case rel => exact ⟨0 + 1, _, _, _, ql, by omega, by go_num, rfl, hql.out.symm, OwnI.ints hoq.out, hBq.out⟩
              case measure => simp [intOf]; try omega
        · go_loopw [14] (fun i W => ∃ (j : Nat) (ql : List Int), j ≤ ys.length ∧ i = .int .i64 (j : Int) ∧ Hid (ql.length = ys.length) ∧ Hid (OwnI w3.heap.size 2 W (.slice (some ⟨g6, 0, none⟩) ys.length c6) ql) ∧ Hid (Below w3.heap.size w3 W)) (fun i _ => ys.length - (intOf i).toNat)
          case atStart => exact ⟨0, _, Nat.zero_le _, rfl, hpl.out, ho6.out, hB6.out⟩
          case round =>
            clear ho6 hB6
            obtain ⟨j, ql, hj, rfl, hql, hoq, hBq⟩ := hrel
            by_cases hjl : j < ys.length
            · go_wp2
              go_roundw
              case rel => exact ⟨r + 1, _, _, _, ql, by omega, by go_num, rfl, hql.out.symm, OwnI.ints hoq.out, hBq.out⟩
              case measure => simp [intOf]; try omega
            · obtain rfl : j = ys.length := by omega
              go_wp2
              go_roundw
              case rel => exact ⟨r + 1, _, _, _, ql, by omega, by go_num, rfl, hql.out.symm, OwnI.ints hoq.out, hBq.out⟩
              case measure => simp [intOf]; try omega)
    · go_wp2_with (go_at_call 17; refine (haw.out _).mono ?_; rintro e w4 ⟨rfl, hB4⟩; replace hB4 := Lib.hid hB4)
      go_ret
      exact ⟨rfl, bthen hB3.out (bthen hB.out hB4.out)⟩
end Go.Proofs.Ytadonoacmpkolaa
