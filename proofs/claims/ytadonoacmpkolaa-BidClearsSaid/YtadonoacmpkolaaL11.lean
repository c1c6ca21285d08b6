/- BidClears: the walk. -/
import Derived.Test.YtadonoacmpkolaaR8
import Derived.Test.YtadonoacmpkolaaR10
import Derived.Test.YtadonoacmpkolaaW23
import Derived.Deep.Cut
import Derived.Deep.CutRange
namespace Go.Proofs.Ytadonoacmpkolaa
open Go.RowKit

theorem alloc_nat {m n : Nat} {l : List Int} (h : allocB m n l = true) : ∃ ls : List Nat, l = casts ls ∧ ls.length = n ∧ ∀ i, natAt ls i < p2 m := by
  unfold allocB at h
  rw [Bool.and_eq_true, decide_eq_true_eq, List.all_eq_true] at h
  obtain ⟨hn, ha⟩ := h
  have hat : ∀ i, i < l.length → 0 ≤ at0 l i ∧ at0 l i < ((p2 m : Nat) : Int) := fun i hi => by
    have := ha i (List.mem_range.2 hi)
    unfold alOne at this
    simp only [Bool.and_eq_true, decide_eq_true_eq] at this
    exact this.1
  have he : l = casts (l.map Int.toNat) := by
    refine List.ext_getElem (by rw [casts_length, List.length_map]) fun i h1 h2 => ?_
    have := hat i h1
    rw [← at0_eq h1, ← at0_eq h2, at0_casts]
    unfold natAt
    rw [at0_eq h1] at this ⊢
    simp [List.getD, h1]
    omega
  refine ⟨l.map Int.toNat, he, by rw [List.length_map]; exact hn, fun i => ?_⟩
  by_cases hi : i < l.length
  · have := hat i hi
    rw [he, at0_casts] at this
    omega
  · have hz : natAt (l.map Int.toNat) i = 0 := by unfold natAt; simp [List.getD, List.getElem?_eq_none (show l.length ≤ i by omega)]
    rw [hz]; exact p2_pos m

set_option maxRecDepth 100000 in
set_option maxHeartbeats 8000000 in
theorem BidClears_walk (w : World) (m : Int) (v u q : Value) (xs : List (List Int)) (us qs : List Int) (_ : -9223372036854775808 ≤ m ∧ m ≤ 9223372036854775807) (h : Rows2 w v xs) (hu : Ints w u us) (hq : Ints w q qs) :
    Calls Try.prog 11 #[.int .i64 m, v, .agg #[u, q]] w fun e w' => e = .returned (.bool true) ∧ Below w.heap.size w w' := by
  have hB0 := Lib.hid ((Below.refl w.heap.size w).alloc (Nat.le_refl _) (.cells #[u, q] 67))
  have hc0 := Blk.new w 67 #[u, q]
  have ht := Lib.hid (tamed_any (w.alloc (.cells #[u, q] 67)) v xs m (Rows2.below h (Nat.le_refl _) hB0.out))
  clear h
  have haw := Lib.hid awake_any
  have hli := fun W (hB : Below w.heap.size w W) => list_any W q qs 8 (Ints.below hq (Nat.le_refl _) hB) (by omega) (by omega)
  generalize List.take (8 : Int).toNat qs = p0 at hli
  replace hli := Lib.hid hli
  obtain ⟨A, cu, rfl, hlu, hcu, _, _⟩ := hu.open
  obtain ⟨D, cq, rfl, hlq, hcq, _, _⟩ := hq.open
  unfold maxLen at hcu hcq
  replace hu := Lib.hid hu
  replace hq := Lib.hid hq
  have hc01 : (w.alloc (.cells #[.slice A us.length cu, .slice D qs.length cq] 67)).cell? ⟨w.heap.size, 0, none⟩ = some (.slice A us.length cu) := hc0.cell 0
  have hc02 : (w.alloc (.cells #[.slice A us.length cu, .slice D qs.length cq] 67)).cell? ⟨w.heap.size, 1, none⟩ = some (.slice D qs.length cq) := hc0.cell 1
  have hl0 := hc0.lt
  generalize hw0 : w.alloc (.cells #[.slice A us.length cu, .slice D qs.length cq] 67) = w0 at *
  replace hw0 := Lib.hid hw0
  clear hc0
  go_enter Try.func11, Try.ntmps11
  go_upto_region 3 with (go_at_call 22; rw [hw0.out]; refine ht.out.mono ?_; rintro e w1 ⟨v1, k, ys, rfl, hSB, hr1, hB1⟩; obtain ⟨A1, c1, rfl, hlc1, hcm1, _, _⟩ := Rows2.open hr1; unfold maxLen at hcm1; replace hr1 := Lib.hid hr1; have hd1 := (hB1.cell (p := ⟨w.heap.size, 0, none⟩) (lt_of_cell hc01)).trans hc01; have hd2 := (hB1.cell (p := ⟨w.heap.size, 1, none⟩) (lt_of_cell hc02)).trans hc02; replace hB1 := Lib.hid (hB0.out.trans (hB1.mono hB0.out.size)); replace hSB := Lib.hid hSB)
  clear ht hc01 hc02 hl0 hw0 hB0
  have huo := Lib.hid (Ints.below hu.out (Nat.le_refl _) hB1.out)
  go_cut [8] from 17 (fun a wx => ∃ (l : List Int) (Aa : Option Addr) (ca : Nat), a = .slice Aa l.length ca ∧ Hid (Ints wx (.slice Aa l.length ca) l) ∧ Hid (Below w1.heap.size w1 wx))
  case first =>
    by_cases h8 : 8 < us.length
    · have hut := Lib.hid (huo.out.take 8 (by omega))
      go_wp2_with (at_builtin; refine wpList_append_slc _ rfl (.tmp 23) (.tmp 30) 40 rfl w1.heap.size 3 Try.underlying40 info3 rfl (by omega) isI_one (.slice none 0 0) [] rfl (own_nil _ _ _) _ rfl _ hut.out (by simp; omega) (Nat.le_refl _) ?_; intro v' w' h1 h2 _ _; rw [List.nil_append] at h1; have h1 := OwnI.ints h1; obtain ⟨Aa, ca, rfl, _⟩ := h1.open)
      go_meet
      exact ⟨us.take 8, _, _, by simp, h1, h2⟩
    · have hut := Lib.hid huo.out
      go_wp2_with (at_builtin; refine wpList_append_slc _ rfl (.tmp 23) (.tmp 30) 40 rfl w1.heap.size 3 Try.underlying40 info3 rfl (by omega) isI_one (.slice none 0 0) [] rfl (own_nil _ _ _) _ rfl _ hut.out (by simp; omega) (Nat.le_refl _) ?_; intro v' w' h1 h2 _ _; rw [List.nil_append] at h1; have h1 := OwnI.ints h1; obtain ⟨Aa, ca, rfl, _⟩ := h1.open)
      go_meet
      exact ⟨_, _, _, rfl, h1, h2⟩
  case rest =>
  obtain ⟨l0, Aa0, ca0, rfl, ha0, hB2⟩ := hcut
  obtain ⟨w2, hw2⟩ : ∃ w2, w2 = wc := ⟨_, rfl⟩
  rw [← hw2] at ha0 hB2 ⊢
  clear hw2
  have he2 := (hB2.out.cell (p := ⟨w.heap.size, 1, none⟩) (lt_of_cell hd2)).trans hd2
  clear hd1 hd2 huo hu
  replace hr1 := Lib.hid (Rows2.below hr1.out (Nat.le_refl _) hB2.out)
  replace hB1 := Lib.hid (bthen hB1.out hB2.out)
  clear hB2
  go_wp2_with (go_at_call 18; refine (hli.out _ hB1.out).mono ?_; rintro e w3 ⟨v3, rfl, o3, hB3⟩; have hp0 := OwnI.ints o3; obtain ⟨Ap0, cp0, rfl, _⟩ := hp0.open; replace hp0 := Lib.hid hp0; replace ha0 := Lib.hid (Ints.below ha0.out (Nat.le_refl _) hB3); replace hr1 := Lib.hid (Rows2.below hr1.out (Nat.le_refl _) hB3); replace hB1 := Lib.hid (bthen hB1.out hB3); clear o3 hB3)
  clear hli hq he2
  have hE := Lib.hid hSB.out.bids
  have hclr := Lib.hid (addOf_clr hE.out hSB.out.sgl)
  have hk1 := hE.out.m1
  have hk6 := hE.out.m6
  have hn6 := hE.out.l6
  clear hSB
  go_loopw [8, 9, 10] (fun a p i wr => ∃ (r : Nat) (l ps : List Int) (Aa Ap : Option Addr) (ca cp : Nat), r ≤ 3 ∧ i = .int .i64 (r : Int) ∧ a = .slice Aa l.length ca ∧ p = .slice Ap ps.length cp ∧ Hid (Ints wr (.slice Aa l.length ca) l) ∧ Hid (Ints wr (.slice Ap ps.length cp) ps) ∧ Hid (Below w3.heap.size w3 wr)) (fun _ _ i _ => 3 - (intOf i).toNat)
  case atStart => exact ⟨0, _, _, _, _, _, _, by omega, rfl, rfl, rfl, ha0.out, hp0.out, Below.refl _ _⟩
  case round =>
    clear ha0 hp0
    obtain ⟨r, l, ps, Aa, Ap, ca, cp, hr, rfl, rfl, rfl, ha, hp, hB⟩ := hrel
    by_cases hr3 : (r : Int) < 3
    · have hR := Lib.hid (Rows2.below hr1.out (Nat.le_refl _) hB.out)
      obtain ⟨_, _, e1, _, hcma, _, _⟩ := ha.out.open
      cases e1
      obtain ⟨_, _, e1, hlcp, hcmp, _, hat⟩ := hp.out.open
      cases e1
      unfold maxLen at hcma hcmp
      replace hat := Lib.hid hat
      have h41 := IsAllocation_ok wr _ _ ys l k hR.out ha.out hE.out
      have h43 := fun W (hW : Below wr.heap.size wr W) => rialloc_any W _ _ ys l k (Rows2.below hR.out (Nat.le_refl _) hW) (Ints.below ha.out (Nat.le_refl _) hW) hE.out.m6
      have h42b := Lib.hid (fun hbad W (hW : Below wr.heap.size wr W) => Clears_arg W _ _ _ ys l ps k (Rows2.below hR.out (Nat.le_refl _) hW) (Ints.below ha.out (Nat.le_refl _) hW) (Ints.below hp.out (Nat.le_refl _) hW) hE.out hbad)
      have h30 := fun W (hW : Below wr.heap.size wr W) => rbest_any W _ ys k (Rows2.below hR.out (Nat.le_refl _) hW) hE.out
      have h33 := Lib.hid (fun W (hW : Below wr.heap.size wr W) => (rprices_any W _ ys k (Rows2.below hR.out (Nat.le_refl _) hW) hE.out _ hclr.out).mono (fun e w' (hx : ∃ v' ps, e = .returned v' ∧ OwnI W.heap.size 2 w' v' ps ∧ Clr k ys (alloc ys (p2 k - 1)) ps ∧ Low k ys (alloc ys (p2 k - 1)) ps ∧ Below W.heap.size W w') => (show ∃ v' ps, e = .returned v' ∧ OwnI W.heap.size 2 w' v' ps ∧ ps.length = k ∧ Below W.heap.size W w' from by
        obtain ⟨v', ps, a, b, c, _, d⟩ := hx
        exact ⟨v', ps, a, b, c.1, d⟩)))
      generalize casts (alloc ys (p2 k - 1)) = l7 at h30
      replace h30 := Lib.hid h30
      have hb1 := Lib.hid (fun b => badAt_zero b ps)
      have hbs := Lib.hid (fun b j => badAt_succ b ps j)
      have hbd : Hid (∀ j, badP ps j = (decide (at0 ps j < 0) || decide (1000000000 < at0 ps j))) := fun _ => rfl
      have hpr := Lib.hid (fun h => priced_of (ps := ps) h)
      cases hal : allocB k ys.length l
      · rw [hal] at h41 h43
        replace h41 := Lib.hid h41
        replace h43 := Lib.hid h43
        have h42 := Lib.hid (h42b.out (.inl hal))
        clear h42b hal
        obtain ⟨bf, hbf⟩ : ∃ bf, bf = badAt true ps := ⟨_, rfl⟩
        have hb0 : Hid (bf 0 = true) := by rw [hbf]; exact hb1.out _
        have hstep : Hid (∀ j, bf (j + 1) = (bf j || badP ps j)) := by rw [hbf]; exact fun j => hbs.out _ j
        have hbn : Hid (bf ps.length = true) := by rw [hbf]; show badAt true ps _ = true; unfold badAt; rfl
        clear hbf hb1 hbs hpr
        go_wp2_with (first
          | (go_at_call 43; have hx := hB4; refine (h43.out _ hB4.out).mono ?_; rintro e w5 ⟨rfl, d5, hw5⟩; have hBw := below_drewN hB4.out d5; rw [hw5] at hBw; replace hBw := Lib.hid hBw; replace hw5 := Lib.hid hw5)
          | (go_at_call 41; refine h41.out.mono ?_; rintro e w2 ⟨rfl, hB2⟩; replace hB2 := Lib.hid hB2)
          | (go_at_call 43; refine (h43.out _ hB2.out).mono ?_; rintro e w3' ⟨rfl, d3, hw3⟩; have hB3 := below_drewN hB2.out d3; rw [hw3] at hB3; replace hB3 := Lib.hid hB3; replace hw3 := Lib.hid hw3)
          | (go_at_call 42; refine (h42.out _ hB3.out).mono ?_; rintro e w4 ⟨rfl, hB4⟩; replace hB4 := Lib.hid (bthen hB3.out hB4)))
        clear h41 h43 h42 hw5 hw3 hB2 hB3 hB4
        have hat5 : Hid (∀ i, i < ps.length → ∃ b off, Ap = some ⟨b, off, none⟩ ∧ w5.cell? ⟨b, off + i, none⟩ = some (.int .i64 (at0 ps i))) := fun i hi => by
          obtain ⟨b, off, e, hc⟩ := hat.out i hi
          exact ⟨b, off, e, (hBw.out.cell (p := ⟨b, off + i, none⟩) (lt_of_cell hc)).trans hc⟩
        go_loop [13, 14] (fun b i => ∃ j : Nat, j ≤ ps.length ∧ i = .int .i64 (j : Int) ∧ b = .bool (bf j)) (fun _ i => ps.length - (intOf i).toNat)
        case atStart => exact ⟨0, Nat.zero_le _, rfl, by rw [hb0.out]⟩
        case round =>
          obtain ⟨j, hj, rfl, rfl⟩ := hrel
          by_cases hlt : j < ps.length
          · obtain ⟨b1, o1, rfl, hc1⟩ := hat5.out j hlt
            have hst := Lib.hid (hstep.out j)
            rw [hbd.out j] at hst
            generalize bf j = bj at *
            generalize at0 ps j = x at *
            cases bj
            · by_cases hx0 : x < 0
              · have hr1 := Lib.hid (show bf (j + 1) = true by rw [hst.out]; simp; omega)
                go_wp2
                go_round
                case rel => exact ⟨j + 1, by omega, by go_num, by rw [hr1.out]⟩
                case measure => simp [intOf]; try omega
              · by_cases hx1 : 1000000000 < x
                · have hr1 := Lib.hid (show bf (j + 1) = true by rw [hst.out]; simp; omega)
                  go_wp2
                  go_round
                  case rel => exact ⟨j + 1, by omega, by go_num, by rw [hr1.out]⟩
                  case measure => simp [intOf]; try omega
                · have hr1 := Lib.hid (show bf (j + 1) = false by rw [hst.out]; simp; omega)
                  go_wp2
                  go_round
                  case rel => exact ⟨j + 1, by omega, by go_num, by rw [hr1.out]⟩
                  case measure => simp [intOf]; try omega
            · have hr1 := Lib.hid (show bf (j + 1) = true by rw [hst.out]; rfl)
              go_wp2
              go_round
              case rel => exact ⟨j + 1, by omega, by go_num, by rw [hr1.out]⟩
              case measure => simp [intOf]; try omega
          · obtain rfl : j = ps.length := by omega
            rw [hbn.out]
            clear hbn hstep hbd hat5
            by_cases hr0 : r = 0
            · have hr0' : ((r : Int) == 0) = true := by simp [hr0]
              replace hr0 := Lib.hid hr0
              go_wp2_with (first
                | (go_at_call 30; refine (h30.out _ hBw.out).mono ?_; rintro e w7 ⟨v7, rfl, o7, hB7⟩; replace o7 := OwnI.ints o7; obtain ⟨A7, c7, rfl, _⟩ := o7.open; replace o7 := Lib.hid o7; replace hBw := Lib.hid (bthen hBw.out hB7))
                | (go_at_call 33; refine (h33.out _ hBw.out).mono ?_; rintro e w8 ⟨v8, q8, rfl, o8, hq8, hB8⟩; obtain ⟨g8, c8, rfl, hg8, _⟩ := OwnL.open o8 (by omega); rw [hq8] at o8 ⊢; replace o8 := Lib.hid o8; replace hq8 := Lib.hid hq8; replace hB8 := Lib.hid hB8))
              go_loopw [16] (fun i W => ∃ (j : Nat) (q9 : List Int), j ≤ k ∧ i = .int .i64 (j : Int) ∧ Hid (OwnI w7.heap.size 2 W (.slice (some ⟨g8, 0, none⟩) k c8) q9) ∧ Hid (q9.length = k) ∧ Hid (Below w7.heap.size w7 W)) (fun i _ => k - (intOf i).toNat)
              case atStart => exact ⟨0, q8, Nat.zero_le _, rfl, o8.out, hq8.out, hB8.out⟩
              case round =>
                clear o8 hq8 hB8
                obtain ⟨j, q9, hj, rfl, o9, hq9, hB9⟩ := hrel
                by_cases hjk : j < k
                · by_cases hjp : j < ps.length
                  · obtain ⟨b1, o1, rfl, hc1⟩ := hat.out j hjp
                    replace hc1 := ((bthen hBw.out hB9.out).cell (p := ⟨b1, o1 + j, none⟩) (lt_of_cell hc1)).trans hc1
                    obtain ⟨hc9, hf9⟩ := OwnI.cellI o9.out j (by rw [hq9.out]; exact hjk)
                    have hst := Lib.hid (fun x => OwnI.setN o9.out hq9.out j x)
                    have hBs := Lib.hid (fun x => hB9.out.setCell (p := ⟨g8, j, none⟩) hg8 x)
                    generalize at0 ps j = x at *
                    generalize at0 q9 j = z at *
                    go_wp2
                    go_region
                    go_wp2
                    go_roundw
                    case rel => exact ⟨j + 1, _, by omega, by go_num, OwnL.drewN (hst.out _) 1, by show _ = _; rw [List.length_set, hq9.out], below_drewN (hBs.out _) 1⟩
                    case measure => simp [intOf]; try omega
                  · go_wp2
                    go_roundw
                    case rel => exact ⟨r + 1, l7, q9, A7, _, c7, c8, by omega, by go_num, rfl, by rw [hq9.out], Ints.below o7.out (Nat.le_refl _) hB9.out, by show Ints _ _ _; rw [hq9.out]; exact OwnI.ints o9.out, bthen hB.out (bthen hBw.out hB9.out)⟩
                    case measure => simp [intOf]; try omega
                · obtain rfl : j = k := by omega
                  go_wp2
                  go_roundw
                  case rel => exact ⟨r + 1, l7, q9, A7, _, c7, c8, by omega, by go_num, rfl, by rw [hq9.out], Ints.below o7.out (Nat.le_refl _) hB9.out, by show Ints _ _ _; rw [hq9.out]; exact OwnI.ints o9.out, bthen hB.out (bthen hBw.out hB9.out)⟩
                  case measure => simp [intOf]; try omega
            · have hr0' : ((r : Int) == 0) = false := by simp; omega
              replace hr0 := Lib.hid hr0
              go_wp2_with (first
                | (go_at_call 30; refine (h30.out _ hBw.out).mono ?_; rintro e w7 ⟨v7, rfl, o7, hB7⟩; replace o7 := OwnI.ints o7; obtain ⟨A7, c7, rfl, _⟩ := o7.open; replace o7 := Lib.hid o7; replace hBw := Lib.hid (bthen hBw.out hB7))
                | (go_at_call 33; refine (h33.out _ hBw.out).mono ?_; rintro e w8 ⟨v8, q8, rfl, o8, hq8, hB8⟩; obtain ⟨g8, c8, rfl, hg8, _⟩ := OwnL.open o8 (by omega); rw [hq8] at o8 ⊢; replace o8 := Lib.hid o8; replace hq8 := Lib.hid hq8; replace hB8 := Lib.hid hB8))
              go_roundw
              case rel => exact ⟨r + 1, l7, q8, A7, _, c7, c8, by omega, by go_num, rfl, by rw [hq8.out], Ints.below o7.out (Nat.le_refl _) hB8.out, by show Ints _ _ _; rw [hq8.out]; exact OwnI.ints o8.out, bthen hB.out (bthen hBw.out hB8.out)⟩
              case measure => simp [intOf]; try omega
      · rw [hal] at h41 h43
        replace h41 := Lib.hid h41
        replace h43 := Lib.hid h43
        by_cases hlm : ps.length = k
        · have hne : ((ps.length : Int) != (k : Int)) = false := by simp [hlm]
          obtain ⟨bf, hbf⟩ : ∃ bf, bf = badAt false ps := ⟨_, rfl⟩
          have hb0 : Hid (bf 0 = false) := by rw [hbf]; exact hb1.out _
          have hstep : Hid (∀ j, bf (j + 1) = (bf j || badP ps j)) := by rw [hbf]; exact fun j => hbs.out _ j
          cases hbn : bf ps.length
          · have hpp : priced k ps := by rw [← hlm]; exact hpr.out (by rw [← hbf]; exact hbn)
            obtain ⟨ls, rfl, hls, hnl⟩ := alloc_nat hal
            have h42 := fun W (hW : Below wr.heap.size wr W) => Clears_ok W _ _ _ ys ls ps k (Rows2.below hR.out (Nat.le_refl _) hW) (Ints.below ha.out (Nat.le_refl _) hW) (Ints.below hp.out (Nat.le_refl _) hW) hE.out hal hpp hls hnl
            have h34 := fun W (hW : Below wr.heap.size wr W) => rclears_any W _ _ _ ys ls ps k (Rows2.below hR.out (Nat.le_refl _) hW) (Ints.below ha.out (Nat.le_refl _) hW) (Ints.below hp.out (Nat.le_refl _) hW) hE.out hpp hls hnl
            generalize clearsB k ys ls ps = cb at *
            have hcc : (cb != cb) = false := by simp
            replace h42 := Lib.hid h42
            replace h34 := Lib.hid h34
            generalize casts ls = l at *
            replace hbn := Lib.hid hbn
            clear hbf hb1 hbs hpr h42b hal hpp hnl hls
            replace hlm := Lib.hid hlm
            go_wp2_with (first
              | (go_at_call 43; have hx := hB4; refine (h43.out _ hB4.out).mono ?_; rintro e w5 ⟨rfl, d5, hw5⟩; have hBw := below_drewN hB4.out d5; rw [hw5] at hBw; replace hBw := Lib.hid hBw; replace hw5 := Lib.hid hw5)
              | (go_at_call 41; refine h41.out.mono ?_; rintro e w2 ⟨rfl, hB2⟩; replace hB2 := Lib.hid hB2)
              | (go_at_call 43; refine (h43.out _ hB2.out).mono ?_; rintro e w3' ⟨rfl, d3, hw3⟩; have hB3 := below_drewN hB2.out d3; rw [hw3] at hB3; replace hB3 := Lib.hid hB3; replace hw3 := Lib.hid hw3)
              | (go_at_call 42; refine (h42.out _ hB3.out).mono ?_; rintro e w4 ⟨rfl, hB4⟩; replace hB4 := Lib.hid (bthen hB3.out hB4)))
            clear h41 h43 h42 hw5 hw3 hB2 hB3 hB4
            have hat5 : Hid (∀ i, i < ps.length → ∃ b off, Ap = some ⟨b, off, none⟩ ∧ w5.cell? ⟨b, off + i, none⟩ = some (.int .i64 (at0 ps i))) := fun i hi => by
              obtain ⟨b, off, e, hc⟩ := hat.out i hi
              exact ⟨b, off, e, (hBw.out.cell (p := ⟨b, off + i, none⟩) (lt_of_cell hc)).trans hc⟩
            go_loop [13, 14] (fun b i => ∃ j : Nat, j ≤ ps.length ∧ i = .int .i64 (j : Int) ∧ b = .bool (bf j)) (fun _ i => ps.length - (intOf i).toNat)
            case atStart => exact ⟨0, Nat.zero_le _, rfl, by rw [hb0.out]⟩
            case round =>
              obtain ⟨j, hj, rfl, rfl⟩ := hrel
              by_cases hlt : j < ps.length
              · obtain ⟨b1, o1, rfl, hc1⟩ := hat5.out j hlt
                have hst := Lib.hid (hstep.out j)
                rw [hbd.out j] at hst
                generalize bf j = bj at *
                generalize at0 ps j = x at *
                cases bj
                · by_cases hx0 : x < 0
                  · have hr1 := Lib.hid (show bf (j + 1) = true by rw [hst.out]; simp; omega)
                    go_wp2
                    go_round
                    case rel => exact ⟨j + 1, by omega, by go_num, by rw [hr1.out]⟩
                    case measure => simp [intOf]; try omega
                  · by_cases hx1 : 1000000000 < x
                    · have hr1 := Lib.hid (show bf (j + 1) = true by rw [hst.out]; simp; omega)
                      go_wp2
                      go_round
                      case rel => exact ⟨j + 1, by omega, by go_num, by rw [hr1.out]⟩
                      case measure => simp [intOf]; try omega
                    · have hr1 := Lib.hid (show bf (j + 1) = false by rw [hst.out]; simp; omega)
                      go_wp2
                      go_round
                      case rel => exact ⟨j + 1, by omega, by go_num, by rw [hr1.out]⟩
                      case measure => simp [intOf]; try omega
                · have hr1 := Lib.hid (show bf (j + 1) = true by rw [hst.out]; rfl)
                  go_wp2
                  go_round
                  case rel => exact ⟨j + 1, by omega, by go_num, by rw [hr1.out]⟩
                  case measure => simp [intOf]; try omega
              · obtain rfl : j = ps.length := by omega
                rw [hbn.out]
                clear hbn hstep hbd hat5
                by_cases hr0 : r = 0
                · have hr0' : ((r : Int) == 0) = true := by simp [hr0]
                  replace hr0 := Lib.hid hr0
                  go_wp2_with (first
                    | (go_at_call 30; refine (h30.out _ hBw.out).mono ?_; rintro e w7 ⟨v7, rfl, o7, hB7⟩; replace o7 := OwnI.ints o7; obtain ⟨A7, c7, rfl, _⟩ := o7.open; replace o7 := Lib.hid o7; replace hBw := Lib.hid (bthen hBw.out hB7))
                    | (go_at_call 34; refine (h34.out _ hBw.out).mono ?_; rintro e w6 ⟨rfl, d6, hw6⟩; have hBv := below_drewN hBw.out d6; rw [hw6] at hBv; replace hBw := Lib.hid hBv; clear hBv hw6)
                    | (go_at_call 33; refine (h33.out _ hBw.out).mono ?_; rintro e w8 ⟨v8, q8, rfl, o8, hq8, hB8⟩; obtain ⟨g8, c8, rfl, hg8, _⟩ := OwnL.open o8 (by omega); rw [hq8] at o8 ⊢; replace o8 := Lib.hid o8; replace hq8 := Lib.hid hq8; replace hB8 := Lib.hid hB8))
                  go_loopw [16] (fun i W => ∃ (j : Nat) (q9 : List Int), j ≤ k ∧ i = .int .i64 (j : Int) ∧ Hid (OwnI w7.heap.size 2 W (.slice (some ⟨g8, 0, none⟩) k c8) q9) ∧ Hid (q9.length = k) ∧ Hid (Below w7.heap.size w7 W)) (fun i _ => k - (intOf i).toNat)
                  case atStart => exact ⟨0, q8, Nat.zero_le _, rfl, o8.out, hq8.out, hB8.out⟩
                  case round =>
                    clear o8 hq8 hB8
                    obtain ⟨j, q9, hj, rfl, o9, hq9, hB9⟩ := hrel
                    by_cases hjk : j < k
                    · by_cases hjp : j < ps.length
                      · obtain ⟨b1, o1, rfl, hc1⟩ := hat.out j hjp
                        replace hc1 := ((bthen hBw.out hB9.out).cell (p := ⟨b1, o1 + j, none⟩) (lt_of_cell hc1)).trans hc1
                        obtain ⟨hc9, hf9⟩ := OwnI.cellI o9.out j (by rw [hq9.out]; exact hjk)
                        have hst := Lib.hid (fun x => OwnI.setN o9.out hq9.out j x)
                        have hBs := Lib.hid (fun x => hB9.out.setCell (p := ⟨g8, j, none⟩) hg8 x)
                        generalize at0 ps j = x at *
                        generalize at0 q9 j = z at *
                        go_wp2
                        go_region
                        go_wp2
                        go_roundw
                        case rel => exact ⟨j + 1, _, by omega, by go_num, OwnL.drewN (hst.out _) 1, by show _ = _; rw [List.length_set, hq9.out], below_drewN (hBs.out _) 1⟩
                        case measure => simp [intOf]; try omega
                      · go_wp2
                        go_roundw
                        case rel => exact ⟨r + 1, l7, q9, A7, _, c7, c8, by omega, by go_num, rfl, by rw [hq9.out], Ints.below o7.out (Nat.le_refl _) hB9.out, by show Ints _ _ _; rw [hq9.out]; exact OwnI.ints o9.out, bthen hB.out (bthen hBw.out hB9.out)⟩
                        case measure => simp [intOf]; try omega
                    · obtain rfl : j = k := by omega
                      go_wp2
                      go_roundw
                      case rel => exact ⟨r + 1, l7, q9, A7, _, c7, c8, by omega, by go_num, rfl, by rw [hq9.out], Ints.below o7.out (Nat.le_refl _) hB9.out, by show Ints _ _ _; rw [hq9.out]; exact OwnI.ints o9.out, bthen hB.out (bthen hBw.out hB9.out)⟩
                      case measure => simp [intOf]; try omega
                · have hr0' : ((r : Int) == 0) = false := by simp; omega
                  replace hr0 := Lib.hid hr0
                  go_wp2_with (first
                    | (go_at_call 30; refine (h30.out _ hBw.out).mono ?_; rintro e w7 ⟨v7, rfl, o7, hB7⟩; replace o7 := OwnI.ints o7; obtain ⟨A7, c7, rfl, _⟩ := o7.open; replace o7 := Lib.hid o7; replace hBw := Lib.hid (bthen hBw.out hB7))
                    | (go_at_call 34; refine (h34.out _ hBw.out).mono ?_; rintro e w6 ⟨rfl, d6, hw6⟩; have hBv := below_drewN hBw.out d6; rw [hw6] at hBv; replace hBw := Lib.hid hBv; clear hBv hw6)
                    | (go_at_call 33; refine (h33.out _ hBw.out).mono ?_; rintro e w8 ⟨v8, q8, rfl, o8, hq8, hB8⟩; obtain ⟨g8, c8, rfl, hg8, _⟩ := OwnL.open o8 (by omega); rw [hq8] at o8 ⊢; replace o8 := Lib.hid o8; replace hq8 := Lib.hid hq8; replace hB8 := Lib.hid hB8))
                  go_roundw
                  case rel => exact ⟨r + 1, l7, q8, A7, _, c7, c8, by omega, by go_num, rfl, by rw [hq8.out], Ints.below o7.out (Nat.le_refl _) hB8.out, by show Ints _ _ _; rw [hq8.out]; exact OwnI.ints o8.out, bthen hB.out (bthen hBw.out hB8.out)⟩
                  case measure => simp [intOf]; try omega
          · have h42 := Lib.hid (h42b.out (.inr (.inr (by rw [← hbf]; exact hbn))))
            replace hbn := Lib.hid hbn
            clear hbf hb1 hbs hpr h42b hal
            replace hlm := Lib.hid hlm
            go_wp2_with (first
              | (go_at_call 43; have hx := hB4; refine (h43.out _ hB4.out).mono ?_; rintro e w5 ⟨rfl, d5, hw5⟩; have hBw := below_drewN hB4.out d5; rw [hw5] at hBw; replace hBw := Lib.hid hBw; replace hw5 := Lib.hid hw5)
              | (go_at_call 41; refine h41.out.mono ?_; rintro e w2 ⟨rfl, hB2⟩; replace hB2 := Lib.hid hB2)
              | (go_at_call 43; refine (h43.out _ hB2.out).mono ?_; rintro e w3' ⟨rfl, d3, hw3⟩; have hB3 := below_drewN hB2.out d3; rw [hw3] at hB3; replace hB3 := Lib.hid hB3; replace hw3 := Lib.hid hw3)
              | (go_at_call 42; refine (h42.out _ hB3.out).mono ?_; rintro e w4 ⟨rfl, hB4⟩; replace hB4 := Lib.hid (bthen hB3.out hB4)))
            clear h41 h43 h42 hw5 hw3 hB2 hB3 hB4
            have hat5 : Hid (∀ i, i < ps.length → ∃ b off, Ap = some ⟨b, off, none⟩ ∧ w5.cell? ⟨b, off + i, none⟩ = some (.int .i64 (at0 ps i))) := fun i hi => by
              obtain ⟨b, off, e, hc⟩ := hat.out i hi
              exact ⟨b, off, e, (hBw.out.cell (p := ⟨b, off + i, none⟩) (lt_of_cell hc)).trans hc⟩
            go_loop [13, 14] (fun b i => ∃ j : Nat, j ≤ ps.length ∧ i = .int .i64 (j : Int) ∧ b = .bool (bf j)) (fun _ i => ps.length - (intOf i).toNat)
            case atStart => exact ⟨0, Nat.zero_le _, rfl, by rw [hb0.out]⟩
            case round =>
              obtain ⟨j, hj, rfl, rfl⟩ := hrel
              by_cases hlt : j < ps.length
              · obtain ⟨b1, o1, rfl, hc1⟩ := hat5.out j hlt
                have hst := Lib.hid (hstep.out j)
                rw [hbd.out j] at hst
                generalize bf j = bj at *
                generalize at0 ps j = x at *
                cases bj
                · by_cases hx0 : x < 0
                  · have hr1 := Lib.hid (show bf (j + 1) = true by rw [hst.out]; simp; omega)
                    go_wp2
                    go_round
                    case rel => exact ⟨j + 1, by omega, by go_num, by rw [hr1.out]⟩
                    case measure => simp [intOf]; try omega
                  · by_cases hx1 : 1000000000 < x
                    · have hr1 := Lib.hid (show bf (j + 1) = true by rw [hst.out]; simp; omega)
                      go_wp2
                      go_round
                      case rel => exact ⟨j + 1, by omega, by go_num, by rw [hr1.out]⟩
                      case measure => simp [intOf]; try omega
                    · have hr1 := Lib.hid (show bf (j + 1) = false by rw [hst.out]; simp; omega)
                      go_wp2
                      go_round
                      case rel => exact ⟨j + 1, by omega, by go_num, by rw [hr1.out]⟩
                      case measure => simp [intOf]; try omega
                · have hr1 := Lib.hid (show bf (j + 1) = true by rw [hst.out]; rfl)
                  go_wp2
                  go_round
                  case rel => exact ⟨j + 1, by omega, by go_num, by rw [hr1.out]⟩
                  case measure => simp [intOf]; try omega
              · obtain rfl : j = ps.length := by omega
                rw [hbn.out]
                clear hbn hstep hbd hat5
                by_cases hr0 : r = 0
                · have hr0' : ((r : Int) == 0) = true := by simp [hr0]
                  replace hr0 := Lib.hid hr0
                  go_wp2_with (first
                    | (go_at_call 30; refine (h30.out _ hBw.out).mono ?_; rintro e w7 ⟨v7, rfl, o7, hB7⟩; replace o7 := OwnI.ints o7; obtain ⟨A7, c7, rfl, _⟩ := o7.open; replace o7 := Lib.hid o7; replace hBw := Lib.hid (bthen hBw.out hB7))
                    | (go_at_call 33; refine (h33.out _ hBw.out).mono ?_; rintro e w8 ⟨v8, q8, rfl, o8, hq8, hB8⟩; obtain ⟨g8, c8, rfl, hg8, _⟩ := OwnL.open o8 (by omega); rw [hq8] at o8 ⊢; replace o8 := Lib.hid o8; replace hq8 := Lib.hid hq8; replace hB8 := Lib.hid hB8))
                  go_loopw [16] (fun i W => ∃ (j : Nat) (q9 : List Int), j ≤ k ∧ i = .int .i64 (j : Int) ∧ Hid (OwnI w7.heap.size 2 W (.slice (some ⟨g8, 0, none⟩) k c8) q9) ∧ Hid (q9.length = k) ∧ Hid (Below w7.heap.size w7 W)) (fun i _ => k - (intOf i).toNat)
                  case atStart => exact ⟨0, q8, Nat.zero_le _, rfl, o8.out, hq8.out, hB8.out⟩
                  case round =>
                    clear o8 hq8 hB8
                    obtain ⟨j, q9, hj, rfl, o9, hq9, hB9⟩ := hrel
                    by_cases hjk : j < k
                    · by_cases hjp : j < ps.length
                      · obtain ⟨b1, o1, rfl, hc1⟩ := hat.out j hjp
                        replace hc1 := ((bthen hBw.out hB9.out).cell (p := ⟨b1, o1 + j, none⟩) (lt_of_cell hc1)).trans hc1
                        obtain ⟨hc9, hf9⟩ := OwnI.cellI o9.out j (by rw [hq9.out]; exact hjk)
                        have hst := Lib.hid (fun x => OwnI.setN o9.out hq9.out j x)
                        have hBs := Lib.hid (fun x => hB9.out.setCell (p := ⟨g8, j, none⟩) hg8 x)
                        generalize at0 ps j = x at *
                        generalize at0 q9 j = z at *
                        go_wp2
                        go_region
                        go_wp2
                        go_roundw
                        case rel => exact ⟨j + 1, _, by omega, by go_num, OwnL.drewN (hst.out _) 1, by show _ = _; rw [List.length_set, hq9.out], below_drewN (hBs.out _) 1⟩
                        case measure => simp [intOf]; try omega
                      · go_wp2
                        go_roundw
                        case rel => exact ⟨r + 1, l7, q9, A7, _, c7, c8, by omega, by go_num, rfl, by rw [hq9.out], Ints.below o7.out (Nat.le_refl _) hB9.out, by show Ints _ _ _; rw [hq9.out]; exact OwnI.ints o9.out, bthen hB.out (bthen hBw.out hB9.out)⟩
                        case measure => simp [intOf]; try omega
                    · obtain rfl : j = k := by omega
                      go_wp2
                      go_roundw
                      case rel => exact ⟨r + 1, l7, q9, A7, _, c7, c8, by omega, by go_num, rfl, by rw [hq9.out], Ints.below o7.out (Nat.le_refl _) hB9.out, by show Ints _ _ _; rw [hq9.out]; exact OwnI.ints o9.out, bthen hB.out (bthen hBw.out hB9.out)⟩
                      case measure => simp [intOf]; try omega
                · have hr0' : ((r : Int) == 0) = false := by simp; omega
                  replace hr0 := Lib.hid hr0
                  go_wp2_with (first
                    | (go_at_call 30; refine (h30.out _ hBw.out).mono ?_; rintro e w7 ⟨v7, rfl, o7, hB7⟩; replace o7 := OwnI.ints o7; obtain ⟨A7, c7, rfl, _⟩ := o7.open; replace o7 := Lib.hid o7; replace hBw := Lib.hid (bthen hBw.out hB7))
                    | (go_at_call 33; refine (h33.out _ hBw.out).mono ?_; rintro e w8 ⟨v8, q8, rfl, o8, hq8, hB8⟩; obtain ⟨g8, c8, rfl, hg8, _⟩ := OwnL.open o8 (by omega); rw [hq8] at o8 ⊢; replace o8 := Lib.hid o8; replace hq8 := Lib.hid hq8; replace hB8 := Lib.hid hB8))
                  go_roundw
                  case rel => exact ⟨r + 1, l7, q8, A7, _, c7, c8, by omega, by go_num, rfl, by rw [hq8.out], Ints.below o7.out (Nat.le_refl _) hB8.out, by show Ints _ _ _; rw [hq8.out]; exact OwnI.ints o8.out, bthen hB.out (bthen hBw.out hB8.out)⟩
                  case measure => simp [intOf]; try omega
        · have hne : ((ps.length : Int) != (k : Int)) = true := by simp; omega
          have h42 := Lib.hid (h42b.out (.inr (.inl hlm)))
          obtain ⟨bf, hbf⟩ : ∃ bf, bf = badAt true ps := ⟨_, rfl⟩
          have hb0 : Hid (bf 0 = true) := by rw [hbf]; exact hb1.out _
          have hstep : Hid (∀ j, bf (j + 1) = (bf j || badP ps j)) := by rw [hbf]; exact fun j => hbs.out _ j
          have hbn : Hid (bf ps.length = true) := by rw [hbf]; show badAt true ps _ = true; unfold badAt; rfl
          clear hbf hb1 hbs hpr h42b hal
          replace hlm := Lib.hid hlm
          go_wp2_with (first
            | (go_at_call 43; have hx := hB4; refine (h43.out _ hB4.out).mono ?_; rintro e w5 ⟨rfl, d5, hw5⟩; have hBw := below_drewN hB4.out d5; rw [hw5] at hBw; replace hBw := Lib.hid hBw; replace hw5 := Lib.hid hw5)
            | (go_at_call 41; refine h41.out.mono ?_; rintro e w2 ⟨rfl, hB2⟩; replace hB2 := Lib.hid hB2)
            | (go_at_call 43; refine (h43.out _ hB2.out).mono ?_; rintro e w3' ⟨rfl, d3, hw3⟩; have hB3 := below_drewN hB2.out d3; rw [hw3] at hB3; replace hB3 := Lib.hid hB3; replace hw3 := Lib.hid hw3)
            | (go_at_call 42; refine (h42.out _ hB3.out).mono ?_; rintro e w4 ⟨rfl, hB4⟩; replace hB4 := Lib.hid (bthen hB3.out hB4)))
          clear h41 h43 h42 hw5 hw3 hB2 hB3 hB4
          have hat5 : Hid (∀ i, i < ps.length → ∃ b off, Ap = some ⟨b, off, none⟩ ∧ w5.cell? ⟨b, off + i, none⟩ = some (.int .i64 (at0 ps i))) := fun i hi => by
            obtain ⟨b, off, e, hc⟩ := hat.out i hi
            exact ⟨b, off, e, (hBw.out.cell (p := ⟨b, off + i, none⟩) (lt_of_cell hc)).trans hc⟩
          go_loop [13, 14] (fun b i => ∃ j : Nat, j ≤ ps.length ∧ i = .int .i64 (j : Int) ∧ b = .bool (bf j)) (fun _ i => ps.length - (intOf i).toNat)
          case atStart => exact ⟨0, Nat.zero_le _, rfl, by rw [hb0.out]⟩
          case round =>
            obtain ⟨j, hj, rfl, rfl⟩ := hrel
            by_cases hlt : j < ps.length
            · obtain ⟨b1, o1, rfl, hc1⟩ := hat5.out j hlt
              have hst := Lib.hid (hstep.out j)
              rw [hbd.out j] at hst
              generalize bf j = bj at *
              generalize at0 ps j = x at *
              cases bj
              · by_cases hx0 : x < 0
                · have hr1 := Lib.hid (show bf (j + 1) = true by rw [hst.out]; simp; omega)
                  go_wp2
                  go_round
                  case rel => exact ⟨j + 1, by omega, by go_num, by rw [hr1.out]⟩
                  case measure => simp [intOf]; try omega
                · by_cases hx1 : 1000000000 < x
                  · have hr1 := Lib.hid (show bf (j + 1) = true by rw [hst.out]; simp; omega)
                    go_wp2
                    go_round
                    case rel => exact ⟨j + 1, by omega, by go_num, by rw [hr1.out]⟩
                    case measure => simp [intOf]; try omega
                  · have hr1 := Lib.hid (show bf (j + 1) = false by rw [hst.out]; simp; omega)
                    go_wp2
                    go_round
                    case rel => exact ⟨j + 1, by omega, by go_num, by rw [hr1.out]⟩
                    case measure => simp [intOf]; try omega
              · have hr1 := Lib.hid (show bf (j + 1) = true by rw [hst.out]; rfl)
                go_wp2
                go_round
                case rel => exact ⟨j + 1, by omega, by go_num, by rw [hr1.out]⟩
                case measure => simp [intOf]; try omega
            · obtain rfl : j = ps.length := by omega
              rw [hbn.out]
              clear hbn hstep hbd hat5
              by_cases hr0 : r = 0
              · have hr0' : ((r : Int) == 0) = true := by simp [hr0]
                replace hr0 := Lib.hid hr0
                go_wp2_with (first
                  | (go_at_call 30; refine (h30.out _ hBw.out).mono ?_; rintro e w7 ⟨v7, rfl, o7, hB7⟩; replace o7 := OwnI.ints o7; obtain ⟨A7, c7, rfl, _⟩ := o7.open; replace o7 := Lib.hid o7; replace hBw := Lib.hid (bthen hBw.out hB7))
                  | (go_at_call 33; refine (h33.out _ hBw.out).mono ?_; rintro e w8 ⟨v8, q8, rfl, o8, hq8, hB8⟩; obtain ⟨g8, c8, rfl, hg8, _⟩ := OwnL.open o8 (by omega); rw [hq8] at o8 ⊢; replace o8 := Lib.hid o8; replace hq8 := Lib.hid hq8; replace hB8 := Lib.hid hB8))
                go_loopw [16] (fun i W => ∃ (j : Nat) (q9 : List Int), j ≤ k ∧ i = .int .i64 (j : Int) ∧ Hid (OwnI w7.heap.size 2 W (.slice (some ⟨g8, 0, none⟩) k c8) q9) ∧ Hid (q9.length = k) ∧ Hid (Below w7.heap.size w7 W)) (fun i _ => k - (intOf i).toNat)
                case atStart => exact ⟨0, q8, Nat.zero_le _, rfl, o8.out, hq8.out, hB8.out⟩
                case round =>
                  clear o8 hq8 hB8
                  obtain ⟨j, q9, hj, rfl, o9, hq9, hB9⟩ := hrel
                  by_cases hjk : j < k
                  · by_cases hjp : j < ps.length
                    · obtain ⟨b1, o1, rfl, hc1⟩ := hat.out j hjp
                      replace hc1 := ((bthen hBw.out hB9.out).cell (p := ⟨b1, o1 + j, none⟩) (lt_of_cell hc1)).trans hc1
                      obtain ⟨hc9, hf9⟩ := OwnI.cellI o9.out j (by rw [hq9.out]; exact hjk)
                      have hst := Lib.hid (fun x => OwnI.setN o9.out hq9.out j x)
                      have hBs := Lib.hid (fun x => hB9.out.setCell (p := ⟨g8, j, none⟩) hg8 x)
                      generalize at0 ps j = x at *
                      generalize at0 q9 j = z at *
                      go_wp2
                      go_region
                      go_wp2
                      go_roundw
                      case rel => exact ⟨j + 1, _, by omega, by go_num, OwnL.drewN (hst.out _) 1, by show _ = _; rw [List.length_set, hq9.out], below_drewN (hBs.out _) 1⟩
                      case measure => simp [intOf]; try omega
                    · go_wp2
                      go_roundw
                      case rel => exact ⟨r + 1, l7, q9, A7, _, c7, c8, by omega, by go_num, rfl, by rw [hq9.out], Ints.below o7.out (Nat.le_refl _) hB9.out, by show Ints _ _ _; rw [hq9.out]; exact OwnI.ints o9.out, bthen hB.out (bthen hBw.out hB9.out)⟩
                      case measure => simp [intOf]; try omega
                  · obtain rfl : j = k := by omega
                    go_wp2
                    go_roundw
                    case rel => exact ⟨r + 1, l7, q9, A7, _, c7, c8, by omega, by go_num, rfl, by rw [hq9.out], Ints.below o7.out (Nat.le_refl _) hB9.out, by show Ints _ _ _; rw [hq9.out]; exact OwnI.ints o9.out, bthen hB.out (bthen hBw.out hB9.out)⟩
                    case measure => simp [intOf]; try omega
              · have hr0' : ((r : Int) == 0) = false := by simp; omega
                replace hr0 := Lib.hid hr0
                go_wp2_with (first
                  | (go_at_call 30; refine (h30.out _ hBw.out).mono ?_; rintro e w7 ⟨v7, rfl, o7, hB7⟩; replace o7 := OwnI.ints o7; obtain ⟨A7, c7, rfl, _⟩ := o7.open; replace o7 := Lib.hid o7; replace hBw := Lib.hid (bthen hBw.out hB7))
                  | (go_at_call 33; refine (h33.out _ hBw.out).mono ?_; rintro e w8 ⟨v8, q8, rfl, o8, hq8, hB8⟩; obtain ⟨g8, c8, rfl, hg8, _⟩ := OwnL.open o8 (by omega); rw [hq8] at o8 ⊢; replace o8 := Lib.hid o8; replace hq8 := Lib.hid hq8; replace hB8 := Lib.hid hB8))
                go_roundw
                case rel => exact ⟨r + 1, l7, q8, A7, _, c7, c8, by omega, by go_num, rfl, by rw [hq8.out], Ints.below o7.out (Nat.le_refl _) hB8.out, by show Ints _ _ _; rw [hq8.out]; exact OwnI.ints o8.out, bthen hB.out (bthen hBw.out hB8.out)⟩
                case measure => simp [intOf]; try omega
    · obtain rfl : r = 3 := by omega
      go_wp2_with (go_at_call 17; refine (haw.out _).mono ?_; rintro e w20 ⟨rfl, hBn⟩)
      go_ret
      exact ⟨rfl, bthen (bthen hB1.out hB.out) hBn⟩
end Go.Proofs.Ytadonoacmpkolaa
