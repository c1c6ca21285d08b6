/- BidBest: the walk. -/
import Derived.Test.YtadonoacmpkolaaR8
import Derived.Test.YtadonoacmpkolaaR9
import Derived.Test.YtadonoacmpkolaaW23
import Derived.Test.YtadonoacmpkolaaW18
namespace Go.Proofs.Ytadonoacmpkolaa
open Go.RowKit

set_option maxRecDepth 100000 in
set_option maxHeartbeats 4000000 in
theorem BidBest_walk (w : World) (m : Int) (v : Value) (xs : List (List Int)) (sb : Bool) (_ : -9223372036854775808 ≤ m ∧ m ≤ 9223372036854775807) (h : Rows2 w v xs) :
    Calls Try.prog 5 #[.int .i64 m, v, .bool sb] w fun e w' => e = .returned (.bool true) ∧ Below w.heap.size w w' := by
  have ht := Lib.hid (fun (m : Int) W (hB : Below w.heap.size w W) => tamed_any W v xs m (Rows2.below h (Nat.le_refl _) hB))
  have ht0 := Lib.hid (tame_any w v xs m h)
  clear h
  have haw := Lib.hid awake_any
  cases sb
  · go_enter Try.func5, Try.ntmps5
    go_wp2_with (go_at_call 21; go_loud (refine ht0.out.mono ?_; rintro e w1 ⟨v1, k, ys, rfl, hk1, hk4, hoy, hy1, hy4, hT, hB1⟩; have hE := hT.bids hk1 (by omega) hy1 (by omega); have hk5 : k ≤ 5 := (by omega); have hr1 := OwnRows.rows hoy; obtain ⟨A1, c1, rfl, hlc1, hcm1, _, _⟩ := Rows2.open hr1; unfold maxLen at hcm1; replace hr1 := Lib.hid hr1; replace hB1 := Lib.hid hB1; clear hoy hT hk1 hk4 hy1 hy4))
    clear ht ht0
    have hn6 := hE.l6
    have h23 := Lib.hid (fun W V (hV : Rows2 W V ys) => Best_ok W V ys k hV hE)
    have hcst : Hid ((alloc ys (p2 k - 1)).map (fun (s : Nat) => (s : Int)) = casts (alloc ys (p2 k - 1))) := rfl
    rw [hcst.out] at h23
    clear hcst
    have h24 := Lib.hid (fun W V (hV : Rows2 W V ys) => Payments_ok W V ys k hV hE)
    have h25 := fun W V (hV : Rows2 W V ys) => IsSingle_ok W V ys k hV hE
    have h28 := Lib.hid (fun W V (hV : Rows2 W V ys) => everyone_any W V ys hV hE.l6)
    have h27 := fun W V (hV : Rows2 W V ys) => worth_any W V ys k (p2 ys.length - 1) hV hE (p2_all_le hE.l6)
    rw [tblAt_all ys 0 (Nat.zero_le _), List.drop_zero] at h27
    replace h27 := Lib.hid h27
    have h30 := Lib.hid (fun W V (hV : Rows2 W V ys) => rbest_any W V ys k hV hE)
    have h31 := Lib.hid (fun W V (hV : Rows2 W V ys) => rpayments_any W V ys k hV hE)
    have h32 := fun W V (hV : Rows2 W V ys) => rissingle_any W V ys k hV hE.m6 (by omega) (fun i hi => (hE.row i hi).1)
    have hlen0 : (casts (alloc ys (p2 k - 1))).length = ys.length := by rw [casts_length, alloc_length]
    have hplen0 : (paysOf k ys).length = ys.length := tab_length ..
    cases hb : ys.all (singleB k)
    · have h26 := Lib.hid (fun W V (hV : Rows2 W V ys) => Prices_none W V ys k hV hE hb)
      rw [hb] at h25 h32
      replace h25 := Lib.hid h25
      replace h32 := Lib.hid h32
      clear hb
      generalize alloc ys (p2 k - 1) = ls at *
      generalize paysOf k ys = pa at *
      generalize wts ys (p2 k - 1) = W0 at *
      have hne : (W0 != W0) = false := by simp
      have hlen := Lib.hid hlen0
      have hplen := Lib.hid hplen0
      clear hlen0 hplen0
      replace hE := Lib.hid hE
      go_wp2_with (first
      | (go_at_call 23; refine (h23.out _ _ hr1.out).mono ?_; rintro e w2 ⟨v2, rfl, o2, hBn⟩; have hya := Lib.hid (OwnI.ints o2); obtain ⟨A2, c2, rfl, _, hm2, _, _⟩ := (OwnI.ints o2).open; rw [hlen.out] at hya ⊢; unfold maxLen at hm2; clear o2; replace hr1 := Lib.hid (hr1.out.then hBn); replace hB1 := Lib.hid (bthen hB1.out hBn); clear hBn)
      | (go_at_call 24; refine (h24.out _ _ hr1.out).mono ?_; rintro e w3 ⟨v3, rfl, o3, hBn⟩; have hyp := Lib.hid (OwnI.ints o3); obtain ⟨A3, c3, rfl, _, hm3, _, _⟩ := (OwnI.ints o3).open; rw [hplen.out] at hyp ⊢; unfold maxLen at hm3; clear o3; replace hr1 := Lib.hid (hr1.out.then hBn); replace hB1 := Lib.hid (bthen hB1.out hBn); replace hya := Lib.hid (Ints.below hya.out (Nat.le_refl _) hBn); clear hBn)
      | (go_at_call 25; refine (h25.out _ _ hr1.out).mono ?_; rintro e w4 ⟨rfl, hBn⟩; replace hr1 := Lib.hid (hr1.out.then hBn); replace hB1 := Lib.hid (bthen hB1.out hBn); replace hya := Lib.hid (Ints.below hya.out (Nat.le_refl _) hBn); replace hyp := Lib.hid (Ints.below hyp.out (Nat.le_refl _) hBn); clear hBn)
      | (go_at_call 26; refine (h26.out _ _ hr1.out).mono ?_; rintro e w5 ⟨rfl, hBn⟩; replace hr1 := Lib.hid (hr1.out.then hBn); replace hB1 := Lib.hid (bthen hB1.out hBn); replace hya := Lib.hid (Ints.below hya.out (Nat.le_refl _) hBn); replace hyp := Lib.hid (Ints.below hyp.out (Nat.le_refl _) hBn); clear hBn)
      | (go_at_call 28; refine (h28.out _ _ hr1.out).mono ?_; rintro e w6 ⟨rfl, rfl⟩)
      | (go_at_call 27; refine (h27.out _ _ hr1.out).mono ?_; rintro e w7 ⟨rfl, hBn⟩; replace hr1 := Lib.hid (hr1.out.then hBn); replace hB1 := Lib.hid (bthen hB1.out hBn); replace hya := Lib.hid (Ints.below hya.out (Nat.le_refl _) hBn); replace hyp := Lib.hid (Ints.below hyp.out (Nat.le_refl _) hBn); clear hBn)
      | (go_at_call 30; refine (h30.out _ _ hr1.out).mono ?_; rintro e w8 ⟨v8, rfl, o8, hBn⟩; have hyb := Lib.hid (OwnI.ints o8); obtain ⟨A8, c8, rfl, _, hm8, _, _⟩ := (OwnI.ints o8).open; rw [hlen.out] at hyb ⊢; unfold maxLen at hm8; clear o8; replace hr1 := Lib.hid (hr1.out.then hBn); replace hB1 := Lib.hid (bthen hB1.out hBn); replace hya := Lib.hid (Ints.below hya.out (Nat.le_refl _) hBn); replace hyp := Lib.hid (Ints.below hyp.out (Nat.le_refl _) hBn); clear hBn)
      | (go_at_call 29; go_loud (refine (ints_any _ _ _ _ _ hya.out hyb.out).mono ?_; rintro e w9 ⟨rfl, d9, rfl⟩; rw [show decide (casts ls = casts ls) = true by simp]; have hBn := below_drewN (Below.refl w8.heap.size w8) d9; replace hr1 := Lib.hid (hr1.out.then hBn); replace hB1 := Lib.hid (bthen hB1.out hBn); replace hya := Lib.hid (Ints.below hya.out (Nat.le_refl _) hBn); replace hyp := Lib.hid (Ints.below hyp.out (Nat.le_refl _) hBn); clear hBn))
      | (go_at_call 31; refine (h31.out _ _ hr1.out).mono ?_; rintro e w10 ⟨v10, rfl, o10, hBn⟩; have hyz := Lib.hid (OwnI.ints o10); obtain ⟨A10, c10, rfl, _, hm10, _, _⟩ := (OwnI.ints o10).open; rw [hplen.out] at hyz ⊢; unfold maxLen at hm10; clear o10; replace hr1 := Lib.hid (hr1.out.then hBn); replace hB1 := Lib.hid (bthen hB1.out hBn); replace hya := Lib.hid (Ints.below hya.out (Nat.le_refl _) hBn); replace hyp := Lib.hid (Ints.below hyp.out (Nat.le_refl _) hBn); clear hBn)
      | (go_at_call 16; refine (longs_any _ _ _ _ _ hyp.out hyz.out).mono ?_; rintro e w11 ⟨rfl, d11, rfl⟩; rw [show decide (pa = pa) = true by simp]; have hBn := below_drewN (Below.refl w10.heap.size w10) d11; replace hr1 := Lib.hid (hr1.out.then hBn); replace hB1 := Lib.hid (bthen hB1.out hBn); replace hya := Lib.hid (Ints.below hya.out (Nat.le_refl _) hBn); clear hBn)
      | (go_at_call 32; refine (h32.out _ _ hr1.out).mono ?_; rintro e w12 ⟨rfl, hBn⟩; replace hr1 := Lib.hid (hr1.out.then hBn); replace hB1 := Lib.hid (bthen hB1.out hBn); replace hya := Lib.hid (Ints.below hya.out (Nat.le_refl _) hBn); clear hBn)
      | (go_at_call 17; go_loud (refine (haw.out _).mono ?_; rintro e w20 ⟨rfl, hBn⟩; replace hB1 := Lib.hid (bthen hB1.out hBn))))
      go_ret
      exact ⟨rfl, hB1.out⟩
    · have hS : SglAll k ys := fun b hb' => sgl_of (List.all_eq_true.1 hb b hb') (hE.all b hb')
      have hclr := addOf_clr hE hS
      have h26 := Lib.hid (fun W V (hV : Rows2 W V ys) => Prices_ok W V ys k hV hE hb _ hclr)
      have h33 := Lib.hid (fun W V (hV : Rows2 W V ys) => rprices_any W V ys k hV hE _ hclr)
      have h34g := Lib.hid (fun ps W V U Q (hV : Rows2 W V ys) (hU : Ints W U (casts (alloc ys (p2 k - 1)))) (hQ : Ints W Q ps) (hp : priced k ps) => rclears_any W V U Q ys (alloc ys (p2 k - 1)) ps k hV hU hQ hE hp (alloc_length _ _) (fun i => natAt_lt' ys i))
      have hlc := Lib.hid (fun ps hC hL => least_clears hE hS (ps := ps) hC hL)
      rw [hb] at h25 h32
      replace h25 := Lib.hid h25
      replace h32 := Lib.hid h32
      clear hb hclr
      replace hS := Lib.hid hS
      generalize alloc ys (p2 k - 1) = ls at *
      generalize paysOf k ys = pa at *
      generalize wts ys (p2 k - 1) = W0 at *
      have hne : (W0 != W0) = false := by simp
      have hlen := Lib.hid hlen0
      have hplen := Lib.hid hplen0
      clear hlen0 hplen0
      replace hE := Lib.hid hE
      go_wp2_with (first
      | (go_at_call 23; refine (h23.out _ _ hr1.out).mono ?_; rintro e w2 ⟨v2, rfl, o2, hBn⟩; have hya := Lib.hid (OwnI.ints o2); obtain ⟨A2, c2, rfl, _, hm2, _, _⟩ := (OwnI.ints o2).open; rw [hlen.out] at hya ⊢; unfold maxLen at hm2; clear o2; replace hr1 := Lib.hid (hr1.out.then hBn); replace hB1 := Lib.hid (bthen hB1.out hBn); clear hBn)
      | (go_at_call 24; refine (h24.out _ _ hr1.out).mono ?_; rintro e w3 ⟨v3, rfl, o3, hBn⟩; have hyp := Lib.hid (OwnI.ints o3); obtain ⟨A3, c3, rfl, _, hm3, _, _⟩ := (OwnI.ints o3).open; rw [hplen.out] at hyp ⊢; unfold maxLen at hm3; clear o3; replace hr1 := Lib.hid (hr1.out.then hBn); replace hB1 := Lib.hid (bthen hB1.out hBn); replace hya := Lib.hid (Ints.below hya.out (Nat.le_refl _) hBn); clear hBn)
      | (go_at_call 25; refine (h25.out _ _ hr1.out).mono ?_; rintro e w4 ⟨rfl, hBn⟩; replace hr1 := Lib.hid (hr1.out.then hBn); replace hB1 := Lib.hid (bthen hB1.out hBn); replace hya := Lib.hid (Ints.below hya.out (Nat.le_refl _) hBn); replace hyp := Lib.hid (Ints.below hyp.out (Nat.le_refl _) hBn); clear hBn)
      | (go_at_call 26; refine (h26.out _ _ hr1.out).mono ?_; rintro e w5 ⟨v5, ps, rfl, o5, hC, hL, hBn⟩; have hpl := hC.1; have hyq := Lib.hid (OwnI.ints o5); obtain ⟨A5, c5, rfl, _, hm5, _, _⟩ := (OwnI.ints o5).open; rw [hpl] at hyq ⊢; unfold maxLen at hm5; clear o5; have h34 := fun W V U Q (hV : Rows2 W V ys) (hU : Ints W U (casts ls)) (hQ : Ints W Q ps) => h34g.out ps W V U Q hV hU hQ ⟨hC.1, hC.2.1⟩; rw [hlc.out ps hC hL] at h34; replace h34 := Lib.hid h34; have hle := Lib.hid (fun ps' h1 h2 => low_eq hC hL (b := ps') h1 h2); clear hC hL; replace hpl := Lib.hid hpl; replace hr1 := Lib.hid (hr1.out.then hBn); replace hB1 := Lib.hid (bthen hB1.out hBn); replace hya := Lib.hid (Ints.below hya.out (Nat.le_refl _) hBn); replace hyp := Lib.hid (Ints.below hyp.out (Nat.le_refl _) hBn); clear hBn)
      | (go_at_call 28; refine (h28.out _ _ hr1.out).mono ?_; rintro e w6 ⟨rfl, rfl⟩)
      | (go_at_call 27; refine (h27.out _ _ hr1.out).mono ?_; rintro e w7 ⟨rfl, hBn⟩; replace hr1 := Lib.hid (hr1.out.then hBn); replace hB1 := Lib.hid (bthen hB1.out hBn); replace hya := Lib.hid (Ints.below hya.out (Nat.le_refl _) hBn); replace hyp := Lib.hid (Ints.below hyp.out (Nat.le_refl _) hBn); replace hyq := Lib.hid (Ints.below hyq.out (Nat.le_refl _) hBn); clear hBn)
      | (go_at_call 30; refine (h30.out _ _ hr1.out).mono ?_; rintro e w8 ⟨v8, rfl, o8, hBn⟩; have hyb := Lib.hid (OwnI.ints o8); obtain ⟨A8, c8, rfl, _, hm8, _, _⟩ := (OwnI.ints o8).open; rw [hlen.out] at hyb ⊢; unfold maxLen at hm8; clear o8; replace hr1 := Lib.hid (hr1.out.then hBn); replace hB1 := Lib.hid (bthen hB1.out hBn); replace hya := Lib.hid (Ints.below hya.out (Nat.le_refl _) hBn); replace hyp := Lib.hid (Ints.below hyp.out (Nat.le_refl _) hBn); replace hyq := Lib.hid (Ints.below hyq.out (Nat.le_refl _) hBn); clear hBn)
      | (go_at_call 29; go_loud (refine (ints_any _ _ _ _ _ hya.out hyb.out).mono ?_; rintro e w9 ⟨rfl, d9, rfl⟩; rw [show decide (casts ls = casts ls) = true by simp]; have hBn := below_drewN (Below.refl w8.heap.size w8) d9; replace hr1 := Lib.hid (hr1.out.then hBn); replace hB1 := Lib.hid (bthen hB1.out hBn); replace hya := Lib.hid (Ints.below hya.out (Nat.le_refl _) hBn); replace hyp := Lib.hid (Ints.below hyp.out (Nat.le_refl _) hBn); replace hyq := Lib.hid (Ints.below hyq.out (Nat.le_refl _) hBn); clear hBn))
      | (go_at_call 31; refine (h31.out _ _ hr1.out).mono ?_; rintro e w10 ⟨v10, rfl, o10, hBn⟩; have hyz := Lib.hid (OwnI.ints o10); obtain ⟨A10, c10, rfl, _, hm10, _, _⟩ := (OwnI.ints o10).open; rw [hplen.out] at hyz ⊢; unfold maxLen at hm10; clear o10; replace hr1 := Lib.hid (hr1.out.then hBn); replace hB1 := Lib.hid (bthen hB1.out hBn); replace hya := Lib.hid (Ints.below hya.out (Nat.le_refl _) hBn); replace hyp := Lib.hid (Ints.below hyp.out (Nat.le_refl _) hBn); replace hyq := Lib.hid (Ints.below hyq.out (Nat.le_refl _) hBn); clear hBn)
      | (go_at_call 16; have hx := hyr; refine (longs_any _ _ _ _ _ hyq.out hyr.out).mono ?_; rintro e w14 ⟨rfl, d14, rfl⟩; rw [show decide (ps = ps) = true by simp]; have hBn := below_drewN (Below.refl w13.heap.size w13) d14; replace hr1 := Lib.hid (hr1.out.then hBn); replace hB1 := Lib.hid (bthen hB1.out hBn); replace hya := Lib.hid (Ints.below hya.out (Nat.le_refl _) hBn); replace hyq := Lib.hid (Ints.below hyq.out (Nat.le_refl _) hBn); clear hBn)
      | (go_at_call 16; refine (longs_any _ _ _ _ _ hyp.out hyz.out).mono ?_; rintro e w11 ⟨rfl, d11, rfl⟩; rw [show decide (pa = pa) = true by simp]; have hBn := below_drewN (Below.refl w10.heap.size w10) d11; replace hr1 := Lib.hid (hr1.out.then hBn); replace hB1 := Lib.hid (bthen hB1.out hBn); replace hya := Lib.hid (Ints.below hya.out (Nat.le_refl _) hBn); replace hyq := Lib.hid (Ints.below hyq.out (Nat.le_refl _) hBn); clear hBn)
      | (go_at_call 32; refine (h32.out _ _ hr1.out).mono ?_; rintro e w12 ⟨rfl, hBn⟩; replace hr1 := Lib.hid (hr1.out.then hBn); replace hB1 := Lib.hid (bthen hB1.out hBn); replace hya := Lib.hid (Ints.below hya.out (Nat.le_refl _) hBn); replace hyq := Lib.hid (Ints.below hyq.out (Nat.le_refl _) hBn); clear hBn)
      | (go_at_call 33; refine (h33.out _ _ hr1.out).mono ?_; rintro e w13 ⟨v13, ps', rfl, o13, hC', hL', hBn⟩; obtain rfl := hle.out ps' hC' hL'; have hyr := Lib.hid (OwnI.ints o13); obtain ⟨A13, c13, rfl, _, hm13, _, _⟩ := (OwnI.ints o13).open; rw [hpl.out] at hyr ⊢; unfold maxLen at hm13; clear o13 hC' hL'; replace hr1 := Lib.hid (hr1.out.then hBn); replace hB1 := Lib.hid (bthen hB1.out hBn); replace hya := Lib.hid (Ints.below hya.out (Nat.le_refl _) hBn); replace hyq := Lib.hid (Ints.below hyq.out (Nat.le_refl _) hBn); clear hBn)
      | (go_at_call 34; refine (h34.out _ _ _ _ hr1.out hya.out hyq.out).mono ?_; rintro e w15 ⟨rfl, d15, hw15⟩; have hBq := below_drewN hB1.out d15; rw [hw15] at hBq; replace hB1 := Lib.hid hBq; clear hw15 hBq)
      | (go_at_call 17; go_loud (refine (haw.out _).mono ?_; rintro e w20 ⟨rfl, hBn⟩; replace hB1 := Lib.hid (bthen hB1.out hBn))))
      go_ret
      exact ⟨rfl, hB1.out⟩
  · go_enter Try.func5, Try.ntmps5
    go_wp2_with (first
      | (go_at_call 21; refine ht0.out.mono ?_; rintro e w0 ⟨v0, k0, ys0, rfl, _, _, hoy, _, _, _, hB0⟩; obtain ⟨A0, n0, c0, rfl, _⟩ := OwnL.shape hoy; replace hB0 := Lib.hid hB0; clear hoy)
      | (go_at_call 22; refine (ht.out _ _ hB0.out).mono ?_; rintro e w1 ⟨v1, k, ys, rfl, hSB, hr1, hB1⟩; have hE := hSB.bids; have hk5 := hSB.k5; obtain ⟨A1, c1, rfl, hlc1, hcm1, _, _⟩ := Rows2.open hr1; unfold maxLen at hcm1; replace hr1 := Lib.hid hr1; replace hB1 := Lib.hid (bthen hB0.out hB1); clear hSB))
    clear ht ht0
    have hn6 := hE.l6
    have h23 := Lib.hid (fun W V (hV : Rows2 W V ys) => Best_ok W V ys k hV hE)
    have hcst : Hid ((alloc ys (p2 k - 1)).map (fun (s : Nat) => (s : Int)) = casts (alloc ys (p2 k - 1))) := rfl
    rw [hcst.out] at h23
    clear hcst
    have h24 := Lib.hid (fun W V (hV : Rows2 W V ys) => Payments_ok W V ys k hV hE)
    have h25 := fun W V (hV : Rows2 W V ys) => IsSingle_ok W V ys k hV hE
    have h28 := Lib.hid (fun W V (hV : Rows2 W V ys) => everyone_any W V ys hV hE.l6)
    have h27 := fun W V (hV : Rows2 W V ys) => worth_any W V ys k (p2 ys.length - 1) hV hE (p2_all_le hE.l6)
    rw [tblAt_all ys 0 (Nat.zero_le _), List.drop_zero] at h27
    replace h27 := Lib.hid h27
    have h30 := Lib.hid (fun W V (hV : Rows2 W V ys) => rbest_any W V ys k hV hE)
    have h31 := Lib.hid (fun W V (hV : Rows2 W V ys) => rpayments_any W V ys k hV hE)
    have h32 := fun W V (hV : Rows2 W V ys) => rissingle_any W V ys k hV hE.m6 (by omega) (fun i hi => (hE.row i hi).1)
    have hlen0 : (casts (alloc ys (p2 k - 1))).length = ys.length := by rw [casts_length, alloc_length]
    have hplen0 : (paysOf k ys).length = ys.length := tab_length ..
    cases hb : ys.all (singleB k)
    · have h26 := Lib.hid (fun W V (hV : Rows2 W V ys) => Prices_none W V ys k hV hE hb)
      rw [hb] at h25 h32
      replace h25 := Lib.hid h25
      replace h32 := Lib.hid h32
      clear hb
      generalize alloc ys (p2 k - 1) = ls at *
      generalize paysOf k ys = pa at *
      generalize wts ys (p2 k - 1) = W0 at *
      have hne : (W0 != W0) = false := by simp
      have hlen := Lib.hid hlen0
      have hplen := Lib.hid hplen0
      clear hlen0 hplen0
      replace hE := Lib.hid hE
      go_wp2_with (first
      | (go_at_call 23; refine (h23.out _ _ hr1.out).mono ?_; rintro e w2 ⟨v2, rfl, o2, hBn⟩; have hya := Lib.hid (OwnI.ints o2); obtain ⟨A2, c2, rfl, _, hm2, _, _⟩ := (OwnI.ints o2).open; rw [hlen.out] at hya ⊢; unfold maxLen at hm2; clear o2; replace hr1 := Lib.hid (hr1.out.then hBn); replace hB1 := Lib.hid (bthen hB1.out hBn); clear hBn)
      | (go_at_call 24; refine (h24.out _ _ hr1.out).mono ?_; rintro e w3 ⟨v3, rfl, o3, hBn⟩; have hyp := Lib.hid (OwnI.ints o3); obtain ⟨A3, c3, rfl, _, hm3, _, _⟩ := (OwnI.ints o3).open; rw [hplen.out] at hyp ⊢; unfold maxLen at hm3; clear o3; replace hr1 := Lib.hid (hr1.out.then hBn); replace hB1 := Lib.hid (bthen hB1.out hBn); replace hya := Lib.hid (Ints.below hya.out (Nat.le_refl _) hBn); clear hBn)
      | (go_at_call 25; refine (h25.out _ _ hr1.out).mono ?_; rintro e w4 ⟨rfl, hBn⟩; replace hr1 := Lib.hid (hr1.out.then hBn); replace hB1 := Lib.hid (bthen hB1.out hBn); replace hya := Lib.hid (Ints.below hya.out (Nat.le_refl _) hBn); replace hyp := Lib.hid (Ints.below hyp.out (Nat.le_refl _) hBn); clear hBn)
      | (go_at_call 26; refine (h26.out _ _ hr1.out).mono ?_; rintro e w5 ⟨rfl, hBn⟩; replace hr1 := Lib.hid (hr1.out.then hBn); replace hB1 := Lib.hid (bthen hB1.out hBn); replace hya := Lib.hid (Ints.below hya.out (Nat.le_refl _) hBn); replace hyp := Lib.hid (Ints.below hyp.out (Nat.le_refl _) hBn); clear hBn)
      | (go_at_call 28; refine (h28.out _ _ hr1.out).mono ?_; rintro e w6 ⟨rfl, rfl⟩)
      | (go_at_call 27; refine (h27.out _ _ hr1.out).mono ?_; rintro e w7 ⟨rfl, hBn⟩; replace hr1 := Lib.hid (hr1.out.then hBn); replace hB1 := Lib.hid (bthen hB1.out hBn); replace hya := Lib.hid (Ints.below hya.out (Nat.le_refl _) hBn); replace hyp := Lib.hid (Ints.below hyp.out (Nat.le_refl _) hBn); clear hBn)
      | (go_at_call 30; refine (h30.out _ _ hr1.out).mono ?_; rintro e w8 ⟨v8, rfl, o8, hBn⟩; have hyb := Lib.hid (OwnI.ints o8); obtain ⟨A8, c8, rfl, _, hm8, _, _⟩ := (OwnI.ints o8).open; rw [hlen.out] at hyb ⊢; unfold maxLen at hm8; clear o8; replace hr1 := Lib.hid (hr1.out.then hBn); replace hB1 := Lib.hid (bthen hB1.out hBn); replace hya := Lib.hid (Ints.below hya.out (Nat.le_refl _) hBn); replace hyp := Lib.hid (Ints.below hyp.out (Nat.le_refl _) hBn); clear hBn)
      | (go_at_call 29; go_loud (refine (ints_any _ _ _ _ _ hya.out hyb.out).mono ?_; rintro e w9 ⟨rfl, d9, rfl⟩; rw [show decide (casts ls = casts ls) = true by simp]; have hBn := below_drewN (Below.refl w8.heap.size w8) d9; replace hr1 := Lib.hid (hr1.out.then hBn); replace hB1 := Lib.hid (bthen hB1.out hBn); replace hya := Lib.hid (Ints.below hya.out (Nat.le_refl _) hBn); replace hyp := Lib.hid (Ints.below hyp.out (Nat.le_refl _) hBn); clear hBn))
      | (go_at_call 31; refine (h31.out _ _ hr1.out).mono ?_; rintro e w10 ⟨v10, rfl, o10, hBn⟩; have hyz := Lib.hid (OwnI.ints o10); obtain ⟨A10, c10, rfl, _, hm10, _, _⟩ := (OwnI.ints o10).open; rw [hplen.out] at hyz ⊢; unfold maxLen at hm10; clear o10; replace hr1 := Lib.hid (hr1.out.then hBn); replace hB1 := Lib.hid (bthen hB1.out hBn); replace hya := Lib.hid (Ints.below hya.out (Nat.le_refl _) hBn); replace hyp := Lib.hid (Ints.below hyp.out (Nat.le_refl _) hBn); clear hBn)
      | (go_at_call 16; refine (longs_any _ _ _ _ _ hyp.out hyz.out).mono ?_; rintro e w11 ⟨rfl, d11, rfl⟩; rw [show decide (pa = pa) = true by simp]; have hBn := below_drewN (Below.refl w10.heap.size w10) d11; replace hr1 := Lib.hid (hr1.out.then hBn); replace hB1 := Lib.hid (bthen hB1.out hBn); replace hya := Lib.hid (Ints.below hya.out (Nat.le_refl _) hBn); clear hBn)
      | (go_at_call 32; refine (h32.out _ _ hr1.out).mono ?_; rintro e w12 ⟨rfl, hBn⟩; replace hr1 := Lib.hid (hr1.out.then hBn); replace hB1 := Lib.hid (bthen hB1.out hBn); replace hya := Lib.hid (Ints.below hya.out (Nat.le_refl _) hBn); clear hBn)
      | (go_at_call 17; go_loud (refine (haw.out _).mono ?_; rintro e w20 ⟨rfl, hBn⟩; replace hB1 := Lib.hid (bthen hB1.out hBn))))
      go_ret
      exact ⟨rfl, hB1.out⟩
    · have hS : SglAll k ys := fun b hb' => sgl_of (List.all_eq_true.1 hb b hb') (hE.all b hb')
      have hclr := addOf_clr hE hS
      have h26 := Lib.hid (fun W V (hV : Rows2 W V ys) => Prices_ok W V ys k hV hE hb _ hclr)
      have h33 := Lib.hid (fun W V (hV : Rows2 W V ys) => rprices_any W V ys k hV hE _ hclr)
      have h34g := Lib.hid (fun ps W V U Q (hV : Rows2 W V ys) (hU : Ints W U (casts (alloc ys (p2 k - 1)))) (hQ : Ints W Q ps) (hp : priced k ps) => rclears_any W V U Q ys (alloc ys (p2 k - 1)) ps k hV hU hQ hE hp (alloc_length _ _) (fun i => natAt_lt' ys i))
      have hlc := Lib.hid (fun ps hC hL => least_clears hE hS (ps := ps) hC hL)
      rw [hb] at h25 h32
      replace h25 := Lib.hid h25
      replace h32 := Lib.hid h32
      clear hb hclr
      replace hS := Lib.hid hS
      generalize alloc ys (p2 k - 1) = ls at *
      generalize paysOf k ys = pa at *
      generalize wts ys (p2 k - 1) = W0 at *
      have hne : (W0 != W0) = false := by simp
      have hlen := Lib.hid hlen0
      have hplen := Lib.hid hplen0
      clear hlen0 hplen0
      replace hE := Lib.hid hE
      go_wp2_with (first
      | (go_at_call 23; refine (h23.out _ _ hr1.out).mono ?_; rintro e w2 ⟨v2, rfl, o2, hBn⟩; have hya := Lib.hid (OwnI.ints o2); obtain ⟨A2, c2, rfl, _, hm2, _, _⟩ := (OwnI.ints o2).open; rw [hlen.out] at hya ⊢; unfold maxLen at hm2; clear o2; replace hr1 := Lib.hid (hr1.out.then hBn); replace hB1 := Lib.hid (bthen hB1.out hBn); clear hBn)
      | (go_at_call 24; refine (h24.out _ _ hr1.out).mono ?_; rintro e w3 ⟨v3, rfl, o3, hBn⟩; have hyp := Lib.hid (OwnI.ints o3); obtain ⟨A3, c3, rfl, _, hm3, _, _⟩ := (OwnI.ints o3).open; rw [hplen.out] at hyp ⊢; unfold maxLen at hm3; clear o3; replace hr1 := Lib.hid (hr1.out.then hBn); replace hB1 := Lib.hid (bthen hB1.out hBn); replace hya := Lib.hid (Ints.below hya.out (Nat.le_refl _) hBn); clear hBn)
      | (go_at_call 25; refine (h25.out _ _ hr1.out).mono ?_; rintro e w4 ⟨rfl, hBn⟩; replace hr1 := Lib.hid (hr1.out.then hBn); replace hB1 := Lib.hid (bthen hB1.out hBn); replace hya := Lib.hid (Ints.below hya.out (Nat.le_refl _) hBn); replace hyp := Lib.hid (Ints.below hyp.out (Nat.le_refl _) hBn); clear hBn)
      | (go_at_call 26; refine (h26.out _ _ hr1.out).mono ?_; rintro e w5 ⟨v5, ps, rfl, o5, hC, hL, hBn⟩; have hpl := hC.1; have hyq := Lib.hid (OwnI.ints o5); obtain ⟨A5, c5, rfl, _, hm5, _, _⟩ := (OwnI.ints o5).open; rw [hpl] at hyq ⊢; unfold maxLen at hm5; clear o5; have h34 := fun W V U Q (hV : Rows2 W V ys) (hU : Ints W U (casts ls)) (hQ : Ints W Q ps) => h34g.out ps W V U Q hV hU hQ ⟨hC.1, hC.2.1⟩; rw [hlc.out ps hC hL] at h34; replace h34 := Lib.hid h34; have hle := Lib.hid (fun ps' h1 h2 => low_eq hC hL (b := ps') h1 h2); clear hC hL; replace hpl := Lib.hid hpl; replace hr1 := Lib.hid (hr1.out.then hBn); replace hB1 := Lib.hid (bthen hB1.out hBn); replace hya := Lib.hid (Ints.below hya.out (Nat.le_refl _) hBn); replace hyp := Lib.hid (Ints.below hyp.out (Nat.le_refl _) hBn); clear hBn)
      | (go_at_call 28; refine (h28.out _ _ hr1.out).mono ?_; rintro e w6 ⟨rfl, rfl⟩)
      | (go_at_call 27; refine (h27.out _ _ hr1.out).mono ?_; rintro e w7 ⟨rfl, hBn⟩; replace hr1 := Lib.hid (hr1.out.then hBn); replace hB1 := Lib.hid (bthen hB1.out hBn); replace hya := Lib.hid (Ints.below hya.out (Nat.le_refl _) hBn); replace hyp := Lib.hid (Ints.below hyp.out (Nat.le_refl _) hBn); replace hyq := Lib.hid (Ints.below hyq.out (Nat.le_refl _) hBn); clear hBn)
      | (go_at_call 30; refine (h30.out _ _ hr1.out).mono ?_; rintro e w8 ⟨v8, rfl, o8, hBn⟩; have hyb := Lib.hid (OwnI.ints o8); obtain ⟨A8, c8, rfl, _, hm8, _, _⟩ := (OwnI.ints o8).open; rw [hlen.out] at hyb ⊢; unfold maxLen at hm8; clear o8; replace hr1 := Lib.hid (hr1.out.then hBn); replace hB1 := Lib.hid (bthen hB1.out hBn); replace hya := Lib.hid (Ints.below hya.out (Nat.le_refl _) hBn); replace hyp := Lib.hid (Ints.below hyp.out (Nat.le_refl _) hBn); replace hyq := Lib.hid (Ints.below hyq.out (Nat.le_refl _) hBn); clear hBn)
      | (go_at_call 29; go_loud (refine (ints_any _ _ _ _ _ hya.out hyb.out).mono ?_; rintro e w9 ⟨rfl, d9, rfl⟩; rw [show decide (casts ls = casts ls) = true by simp]; have hBn := below_drewN (Below.refl w8.heap.size w8) d9; replace hr1 := Lib.hid (hr1.out.then hBn); replace hB1 := Lib.hid (bthen hB1.out hBn); replace hya := Lib.hid (Ints.below hya.out (Nat.le_refl _) hBn); replace hyp := Lib.hid (Ints.below hyp.out (Nat.le_refl _) hBn); replace hyq := Lib.hid (Ints.below hyq.out (Nat.le_refl _) hBn); clear hBn))
      | (go_at_call 31; refine (h31.out _ _ hr1.out).mono ?_; rintro e w10 ⟨v10, rfl, o10, hBn⟩; have hyz := Lib.hid (OwnI.ints o10); obtain ⟨A10, c10, rfl, _, hm10, _, _⟩ := (OwnI.ints o10).open; rw [hplen.out] at hyz ⊢; unfold maxLen at hm10; clear o10; replace hr1 := Lib.hid (hr1.out.then hBn); replace hB1 := Lib.hid (bthen hB1.out hBn); replace hya := Lib.hid (Ints.below hya.out (Nat.le_refl _) hBn); replace hyp := Lib.hid (Ints.below hyp.out (Nat.le_refl _) hBn); replace hyq := Lib.hid (Ints.below hyq.out (Nat.le_refl _) hBn); clear hBn)
      | (go_at_call 16; have hx := hyr; refine (longs_any _ _ _ _ _ hyq.out hyr.out).mono ?_; rintro e w14 ⟨rfl, d14, rfl⟩; rw [show decide (ps = ps) = true by simp]; have hBn := below_drewN (Below.refl w13.heap.size w13) d14; replace hr1 := Lib.hid (hr1.out.then hBn); replace hB1 := Lib.hid (bthen hB1.out hBn); replace hya := Lib.hid (Ints.below hya.out (Nat.le_refl _) hBn); replace hyq := Lib.hid (Ints.below hyq.out (Nat.le_refl _) hBn); clear hBn)
      | (go_at_call 16; refine (longs_any _ _ _ _ _ hyp.out hyz.out).mono ?_; rintro e w11 ⟨rfl, d11, rfl⟩; rw [show decide (pa = pa) = true by simp]; have hBn := below_drewN (Below.refl w10.heap.size w10) d11; replace hr1 := Lib.hid (hr1.out.then hBn); replace hB1 := Lib.hid (bthen hB1.out hBn); replace hya := Lib.hid (Ints.below hya.out (Nat.le_refl _) hBn); replace hyq := Lib.hid (Ints.below hyq.out (Nat.le_refl _) hBn); clear hBn)
      | (go_at_call 32; refine (h32.out _ _ hr1.out).mono ?_; rintro e w12 ⟨rfl, hBn⟩; replace hr1 := Lib.hid (hr1.out.then hBn); replace hB1 := Lib.hid (bthen hB1.out hBn); replace hya := Lib.hid (Ints.below hya.out (Nat.le_refl _) hBn); replace hyq := Lib.hid (Ints.below hyq.out (Nat.le_refl _) hBn); clear hBn)
      | (go_at_call 33; refine (h33.out _ _ hr1.out).mono ?_; rintro e w13 ⟨v13, ps', rfl, o13, hC', hL', hBn⟩; obtain rfl := hle.out ps' hC' hL'; have hyr := Lib.hid (OwnI.ints o13); obtain ⟨A13, c13, rfl, _, hm13, _, _⟩ := (OwnI.ints o13).open; rw [hpl.out] at hyr ⊢; unfold maxLen at hm13; clear o13 hC' hL'; replace hr1 := Lib.hid (hr1.out.then hBn); replace hB1 := Lib.hid (bthen hB1.out hBn); replace hya := Lib.hid (Ints.below hya.out (Nat.le_refl _) hBn); replace hyq := Lib.hid (Ints.below hyq.out (Nat.le_refl _) hBn); clear hBn)
      | (go_at_call 34; refine (h34.out _ _ _ _ hr1.out hya.out hyq.out).mono ?_; rintro e w15 ⟨rfl, d15, hw15⟩; have hBq := below_drewN hB1.out d15; rw [hw15] at hBq; replace hB1 := Lib.hid hBq; clear hw15 hBq)
      | (go_at_call 17; go_loud (refine (haw.out _).mono ?_; rintro e w20 ⟨rfl, hBn⟩; replace hB1 := Lib.hid (bthen hB1.out hBn))))
      go_ret
      exact ⟨rfl, hB1.out⟩
end Go.Proofs.Ytadonoacmpkolaa
