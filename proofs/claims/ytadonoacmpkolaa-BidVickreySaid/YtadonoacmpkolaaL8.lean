/- BidVickrey: the walk. -/
import Derived.Test.YtadonoacmpkolaaM4
import Derived.Test.YtadonoacmpkolaaW22
import Derived.Test.YtadonoacmpkolaaL7
import Derived.Test.YtadonoacmpkolaaW20
import Derived.Test.YtadonoacmpkolaaTwo
namespace Go.Proofs.Ytadonoacmpkolaa
open Go.RowKit

theorem lit2' (w : World) (a b : Int) : Slc (fun k => w.heap.size ≤ k ∧ True) isI (w.alloc (.cells #[.int .i64 a, .int .i64 b] 2)) (.slice (some ⟨w.heap.size, 0, none⟩) 2 2) [a, b] := by
  refine ⟨_, 2, rfl, by simp, by decide, (fun h => by cases h), fun i hi => ?_⟩
  refine ⟨_, 0, .int .i64 ([a, b][i]), rfl, ⟨Nat.le_refl _, trivial⟩, ?_, rfl⟩
  rw [Nat.zero_add, (Blk.new w 2 _).cell i]
  have hi : i < 2 := hi
  rcases i with _ | _ | i <;> first | rfl | omega
theorem one_succ (f : Nat → Int) (k : Nat) : one (tab (k + 1) f) = one (tab k f) ++ [[0, f k]] := by
  rw [tab_succ]; simp [one]
theorem set_self {xs : List (List Int)} {i : Nat} (hi : i < xs.length) : xs.set i (rowAt xs i) = xs := by
  rw [rowAt_eq hi]; exact List.set_getElem_self hi

/-- what the true offer gains -/
theorem gain_true {m : Nat} {xs : List (List Int)} (i : Nat) (hi : i < xs.length) : gainF m xs i (rowAt xs i) = at0 (ownsOf m xs) i - payAt m xs i := by
  unfold gainF
  rw [set_self hi, at0_owns m xs i hi]
theorem gain_any {m : Nat} {xs : List (List Int)} (h : Bids m xs) (i : Nat) (hi : i < xs.length) {of : List Int} (ho : isBidB m of = true) : gainF m xs i of ≤ gainF m xs i (rowAt xs i) := by
  rw [gain_true i hi, pay_eq h i]
  exact gain_le h i hi (h.set i ho)

set_option maxRecDepth 100000 in
set_option maxHeartbeats 1500000 in
theorem BidVickrey_walk (w : World) (m : Int) (v : Value) (xs : List (List Int)) (u : Value) (of : List Int) (_ : -9223372036854775808 ≤ m ∧ m ≤ 9223372036854775807) (h : Rows2 w v xs) (hu : Ints w u of) :
    Calls Try.prog 8 #[.int .i64 m, v, u] w fun e w' => e = .returned (.bool true) ∧ Below w.heap.size w w' := by
  have ht := Lib.hid (tame_any w v xs m h)
  clear h
  have haw := Lib.hid awake_any
  have hof := Lib.hid (fun W (hB : Below w.heap.size w W) (k : Nat) h1 h6 => offer_any W u of k (Ints.below hu (Nat.le_refl _) hB) h1 h6)
  clear hu
  go_enter Try.func8, Try.ntmps8
  go_wp2_with (first
    | (go_at_call 21; refine ht.out.mono ?_; rintro e w1 ⟨v1, k, ys, rfl, hk1, hk4, hoy, hy1, hy4, hT, hB1⟩; have hE := hT.bids hk1 (by omega) hy1 (by omega); have hr1 := OwnRows.rows hoy; obtain ⟨A1, c1, rfl, hlc1, hcm1, _, hatr⟩ := Rows2.open hr1; unfold maxLen at hcm1; replace hE := Lib.hid hE; replace hr1 := Lib.hid hr1; replace hB1 := Lib.hid hB1; replace hatr := Lib.hid hatr; replace hT := Lib.hid hT; clear hoy)
    | (go_at_call 23; refine (Best_ok _ _ ys k hr1.out hE.out).mono ?_; rintro e w2 ⟨v2, rfl, hoa, hB2⟩; have hya := Lib.hid (OwnI.ints hoa); replace hr1 := Lib.hid (hr1.out.then hB2); replace hB2 := Lib.hid hB2; obtain ⟨A2, c2, rfl, hlc2, hcm2, _, _⟩ := (OwnI.ints hoa).open; rw [List.length_map, alloc_length] at hlc2 ⊢; rw [List.length_map, alloc_length] at hya; unfold maxLen at hcm2; clear hoa)
    | (go_at_call 24; refine (Payments_ok _ _ ys k hr1.out hE.out).mono ?_; rintro e w3 ⟨v3, rfl, hop, hB3⟩; have hyp := Lib.hid (OwnI.ints hop); replace hya := Lib.hid (Ints.below hya.out (Nat.le_refl _) hB3); replace hr1 := Lib.hid (hr1.out.then hB3); replace hB2 := Lib.hid (bthen hB2.out hB3); obtain ⟨A3, c3, rfl, hlc3, hcm3, _, _⟩ := (OwnI.ints hop).open; rw [show (paysOf k ys).length = ys.length from tab_length ..] at hlc3 hyp ⊢; unfold maxLen at hcm3; clear hop)
    | (go_at_call 41; refine (IsAllocation_ok _ _ _ ys _ k hr1.out hya.out hE.out).mono ?_; rintro e w4 ⟨rfl, hB4⟩; rw [show allocB k ys.length ((alloc ys (p2 k - 1)).map fun (s : Nat) => (s : Int)) = true from allocB_alloc hE.out.pos]; replace hya := Lib.hid (Ints.below hya.out (Nat.le_refl _) hB4); replace hyp := Lib.hid (Ints.below hyp.out (Nat.le_refl _) hB4); replace hr1 := Lib.hid (hr1.out.then hB4); replace hB2 := Lib.hid (bthen hB2.out hB4))
    | (go_at_call 38; refine (hof.out _ (bthen hB1.out hB2.out) k hk1 (by omega)).mono ?_; rintro e w6 ⟨v6, o6, rfl, ho6, hof6, hB6⟩; obtain ⟨A6, n6, c6, rfl, _⟩ := OwnL.shape ho6; replace ho6 := Lib.hid (OwnI.ints ho6); replace hya := Lib.hid (Ints.below hya.out (Nat.le_refl _) hB6); replace hyp := Lib.hid (Ints.below hyp.out (Nat.le_refl _) hB6); replace hr1 := Lib.hid (hr1.out.then hB6); replace hB6 := Lib.hid (bthen hB1.out (bthen hB2.out hB6))))
  clear ht hof hB1 hB2 hatr
  have hcells : Hid (∀ i, i < ys.length → ∃ b1 o1 b4 o4 cap1 b5 o5 b7 o7, A1 = some ⟨b1, o1, none⟩ ∧ A2 = some ⟨b5, o5, none⟩ ∧ A3 = some ⟨b7, o7, none⟩ ∧ cap1 ≤ 2 ^ 63 - 1 ∧ p2 k ≤ cap1 ∧ w6.cell? ⟨b1, o1 + i, none⟩ = some (.slice (some ⟨b4, o4, none⟩) (p2 k) cap1) ∧
      w6.cell? ⟨b4, o4 + natAt (alloc ys (p2 k - 1)) i, none⟩ = some (.int .i64 (at0 (ownsOf k ys) i)) ∧ w6.cell? ⟨b5, o5 + i, none⟩ = some (.int .i64 ((natAt (alloc ys (p2 k - 1)) i : Nat) : Int)) ∧ natAt (alloc ys (p2 k - 1)) i < p2 k ∧
      w6.cell? ⟨b7, o7 + i, none⟩ = some (.int .i64 (payAt k ys i)) ∧ w6.cell? ⟨b4, o4 + 1, none⟩ = some (.int .i64 (at0 (rowAt ys i) 1)) ∧ Ints w6 (.slice (some ⟨b4, o4, none⟩) (p2 k) cap1) (rowAt ys i)) := fun i hi => by
    obtain ⟨A1', c1', e1, _, _, _, hatr⟩ := hr1.out.open
    cases e1
    obtain ⟨b1, o1, A9, cap2, e1, hc1, hi1⟩ := hatr i hi
    have hrj := (hE.out.row i hi).1
    have hi1' := hi1
    obtain ⟨A4, cap4, e4, hl4, hcap4, _, hat4⟩ := hi1.open
    cases e4
    have hN2 : 2 ≤ p2 k := by have := p2_le hk1; simpa [p2] using this
    obtain ⟨b4, o4, rfl, hc4⟩ := hat4 (natAt (alloc ys (p2 k - 1)) i) (by rw [hrj]; exact natAt_lt' ys i)
    obtain ⟨b4', o4', e4', hc4'⟩ := hat4 1 (by omega)
    cases e4'
    have hya' : Ints w6 (.slice A2 ys.length c2) (casts (alloc ys (p2 k - 1))) := hya.out
    obtain ⟨A5', c5', e5', _, _, _, hata⟩ := hya'.open
    rw [casts_length, alloc_length] at e5' hata
    cases e5'
    obtain ⟨b5, o5, e5, hc5⟩ := hata i hi
    rw [at0_casts] at hc5
    obtain ⟨A7', c7', e7', _, _, _, hatp⟩ := hyp.out.open
    have hplen : (paysOf k ys).length = ys.length := tab_length ..
    rw [hplen] at e7' hatp
    cases e7'
    obtain ⟨b7, o7, e7, hc7⟩ := hatp i hi
    rw [show at0 (paysOf k ys) i = payAt k ys i by unfold paysOf; rw [at0_tab, if_pos hi]] at hc7
    rw [← at0_owns k ys i hi] at hc4
    rw [hrj] at hc1 hl4 hi1'
    exact ⟨b1, o1, b4, o4, cap2, b5, o5, b7, o7, e1, e5, e7, hcap4, hl4, hc1, hc4, hc5, natAt_lt' ys i, hc7, hc4', hi1'⟩
  have hG1 : Hid (∀ i, i < ys.length → ∀ W, Below w6.heap.size w6 W → Calls Try.prog 35 #[.int .i64 (k : Int), .slice A1 ys.length c1, .int .i64 (i : Int), .slice A6 n6 c6] W fun e w' => e = .returned (.tuple #[.int .i64 (gainF k ys i o6), .int .i64 0]) ∧ Below W.heap.size W w') :=
    fun i hi W hW => Gain_ok W _ _ ys o6 k i (Rows2.below hr1.out (Nat.le_refl _) hW) (Ints.below ho6.out (Nat.le_refl _) hW) hE.out hi hof6.1
  have hG2 : Hid (∀ i, i < ys.length → ∀ W V, Below w6.heap.size w6 W → Ints w6 V (rowAt ys i) → Calls Try.prog 35 #[.int .i64 (k : Int), .slice A1 ys.length c1, .int .i64 (i : Int), V] W fun e w' => e = .returned (.tuple #[.int .i64 (at0 (ownsOf k ys) i - payAt k ys i), .int .i64 0]) ∧ Below W.heap.size W w') :=
    fun i hi W V hW hV => by
      have := Gain_ok W _ V ys (rowAt ys i) k i (Rows2.below hr1.out (Nat.le_refl _) hW) (Ints.below hV (Nat.le_refl _) hW) hE.out hi (by rw [rowAt_eq hi]; exact hE.out.all _ (List.getElem_mem hi))
      rw [gain_true i hi] at this
      exact this
  have hfacts : Hid (∀ i, i < ys.length → 0 ≤ payAt k ys i ∧ payAt k ys i ≤ at0 (ownsOf k ys) i ∧ at0 (ownsOf k ys) i ≤ 1000000 ∧ gainF k ys i o6 ≤ at0 (ownsOf k ys) i - payAt k ys i) := fun i hi =>
    ⟨pay_nonneg hE.out i hi, pay_le hE.out i, (ownsOf_bd hE.out i).2, by have := gain_any hE.out i hi hof6.1; rwa [gain_true i hi] at this⟩
  have hsum := Lib.hid (owns_sum hE.out)
  have hsb := Lib.hid (sumUpto_bd (ownsOf k ys) 1000000 (fun i => by have := ownsOf_bd hE.out i; omega))
  have hsu : Hid (∀ j, sumUpto (ownsOf k ys) (j + 1) = sumUpto (ownsOf k ys) j + at0 (ownsOf k ys) j) := fun _ => rfl
  clear hya hyp
  generalize ownsOf k ys = os at *
  generalize wts ys (p2 k - 1) = W0 at *
  go_loopw [13, 15] (fun s i wr => ∃ j : Nat, j ≤ ys.length ∧ i = .int .i64 (j : Int) ∧ s = .int .i64 (sumUpto os j) ∧ Hid (Below w6.heap.size w6 wr)) (fun _ i _ => ys.length - (intOf i).toNat)
  case atStart => exact ⟨0, Nat.zero_le _, rfl, rfl, Below.refl _ _⟩
  case round =>
    obtain ⟨j, hj, rfl, rfl, hB⟩ := hrel
    by_cases hjl : j < ys.length
    · obtain ⟨b1, o1, b4, o4, cap1, b5, o5, b7, o7, rfl, rfl, rfl, hq1, hq2, hc1, hc4, hc5, hnj, hc7, _, hrow⟩ := hcells.out j hjl
      obtain ⟨f1, f2, f3, f4⟩ := hfacts.out j hjl
      have g1 := Lib.hid (hG1.out j hjl)
      have g2 := Lib.hid (fun W hW => hG2.out j hjl W _ hW hrow)
      have hs1 := hsb.out j
      have hs2 := hsu.out j
      have hc1b := Lib.hid hc1
      replace hc1 := (hB.out.cell (p := ⟨b1, o1 + j, none⟩) (lt_of_cell hc1)).trans hc1
      replace hc4 := (hB.out.cell (p := ⟨b4, o4 + natAt (alloc ys (p2 k - 1)) j, none⟩) (lt_of_cell hc4)).trans hc4
      replace hc5 := (hB.out.cell (p := ⟨b5, o5 + j, none⟩) (lt_of_cell hc5)).trans hc5
      replace hc7 := Lib.hid hc7
      clear hrow
      generalize gainF k ys j o6 = G at *
      generalize payAt k ys j = p at *
      generalize natAt (alloc ys (p2 k - 1)) j = nj at *
      generalize at0 os j = ow at *
      generalize sumUpto os j = sj at *
      have hwr : IntKind.i64.wrap (sj + ow) = sj + ow := IntWalk.i64_in _ (by omega)
      have hwr2 : IntKind.i64.wrap (ow - p) = ow - p := IntWalk.i64_in _ (by omega)
      have h1 : ¬ p < 0 := by omega
      have h2 : ¬ ow < p := by omega
      have h3 : ¬ ow - p < G := by omega
      have hne : ((ow - p) != (ow - p)) = false := by simp
      clear f1 f2 f3 f4 hs1
      replace hs2 := Lib.hid hs2
      go_wp2_with fail
      go_quiet (fail)
      go_wp2_with (first
        | (go_at_call 35; refine (g2.out _ hB7.out).mono ?_; rintro e w8 ⟨rfl, hB8⟩; replace hB8 := Lib.hid (bthen hB7.out hB8); have hd7 := (hB8.out.cell (p := ⟨b7, o7 + j, none⟩) (lt_of_cell hc7.out)).trans hc7.out)
        | (go_at_call 35; refine (g1.out _ (below_drewN hB.out _)).mono ?_; rintro e w7 ⟨rfl, hB7⟩; replace hB7 := Lib.hid (bthen (below_drewN hB.out _) hB7); have hd1 := (hB7.out.cell (p := ⟨b1, o1 + j, none⟩) (lt_of_cell hc1b.out)).trans hc1b.out))
      go_roundw
      case rel => exact ⟨j + 1, by omega, by go_num, by rw [hs2.out], hB8.out⟩
      case measure => simp [intOf]; try omega
    · obtain rfl : j = ys.length := by omega
      rw [hsum.out]
      have hne : (W0 != W0) = false := by simp
      clear hG1 hG2 hfacts hsb hsu
      go_wp2
      go_loopw [21, 22, 23] (fun a b i wr => ∃ j : Nat, j ≤ ys.length ∧ i = .int .i64 (j : Int) ∧ Hid (Two w6.heap.size wr a b (tab j fun i => at0 (rowAt ys i) 1) (one (tab j fun i => at0 (rowAt ys i) 1))) ∧ Hid (Below w6.heap.size w6 wr)) (fun _ _ i _ => ys.length - (intOf i).toNat)
      case atStart => exact ⟨0, Nat.zero_le _, rfl, two_nil _ _, hB.out⟩
      case round =>
        clear hB
        obtain ⟨j, hj, rfl, htw, hB⟩ := hrel
        by_cases hjl : j < ys.length
        · obtain ⟨b1, o1, b4, o4, cap1, b5, o5, b7, o7, rfl, rfl, rfl, hq1, hq2, hc1, _, _, hnj, _, hc8, _⟩ := hcells.out j hjl
          have hN2 : 1 < p2 k := by have := p2_le hk1; have e : p2 1 = 2 := by decide
                                    omega
          have hc1b := Lib.hid hc1
          have hc8b := Lib.hid hc8
          replace hc1 := (hB.out.cell (p := ⟨b1, o1 + j, none⟩) (lt_of_cell hc1)).trans hc1
          replace hc8 := (hB.out.cell (p := ⟨b4, o4 + 1, none⟩) (lt_of_cell hc8)).trans hc8
          have hos := one_succ (fun i => at0 (rowAt ys i) 1) j
          replace hos := Lib.hid hos
          obtain ⟨x1, hx1⟩ : ∃ x1, x1 = at0 (rowAt ys j) 1 := ⟨_, rfl⟩
          rw [← hx1] at hc8 hc8b hos
          replace hx1 := Lib.hid hx1
          obtain ⟨Aa, na, ca, rfl, hna⟩ := OwnL.shape htw.out.1
          obtain ⟨Ab, nb, cb, rfl, hnb⟩ := OwnL.shape htw.out.2.1
          have hl1 : (tab j fun i => at0 (rowAt ys i) 1).length + 1 ≤ 1000000 := by rw [tab_length]; omega
          have hl2 : (one (tab j fun i => at0 (rowAt ys i) 1)).length + 1 ≤ 1000000 := by rw [one_length, tab_length]; omega
          have hts : Hid (tab (j + 1) (fun i => at0 (rowAt ys i) 1) = tab j (fun i => at0 (rowAt ys i) 1) ++ [x1]) := by show _ = _; rw [tab_succ, hx1.out]
          go_wp2_with (first
            | (at_builtin; have hx := h4; (refine wpList_two_row (W := w9.alloc (.cells #[.int .i64 0, .int .i64 x1] 2)) rfl (.tmp 173) (.tmp 181) 22 rfl w6.heap.size Try.underlying22 info27 _ _ _ _ rfl rfl (h3.out.below (Nat.le_refl _) (below_alloc w9 _)) rfl (by simp) (Slc.keep (lit2' w9 0 x1) (fun b hb _ => ⟨⟨OwnL.apart (q := fun _ => True) h3.out.2.1 b hb, OwnL.apart (q := fun _ => True) h3.out.1 b hb⟩, rfl⟩) fun _ _ _ h => h) hl2 (Nat.le_trans h4.out.size (below_alloc w9 _).size) ?_); intro v' w' h5 h6; replace h5 := Lib.hid h5; replace h6 := Lib.hid ((h4.out.trans ((below_alloc w9 (.cells #[.int .i64 0, .int .i64 x1] 2)).mono h4.out.size)).trans h6))
            | (at_builtin; refine wpList_two_int rfl (.tmp 164) (.tmp 171) 27 rfl w6.heap.size Try.underlying27 info2 _ _ _ _ rfl rfl htw.out rfl rfl hl1 hB.out.size ?_; intro v9 w9 h3 h4; obtain ⟨A9, n9, c9, rfl, hn9⟩ := OwnL.shape h3.1; replace h3 := Lib.hid h3; replace h4 := Lib.hid (hB.out.trans h4); have hd1 := (h4.out.cell (p := ⟨b1, o1 + j, none⟩) (lt_of_cell hc1b.out)).trans hc1b.out; have hd8 := (h4.out.cell (p := ⟨b4, o4 + 1, none⟩) (lt_of_cell hc8b.out)).trans hc8b.out))
          go_roundw
          case rel => exact ⟨j + 1, by omega, by go_num, by rw [hos.out, hts.out]; exact h5.out, h6.out⟩
          case measure => simp [intOf]; try omega
        · obtain rfl : j = ys.length := by omega
          obtain ⟨fs, hfs⟩ : ∃ fs, fs = tab ys.length fun i => at0 (rowAt ys i) 1 := ⟨_, rfl⟩
          rw [← hfs] at htw
          have hfl : fs.length = ys.length := by rw [hfs, tab_length]
          have hfb : ∀ i, 0 ≤ at0 fs i ∧ at0 fs i ≤ 1000000 := fun i => by
            rw [hfs, at0_tab]
            split
            · rename_i hi; exact (hE.out.row i hi).2 1
            · exact ⟨by decide, by decide⟩
          have h1f : 1 ≤ fs.length := by omega
          have h6f : fs.length ≤ 6 := by omega
          have hEf := Lib.hid (one_bids h1f h6f hfb)
          have hnf : nn fs := fun i => (hfb i).1
          have hpay := Lib.hid (one_pay h1f h6f hfb)
          have hsecT := Lib.hid (fun i hi ht => sec_top h1f hnf i hi ht)
          have hns : ¬ secBad fs := by
            unfold secBad
            obtain ⟨i, hi, e1⟩ := min_mem fs h1f fs.length (Nat.le_refl _)
            obtain ⟨i2, hi2, e2⟩ := max_mem fs h1f fs.length (Nat.le_refl _)
            have a := hfb i
            have b := hfb i2
            omega
          have hsf := secFirst_best fs h1f
          have hwt : wts (one fs) (p2 1 - 1) = top fs := by rw [show p2 1 - 1 = 1 by decide]; exact one_wts hnf
          clear hfs hfb
          have h23 := fun W V (hV : Rows2 W V (one fs)) => Best_ok W V (one fs) 1 hV hEf.out
          rw [hwt] at h23
          replace h23 := Lib.hid h23
          have h24 := Lib.hid (fun W V (hV : Rows2 W V (one fs)) => Payments_ok W V (one fs) 1 hV hEf.out)
          have h19 := fun W V (hV : Ints W V fs) => Second_ok W V fs hV hns
          rw [hsf] at h19
          replace h19 := Lib.hid h19
          have hal : ((alloc (one fs) (p2 1 - 1)).map fun (s : Nat) => (s : Int)).length = ys.length := by rw [List.length_map, alloc_length, one_length, hfl]
          have hac : Hid (∀ i, at0 ((alloc (one fs) (p2 1 - 1)).map fun (s : Nat) => (s : Int)) i = ((natAt (alloc (one fs) (p2 1 - 1)) i : Nat) : Int)) := at0_casts (alloc (one fs) (p2 1 - 1))
          have hpl : (paysOf 1 (one fs)).length = ys.length := by unfold paysOf; rw [tab_length, one_length, hfl]
          have hpa : Hid (∀ i, i < ys.length → at0 (paysOf 1 (one fs)) i = payAt 1 (one fs) i) := fun i hi => by unfold paysOf; rw [at0_tab, one_length, hfl, if_pos hi]
          generalize (alloc (one fs) (p2 1 - 1)).map (fun (s : Nat) => (s : Int)) = ca at *
          generalize natAt (alloc (one fs) (p2 1 - 1)) = nat1 at *
          generalize paysOf 1 (one fs) = pa at *
          generalize payAt 1 (one fs) = pf at *
          generalize secUpto fs ((bestUpto fs fs.length : Nat) : Int) fs.length = sec at *
          have hF := htw.out.ints
          have hR := Lib.hid htw.out.rows
          obtain ⟨Ab, nb, cb, rfl, _⟩ := OwnL.shape htw.out.2.1
          obtain ⟨Af, cf, rfl, _, hcf, _, hatf⟩ := hF.open
          rw [hfl] at hF hatf ⊢
          unfold maxLen at hcf
          replace hF := Lib.hid hF
          have hfl' := Lib.hid hfl
          have hpl' := Lib.hid hpl
          have hal' := Lib.hid hal
          replace hatf := Lib.hid hatf
          clear hcells htw hfl hpl hal hwt hsf hns h1f h6f
          go_wp2_with (first
            | (go_at_call 23; refine (h23.out _ _ hR.out).mono ?_; rintro e w10 ⟨v10, rfl, ho10, hB10⟩; obtain ⟨A10, c10, rfl, _, hc10, _, hat10⟩ := (OwnI.ints ho10).open; rw [hal'.out] at hat10 ⊢; unfold maxLen at hc10; replace hat10 := Lib.hid hat10; replace hR := Lib.hid (hR.out.then hB10); replace hF := Lib.hid (Ints.below hF.out (Nat.le_refl _) hB10); replace hB10 := Lib.hid hB10; clear ho10)
            | (go_at_call 24; refine (h24.out _ _ hR.out).mono ?_; rintro e w11 ⟨v11, rfl, ho11, hB11⟩; obtain ⟨A11, c11, rfl, _, hc11, _, hat11⟩ := (OwnI.ints ho11).open; rw [hpl'.out] at hat11 ⊢; unfold maxLen at hc11; replace hat11 := Lib.hid hat11; replace hF := Lib.hid (Ints.below hF.out (Nat.le_refl _) hB11); replace hB11 := Lib.hid hB11; clear ho11)
            | (go_at_call 19; refine (h19.out _ _ hF.out).mono ?_; rintro e w12 ⟨rfl, rfl⟩))
          have hBt : Hid (Below wr.heap.size wr w11) := bthen hB10.out hB11.out
          have hcc : Hid (∀ i, i < ys.length → ∃ b1 o1 b2 o2 b3 o3, A10 = some ⟨b1, o1, none⟩ ∧ A11 = some ⟨b2, o2, none⟩ ∧ Af = some ⟨b3, o3, none⟩ ∧ w11.cell? ⟨b1, o1 + i, none⟩ = some (.int .i64 ((nat1 i : Nat) : Int)) ∧ w11.cell? ⟨b2, o2 + i, none⟩ = some (.int .i64 (pf i)) ∧ w11.cell? ⟨b3, o3 + i, none⟩ = some (.int .i64 (at0 fs i))) := fun i hi => by
            obtain ⟨b1, o1, e1, c1⟩ := hat10.out i hi
            obtain ⟨b2, o2, e2, c2⟩ := hat11.out i hi
            obtain ⟨b3, o3, e3, c3⟩ := hatf.out i hi
            rw [hac.out] at c1
            rw [hpa.out i hi] at c2
            exact ⟨b1, o1, b2, o2, b3, o3, e1, e2, e3, (hB11.out.cell (p := ⟨b1, o1 + i, none⟩) (lt_of_cell c1)).trans c1, c2, (hBt.out.cell (p := ⟨b3, o3 + i, none⟩) (lt_of_cell c3)).trans c3⟩
          have hBfin : Hid (Below w.heap.size w w11) := bthen hB6.out (bthen hB.out hBt.out)
          clear hat10 hat11 hatf hBt hB10 hB11 hB hB6 h23 h24 h19 hF
          go_loop [31] (fun i => ∃ j : Nat, j ≤ ys.length ∧ i = .int .i64 (j : Int)) (fun i => ys.length - (intOf i).toNat)
          case atStart => exact ⟨0, Nat.zero_le _, rfl⟩
          case round =>
            obtain ⟨j, hj, rfl⟩ := hrel
            by_cases hjl : j < ys.length
            · obtain ⟨b1, o1, b2, o2, b3, o3, rfl, rfl, rfl, d1, d2, d3⟩ := hcc.out j hjl
              rcases hpay.out j (by rw [hfl'.out]; exact hjl) with ⟨e1, e2, e3⟩ | ⟨e1, e2⟩
              · have hst := hsecT.out j (by rw [hfl'.out]; exact hjl) e2
                replace d1 : w11.cell? ⟨b1, o1 + j, none⟩ = some (.int .i64 1) := by rw [d1, e1]; rfl
                rw [e3, ← hst] at d2
                rw [e2] at d3
                have n1 : (sec != sec) = false := by simp
                have n2 : (top fs != top fs) = false := by simp
                clear e1 e2 e3 hst
                generalize top fs = T at *
                go_wp2
                go_round
                case rel => exact ⟨j + 1, by omega, by go_num⟩
                case measure => simp [intOf]; try omega
              · replace d1 : w11.cell? ⟨b1, o1 + j, none⟩ = some (.int .i64 0) := by rw [d1, e1]; rfl
                rw [e2] at d2
                clear e1 e2
                go_wp2
                go_round
                case rel => exact ⟨j + 1, by omega, by go_num⟩
                case measure => simp [intOf]; try omega
            · obtain rfl : j = ys.length := by omega
              go_wp2_with (go_at_call 17; refine (haw.out _).mono ?_; rintro e w20 ⟨rfl, hB20⟩; replace hB20 := Lib.hid hB20)
              go_ret
              exact ⟨rfl, bthen hBfin.out hB20.out⟩
end Go.Proofs.Ytadonoacmpkolaa
