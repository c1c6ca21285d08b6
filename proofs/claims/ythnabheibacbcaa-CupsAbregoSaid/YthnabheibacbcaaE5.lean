/- CupsCounts: the walk. No condition. -/
import Derived.Test.YthnabheibacbcaaC14
import Derived.Test.YthnabheibacbcaaC15
import Derived.Test.YthnabheibacbcaaF24
import Derived.Test.YthnabheibacbcaaF19
import Derived.Test.YthnabheibacbcaaGB
import Derived.Test.YthnabheibacbcaaGC
namespace Go.Proofs.Ythnabheibacbcaa
open Go.RowKit Go.Shelf

def layR (y : List Pt) : List (List Int) := (laysL (tur y) (ordR y y.length).length (ordR y y.length)).map nats
def edgR (y : List Pt) : List Int := if y.length < 2 then [] else tab ((y.length - 2) / 2 + 1) (edgeC y (rpA y.length y.length))
theorem ints_nil (w : World) : Ints w (.slice none 0 0) [] := ⟨none, 0, rfl, Nat.le_refl _, Nat.zero_le _, fun _ => rfl, fun i hi => absurd hi (by simp)⟩

theorem Layers_row (w : World) (v : Value) (y : List Pt) (h : Pts w v y) (hc : checkB y = true) (hg : genB y = true) :
    Calls Try.prog 24 #[v] w fun e w' => ∃ A n c, e = .returned (.tuple #[.slice A n c, .int .i64 0]) ∧ Rows2 w' (.slice A n c) (layR y) ∧ Below w.heap.size w w' := by
  refine (Layers_ok w v y h hc hg).mono ?_
  rintro e w2 ⟨v', os, rfl, ho, hord, hb⟩
  obtain rfl := Ordd.unique hord (ordR_ord (dist_of hc))
  obtain ⟨A, n, c, rfl, _⟩ := OwnL.shape ho
  exact ⟨A, n, c, rfl, ho.rows, hb⟩
theorem LayersR_row (w : World) (v : Value) (y : List Pt) (h : Pts w v y) (hc : checkB y = true) (hg : genB y = true) :
    Calls Try.prog 28 #[v] w fun e w' => ∃ A n c, e = .returned (.slice A n c) ∧ Rows2 w' (.slice A n c) (layR y) ∧ Below w.heap.size w w' := by
  refine (LayersR_ok w v y _ h (okL_of hc) (gen_of hc hg) (len_of hc).2 (ordR_ord (dist_of hc))).mono ?_
  rintro e w2 ⟨v', rfl, ho, hb⟩
  obtain ⟨A, n, c, rfl, _⟩ := OwnL.shape ho
  exact ⟨A, n, c, rfl, ho.rows, hb⟩
theorem Edges_row (w : World) (v : Value) (y : List Pt) (h : Pts w v y) (hc : checkB y = true) (hg : genB y = true) :
    Calls Try.prog 25 #[v] w fun e w' => ∃ A n c, e = .returned (.tuple #[.slice A n c, .int .i64 0]) ∧ Ints w' (.slice A n c) (edgR y) ∧ Below w.heap.size w w' := by
  by_cases h2 : y.length < 2
  · refine (Edges_one w v y h hc hg h2).mono ?_
    rintro e w2 ⟨rfl, hb⟩
    exact ⟨none, 0, 0, rfl, by unfold edgR; rw [if_pos h2]; exact ints_nil _, hb⟩
  · refine (Edges_ok w v y h hc hg (by omega)).mono ?_
    rintro e w2 ⟨v', os, rfl, hord, ho, hb⟩
    have he : tab ((y.length - 2) / 2 + 1) (edgeC y (linksL os)) = edgR y := by
      unfold edgR; rw [if_neg h2]
      exact tab_congr fun i _ => edges_eq (gen_of hc hg) hord.1 i
    rw [he] at ho
    obtain ⟨A, n, c, rfl, _⟩ := OwnL.shape ho
    exact ⟨A, n, c, rfl, OwnI.ints ho, hb⟩
theorem EdgesR_row (w : World) (v : Value) (y : List Pt) (h : Pts w v y) (hc : checkB y = true) (hg : genB y = true) :
    Calls Try.prog 29 #[v] w fun e w' => ∃ A n c, e = .returned (.slice A n c) ∧ Ints w' (.slice A n c) (edgR y) ∧ Below w.heap.size w w' := by
  by_cases h2 : y.length < 2
  · refine (EdgesR_one w v y h h2).mono ?_
    rintro e w2 ⟨rfl, hb⟩
    exact ⟨none, 0, 0, rfl, by unfold edgR; rw [if_pos h2]; exact ints_nil _, hb⟩
  · refine (EdgesR_ok w v y h (okL_of hc) (by omega) (len_of hc).2).mono ?_
    rintro e w2 ⟨v', rfl, ho, hb⟩
    have he : tab ((y.length - 2) / 2 + 1) (edgeC y (rpA y.length y.length)) = edgR y := by unfold edgR; rw [if_neg h2]
    rw [he] at ho
    obtain ⟨A, n, c, rfl, _⟩ := OwnL.shape ho
    exact ⟨A, n, c, rfl, OwnI.ints ho, hb⟩
theorem Crossings_row (w : World) (v : Value) (y : List Pt) (h : Pts w v y) (hc : checkB y = true) (hg : genB y = true) :
    Calls Try.prog 26 #[v] w fun e w' => e = .returned (.tuple #[.int .i64 ((cA y y.length y.length : Nat) : Int), .int .i64 0]) ∧ Below w.heap.size w w' := by
  refine (Crossings_ok w v y h hc hg).mono ?_
  rintro e w2 ⟨os, rfl, hord, hb⟩
  rw [crossings_eq (gen_of hc hg) hord.1]
  exact ⟨rfl, hb⟩
theorem Squares_row (w : World) (v : Value) (y : List Pt) (h : Pts w v y) (hc : checkB y = true) (hg : genB y = true) :
    Calls Try.prog 27 #[v] w fun e w' => e = .returned (.tuple #[.int .i64 ((sA4 y (ordR y y.length) y.length y.length : Nat) : Int), .int .i64 0]) ∧ Below w.heap.size w w' := by
  refine (Squares_ok w v y h hc hg).mono ?_
  rintro e w2 ⟨os, rfl, hord, hb⟩
  obtain rfl := Ordd.unique hord (ordR_ord (dist_of hc))
  have := squares_eq y hord.1
  exact ⟨by rw [← this]; rfl, hb⟩

set_option maxRecDepth 100000 in
set_option maxHeartbeats 4000000 in
theorem CupsCounts_walk (w : World) (v : Value) (l : List Pt) (x : Int) (h : Pts w v l) : Calls Try.prog 5 #[v, .int .i64 x] w fun e w' => e = .returned (.bool true) ∧ Below w.heap.size w w' := by
  obtain ⟨W, hW, hW1, hW2⟩ := wide_nat x
  have htm : Hid (Calls Try.prog 17 #[v, .int .i64 14, .int .i64 (W : Int)] w fun e w' => ∃ v' y, e = .returned v' ∧ OwnP w.heap.size w' v' y ∧ checkB y = true ∧ genB y = true ∧ y.length ≤ 14 ∧ Below w.heap.size w w') := tame_any w v l h 14 W (by omega) (by omega) hW1 (by omega)
  clear h
  go_enter Try.func5, Try.ntmps5
  go_upto_region 2 with (
    (go_at_call 17; refine htm.out.mono ?_; rintro e w1 ⟨v1, y, rfl, ho, hc, hg, hl14, hb0⟩; obtain ⟨A1, n1, c1, rfl, hn1⟩ := OwnP.shape ho; have hp := Lib.hid (OwnP.pts ho); replace hb0 := Lib.hid hb0; have hb := Lib.hid (Below.refl w1.heap.size w1); clear ho))
  clear htm
  have h24 := Lib.hid (fun W hb => Layers_row W _ y (hp.out.then (w' := W) hb) hc hg)
  have h25 := Lib.hid (fun W hb => Edges_row W _ y (hp.out.then (w' := W) hb) hc hg)
  have h26 := Lib.hid (fun W hb => Crossings_row W _ y (hp.out.then (w' := W) hb) hc hg)
  have h27 := Lib.hid (fun W hb => Squares_row W _ y (hp.out.then (w' := W) hb) hc hg)
  have h28 := Lib.hid (fun W hb => LayersR_row W _ y (hp.out.then (w' := W) hb) hc hg)
  have h29 := Lib.hid (fun W hb => EdgesR_row W _ y (hp.out.then (w' := W) hb) hc hg)
  have h30 := Lib.hid (fun W hb => CrossingsR_any W _ y (hp.out.then (w' := W) hb) (okL_of hc) hl14)
  have h31 := Lib.hid (fun W hb => SquaresR_any W _ y _ (ordR_ord (dist_of hc)) (hp.out.then (w' := W) hb) (okL_of hc) (gen_of hc hg) hl14)
  generalize cA y y.length y.length = nc at h26 h30
  generalize sA4 y (ordR y y.length) y.length y.length = ns at h27 h31
  generalize layR y = rows at h24 h28
  generalize edgR y = eds at h25 h29
  clear hc hg hn1 hl14
  go_upto_region 9 with (first
    | (go_at_call 24; refine (h24.out _ hb.out).mono ?_; rintro e w2 ⟨Aa, na, ca, rfl, hra, h2⟩; replace hra := Lib.hid hra; replace hb := Lib.hid (bthen hb.out h2); clear h2)
    | (go_at_call 25; refine (h25.out _ hb.out).mono ?_; rintro e w2 ⟨Ab, nb, cb, rfl, hib, h2⟩; replace hib := Lib.hid hib; replace hra := Lib.hid (Rows2.below hra.out (Nat.le_refl _) h2); replace hb := Lib.hid (bthen hb.out h2); clear h2)
    | (go_at_call 28; refine (h28.out _ hb.out).mono ?_; rintro e w2 ⟨Ap, np, cp, rfl, hrp, h2⟩; replace hrp := Lib.hid hrp; replace hib := Lib.hid (Ints.below hib.out (Nat.le_refl _) h2); replace hra := Lib.hid (Rows2.below hra.out (Nat.le_refl _) h2); replace hb := Lib.hid (bthen hb.out h2); clear h2)
    | (go_at_call 29; refine (h29.out _ hb.out).mono ?_; rintro e w2 ⟨Aq, nq', cq, rfl, hiq, h2⟩; obtain rfl := (show na = np by obtain ⟨_, _, e, _⟩ := Rows2.open hra.out; obtain ⟨_, _, e', _⟩ := Rows2.open hrp.out; injection e with _ e2 _; injection e' with _ e2' _; omega); obtain rfl := (show nb = nq' by obtain ⟨_, _, e, _⟩ := Ints.open hib.out; obtain ⟨_, _, e', _⟩ := Ints.open hiq; injection e with _ e2 _; injection e' with _ e2' _; omega); replace hiq := Lib.hid hiq; replace hrp := Lib.hid (Rows2.below hrp.out (Nat.le_refl _) h2); replace hib := Lib.hid (Ints.below hib.out (Nat.le_refl _) h2); replace hra := Lib.hid (Rows2.below hra.out (Nat.le_refl _) h2); replace hb := Lib.hid (bthen hb.out h2); clear h2)
    | (go_at_call 26; refine (h26.out _ hb.out).mono ?_; rintro e w2 ⟨rfl, h2⟩; replace hib := Lib.hid (Ints.below hib.out (Nat.le_refl _) h2); replace hra := Lib.hid (Rows2.below hra.out (Nat.le_refl _) h2); replace hb := Lib.hid (bthen hb.out h2); clear h2)
    | (go_at_call 27; refine (h27.out _ hb.out).mono ?_; rintro e w2 ⟨rfl, h2⟩; replace hib := Lib.hid (Ints.below hib.out (Nat.le_refl _) h2); replace hra := Lib.hid (Rows2.below hra.out (Nat.le_refl _) h2); replace hb := Lib.hid (bthen hb.out h2); clear h2)
    | (go_at_call 30; refine (h30.out _ hb.out).mono ?_; rintro e w2 ⟨rfl, h2⟩; replace hiq := Lib.hid (Ints.below hiq.out (Nat.le_refl _) h2); replace hrp := Lib.hid (Rows2.below hrp.out (Nat.le_refl _) h2); replace hib := Lib.hid (Ints.below hib.out (Nat.le_refl _) h2); replace hra := Lib.hid (Rows2.below hra.out (Nat.le_refl _) h2); replace hb := Lib.hid (bthen hb.out h2); clear h2)
    | (go_at_call 31; refine (h31.out _ hb.out).mono ?_; rintro e w2 ⟨rfl, h2⟩; replace hiq := Lib.hid (Ints.below hiq.out (Nat.le_refl _) h2); replace hrp := Lib.hid (Rows2.below hrp.out (Nat.le_refl _) h2); replace hib := Lib.hid (Ints.below hib.out (Nat.le_refl _) h2); replace hra := Lib.hid (Rows2.below hra.out (Nat.le_refl _) h2); replace hb := Lib.hid (bthen hb.out h2); clear h2))
  obtain ⟨_, ca', ea, hal, hacm, _, haat⟩ := Rows2.open hra.out
  obtain ⟨_, cp', ep, hpl, hpcm, _, hpat⟩ := Rows2.open hrp.out
  injection ea with ea1 ea2 ea3
  subst ea1 ea3
  injection ep with ep1 ep2 ep3
  subst ep1 ep3
  rw [← ea2] at hal hpl
  unfold maxLen at hacm
  have hnr := Lib.hid ea2
  replace haat := Lib.hid haat
  replace hpat := Lib.hid hpat
  obtain ⟨_, cb', eb, hbl, hbcm, _, hbat⟩ := Ints.open hib.out
  obtain ⟨_, cq', eq, hql, hqcm, _, hqat⟩ := Ints.open hiq.out
  injection eb with eb1 eb2 eb3
  subst eb1 eb3
  injection eq with eq1 eq2 eq3
  subst eq1 eq3
  rw [← eb2] at hbl hql
  unfold maxLen at hbcm
  have hnb := Lib.hid eb2
  replace hbat := Lib.hid hbat
  replace hqat := Lib.hid hqat
  clear ea2 ep2 eb2 eq2 h24 h25 h26 h27 h28 h29 h30 h31
  go_wp2
  go_loopw [16] (fun c wr => ∃ i : Nat, i ≤ na ∧ c = .int .i64 (i : Int) ∧ Hid (Below w2.heap.size w2 wr)) (fun c _ => na - (intOf c).toNat)
  case atStart => exact ⟨0, Nat.zero_le _, rfl, Below.refl _ _⟩
  case round =>
    obtain ⟨i, hi, rfl, hB⟩ := hrel
    by_cases hlt : i < na
    · have hir : i < rows.length := by rw [← hnr.out]; exact hlt
      obtain ⟨ba, oa, A1', c1', rfl, hca, hia⟩ := haat.out i hir
      obtain ⟨bp, op, A2', c2', rfl, hcp, hip⟩ := hpat.out i hir
      obtain ⟨_, _, e1, hl1, hcm1, _, hat1⟩ := hia.open
      injection e1 with e11 _ e13
      subst e11 e13
      obtain ⟨_, _, e2, hl2, hcm2, _, hat2⟩ := hip.open
      injection e2 with e21 _ e23
      subst e21 e23
      unfold maxLen at hcm1 hcm2
      generalize rowAt rows i = r at *
      obtain ⟨m, hm⟩ : ∃ m, r.length = m := ⟨_, rfl⟩
      rw [hm] at hca hcp hl1 hl2
      replace hm := Lib.hid hm
      replace hat1 := Lib.hid hat1
      replace hat2 := Lib.hid hat2
      have ka := cell_below hca hB.out
      have kp := cell_below hcp hB.out
      clear hia hip
      go_wp2
      go_quiet (fail)
      go_wp2
      go_loopw [17] (fun c wr => ∃ j : Nat, j ≤ m ∧ c = .int .i64 (j : Int) ∧ Hid (Below w2.heap.size w2 wr)) (fun c _ => m - (intOf c).toNat)
      case atStart => exact ⟨0, Nat.zero_le _, rfl, Lib.hid (below_drewN hB.out nq)⟩
      case round =>
        clear ka kp hB
        obtain ⟨j, hj, rfl, hB⟩ := hrel
        have ka := cell_below hca hB.out
        have kp := cell_below hcp hB.out
        by_cases hlt2 : j < m
        · have hjr : j < r.length := by rw [hm.out]; exact hlt2
          obtain ⟨b1, o1, rfl, hc1⟩ := hat1.out j hjr
          obtain ⟨b2, o2, rfl, hc2⟩ := hat2.out j hjr
          have k1 := cell_below hc1 hB.out
          have k2 := cell_below hc2 hB.out
          go_wp2
          go_quiet (fail)
          go_wp2
          go_roundw
          case rel => exact ⟨j + 1, by omega, by go_num, Lib.hid (below_drewN hB.out nq)⟩
          case measure => simp [intOf]; omega
        · obtain rfl : j = m := by omega
          go_wp2
          go_roundw
          case rel => exact ⟨i + 1, by omega, by go_num, hB⟩
          case measure => simp [intOf]; omega
    · obtain rfl : i = na := by omega
      go_wp2
      go_loopw [18] (fun c wr => ∃ j : Nat, j ≤ nb ∧ c = .int .i64 (j : Int) ∧ Hid (Below w2.heap.size w2 wr)) (fun c _ => nb - (intOf c).toNat)
      case atStart => exact ⟨0, Nat.zero_le _, rfl, hB⟩
      case round =>
        clear hB
        obtain ⟨j, hj, rfl, hB⟩ := hrel
        by_cases hlt2 : j < nb
        · have hjr : j < eds.length := by rw [← hnb.out]; exact hlt2
          obtain ⟨b1, o1, rfl, hc1⟩ := hbat.out j hjr
          obtain ⟨b2, o2, rfl, hc2⟩ := hqat.out j hjr
          have k1 := cell_below hc1 hB.out
          have k2 := cell_below hc2 hB.out
          go_wp2
          go_quiet (fail)
          go_wp2
          go_roundw
          case rel => exact ⟨j + 1, by omega, by go_num, Lib.hid (below_drewN hB.out nq)⟩
          case measure => simp [intOf]; omega
        · obtain rfl : j = nb := by omega
          go_wp2_with (go_at_call 16; refine (awake_any _).mono ?_; rintro e w5 ⟨rfl, h5⟩; have hb5 := Lib.hid (hB.out.trans (h5.mono hB.out.size)))
          go_ret
          exact ⟨rfl, bthen hb0.out (bthen hb.out hb5.out)⟩
end Go.Proofs.Ythnabheibacbcaa
