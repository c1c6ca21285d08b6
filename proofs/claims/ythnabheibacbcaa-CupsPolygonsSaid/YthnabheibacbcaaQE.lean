/- R.Greatest. No condition. CupsPolygons: the walk. No condition. -/
import Derived.Test.YthnabheibacbcaaQD
import Derived.Test.YthnabheibacbcaaF8
import Derived.Deep.CutRange
import Derived.Test.YthnabheibacbcaaQC
import Derived.Test.YthnabheibacbcaaC15
import Derived.Test.YthnabheibacbcaaE2
namespace Go.Proofs.Ythnabheibacbcaa
section
open Go.RowKit Go.Shelf
attribute [local go_sem high] walk_shl walk_shr walk_bit walk_rem walk_and walk_or walk_andNot

theorem gB_bd (l : List Pt) (os : List Nat) : ∀ k, gB l os k ≤ l.length
  | 0 => Nat.zero_le _
  | k + 1 => by
    have ih := gB_bd l os k
    have h : (subL (List.range l.length) k).length ≤ l.length := by unfold subL; have := List.length_filter_le (fun i => k.testBit i) (List.range l.length); rwa [List.length_range] at this
    simp only [gB]; split <;> omega
theorem gF_bd (l : List Pt) (os : List Nat) : ∀ k, gF l os k ≤ l.length
  | 0 => Nat.zero_le _
  | k + 1 => by
    have ih := gF_bd l os k
    have h : (subL (List.range l.length) k).length ≤ l.length := by unfold subL; have := List.length_filter_le (fun i => k.testBit i) (List.range l.length); rwa [List.length_range] at this
    simp only [gF]; split <;> omega

set_option maxRecDepth 100000 in
set_option maxHeartbeats 4000000 in
theorem Greatest_any (w : World) (v : Value) (l : List Pt) (h : Pts w v l) (hc : checkB l = true) (hg : genB l = true) :
    Calls Try.prog 48 #[v] w fun e w' => e = .returned (.tuple #[.int .i64 ((gB l (ordR l l.length) (p2 l.length) : Nat) : Int), .int .i64 ((gF l (ordR l l.length) (p2 l.length) : Nat) : Int)]) ∧ Below w.heap.size w w' := by
  obtain ⟨A, n, cap, rfl, hn⟩ := h.shape
  have hn14 : n ≤ 14 := by rw [hn.out]; exact (len_of hc).2
  have hsS : smallS n := smallS_of (by omega)
  have hG := gen_of hc hg
  have ho := ordR_ord (dist_of hc)
  obtain ⟨M, hM⟩ : ∃ M, w.heap.size = M := ⟨_, rfl⟩
  have hHull := Lib.hid (fun W (hb : Below w.heap.size w W) vx k (hx : Ints W vx (nats (subL (List.range l.length) k))) (h3 : 3 ≤ (subL (List.range l.length) k).length) =>
    hullR_any W _ vx l (subL (List.range l.length) k) (hOf l (ordR l l.length) k) (h.then hb) (okL_of hc) hG hx (fun x hx => by have := (subL_mem _ _ _).1 hx; simpa using this.1)
      (by unfold subL; have := List.length_filter_le (fun i => k.testBit i) (List.range l.length); rw [List.length_range] at this; have := (len_of hc).2; omega) (hOf_isH hG ho h3)
      (by have := hullL_len (t := tur l) (subL (ordR l l.length) k); have := (hOf_isH hG ho h3).nodup (chi_of hG); unfold hOf; have h1 := sub_len ho.1 k; have h2 : (subL (List.range l.length) k).length ≤ 14 := (by unfold subL; have := List.length_filter_le (fun i => k.testBit i) (List.range l.length); rw [List.length_range] at this; have := (len_of hc).2; omega); omega))
  have hFree := Lib.hid (fun W (hb : Below w.heap.size w W) vx (xs : List Int) (hx : Ints W vx xs) (hl : xs.length ≤ 1000) => isEmptyR_any W _ vx l xs (h.then hb) hc hg hx hl)
  rw [hM] at hHull hFree
  clear hG ho
  generalize ordR l l.length = os at *
  have hN2b : p2 n ≤ 16384 := p2_14 hn14
  rw [hM]
  clear h hc hg
  go_enter Try.func48, Try.ntmps48
  go_wp2
  go_loopw [4, 5, 6] (fun c4 c5 c6 wr => ∃ k : Nat, k ≤ p2 n ∧ c6 = .int .i64 (k : Int) ∧ c4 = .int .i64 ((gB l os k : Nat) : Int) ∧ c5 = .int .i64 ((gF l os k : Nat) : Int) ∧ Hid (Below M w wr)) (fun _ _ c _ => p2 n - (intOf c).toNat)
  case atStart => exact ⟨0, Nat.zero_le _, rfl, rfl, rfl, Below.refl _ _⟩
  case round =>
    obtain ⟨k, hk, rfl, rfl, rfl, hW⟩ := hrel
    have hb1 := gB_bd l os k
    have hf1 := gF_bd l os k
    rw [← hn.out] at hb1 hf1
    by_cases hlt : k < p2 n
    case neg =>
      obtain rfl : k = p2 n := by omega
      go_wp2
      go_ret2
      exact ⟨congrArg (fun m => Ending.returned (.tuple #[.int .i64 ((gB l os (p2 m) : Nat) : Int), .int .i64 ((gF l os (p2 m) : Nat) : Int)])) hn.out, hW.out⟩
    have hks : small k := small_of (by omega)
    have hsB := Lib.hid (show gB l os (k + 1) = if 3 ≤ (subL (List.range l.length) k).length ∧ hullOk l os k = true then max (gB l os k) (subL (List.range l.length) k).length else gB l os k from rfl)
    have hsF := Lib.hid (show gF l os (k + 1) = if 3 ≤ (subL (List.range l.length) k).length ∧ hullOk l os k = true ∧ freeB l (nats (hOf l os k)) = true then max (gF l os k) (subL (List.range l.length) k).length else gF l os k from rfl)
    have hok := Lib.hid (show hullOk l os k = decide ((hOf l os k).length = (subL (List.range l.length) k).length) from rfl)
    generalize gB l os k = bB at *
    generalize gF l os k = bF at *
    go_wp2
    go_loopw [7, 8] (fun c7 c8 wr2 => ∃ (j m : Nat) (A8 : Option Addr) (C8 : Nat), j ≤ n ∧ c8 = .int .i64 (j : Int) ∧ c7 = .slice A8 m C8 ∧ Hid (OwnI M 3 wr2 (.slice A8 m C8) (nats (subL (List.range j) k))) ∧ Hid (Below M w wr2)) (fun _ c _ => n - (intOf c).toNat)
    case atStart => exact ⟨0, 0, none, 0, Nat.zero_le _, rfl, rfl, by unfold Hid; exact own_nil _ _ _, hW⟩
    case round =>
      clear hW
      obtain ⟨j, m, A8, C8, hj, rfl, rfl, hO, hW⟩ := hrel
      have hm : m = (subL (List.range j) k).length := by obtain ⟨A', n', cap', e, h1⟩ := OwnL.shape hO.out; injection e with _ e2 _; rw [e2, h1.out, nats_length]
      have hmb : m ≤ 14 := by rw [hm]; unfold subL; have := List.length_filter_le (fun i => k.testBit i) (List.range j); rw [List.length_range] at this; omega
      have hz := hW.out.size
      rw [hM] at hz
      by_cases hlt2 : j < n
      case pos =>
        have htk := Lib.hid (show subL (List.range (j + 1)) k = subL (List.range j) k ++ (if k.testBit j = true then [j] else []) by
          rw [List.range_succ]
          unfold subL
          rw [List.filter_append]
          congr 1
          by_cases e : k.testBit j = true
          · rw [if_pos e]; simp [e]
          · rw [if_neg e]; simp [e])
        have hbit := testBit_bitOf k j
        have hsj : smallS j := smallS_of (by omega)
        by_cases e : k.testBit j = true
        · rw [if_pos e] at htk hbit
          have hml := Lib.hid hm
          clear hm
          go_wp2_with (
            (at_builtin; refine wpList_append_int rfl (.tmp 28) (.tmp 30) 33 rfl M 3 Try.underlying33 info3 _ _ rfl rfl hO.out rfl rfl (by rw [nats_length]; have := hml.out; omega) hz ?_; intro v' w4 ho4 hB4 hg4; obtain ⟨N4, C4', hv4, -⟩ := OwnL.open ho4 (by simp); rw [show (nats (subL (List.range j) k) ++ [((j : Nat) : Int)]).length = m + 1 by rw [List.length_append, nats_length, hml.out]; rfl] at hv4; subst hv4; replace ho4 := Lib.hid ho4; replace hB4 := Lib.hid hB4))
          go_roundw
          case rel =>
            refine ⟨j + 1, _, _, _, by omega, by go_num, rfl, ?_, Lib.hid (hW.out.trans hB4.out)⟩
            unfold Hid
            rw [htk.out, nats_append]
            exact ho4.out
          case measure => simp [intOf]; omega
        · rw [if_neg e] at htk hbit
          rw [List.append_nil] at htk
          clear hm
          go_wp2
          go_roundw
          case rel =>
            refine ⟨j + 1, _, _, _, by omega, by go_num, rfl, ?_, hW⟩
            unfold Hid
            rw [htk.out]
            exact hO.out
          case measure => simp [intOf]; omega
      obtain rfl : n = j := by omega
      rw [hn.out] at hO hm
      have hIx := Lib.hid (OwnI.ints hO.out)
      rw [← hm] at hsB hsF hok
      have hlen3 := Lib.hid (show 3 ≤ m → 3 ≤ (subL (List.range l.length) k).length from fun h => by rw [← hm]; exact h)
      clear hm
      have hH := Lib.hid (fun h3 => hHull.out _ hW.out _ k hIx.out (hlen3.out h3))
      have hFr := Lib.hid (fun W (hb : Below wr.heap.size wr W) vx hx hl => hFree.out W (hW.out.trans (hb.mono (by have := hW.out.size; rw [hM] at this; exact this))) vx (nats (hOf l os k)) hx hl)
      clear hHull hFree hlen3
      by_cases c3 : 3 ≤ m
      case neg =>
        have c3' : (m : Int) < 3 := by omega
        go_wp2
        go_roundw
        case rel => exact ⟨k + 1, by omega, by go_num, by rw [hsB.out, if_neg (fun h => c3 h.1)], by rw [hsF.out, if_neg (fun h => c3 h.1)], hW⟩
        case measure => simp [intOf]; omega
      have c3' : decide ((m : Int) < 3) = false := by simp; omega
      by_cases cB : m ≤ bB ∧ m ≤ bF
      · obtain ⟨cB, cF⟩ := cB
        have cB' : (m : Int) ≤ (bB : Int) := by omega
        have cF' : (m : Int) ≤ (bF : Int) := by omega
        go_wp2
        go_roundw
        case rel => exact ⟨k + 1, by omega, by go_num, by rw [hsB.out]; congr 2; split <;> omega, by rw [hsF.out]; congr 2; split <;> omega, hW⟩
        case measure => simp [intOf]; omega
      go_upto_region 11 with (fail)
      go_cut [46] from 32 to 65 (fun c wx => c = .bool false ∧ wx = wr)
      case first =>
        by_cases c1 : m ≤ bB
        · have c1' : (m : Int) ≤ (bB : Int) := by omega
          have c2' : decide ((m : Int) ≤ (bF : Int)) = false := by simp; omega
          have c2'' : decide (m ≤ bF) = false := by simp; omega
          go_wp2
          go_meet
          exact ⟨rfl, rfl⟩
        · have c1' : decide ((m : Int) ≤ (bB : Int)) = false := by simp; omega
          have c1'' : decide (m ≤ bB) = false := by simp; omega
          go_wp2
          go_meet
          exact ⟨rfl, rfl⟩
      case rest =>
        obtain ⟨rfl, rfl⟩ := hcut
        have hHl := Lib.hid (show (hOf l os k).length = m → hullOk l os k = true from fun h => by rw [hok.out, h]; simp)
        have hHn := Lib.hid (show (hOf l os k).length ≠ m → ¬ hullOk l os k = true from fun h => by rw [hok.out]; simpa using h)
        clear cB
        by_cases he : (hOf l os k).length = m
        case neg =>
          have hno := Lib.hid (hHn.out he)
          go_wp2_with (go_at_call 45; refine (hH.out c3).mono ?_; rintro e w2 ⟨v2, rfl, hv2, hb2⟩; obtain ⟨A2, n2, c2, rfl, hn2⟩ := OwnL.shape hv2; have hne2 : n2 ≠ m := (by rw [hn2.out, nats_length]; exact he); have hne : ((n2 : Int) == (m : Int)) = false := (by simpa using fun h => hne2 (by omega)); have hW2 := Lib.hid (hW.out.trans (hb2.mono (by have := hW.out.size; rw [hM] at this; exact this))))
          go_roundw
          case rel => exact ⟨k + 1, by omega, by go_num, by rw [hsB.out, if_neg (fun h => hno.out h.2)], by rw [hsF.out, if_neg (fun h => hno.out h.2.1)], hW2⟩
          case measure => simp [intOf]; omega
        have hyes := Lib.hid (hHl.out he)
        obtain ⟨mb, hmb2⟩ : ∃ mb, max bB m = mb := ⟨_, rfl⟩
        have hmax : max (bB : Int) (m : Int) = ((mb : Nat) : Int) := by rw [← hmb2]; omega
        obtain ⟨mf, hmf2⟩ : ∃ mf, max bF m = mf := ⟨_, rfl⟩
        have hmaxf : max (bF : Int) (m : Int) = ((mf : Nat) : Int) := by rw [← hmf2]; omega
        replace hmb2 := Lib.hid hmb2
        replace hmf2 := Lib.hid hmf2
        replace he := Lib.hid he
        obtain ⟨fb, hfb⟩ : ∃ fb, freeB l (nats (hOf l os k)) = fb := ⟨_, rfl⟩
        rw [hfb] at hFr
        replace hfb := Lib.hid hfb
        cases fb
        · go_wp2_with (first
            | (go_at_call 45; refine (hH.out c3).mono ?_; rintro e w2 ⟨v2, rfl, hv2, hb2⟩; obtain ⟨A2, n2, c2, rfl, hn2⟩ := OwnL.shape hv2; have hn2' := hn2.out; rw [nats_length, he.out] at hn2'; subst hn2'; have hI2 := Lib.hid (OwnI.ints hv2); replace hb2 := Lib.hid hb2; clear hv2)
            | (go_at_call 43; refine (hFr.out _ hb2.out _ hI2.out (by rw [nats_length, he.out]; omega)).mono ?_; rintro e w3 ⟨rfl, hb3⟩; have hW3 := Lib.hid (hW.out.trans ((bthen hb2.out hb3).mono (by have := hW.out.size; rw [hM] at this; exact this)))))
          go_roundw
          case rel => exact ⟨k + 1, by omega, by go_num, by rw [hsB.out, if_pos ⟨c3, hyes.out⟩, hmb2.out], by rw [hsF.out, if_neg (fun h => by rw [hfb.out] at h; exact absurd h.2.2 (by simp))], hW3⟩
          case measure => simp [intOf]; omega
        · go_wp2_with (first
            | (go_at_call 45; refine (hH.out c3).mono ?_; rintro e w2 ⟨v2, rfl, hv2, hb2⟩; obtain ⟨A2, n2, c2, rfl, hn2⟩ := OwnL.shape hv2; have hn2' := hn2.out; rw [nats_length, he.out] at hn2'; subst hn2'; have hI2 := Lib.hid (OwnI.ints hv2); replace hb2 := Lib.hid hb2; clear hv2)
            | (go_at_call 43; refine (hFr.out _ hb2.out _ hI2.out (by rw [nats_length, he.out]; omega)).mono ?_; rintro e w3 ⟨rfl, hb3⟩; have hW3 := Lib.hid (hW.out.trans ((bthen hb2.out hb3).mono (by have := hW.out.size; rw [hM] at this; exact this)))))
          go_roundw
          case rel => exact ⟨k + 1, by omega, by go_num, by rw [hsB.out, if_pos ⟨c3, hyes.out⟩, hmb2.out], by rw [hsF.out, if_pos ⟨c3, hyes.out, hfb.out⟩, hmf2.out], hW3⟩
          case measure => simp [intOf]; omega
end
section
open Go.RowKit Go.Shelf

theorem Polygon_row (w : World) (v : Value) (y : List Pt) (h : Pts w v y) (hc : checkB y = true) (hg : genB y = true) (h3 : 3 ≤ y.length) :
    Calls Try.prog 46 #[v] w fun e w' => ∃ A c ys, e = .returned (.tuple #[.slice A (gB y (ordR y y.length) (p2 y.length)) c, .int .i64 0]) ∧ Ints w' (.slice A (gB y (ordR y y.length) (p2 y.length)) c) (nats ys) ∧ IsPoly y ys ∧ (∀ H, IsPoly y H → H.length ≤ ys.length) ∧ Below w.heap.size w w' := by
  refine (Polygon_ok w v y h hc hg h3).mono ?_
  rintro e w2 ⟨va, os, ys, rfl, hord, ho, hq, hb⟩
  obtain rfl := Ordd.unique hord (ordR_ord (dist_of hc))
  obtain ⟨q1, q2⟩ := best_poly (gen_of hc hg) hord h3 hq
  have hia := OwnI.ints ho
  obtain ⟨Aa, na, ca, rfl, hna⟩ := hia.shape
  have e1 : na = gB y (ordR y y.length) (p2 y.length) := by rw [hna.out, nats_length]; exact (greatest_eq (gen_of hc hg) hord q1 q2).symm
  subst e1
  exact ⟨Aa, ca, ys, rfl, hia, q1, q2, hb⟩
theorem Empty_row (w : World) (v : Value) (y : List Pt) (h : Pts w v y) (hc : checkB y = true) (hg : genB y = true) (h3 : 3 ≤ y.length) :
    Calls Try.prog 47 #[v] w fun e w' => ∃ A c ys, e = .returned (.tuple #[.slice A (gF y (ordR y y.length) (p2 y.length)) c, .int .i64 0]) ∧ Ints w' (.slice A (gF y (ordR y y.length) (p2 y.length)) c) (nats ys) ∧ IsPoly y ys ∧ (∀ p ∈ ordR y y.length, insB (tur y) ys p = false) ∧
      (∀ H, IsPoly y H → (∀ p ∈ ordR y y.length, insB (tur y) H p = false) → H.length ≤ ys.length) ∧ Below w.heap.size w w' := by
  refine (Empty_ok w v y h hc hg h3).mono ?_
  rintro e w2 ⟨va, os, ys, rfl, hord, ho, hq, hb⟩
  obtain rfl := Ordd.unique hord (ordR_ord (dist_of hc))
  obtain ⟨⟨q1, q2⟩, q3⟩ := best_free (gen_of hc hg) hord h3 hq
  have hia := OwnI.ints ho
  obtain ⟨Aa, na, ca, rfl, hna⟩ := hia.shape
  have e1 : na = gF y (ordR y y.length) (p2 y.length) := by rw [hna.out, nats_length]; exact (free_eq (gen_of hc hg) (dist_of hc) q1 q2 q3).symm
  subst e1
  exact ⟨Aa, ca, ys, rfl, hia, q1, q2, q3, hb⟩

set_option maxRecDepth 100000 in
set_option maxHeartbeats 4000000 in
theorem CupsPolygons_walk (w : World) (v : Value) (l : List Pt) (x : Int) (h : Pts w v l) : Calls Try.prog 10 #[v, .int .i64 x] w fun e w' => e = .returned (.bool true) ∧ Below w.heap.size w w' := by
  obtain ⟨W, hW, hW1, hW2⟩ := wide_nat x
  have htm : Hid (Calls Try.prog 17 #[v, .int .i64 11, .int .i64 (W : Int)] w fun e w' => ∃ v' y, e = .returned v' ∧ OwnP w.heap.size w' v' y ∧ checkB y = true ∧ genB y = true ∧ y.length ≤ 11 ∧ Below w.heap.size w w') := tame_any w v l h 11 W (by omega) (by omega) hW1 (by omega)
  clear h
  go_enter Try.func10, Try.ntmps10
  go_upto_region 2 with (
    (go_at_call 17; refine htm.out.mono ?_; rintro e w1 ⟨v1, y, rfl, ho, hc, hg, hl14, hb0⟩; obtain ⟨A1, n1, c1, rfl, hn1⟩ := OwnP.shape ho; have hp := Lib.hid (OwnP.pts ho); replace hb0 := Lib.hid hb0; have hb := Lib.hid (Below.refl w1.heap.size w1); clear ho))
  clear htm
  by_cases h2 : y.length < 3
  · have hE := Lib.hid (show openE y 3 = 1 by unfold openE; rw [if_pos hc, if_neg (fun h => by omega)])
    have hn2 : (n1 : Int) < 3 := by rw [hn1.out]; omega
    clear hc hg
    go_wp2_with (first
      | (go_at_call 46; refine (Polygon_err _ _ y 1 (hp.out.then hb.out) hE.out (.inr rfl)).mono ?_; rintro e w2 ⟨rfl, h2⟩; replace hb := Lib.hid (bthen hb.out h2); clear h2)
      | (go_at_call 47; refine (Empty_err _ _ y 1 (hp.out.then hb.out) hE.out (.inr rfl)).mono ?_; rintro e w2 ⟨rfl, h2⟩; replace hb := Lib.hid (bthen hb.out h2); clear h2)
      | (go_at_call 16; refine (awake_any _).mono ?_; rintro e w2 ⟨rfl, h2⟩; replace hb := Lib.hid (bthen hb.out h2); clear h2))
    go_ret
    exact ⟨rfl, bthen hb0.out hb.out⟩
  · have h2' : 3 ≤ y.length := by omega
    have hn2 : ¬ (n1 : Int) < 3 := by rw [hn1.out]; omega
    have h46 := Lib.hid (fun W hb => Polygon_row W _ y (hp.out.then (w' := W) hb) hc hg h2')
    have h47 := Lib.hid (fun W hb => Empty_row W _ y (hp.out.then (w' := W) hb) hc hg h2')
    have h48 := Lib.hid (fun W hb => Greatest_any W _ y (hp.out.then (w' := W) hb) hc hg)
    have hP := Lib.hid (fun (ys : List Nat) (hy : IsPoly y ys) => (polyB_iff (gen_of hc hg) (dist_of hc) ys).2 hy)
    have hF := Lib.hid (fun (ys : List Nat) (hy : IsPoly y ys) hf => (freeB_iff (gen_of hc hg) (dist_of hc) ys).2 ⟨hy, hf⟩)
    have h41 := Lib.hid (fun W hb vx (xs : List Int) hx => isPolygonR_any W _ vx y xs (hp.out.then (w' := W) hb) hc hg hx)
    have h43 := Lib.hid (fun W hb vx (xs : List Int) hx hl => isEmptyR_any W _ vx y xs (hp.out.then (w' := W) hb) hc hg hx hl)
    have h40 := Lib.hid (fun W hb vx (xs : List Int) hx => IsPolygon_ok W _ vx y xs (hp.out.then (w' := W) hb) hc hg hx)
    have h42 := Lib.hid (fun W hb vx (xs : List Int) hx hl => IsEmpty_ok W _ vx y xs (hp.out.then (w' := W) hb) hc hg hx hl)
    have hylen := Lib.hid (show ∀ ys, IsPoly y ys → (nats ys).length ≤ 1000 from fun ys hy => by
      have h3 : ys.Perm ((List.range y.length).filter fun i => decide (i ∈ ys)) := (List.perm_ext_iff_of_nodup hy.nd (List.nodup_range.sublist List.filter_sublist)).2 fun x => by
        rw [List.mem_filter, List.mem_range, decide_eq_true_eq]; exact ⟨fun h => ⟨hy.lt x h, h⟩, fun h => h.2⟩
      rw [nats_length, h3.length_eq]
      have := List.length_filter_le (fun i => decide (i ∈ ys)) (List.range y.length)
      rw [List.length_range] at this
      omega)
    generalize gB y (ordR y y.length) (p2 y.length) = na at h46 h48
    generalize gF y (ordR y y.length) (p2 y.length) = nb at h47 h48
    clear hc hg h2 h2'
    go_wp2_with (first
      | (go_at_call 46; refine (h46.out _ hb.out).mono ?_; rintro e w2 ⟨Aa, ca, ya, rfl, hia, hpa, -, h2⟩; have hia := Lib.hid (fun W (hb : Below w2.heap.size w2 W) => Ints.below hia (Nat.le_refl _) hb); have hpa := Lib.hid hpa; replace hb := Lib.hid (bthen hb.out h2); have hb2 := Lib.hid (Below.refl w2.heap.size w2); clear h2)
      | (go_at_call 47; refine (h47.out _ hb.out).mono ?_; rintro e w3 ⟨Ab, cb, yb, rfl, hib, hpb, hfb, -, h2⟩; have hib := Lib.hid (fun W (hb : Below w3.heap.size w3 W) => Ints.below hib (Nat.le_refl _) hb); have hpb := Lib.hid hpb; have hfb := Lib.hid hfb; replace hb := Lib.hid (bthen hb.out h2); replace hb2 := Lib.hid (bthen hb2.out h2); have hb3 := Lib.hid (Below.refl w3.heap.size w3); clear h2)
      | (go_at_call 48; refine (h48.out _ hb.out).mono ?_; rintro e w4 ⟨rfl, h2⟩; replace hb := Lib.hid (bthen hb.out h2); replace hb2 := Lib.hid (bthen hb2.out h2); replace hb3 := Lib.hid (bthen hb3.out h2); clear h2)
      | (go_at_call 41; refine (h41.out _ hb.out _ _ (hia.out _ hb2.out)).mono ?_; rintro e w4 ⟨rfl, h2⟩; rw [hP.out _ hpa.out]; replace hb := Lib.hid (bthen hb.out h2); replace hb2 := Lib.hid (bthen hb2.out h2); replace hb3 := Lib.hid (bthen hb3.out h2); clear h2)
      | (go_at_call 43; refine (h43.out _ hb.out _ _ (hib.out _ hb3.out) (hylen.out _ hpb.out)).mono ?_; rintro e w4 ⟨rfl, h2⟩; rw [hF.out _ hpb.out hfb.out]; replace hb := Lib.hid (bthen hb.out h2); replace hb2 := Lib.hid (bthen hb2.out h2); replace hb3 := Lib.hid (bthen hb3.out h2); clear h2)
      | (go_at_call 40; refine (h40.out _ hb.out _ _ (hia.out _ hb2.out)).mono ?_; rintro e w4 ⟨rfl, h2⟩; rw [hP.out _ hpa.out]; replace hb := Lib.hid (bthen hb.out h2); replace hb2 := Lib.hid (bthen hb2.out h2); replace hb3 := Lib.hid (bthen hb3.out h2); clear h2)
      | (go_at_call 42; refine (h42.out _ hb.out _ _ (hib.out _ hb3.out) (hylen.out _ hpb.out)).mono ?_; rintro e w4 ⟨rfl, h2⟩; rw [hF.out _ hpb.out hfb.out]; replace hb := Lib.hid (bthen hb.out h2); replace hb2 := Lib.hid (bthen hb2.out h2); replace hb3 := Lib.hid (bthen hb3.out h2); clear h2)
      | (go_at_call 16; refine (awake_any _).mono ?_; rintro e w2 ⟨rfl, h2⟩; replace hb := Lib.hid (bthen hb.out h2); clear h2))
    go_ret
    exact ⟨rfl, bthen hb0.out hb.out⟩
end
end Go.Proofs.Ythnabheibacbcaa
