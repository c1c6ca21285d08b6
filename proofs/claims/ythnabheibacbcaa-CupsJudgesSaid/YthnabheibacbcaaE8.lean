/- CupsJudges: the walk. No condition. -/
import Derived.Test.YthnabheibacbcaaF14
import Derived.Test.YthnabheibacbcaaE4
import Derived.Test.YthnabheibacbcaaH2
namespace Go.Proofs.Ythnabheibacbcaa
open Go.RowKit Go.Shelf

theorem rowB_one {l : List Pt} {xs : List Int} {s : Int} (hc : checkB l = true) (h : l.length < 2) : rowB l xs s = false := by
  by_cases h2 : xs.length < 2
  · exact rowB_short h2
  · rcases hi : idxB l.length xs with _ | _
    · exact rowB_idx hi
    · exfalso
      have h1 := sel_len (ordR_ord (dist_of hc)) hi
      unfold selX at h1
      have h3 := List.length_filter_le (fun i => memB xs ((i : Nat) : Int)) (ordR l l.length)
      rw [ordR_len] at h3
      omega
theorem IsCup_all (w : World) (v : Value) (A : Option Addr) (n c : Nat) (l : List Pt) (xs : List Int) (h : Pts w v l) (hc : checkB l = true) (hg : genB l = true) (hx : Ints w (.slice A n c) xs) :
    Calls Try.prog 22 #[v, .slice A n c] w fun e w' => e = .returned (.bool (rowB l xs 1)) ∧ Below w.heap.size w w' := by
  by_cases h2 : 2 ≤ l.length
  · exact IsCup_ok w v _ l xs h hc hg h2 hx
  · rw [rowB_one hc (by omega)]
    exact IsCup_err w v l 1 A n c h (by unfold openE; rw [if_pos hc, if_neg (fun h => by omega)]) (.inr rfl)
theorem IsCap_all (w : World) (v : Value) (A : Option Addr) (n c : Nat) (l : List Pt) (xs : List Int) (h : Pts w v l) (hc : checkB l = true) (hg : genB l = true) (hx : Ints w (.slice A n c) xs) :
    Calls Try.prog 23 #[v, .slice A n c] w fun e w' => e = .returned (.bool (rowB l xs (-1))) ∧ Below w.heap.size w w' := by
  by_cases h2 : 2 ≤ l.length
  · exact IsCap_ok w v _ l xs h hc hg h2 hx
  · rw [rowB_one hc (by omega)]
    exact IsCap_err w v l 1 A n c h (by unfold openE; rw [if_pos hc, if_neg (fun h => by omega)]) (.inr rfl)
/-- the hull of some points in the order -/
theorem hullS_any (w : World) (v vx : Value) (l : List Pt) (so os : List Nat) (ho : Ordd l os) (h : Pts w v l) (hc : checkB l = true) (hg : genB l = true) (hx : Ints w vx (nats so)) (hs : so.Sublist os) (hne : so ≠ []) :
    Calls Try.prog 45 #[v, vx] w fun e w' => ∃ b m c hs', e = .returned (.slice (some ⟨b, 0, none⟩) m c) ∧ Ints w' (.slice (some ⟨b, 0, none⟩) m c) hs' ∧ 1 ≤ m ∧ m ≤ 28 ∧ Below w.heap.size w w' := by
  have hlen : so.length ≤ 14 := by
    have h1 := hs.length_le
    have h2 := ho.1.length_eq
    rw [List.length_range] at h2
    have := (len_of hc).2
    omega
  have hlt : ∀ k ∈ so, k < l.length := fun k hk => ord_lt ho k (hs.subset hk)
  have hpos : 0 < so.length := List.length_pos_iff.2 hne
  have hH := hull_isH (chi_of (gen_of hc hg)) hpos hlt (ho.2.sublist hs)
  have hHl := hullL_len (t := tur l) so
  refine (hullR_any w v vx l so _ h (okL_of hc) (gen_of hc hg) hx hlt hlen hH (by omega)).mono ?_
  rintro e w' ⟨v', rfl, ho', hb⟩
  have hp := hH.pos
  obtain ⟨b, c, rfl, _⟩ := OwnL.open ho' (by rw [nats_length]; exact hp)
  exact ⟨b, _, c, _, rfl, OwnI.ints ho', by rw [nats_length]; exact hp, by rw [nats_length]; omega, hb⟩
/-- a list of ints that may be read, not too long -/
def Any16 (w : World) (v : Value) : Prop := ∃ xs, Ints w v xs ∧ xs.length ≤ 1000
theorem Any16.below {w w' : World} {v : Value} (h : Any16 w v) (hb : Below w.heap.size w w') : Any16 w' v := by
  obtain ⟨xs, h1, h2⟩ := h; exact ⟨xs, Ints.below h1 (Nat.le_refl _) hb, h2⟩
theorem step_append_any {P : Program} {w : World} {ops : Array Oper} {o : Oper} {a : Act} {K : Act → World → Prop} {Q : Exit → Act → World → Prop} {E : Prop} (hgd : o.guard = none) (s x : Operand) (t : TypeId)
    (ho : o.op = .call { callee := .builtin .append, args := #[s, x], argTypes := #[t, t] }) (lo : Nat) (ht : P.underlying t = some (.slice 3))
    (hinfo : (P.info? 3).map (fun i => (i.zero, i.size, i.bytes)) = some (some (.int .i64 0), 1, 8))
    (v : Value) (xs : List Int) (hs : a.eval s = v) (hown : OwnI lo 3 w v xs) (v2 : Value) (hx : a.eval x = v2) (ys : List Int) (h2 : Ints w v2 ys) (hb : xs.length + ys.length ≤ 1000000) (hlo : lo ≤ w.heap.size)
    (h : ∀ v' w', OwnI lo 3 w' v' (xs ++ ys) → Below lo w w' → K (a.put o.dst v') w') : if Region.wanted o (yielded ops a.tmps) = true then Oper.wp P o a w K Q else E := by
  have hw : Region.wanted o (yielded ops a.tmps) = true := by simp [Region.wanted, hgd]
  rw [if_pos hw]
  obtain ⟨i, hi, hz0, hz1, hz2⟩ := info_parts hinfo
  obtain ⟨v', w', hrun, r2, r3, r4⟩ := run_append_slc (P := P) w lo t o.type 3 i (.int .i64 0) 8 ht hi hz0 hz1 hz2 rfl isI_one v xs hown v2 ys h2 hb (by omega) hlo
  unfold Oper.wp execOp
  simp only [ho, resolve, invoke, builtin, Sem.run_bind, Sem.run_pure, Result.andThen_ok, List.map_toArray, List.map_cons, List.map_nil, hs, hx, hrun]
  exact h v' w' r2 (below_of_grown r3 hlo fun k hk => (OwnL.lt hown k hk).1)

set_option maxRecDepth 100000 in
set_option maxHeartbeats 8000000 in
theorem CupsJudges_walk (w : World) (v vo : Value) (l : List Pt) (ofs : List Int) (x : Int) (h : Pts w v l) (hof : Ints w vo ofs) : Calls Try.prog 8 #[v, vo, .int .i64 x] w fun e w' => e = .returned (.bool true) ∧ Below w.heap.size w w' := by
  obtain ⟨W, hW, hW1, hW2⟩ := wide_nat x
  have htm : Hid (Calls Try.prog 17 #[v, .int .i64 14, .int .i64 (W : Int)] w fun e w' => ∃ v' y, e = .returned v' ∧ OwnP w.heap.size w' v' y ∧ checkB y = true ∧ genB y = true ∧ y.length ≤ 14 ∧ Below w.heap.size w w') := tame_any w v l h 14 W (by omega) (by omega) hW1 (by omega)
  have hofW := Lib.hid (fun W (hb : Below w.heap.size w W) => Ints.below hof (Nat.le_refl _) hb)
  obtain ⟨Af, nf, cf, rfl, hnf⟩ := hof.shape
  obtain ⟨_, cf', e, hlf, hcmf, _, hatf⟩ := hof.open
  injection e with e1 e2 e3
  subst e1 e3
  unfold maxLen at hcmf
  rw [← e2] at hlf
  clear e2
  have hatf := Lib.hid hatf
  clear h hof
  go_enter Try.func8, Try.ntmps8
  go_upto_region 3 with (first
    | (go_at_call 17; refine htm.out.mono ?_; rintro e w1 ⟨v1, y, rfl, ho, hc, hg, hl14, hb0⟩; obtain ⟨A1, n1, c1, rfl, hn1⟩ := OwnP.shape ho; have hp := Lib.hid (OwnP.pts ho); replace hb0 := Lib.hid hb0; clear ho)
    | (go_at_call 39; refine (list_any _ _ ofs (hofW.out _ hb0.out)).mono ?_; rintro e w2 ⟨v2, rfl, ho2, hb2⟩; have hi2 := OwnI.ints ho2; obtain ⟨A2, n2, c2, rfl, hn2⟩ := hi2.shape; have hi2 := Lib.hid (show Any16 w2 (.slice A2 n2 c2) from ⟨_, hi2, by have := cut16_len ofs; omega⟩); have hb2 := Lib.hid hb2; clear ho2))
  clear htm
  have hos := Lib.hid (ordR_ord (dist_of hc))
  have hol := Lib.hid (ordR_len y y.length)
  have hok := Lib.hid (okL_of hc)
  have hcg := Lib.hid (And.intro hc hg)
  have hordw := Lib.hid (fun W (hb : Below w1.heap.size w1 W) => order_any W _ y (hp.out.then hb) (by omega))
  obtain ⟨os, hoe⟩ : ∃ os, ordR y y.length = os := ⟨_, rfl⟩
  rw [hoe] at hos hol hordw
  clear hoe hc hg
  go_wp2
  go_loopw [8, 9] (fun c8 c9 wr => ∃ (r : Nat) (A8 : Option Addr) (n8 C8 : Nat), r ≤ 4 ∧ c9 = .int .i64 (r : Int) ∧ c8 = .slice A8 n8 C8 ∧ Hid (Any16 wr (.slice A8 n8 C8)) ∧ Hid (Below w1.heap.size w1 wr)) (fun _ c _ => 4 - (intOf c).toNat)
  case atStart => exact ⟨0, _, _, _, by omega, rfl, rfl, hi2, hb2⟩
  case round =>
    clear hi2 hb2
    obtain ⟨r, A8, n8, C8, hr, rfl, rfl, hY, hb⟩ := hrel
    by_cases hlt : r < 4
    case neg =>
      obtain rfl : r = 4 := by omega
      go_wp2_with (go_at_call 16; refine (awake_any _).mono ?_; rintro e w3 ⟨rfl, h3⟩; have hb := Lib.hid (bthen hb.out h3))
      go_ret
      exact ⟨rfl, bthen hb0.out hb.out⟩
    obtain ⟨xs, hxs, hxl⟩ := hY.out
    have hx := Lib.hid (fun W (hb : Below wr.heap.size wr W) => Ints.below hxs (Nat.le_refl _) hb)
    have hbx := Lib.hid (Below.refl wr.heap.size wr)
    obtain ⟨q1, hq1⟩ : ∃ b, rowB y xs 1 = b := ⟨_, rfl⟩
    obtain ⟨q2, hq2⟩ : ∃ b, rowB y xs (-1) = b := ⟨_, rfl⟩
    obtain ⟨q3, hq3⟩ : ∃ b, polyB y xs = b := ⟨_, rfl⟩
    obtain ⟨q4, hq4⟩ : ∃ b, freeB y xs = b := ⟨_, rfl⟩
    replace hq1 := Lib.hid hq1
    replace hq2 := Lib.hid hq2
    replace hq3 := Lib.hid hq3
    replace hq4 := Lib.hid hq4
    clear hxs hY
    go_upto_region 8 with (first
      | (go_at_call 22; have hX := IsCup_all _ _ A8 n8 C8 y xs (hp.out.then hb.out) hcg.out.1 hcg.out.2 (hx.out _ hbx.out); (with_reducible refine hX.mono ?_); clear hX; rintro e w4 ⟨rfl, h4⟩; rw [hq1.out]; replace hb := Lib.hid (bthen hb.out h4); replace hbx := Lib.hid (bthen hbx.out h4); clear h4)
      | (go_at_call 23; have hX := IsCap_all _ _ A8 n8 C8 y xs (hp.out.then hb.out) hcg.out.1 hcg.out.2 (hx.out _ hbx.out); (with_reducible refine hX.mono ?_); clear hX; rintro e w4 ⟨rfl, h4⟩; rw [hq2.out]; replace hb := Lib.hid (bthen hb.out h4); replace hbx := Lib.hid (bthen hbx.out h4); clear h4)
      | (go_at_call 20; have hX := isChain_any _ _ _ y xs 1 (hp.out.then hb.out) hok.out (hx.out _ hbx.out); (with_reducible refine hX.mono ?_); clear hX; rintro e w4 ⟨rfl, h4⟩; rw [hq1.out]; replace hb := Lib.hid (bthen hb.out h4); replace hbx := Lib.hid (bthen hbx.out h4); clear h4)
      | (go_at_call 20; have hX := isChain_any _ _ _ y xs (-1) (hp.out.then hb.out) hok.out (hx.out _ hbx.out); (with_reducible refine hX.mono ?_); clear hX; rintro e w4 ⟨rfl, h4⟩; rw [hq2.out]; replace hb := Lib.hid (bthen hb.out h4); replace hbx := Lib.hid (bthen hbx.out h4); clear h4)
      | (go_at_call 40; have hX := IsPolygon_ok _ _ _ y xs (hp.out.then hb.out) hcg.out.1 hcg.out.2 (hx.out _ hbx.out); (with_reducible refine hX.mono ?_); clear hX; rintro e w4 ⟨rfl, h4⟩; rw [hq3.out]; replace hb := Lib.hid (bthen hb.out h4); replace hbx := Lib.hid (bthen hbx.out h4); clear h4)
      | (go_at_call 41; have hX := isPolygonR_any _ _ _ y xs (hp.out.then hb.out) hcg.out.1 hcg.out.2 (hx.out _ hbx.out); (with_reducible refine hX.mono ?_); clear hX; rintro e w4 ⟨rfl, h4⟩; rw [hq3.out]; replace hb := Lib.hid (bthen hb.out h4); replace hbx := Lib.hid (bthen hbx.out h4); clear h4)
      | (go_at_call 42; have hX := IsEmpty_ok _ _ _ y xs (hp.out.then hb.out) hcg.out.1 hcg.out.2 (hx.out _ hbx.out) hxl; (with_reducible refine hX.mono ?_); clear hX; rintro e w4 ⟨rfl, h4⟩; rw [hq4.out]; replace hb := Lib.hid (bthen hb.out h4); replace hbx := Lib.hid (bthen hbx.out h4); clear h4)
      | (go_at_call 43; have hX := isEmptyR_any _ _ _ y xs (hp.out.then hb.out) hcg.out.1 hcg.out.2 (hx.out _ hbx.out) hxl; (with_reducible refine hX.mono ?_); clear hX; rintro e w4 ⟨rfl, h4⟩; rw [hq4.out]; replace hb := Lib.hid (bthen hb.out h4); replace hbx := Lib.hid (bthen hbx.out h4); clear h4))
    go_upto_region 10 with (go_at_call 44; refine (hordw.out _ hb.out).mono ?_; rintro e w5 ⟨v5, rfl, ho5, hb5⟩; have hi5 := OwnI.ints ho5; obtain ⟨Ao, no, co, rfl, hno⟩ := hi5.shape; have hno' := (show no = os.length by rw [hno.out, nats_length]); obtain ⟨_, co', e5, hl5, hcm5, _, hat5⟩ := hi5.open; injection e5 with e51 e52 e53; subst e51 e53; unfold maxLen at hcm5; rw [← e52] at hl5; clear e52; have hat5 := Lib.hid (show ∀ i, i < no → ∃ b off, Ao = some ⟨b, off, none⟩ ∧ w5.cell? ⟨b, off + i, none⟩ = some (.int .i64 ((natAt os i : Nat) : Int)) from fun i hi => by
          obtain ⟨b, off, hA, hc⟩ := hat5 i (by rw [← hno.out]; exact hi)
          exact ⟨b, off, hA, by rwa [at0_nats] at hc⟩); replace hi5 := Lib.hid hi5; have hb5 := Lib.hid (bthen hb.out hb5); replace hno' := Lib.hid hno'; clear ho5)
    go_wp2
    go_loopw [10, 12] (fun c10 c12 wr => ∃ (i d : Nat) (Ad : Option Addr) (Cd : Nat), i ≤ no ∧ c12 = .int .i64 (i : Int) ∧ c10 = .slice Ad d Cd ∧ Hid (∃ so : List Nat, OwnI w5.heap.size 3 wr (.slice Ad d Cd) (nats so) ∧ so.Sublist (os.take i) ∧ d = so.length) ∧ Hid (Below w5.heap.size w5 wr)) (fun _ c _ => no - (intOf c).toNat)
    case atStart => exact ⟨0, 0, none, 0, Nat.zero_le _, rfl, rfl, Lib.hid ⟨[], own_nil _ _ _, List.nil_sublist _, rfl⟩, Below.refl _ _⟩
    case round =>
      obtain ⟨i, d, Ad, Cd, hi, rfl, rfl, hS, hB⟩ := hrel
      obtain ⟨so, hso, hsub, hd⟩ := hS.out
      have hbI := Lib.hid (bthen hb5.out hB.out)
      have hdl : d ≤ 14 := by
        have h1 := hsub.length_le
        rw [List.length_take] at h1
        have := hol.out
        omega
      by_cases hlti : i < no
      case neg =>
        obtain rfl : no = i := by omega
        have hsub' : so.Sublist os := by rwa [List.take_of_length_le (by rw [hno'.out]; exact Nat.le_refl _)] at hsub
        clear hS
        by_cases hd0 : d = 0
        · have hd0i : ((d : Int) == 0) = true := by simp [hd0]
          have hosne : os ≠ [] := by
            intro e
            have h1 := hol.out
            rw [e] at h1
            have := (len_of hcg.out.1).1
            simp at h1
            omega
          have hio := Ints.below hi5.out (Nat.le_refl _) hB.out
          subst hd0
          clear hd hso hsub hsub'
          by_cases hr1 : r = 1
          · subst hr1
            go_upto_region 20 with (go_at_call 45; refine (hullS_any _ _ _ y _ os hos.out (hp.out.then hbI.out) hcg.out.1 hcg.out.2 hio (List.Sublist.refl os) hosne).mono ?_; rintro e w6 ⟨bh, mh, ch, hh, rfl, hih, hm1, hm28, hb6⟩; have hhl := (show hh.length = mh by obtain ⟨_, _, _, e, hl⟩ := hih.shape; injection e with _ e2 _; rw [e2]; exact hl.out.symm); have hbJ := Lib.hid (bthen hbI.out hb6); clear hb6)
            have hA := Lib.hid (show Any16 w6 _ from ⟨hh, hih, by omega⟩)
            go_wp2
            go_roundw
            case rel => exact ⟨2, _, _, _, by omega, rfl, rfl, hA, hbJ⟩
            case measure => simp [intOf]
          by_cases hr2 : r = 2
          · subst hr2
            go_upto_region 22 with (go_at_call 45; refine (hullS_any _ _ _ y _ os hos.out (hp.out.then hbI.out) hcg.out.1 hcg.out.2 hio (List.Sublist.refl os) hosne).mono ?_; rintro e w6 ⟨bh, mh, ch, hh, rfl, hih, hm1, hm28, hb6⟩; have hhl := (show hh.length = mh by obtain ⟨_, _, _, e, hl⟩ := hih.shape; injection e with _ e2 _; rw [e2]; exact hl.out.symm); have hbJ := Lib.hid (bthen hbI.out hb6); clear hb6)
            obtain ⟨_, cc, ec, hlc, hcm, _, hath⟩ := hih.open
            injection ec with ec1 ec2 ec3
            subst ec1 ec3
            rw [← ec2] at hlc
            clear ec2
            unfold maxLen at hcm
            obtain ⟨b', o', eb, hc0⟩ := hath 0 (by omega)
            cases eb
            rw [Nat.add_zero] at hc0
            have hcd0 := cell_below hc0 (drew_below w6)
            have hcd1 := cell_below hcd0 (below1 w6.drew (.cells #[.int .i64 (at0 hh 0)] 3))
            have hdr := Ints.drop hih 1 (by omega)
            rw [Nat.zero_add] at hdr
            generalize hz0 : at0 hh 0 = z0 at *
            replace hz0 := Lib.hid hz0
            have hs1 : (1 : Int) ≤ (mh : Int) := by omega
            have hs0 : (0 : Int) < (mh : Int) := by omega
            have hs0n : 0 < mh := by omega
            by_cases hch : ch = 1
            · subst hch
              obtain rfl : mh = 1 := by omega
              have hli := Lib.hid (fun W (hb : Below w6.heap.size w6 W) => list_any W (.slice (some ⟨bh, 0, none⟩) 0 0) [] ⟨_, 0, rfl, Nat.le_refl _, Nat.zero_le _, (fun h => by cases h), fun i hi => absurd hi (by simp)⟩)
              have mixed : Try.prog.follows .mixedOrders = true := by kernel_rfl
              have hBA : Below w6.heap.size w6 (w6.alloc (.cells #[.int .i64 z0] 3)).drew := below_drewN (below1 w6 (.cells #[.int .i64 z0] 3)) 1
              have hBA := Lib.hid hBA
              have hqA := Lib.hid (show (w6.alloc (.cells #[.int .i64 z0] 3)).drew.cell? ⟨w6.heap.size, 0, none⟩ = some (.int .i64 z0) from one_cell (w := w6) (v := .int .i64 z0) (t := 3))
              have hcdA := cell_below hc0 hBA.out
              have hlx := Lib.hid (show ∀ q : List Int, (cut16 q).length ≤ 16 from cut16_len)
              go_wp2
              go_region_law_o
                (first
                  | (go_simp; go_at_call 39; first
                      | (refine (hli.out _ (drew_below w6)).mono ?_; rintro e w7 ⟨v7, rfl, ho7, hb7⟩; have ha7 := cell_below hcd0 hb7; obtain ⟨A7, n7, c7, rfl, hn7⟩ := OwnL.shape ho7; replace ho7 := Lib.hid ho7; have hb7 := Lib.hid ((drew_below w6).trans hb7))
                      | (refine (hli.out _ hBA.out).mono ?_; rintro e w7 ⟨v7, rfl, ho7, hb7⟩; have ha7 := cell_below hcdA hb7; have hq7 := cell_below hqA.out hb7; obtain ⟨A7, n7, c7, rfl, hn7⟩ := OwnL.shape ho7; replace ho7 := Lib.hid ho7; have hb7 := Lib.hid (bthen hBA.out hb7)))
                  | (refine step_append_any rfl (.tmp 105) (.tmp 109) 33 (by rfl) w6.heap.size Try.underlying33 info3 _ _ rfl (OwnL.lo_le ho7.out (by simp)) _ rfl [z0] (slc_one hq7 rfl) (by have h1 := hlx.out []; have h2 := hlx.out (hh.drop 1); simp only [List.length_cons, List.length_nil]; omega) hb7.out.size ?_; intro v' w' h1 h2; have hA := Lib.hid (show Any16 w' v' from ⟨_, OwnI.ints h1, by have h1 := hlx.out []; have h2 := hlx.out (hh.drop 1); simp only [List.length_append, List.length_cons, List.length_nil]; omega⟩); obtain ⟨A4, n4, c4, rfl, hn4⟩ := OwnL.shape h1; have hbf := Lib.hid (hb7.out.trans h2))
                  | (refine step_append_any rfl (.tmp 105) (.tmp 109) 33 (by rfl) w6.heap.size Try.underlying33 info3 _ _ rfl (OwnL.lo_le (OwnL.below ho7.out (Nat.le_refl _) (below1 _ _)) (by simp)) _ rfl [z0] (slc_one one_cell rfl) (by have h1 := hlx.out []; have h2 := hlx.out (hh.drop 1); simp only [List.length_cons, List.length_nil]; omega) (by have := hb7.out.size; simp; omega) ?_; intro v' w' h1 h2; have hA := Lib.hid (show Any16 w' v' from ⟨_, OwnI.ints h1, by have h1 := hlx.out []; have h2 := hlx.out (hh.drop 1); simp only [List.length_append, List.length_cons, List.length_nil]; omega⟩); obtain ⟨A4, n4, c4, rfl, hn4⟩ := OwnL.shape h1; have hbf := Lib.hid ((hb7.out.trans ((below1 w7 (.cells #[.int .i64 z0] 3)).mono hb7.out.size)).trans h2)))
              all_goals
                go_wp2
                go_roundw
                case rel => exact ⟨3, _, _, _, by omega, rfl, rfl, hA, Lib.hid (bthen hbJ.out hbf.out)⟩
                case measure => simp [intOf]
            · have hdr := Lib.hid hdr
              have hli := Lib.hid (fun W (hb : Below w6.heap.size w6 W) => list_any W _ (hh.drop 1) (Ints.below hdr.out (Nat.le_refl _) hb))
              have hchn : ¬ ch - 1 = 0 := by omega
              have mixed : Try.prog.follows .mixedOrders = true := by kernel_rfl
              have hBA : Below w6.heap.size w6 (w6.alloc (.cells #[.int .i64 z0] 3)).drew := below_drewN (below1 w6 (.cells #[.int .i64 z0] 3)) 1
              have hBA := Lib.hid hBA
              have hqA := Lib.hid (show (w6.alloc (.cells #[.int .i64 z0] 3)).drew.cell? ⟨w6.heap.size, 0, none⟩ = some (.int .i64 z0) from one_cell (w := w6) (v := .int .i64 z0) (t := 3))
              have hcdA := cell_below hc0 hBA.out
              have hlx := Lib.hid (show ∀ q : List Int, (cut16 q).length ≤ 16 from cut16_len)
              go_wp2
              go_region_law_o
                (first
                  | (go_simp; go_at_call 39; first
                      | (refine (hli.out _ (drew_below w6)).mono ?_; rintro e w7 ⟨v7, rfl, ho7, hb7⟩; have ha7 := cell_below hcd0 hb7; obtain ⟨A7, n7, c7, rfl, hn7⟩ := OwnL.shape ho7; replace ho7 := Lib.hid ho7; have hb7 := Lib.hid ((drew_below w6).trans hb7))
                      | (refine (hli.out _ hBA.out).mono ?_; rintro e w7 ⟨v7, rfl, ho7, hb7⟩; have ha7 := cell_below hcdA hb7; have hq7 := cell_below hqA.out hb7; obtain ⟨A7, n7, c7, rfl, hn7⟩ := OwnL.shape ho7; replace ho7 := Lib.hid ho7; have hb7 := Lib.hid (bthen hBA.out hb7)))
                  | (refine step_append_any rfl (.tmp 105) (.tmp 109) 33 (by rfl) w6.heap.size Try.underlying33 info3 _ _ rfl (OwnL.lo_le ho7.out (by simp)) _ rfl [z0] (slc_one hq7 rfl) (by have h1 := hlx.out []; have h2 := hlx.out (hh.drop 1); simp only [List.length_cons, List.length_nil]; omega) hb7.out.size ?_; intro v' w' h1 h2; have hA := Lib.hid (show Any16 w' v' from ⟨_, OwnI.ints h1, by have h1 := hlx.out []; have h2 := hlx.out (hh.drop 1); simp only [List.length_append, List.length_cons, List.length_nil]; omega⟩); obtain ⟨A4, n4, c4, rfl, hn4⟩ := OwnL.shape h1; have hbf := Lib.hid (hb7.out.trans h2))
                  | (refine step_append_any rfl (.tmp 105) (.tmp 109) 33 (by rfl) w6.heap.size Try.underlying33 info3 _ _ rfl (OwnL.lo_le (OwnL.below ho7.out (Nat.le_refl _) (below1 _ _)) (by simp)) _ rfl [z0] (slc_one one_cell rfl) (by have h1 := hlx.out []; have h2 := hlx.out (hh.drop 1); simp only [List.length_cons, List.length_nil]; omega) (by have := hb7.out.size; simp; omega) ?_; intro v' w' h1 h2; have hA := Lib.hid (show Any16 w' v' from ⟨_, OwnI.ints h1, by have h1 := hlx.out []; have h2 := hlx.out (hh.drop 1); simp only [List.length_append, List.length_cons, List.length_nil]; omega⟩); obtain ⟨A4, n4, c4, rfl, hn4⟩ := OwnL.shape h1; have hbf := Lib.hid ((hb7.out.trans ((below1 w7 (.cells #[.int .i64 z0] 3)).mono hb7.out.size)).trans h2)))
              all_goals
                go_wp2
                go_roundw
                case rel => exact ⟨3, _, _, _, by omega, rfl, rfl, hA, Lib.hid (bthen hbJ.out hbf.out)⟩
                case measure => simp [intOf]
          have hA := Lib.hid (show Any16 wr _ from ⟨_, hio, by rw [nats_length]; have := (List.Sublist.length_le (List.Sublist.refl os)); have := hol.out; omega⟩)
          have hr1b : ((r : Int) == 1) = false := by simp; omega
          have hr2b : ((r : Int) == 2) = false := by simp; omega
          go_wp2
          go_roundw
          case rel => exact ⟨r + 1, _, _, _, by omega, by go_num, rfl, hA, hbI⟩
          case measure => simp [intOf]; omega
        · have hd0i : ((d : Int) == 0) = false := by simp; omega
          have hsne : so ≠ [] := by intro e; rw [e] at hd; simp at hd; exact hd0 hd
          have his := OwnI.ints hso
          clear hsub hso
          replace hd := Lib.hid hd
          by_cases hr1 : r = 1
          · subst hr1
            go_upto_region 20 with (go_at_call 45; refine (hullS_any _ _ _ y _ os hos.out (hp.out.then hbI.out) hcg.out.1 hcg.out.2 his hsub' hsne).mono ?_; rintro e w6 ⟨bh, mh, ch, hh, rfl, hih, hm1, hm28, hb6⟩; have hhl := (show hh.length = mh by obtain ⟨_, _, _, e, hl⟩ := hih.shape; injection e with _ e2 _; rw [e2]; exact hl.out.symm); have hbJ := Lib.hid (bthen hbI.out hb6); clear hb6)
            have hA := Lib.hid (show Any16 w6 _ from ⟨hh, hih, by omega⟩)
            go_wp2
            go_roundw
            case rel => exact ⟨2, _, _, _, by omega, rfl, rfl, hA, hbJ⟩
            case measure => simp [intOf]
          by_cases hr2 : r = 2
          · subst hr2
            go_upto_region 22 with (go_at_call 45; refine (hullS_any _ _ _ y _ os hos.out (hp.out.then hbI.out) hcg.out.1 hcg.out.2 his hsub' hsne).mono ?_; rintro e w6 ⟨bh, mh, ch, hh, rfl, hih, hm1, hm28, hb6⟩; have hhl := (show hh.length = mh by obtain ⟨_, _, _, e, hl⟩ := hih.shape; injection e with _ e2 _; rw [e2]; exact hl.out.symm); have hbJ := Lib.hid (bthen hbI.out hb6); clear hb6)
            obtain ⟨_, cc, ec, hlc, hcm, _, hath⟩ := hih.open
            injection ec with ec1 ec2 ec3
            subst ec1 ec3
            rw [← ec2] at hlc
            clear ec2
            unfold maxLen at hcm
            obtain ⟨b', o', eb, hc0⟩ := hath 0 (by omega)
            cases eb
            rw [Nat.add_zero] at hc0
            have hcd0 := cell_below hc0 (drew_below w6)
            have hcd1 := cell_below hcd0 (below1 w6.drew (.cells #[.int .i64 (at0 hh 0)] 3))
            have hdr := Ints.drop hih 1 (by omega)
            rw [Nat.zero_add] at hdr
            generalize hz0 : at0 hh 0 = z0 at *
            replace hz0 := Lib.hid hz0
            have hs1 : (1 : Int) ≤ (mh : Int) := by omega
            have hs0 : (0 : Int) < (mh : Int) := by omega
            have hs0n : 0 < mh := by omega
            by_cases hch : ch = 1
            · subst hch
              obtain rfl : mh = 1 := by omega
              have hli := Lib.hid (fun W (hb : Below w6.heap.size w6 W) => list_any W (.slice (some ⟨bh, 0, none⟩) 0 0) [] ⟨_, 0, rfl, Nat.le_refl _, Nat.zero_le _, (fun h => by cases h), fun i hi => absurd hi (by simp)⟩)
              have mixed : Try.prog.follows .mixedOrders = true := by kernel_rfl
              have hBA : Below w6.heap.size w6 (w6.alloc (.cells #[.int .i64 z0] 3)).drew := below_drewN (below1 w6 (.cells #[.int .i64 z0] 3)) 1
              have hBA := Lib.hid hBA
              have hqA := Lib.hid (show (w6.alloc (.cells #[.int .i64 z0] 3)).drew.cell? ⟨w6.heap.size, 0, none⟩ = some (.int .i64 z0) from one_cell (w := w6) (v := .int .i64 z0) (t := 3))
              have hcdA := cell_below hc0 hBA.out
              have hlx := Lib.hid (show ∀ q : List Int, (cut16 q).length ≤ 16 from cut16_len)
              go_wp2
              go_region_law_o
                (first
                  | (go_simp; go_at_call 39; first
                      | (refine (hli.out _ (drew_below w6)).mono ?_; rintro e w7 ⟨v7, rfl, ho7, hb7⟩; have ha7 := cell_below hcd0 hb7; obtain ⟨A7, n7, c7, rfl, hn7⟩ := OwnL.shape ho7; replace ho7 := Lib.hid ho7; have hb7 := Lib.hid ((drew_below w6).trans hb7))
                      | (refine (hli.out _ hBA.out).mono ?_; rintro e w7 ⟨v7, rfl, ho7, hb7⟩; have ha7 := cell_below hcdA hb7; have hq7 := cell_below hqA.out hb7; obtain ⟨A7, n7, c7, rfl, hn7⟩ := OwnL.shape ho7; replace ho7 := Lib.hid ho7; have hb7 := Lib.hid (bthen hBA.out hb7)))
                  | (refine step_append_any rfl (.tmp 105) (.tmp 109) 33 (by rfl) w6.heap.size Try.underlying33 info3 _ _ rfl (OwnL.lo_le ho7.out (by simp)) _ rfl [z0] (slc_one hq7 rfl) (by have h1 := hlx.out []; have h2 := hlx.out (hh.drop 1); simp only [List.length_cons, List.length_nil]; omega) hb7.out.size ?_; intro v' w' h1 h2; have hA := Lib.hid (show Any16 w' v' from ⟨_, OwnI.ints h1, by have h1 := hlx.out []; have h2 := hlx.out (hh.drop 1); simp only [List.length_append, List.length_cons, List.length_nil]; omega⟩); obtain ⟨A4, n4, c4, rfl, hn4⟩ := OwnL.shape h1; have hbf := Lib.hid (hb7.out.trans h2))
                  | (refine step_append_any rfl (.tmp 105) (.tmp 109) 33 (by rfl) w6.heap.size Try.underlying33 info3 _ _ rfl (OwnL.lo_le (OwnL.below ho7.out (Nat.le_refl _) (below1 _ _)) (by simp)) _ rfl [z0] (slc_one one_cell rfl) (by have h1 := hlx.out []; have h2 := hlx.out (hh.drop 1); simp only [List.length_cons, List.length_nil]; omega) (by have := hb7.out.size; simp; omega) ?_; intro v' w' h1 h2; have hA := Lib.hid (show Any16 w' v' from ⟨_, OwnI.ints h1, by have h1 := hlx.out []; have h2 := hlx.out (hh.drop 1); simp only [List.length_append, List.length_cons, List.length_nil]; omega⟩); obtain ⟨A4, n4, c4, rfl, hn4⟩ := OwnL.shape h1; have hbf := Lib.hid ((hb7.out.trans ((below1 w7 (.cells #[.int .i64 z0] 3)).mono hb7.out.size)).trans h2)))
              all_goals
                go_wp2
                go_roundw
                case rel => exact ⟨3, _, _, _, by omega, rfl, rfl, hA, Lib.hid (bthen hbJ.out hbf.out)⟩
                case measure => simp [intOf]
            · have hdr := Lib.hid hdr
              have hli := Lib.hid (fun W (hb : Below w6.heap.size w6 W) => list_any W _ (hh.drop 1) (Ints.below hdr.out (Nat.le_refl _) hb))
              have hchn : ¬ ch - 1 = 0 := by omega
              have mixed : Try.prog.follows .mixedOrders = true := by kernel_rfl
              have hBA : Below w6.heap.size w6 (w6.alloc (.cells #[.int .i64 z0] 3)).drew := below_drewN (below1 w6 (.cells #[.int .i64 z0] 3)) 1
              have hBA := Lib.hid hBA
              have hqA := Lib.hid (show (w6.alloc (.cells #[.int .i64 z0] 3)).drew.cell? ⟨w6.heap.size, 0, none⟩ = some (.int .i64 z0) from one_cell (w := w6) (v := .int .i64 z0) (t := 3))
              have hcdA := cell_below hc0 hBA.out
              have hlx := Lib.hid (show ∀ q : List Int, (cut16 q).length ≤ 16 from cut16_len)
              go_wp2
              go_region_law_o
                (first
                  | (go_simp; go_at_call 39; first
                      | (refine (hli.out _ (drew_below w6)).mono ?_; rintro e w7 ⟨v7, rfl, ho7, hb7⟩; have ha7 := cell_below hcd0 hb7; obtain ⟨A7, n7, c7, rfl, hn7⟩ := OwnL.shape ho7; replace ho7 := Lib.hid ho7; have hb7 := Lib.hid ((drew_below w6).trans hb7))
                      | (refine (hli.out _ hBA.out).mono ?_; rintro e w7 ⟨v7, rfl, ho7, hb7⟩; have ha7 := cell_below hcdA hb7; have hq7 := cell_below hqA.out hb7; obtain ⟨A7, n7, c7, rfl, hn7⟩ := OwnL.shape ho7; replace ho7 := Lib.hid ho7; have hb7 := Lib.hid (bthen hBA.out hb7)))
                  | (refine step_append_any rfl (.tmp 105) (.tmp 109) 33 (by rfl) w6.heap.size Try.underlying33 info3 _ _ rfl (OwnL.lo_le ho7.out (by simp)) _ rfl [z0] (slc_one hq7 rfl) (by have h1 := hlx.out []; have h2 := hlx.out (hh.drop 1); simp only [List.length_cons, List.length_nil]; omega) hb7.out.size ?_; intro v' w' h1 h2; have hA := Lib.hid (show Any16 w' v' from ⟨_, OwnI.ints h1, by have h1 := hlx.out []; have h2 := hlx.out (hh.drop 1); simp only [List.length_append, List.length_cons, List.length_nil]; omega⟩); obtain ⟨A4, n4, c4, rfl, hn4⟩ := OwnL.shape h1; have hbf := Lib.hid (hb7.out.trans h2))
                  | (refine step_append_any rfl (.tmp 105) (.tmp 109) 33 (by rfl) w6.heap.size Try.underlying33 info3 _ _ rfl (OwnL.lo_le (OwnL.below ho7.out (Nat.le_refl _) (below1 _ _)) (by simp)) _ rfl [z0] (slc_one one_cell rfl) (by have h1 := hlx.out []; have h2 := hlx.out (hh.drop 1); simp only [List.length_cons, List.length_nil]; omega) (by have := hb7.out.size; simp; omega) ?_; intro v' w' h1 h2; have hA := Lib.hid (show Any16 w' v' from ⟨_, OwnI.ints h1, by have h1 := hlx.out []; have h2 := hlx.out (hh.drop 1); simp only [List.length_append, List.length_cons, List.length_nil]; omega⟩); obtain ⟨A4, n4, c4, rfl, hn4⟩ := OwnL.shape h1; have hbf := Lib.hid ((hb7.out.trans ((below1 w7 (.cells #[.int .i64 z0] 3)).mono hb7.out.size)).trans h2)))
              all_goals
                go_wp2
                go_roundw
                case rel => exact ⟨3, _, _, _, by omega, rfl, rfl, hA, Lib.hid (bthen hbJ.out hbf.out)⟩
                case measure => simp [intOf]
          have hA := Lib.hid (show Any16 wr _ from ⟨_, his, by rw [nats_length]; have := (List.Sublist.length_le hsub'); have := hol.out; omega⟩)
          have hr1b : ((r : Int) == 1) = false := by simp; omega
          have hr2b : ((r : Int) == 2) = false := by simp; omega
          go_wp2
          go_roundw
          case rel => exact ⟨r + 1, _, _, _, by omega, by go_num, rfl, hA, hbI⟩
          case measure => simp [intOf]; omega
      obtain ⟨bo, oo, rfl, hco⟩ := hat5.out i hlti
      have hco := cell_below hco hB.out
      have hio : i < os.length := by rw [← hno'.out]; exact hlti
      have hstep := Lib.hid (show (so ++ [natAt os i]).Sublist (os.take (i + 1)) by
        rw [List.take_succ_eq_append_getElem hio, ← natAt_eq hio]
        exact List.Sublist.append hsub (List.Sublist.refl _))
      have hskip := Lib.hid (show so.Sublist (os.take (i + 1)) by
        rw [List.take_succ_eq_append_getElem hio]
        exact hsub.trans (List.sublist_append_left _ _))
      generalize natAt os i = a at *
      replace hso := Lib.hid hso
      replace hd := Lib.hid hd
      have hz5 : w5.heap.size ≤ wr.heap.size := hB.out.size
      clear hS
      by_cases hif : i < nf
      · obtain ⟨bf, of', rfl, hcf⟩ := hatf.out i (by rw [← hnf.out]; exact hif)
        have hcf := cell_below hcf (bthen hb0.out hbI.out)
        have hge : decide ((nf : Int) ≤ (i : Int)) = false := by simp; omega
        have hge2 : decide (nf ≤ i) = false := by simp; omega
        generalize at0 ofs i = z at *
        by_cases hz : z.tmod 3 = 0
        · have hzb : (z.tmod 3 == 0) = true := by simp [hz]
          go_wp2
          go_roundw
          case rel => exact ⟨i + 1, d, _, _, by omega, by go_num, rfl, Lib.hid ⟨so, hso.out, hskip.out, hd.out⟩, hB⟩
          case measure => simp [intOf]; omega
        · have hzb : (z.tmod 3 == 0) = false := by simp [hz]
          go_wp2_with (at_builtin; refine wpList_append_int rfl (.tmp 81) (.tmp 86) 33 rfl w5.heap.size 3 Try.underlying33 info3 _ _ rfl rfl hso.out rfl rfl (by rw [nats_length]; have := hd.out; omega) hz5 ?_; intro v' w4 ho4 hB4 hg4; obtain ⟨N4, C4', hv4, -⟩ := OwnL.open ho4 (by simp); rw [show (nats so ++ [((a : Nat) : Int)]).length = d + 1 by rw [List.length_append, nats_length, hd.out]; rfl] at hv4; subst hv4; replace ho4 := Lib.hid ho4; replace hB4 := Lib.hid hB4)
          go_roundw
          case rel => exact ⟨i + 1, d + 1, _, _, by omega, by go_num, rfl, Lib.hid ⟨so ++ [a], by rw [nats_append]; exact ho4.out, hstep.out, by rw [List.length_append, ← hd.out]; rfl⟩, Lib.hid (hB.out.trans hB4.out)⟩
          case measure => simp [intOf]; omega
      · have hge : (nf : Int) ≤ (i : Int) := by omega
        go_wp2_with (at_builtin; refine wpList_append_int rfl (.tmp 81) (.tmp 86) 33 rfl w5.heap.size 3 Try.underlying33 info3 _ _ rfl rfl hso.out rfl rfl (by rw [nats_length]; have := hd.out; omega) hz5 ?_; intro v' w4 ho4 hB4 hg4; obtain ⟨N4, C4', hv4, -⟩ := OwnL.open ho4 (by simp); rw [show (nats so ++ [((a : Nat) : Int)]).length = d + 1 by rw [List.length_append, nats_length, hd.out]; rfl] at hv4; subst hv4; replace ho4 := Lib.hid ho4; replace hB4 := Lib.hid hB4)
        go_roundw
        case rel => exact ⟨i + 1, d + 1, _, _, by omega, by go_num, rfl, Lib.hid ⟨so ++ [a], by rw [nats_append]; exact ho4.out, hstep.out, by rw [List.length_append, ← hd.out]; rfl⟩, Lib.hid (hB.out.trans hB4.out)⟩
        case measure => simp [intOf]; omega
end Go.Proofs.Ythnabheibacbcaa
