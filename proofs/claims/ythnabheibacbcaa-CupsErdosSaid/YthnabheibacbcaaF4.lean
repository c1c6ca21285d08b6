/- cups.isRow, IsCup, IsCap. No condition. -/
import Derived.Test.YthnabheibacbcaaF3
import Derived.Shelf.RegionOpenPlain
import Derived.Deep.Cut
import Derived.Deep.CutRange
namespace Go.Proofs.Ythnabheibacbcaa
open Go.RowKit Go.Shelf

theorem befB_cmp (p q : Pt) : befB p q = decide (cmpPt p q < 0) := by
  unfold befB
  rw [Bool.eq_iff_iff, decide_eq_true_eq, decide_eq_true_eq, cmpPt_neg]

theorem two_new (w : World) (t : Nat) (a b : Array Value) : Blk ((w.alloc (.cells a t)).alloc (.cells b t)).drew w.heap.size t a ∧ Blk ((w.alloc (.cells a t)).alloc (.cells b t)).drew (w.heap.size + 1) t b ∧ Below w.heap.size w ((w.alloc (.cells a t)).alloc (.cells b t)).drew :=
  ⟨(Blk.new w t a).alloc _, by have := Blk.new (w.alloc (.cells a t)) t b; rw [World.size_alloc] at this; exact this, below_drewN (bthen (below1 _ _) (below1 _ _)) 1⟩
set_option maxRecDepth 100000 in
set_option maxHeartbeats 2000000 in
theorem isRow_ok (w : World) (v vx : Value) (l : List Pt) (xs : List Int) (s : Int) (h : Pts w v l) (hc : checkB l = true) (hg : genB l = true) (hl2 : 2 ≤ l.length) (hx : Ints w vx xs) :
    Calls Try.prog 58 #[v, vx, .int .i8 s] w fun e w' => e = .returned (.bool (rowB l xs s)) ∧ Below w.heap.size w w' := by
  have hopen := Lib.hid (open_ok w v l 2 h hc hg (by omega))
  have hok := Lib.hid (okL_of hc)
  obtain ⟨A, n, cap, rfl, hn⟩ := h.shape
  obtain ⟨_, cap', e, hl, hcm, _, hat⟩ := h.open
  injection e with e1 e2 e3
  subst e1 e3
  unfold maxLen at hcm
  rw [← e2] at hl
  have hat := Lib.hid hat
  clear e2 h
  have hn14 : n ≤ 14 := by rw [hn.out]; exact (len_of hc).2
  obtain ⟨Ax, m, cx, rfl, hm⟩ := hx.shape
  obtain ⟨_, cap', e, hlx, hcmx, _, hatx⟩ := hx.open
  injection e with e1 e2 e3
  subst e1 e3
  unfold maxLen at hcmx
  rw [← e2] at hlx
  have hatx := Lib.hid hatx
  clear e2 hc hg
  by_cases h2 : m < 2
  · have hr := Lib.hid (rowB_short (l := l) (s := s) (show xs.length < 2 by rw [← hm.out]; exact h2))
    have h2' : (m : Int) < 2 := by omega
    go_enter Try.func58, Try.ntmps58
    go_wp2_with (go_at_call 54; refine hopen.out.mono ?_; rintro e w1 ⟨g, os, rfl, hg1, hord, hP, hb⟩; have hb := Lib.hid hb)
    go_ret
    exact ⟨ret_bool (by rw [hr.out]), hb.out⟩
  have h2' : ¬ (m : Int) < 2 := by omega
  have hidx := Lib.hid (fun W (hb : Below w.heap.size w W) g Al cl (hg : W.cell? ⟨g, 0, none⟩ = some (.slice Al n cl)) => areIndices_any W g Al n cl _ xs hg (Ints.below hx (Nat.le_refl _) hb))
  clear hx
  obtain ⟨ib, hib⟩ : ∃ ib, idxB n xs = ib := ⟨_, rfl⟩
  have hib := Lib.hid hib
  cases ib with
  | false =>
    have hr := Lib.hid (rowB_idx (l := l) (s := s) (show idxB l.length xs = false by rw [← hn.out]; exact hib.out))
    go_enter Try.func58, Try.ntmps58
    go_wp2_with (first
      | (go_at_call 54; refine hopen.out.mono ?_; rintro e w1 ⟨g, os, rfl, hg1, hord, hP, hb⟩; obtain ⟨v1, o1, hT, hp1, ho1⟩ := hP; obtain ⟨Al, nl, cl, rfl, hnl⟩ := hp1.shape; have hnl2 := (show nl = n by rw [hnl.out, hn.out]); subst hnl2; have hgl := hT.list; have hT := Lib.hid hT; have hb := Lib.hid hb; clear hp1 ho1)
      | (go_at_call 74; refine (hidx.out _ hb.out _ _ _ hgl).mono ?_; rintro e w2 ⟨rfl, rfl⟩; rw [hib.out]))
    go_ret
    exact ⟨ret_bool (by rw [hr.out]), hb.out⟩
  | true =>
    have hna := Lib.hid (fun k (hk : k < xs.length) => idx_at hib.out hk)
    go_enter Try.func58, Try.ntmps58
    go_wp2_with (first
      | (go_at_call 54; refine hopen.out.mono ?_; rintro e w1 ⟨g, os, rfl, hg1, hord, hP, hb⟩; obtain ⟨v1, o1, hT, hp1, ho1⟩ := hP; obtain ⟨Al, nl, cl, rfl, hnl⟩ := hp1.shape; have hnl2 := (show nl = n by rw [hnl.out, hn.out]); subst hnl2; have hgl := hT.list; have hT := Lib.hid hT; have hb := Lib.hid hb; clear hp1 ho1)
      | (go_at_call 74; refine (hidx.out _ hb.out _ _ _ hgl).mono ?_; rintro e w2 ⟨rfl, rfl⟩; rw [hib.out]))
    go_loopw [9] (fun c wr => ∃ k : Nat, 1 ≤ k ∧ k ≤ m ∧ c = .int .i64 (k : Int) ∧ Hid (∀ j, 1 ≤ j → j < k → stepB l xs s j = true) ∧ Hid (Below w1.heap.size w1 wr)) (fun c _ => m - (intOf c).toNat)
    case atStart => exact ⟨1, Nat.le_refl _, by omega, rfl, Lib.hid (fun j h1 hj => by omega), Below.refl _ _⟩
    case round =>
      obtain ⟨k, hk1, hk, rfl, hst, hB⟩ := hrel
      by_cases hlt : k < m
      case neg =>
        obtain rfl : k = m := by omega
        have hr := Lib.hid (rowB_good (l := l) (s := s) (show 2 ≤ xs.length by rw [← hm.out]; omega) (by rw [← hn.out]; exact hib.out) (fun j h1 hj => hst.out j h1 (by rw [hm.out]; exact hj)))
        go_wp2
        go_ret
        exact ⟨ret_bool (by rw [hr.out]), bthen hb.out hB.out⟩
      have hBw := Lib.hid (bthen hb.out hB.out)
      have hkx : k < xs.length := by rw [← hm.out]; exact hlt
      obtain ⟨bx, ox, rfl, hcb⟩ := hatx.out k hkx
      obtain ⟨bx', ox', e, hca⟩ := hatx.out (k - 1) (by omega)
      cases e
      obtain ⟨eb, hbl⟩ := hna.out k hkx
      obtain ⟨ea, hal⟩ := hna.out (k - 1) (by omega)
      have hfail := Lib.hid (fun hs => rowB_bad (l := l) (s := s) hkx hk1 hs)
      have hdf := Lib.hid (show stepB l xs s k = (befB (ptA l (nAt xs (k - 1))) (ptA l (nAt xs k)) && (decide (k ≤ 1) || decide (tur l (nAt xs (k - 2)) (nAt xs (k - 1)) (nAt xs k) = s))) from rfl)
      have hgood := Lib.hid (show stepB l xs s k = true → ∀ j, 1 ≤ j → j < k + 1 → stepB l xs s j = true from fun h j h1 hj => by
        rcases Nat.lt_or_ge j k with h2 | h2
        · exact hst.out j h1 h2
        · rw [show j = k by omega]; exact h)
      rw [eb] at hcb
      rw [ea] at hca
      obtain ⟨bp, op, rfl, hb0, hb1⟩ := hat.out (nAt xs k) (by rw [← hn.out]; exact hbl)
      obtain ⟨bp', op', e, ha0, ha1⟩ := hat.out (nAt xs (k - 1)) (by rw [← hn.out]; exact hal)
      cases e
      have hcb := cell_below hcb hBw.out
      have hca := cell_below hca hBw.out
      have hb0 := cell_below hb0 hBw.out
      have hb1 := cell_below hb1 hBw.out
      have ha0 := cell_below ha0 hBw.out
      have ha1 := cell_below ha1 hBw.out
      have hX := Lib.hid hcb
      have hX2 := Lib.hid hca
      generalize hnb : nAt xs k = nb at *
      generalize hnaa : nAt xs (k - 1) = na at *
      generalize hpb : ptA l nb = pb at *
      generalize hpa : ptA l na = pa at *
      obtain ⟨pa1, pa2⟩ := pa
      obtain ⟨pb1, pb2⟩ := pb
      have hnb := Lib.hid hnb
      have hnaa := Lib.hid hnaa
      have hpb := Lib.hid hpb
      have hpa := Lib.hid hpa
      dsimp only at ha0 ha1 hb0 hb1
      have hcb1 := cell_below hcb (below1 wr (.cells #[.int .i64 0, .int .i64 0] 22))
      have hcb2 := cell_below hcb1 (below1 _ (.cells #[.int .i64 0, .int .i64 0] 22))
      have hca1 := cell_below hca (below1 wr (.cells #[.int .i64 0, .int .i64 0] 22))
      have hca2 := cell_below hca1 (below1 _ (.cells #[.int .i64 0, .int .i64 0] 22))
      have hb01 := cell_below hb0 (below1 wr (.cells #[.int .i64 0, .int .i64 0] 22))
      have hb02 := cell_below hb01 (below1 _ (.cells #[.int .i64 0, .int .i64 0] 22))
      have hb11 := cell_below hb1 (below1 wr (.cells #[.int .i64 0, .int .i64 0] 22))
      have hb12 := cell_below hb11 (below1 _ (.cells #[.int .i64 0, .int .i64 0] 22))
      have ha01 := cell_below ha0 (below1 wr (.cells #[.int .i64 0, .int .i64 0] 22))
      have ha02 := cell_below ha01 (below1 _ (.cells #[.int .i64 0, .int .i64 0] 22))
      have ha11 := cell_below ha1 (below1 wr (.cells #[.int .i64 0, .int .i64 0] 22))
      have ha12 := cell_below ha11 (below1 _ (.cells #[.int .i64 0, .int .i64 0] 22))
      have hka : ((k : Int) - 1).toNat = k - 1 := by omega
      go_wp2
      go_cut [10, 11] from 36 (fun c10 c11 wx => ∃ Ba Bb : Nat, c10 = .pointer (some ⟨Ba, 0, none⟩) ∧ c11 = .pointer (some ⟨Bb, 0, none⟩) ∧ Hid (Blk wx Ba 22 #[.int .i64 pa1, .int .i64 pa2]) ∧ Hid (Blk wx Bb 22 #[.int .i64 pb1, .int .i64 pb2]) ∧ Hid (Below wr.heap.size wr wx))
      case first =>
        go_region
        all_goals go_wp2
        all_goals go_meet
        · exact ⟨_, _, rfl, rfl, Lib.hid (two_new _ _ _ _).1, Lib.hid (two_new _ _ _ _).2.1, Lib.hid (two_new _ _ _ _).2.2⟩
        · exact ⟨_, _, rfl, rfl, Lib.hid (two_new _ _ _ _).2.1, Lib.hid (two_new _ _ _ _).1, Lib.hid (two_new _ _ _ _).2.2⟩
      case rest =>
        obtain ⟨Ba, Bb, rfl, rfl, kA, kB, hBx⟩ := hcut
        clear hcb1 hcb2 hca1 hca2 hb01 hb02 hb11 hb12 ha01 ha02 ha11 ha12 hX hX2
        have hBc := Lib.hid (bthen hB.out hBx.out)
        have d1 := cell_below hca hBx.out
        have d2 := cell_below hcb hBx.out
        obtain ⟨pA0, pA1⟩ := kA.out.two
        obtain ⟨pB0, pB1⟩ := kB.out.two
        have hCmp := Lib.hid (fun q => compare2_any (wc.drewN q) Ba 0 2 Bb 0 2 (pa1, pa2) (pb1, pb2) (two_cells (w := wc.drewN q) pA0 pA1) (two_cells (w := wc.drewN q) pB0 pB1))
        have hTc := Lib.hid (hT.out.then hBc.out)
        obtain ⟨bb, hbb⟩ : ∃ bb, befB (pa1, pa2) (pb1, pb2) = bb := ⟨_, rfl⟩
        rw [hbb] at hdf
        rw [befB_cmp] at hbb
        clear hcb hca hb0 hb1 ha0 ha1
        by_cases hk2 : k ≤ 1
        · have hk3 : decide ((1 : Int) < (k : Int)) = false := by simp; omega
          have hk4 : decide (1 < k) = false := by simp; omega
          have hdk : decide (k ≤ 1) = true := by simp; omega
          rw [hdk, Bool.true_or] at hdf
          clear hdk
          cases bb with
          | false =>
            have hr := Lib.hid (hfail.out (by rw [hdf.out]; rfl))
            have hcm0 : ¬ cmpPt (pa1, pa2) (pb1, pb2) < 0 := by simpa using hbb
            have hcm1 : 0 ≤ cmpPt (pa1, pa2) (pb1, pb2) := by omega
            clear hfail hgood hdf hbb
            generalize cmpPt (pa1, pa2) (pb1, pb2) = cv at *
            go_wp2
            go_quiet ((go_at_call 81; exact Calls.quiet_of_same ((hCmp.out _).mono fun _ _ ⟨h1, h2⟩ => ⟨h1, h2.symm⟩)))
            go_wp2
            go_ret
            exact ⟨ret_bool (by rw [hr.out]), bthen hb.out (below_drewN hBc.out nq)⟩
          | true =>
            have hcm0 : cmpPt (pa1, pa2) (pb1, pb2) < 0 := by simpa using hbb
            have hcm1 : decide (0 ≤ cmpPt (pa1, pa2) (pb1, pb2)) = false := by simp; omega
            clear hbb
            generalize cmpPt (pa1, pa2) (pb1, pb2) = cv at *
            have hl2 := Lib.hid (hgood.out (by rw [hdf.out]; rfl))
            clear hfail hgood hdf
            go_wp2
            go_quiet ((go_at_call 81; exact Calls.quiet_of_same ((hCmp.out _).mono fun _ _ ⟨h1, h2⟩ => ⟨h1, h2.symm⟩)))
            go_wp2
            go_roundw
            case rel => exact ⟨k + 1, by omega, by omega, by go_num, hl2, Lib.hid (below_drewN hBc.out nq)⟩
            case measure => simp [intOf]; omega
        · obtain ⟨bx'', ox'', e, hcc⟩ := hatx.out (k - 2) (by omega)
          cases e
          obtain ⟨ec, hcl⟩ := hna.out (k - 2) (by omega)
          rw [ec] at hcc
          have d3 := cell_below hcc (bthen hb.out hBc.out)
          have hkc : ((k : Int) - 2).toNat = k - 2 := by omega
          have hk3 : (1 : Int) < (k : Int) := by omega
          have hdk : decide (k ≤ 1) = false := by simp; omega
          rw [hdk, Bool.false_or] at hdf
          clear hdk
          have hct := hTc.out.turn (nAt xs (k - 2)) na nb (by omega) (by omega) (by omega)
          have hnn := hn.out
          rw [if_pos ⟨by omega, by omega, by omega⟩] at hct
          clear hnn
          generalize tur l (nAt xs (k - 2)) na nb = T at *
          generalize nAt xs (k - 2) = nc at *
          cases bb with
          | false =>
            have hr := Lib.hid (hfail.out (by rw [hdf.out]; rfl))
            have hcm0 : ¬ cmpPt (pa1, pa2) (pb1, pb2) < 0 := by simpa using hbb
            have hcm1 : 0 ≤ cmpPt (pa1, pa2) (pb1, pb2) := by omega
            clear hfail hgood hdf hbb
            generalize cmpPt (pa1, pa2) (pb1, pb2) = cv at *
            go_wp2
            go_quiet ((go_at_call 81; exact Calls.quiet_of_same ((hCmp.out _).mono fun _ _ ⟨h1, h2⟩ => ⟨h1, h2.symm⟩)))
            go_wp2
            go_ret
            exact ⟨ret_bool (by rw [hr.out]), bthen hb.out (below_drewN hBc.out nq)⟩
          | true =>
            have hcm0 : cmpPt (pa1, pa2) (pb1, pb2) < 0 := by simpa using hbb
            have hcm1 : decide (0 ≤ cmpPt (pa1, pa2) (pb1, pb2)) = false := by simp; omega
            clear hbb
            generalize cmpPt (pa1, pa2) (pb1, pb2) = cv at *
            by_cases hTt : T = s
            · have hl2 := Lib.hid (hgood.out (by rw [hdf.out]; simp [hTt]))
              have hTs : (T == s) = true := by simp [hTt]
              clear hfail hgood hdf
              go_wp2
              go_quiet ((go_at_call 81; exact Calls.quiet_of_same ((hCmp.out _).mono fun _ _ ⟨h1, h2⟩ => ⟨h1, h2.symm⟩)))
              go_wp2
              go_roundw
              case rel => exact ⟨k + 1, by omega, by omega, by go_num, hl2, Lib.hid (below_drewN hBc.out nq)⟩
              case measure => simp [intOf]; omega
            · have hr := Lib.hid (hfail.out (by rw [hdf.out]; simp [hTt]))
              have hTs : (T == s) = false := by simp [hTt]
              clear hfail hgood hdf
              go_wp2
              go_quiet ((go_at_call 81; exact Calls.quiet_of_same ((hCmp.out _).mono fun _ _ ⟨h1, h2⟩ => ⟨h1, h2.symm⟩)))
              go_wp2
              go_ret
              exact ⟨ret_bool (by rw [hr.out]), bthen hb.out (below_drewN hBc.out nq)⟩

theorem IsCup_ok (w : World) (v vx : Value) (l : List Pt) (xs : List Int) (h : Pts w v l) (hc : checkB l = true) (hg : genB l = true) (hl2 : 2 ≤ l.length) (hx : Ints w vx xs) :
    Calls Try.prog 22 #[v, vx] w fun e w' => e = .returned (.bool (rowB l xs 1)) ∧ Below w.heap.size w w' := by
  have H := Lib.hid (isRow_ok w v vx l xs 1 h hc hg hl2 hx)
  clear h hx
  go_enter Try.func22, Try.ntmps22
  go_wp2_with (go_at_call 58; refine H.out.mono ?_; rintro e w1 ⟨rfl, hb⟩; replace hb := Lib.hid hb)
  go_ret
  exact ⟨rfl, hb.out⟩
theorem IsCap_ok (w : World) (v vx : Value) (l : List Pt) (xs : List Int) (h : Pts w v l) (hc : checkB l = true) (hg : genB l = true) (hl2 : 2 ≤ l.length) (hx : Ints w vx xs) :
    Calls Try.prog 23 #[v, vx] w fun e w' => e = .returned (.bool (rowB l xs (-1))) ∧ Below w.heap.size w w' := by
  have H := Lib.hid (isRow_ok w v vx l xs (-1) h hc hg hl2 hx)
  clear h hx
  go_enter Try.func23, Try.ntmps23
  go_wp2_with (go_at_call 58; refine H.out.mono ?_; rintro e w1 ⟨rfl, hb⟩; replace hb := Lib.hid hb)
  go_ret
  exact ⟨rfl, hb.out⟩
end Go.Proofs.Ythnabheibacbcaa
