/- tame: general points of any numbers. No condition. -/
import Derived.Test.YthnabheibacbcaaE1
import Derived.Test.YthnabheibacbcaaP1
import Derived.Shelf.RegionOpenPlain
namespace Go.Proofs.Ythnabheibacbcaa
open Go.RowKit Go.Shelf

set_option maxRecDepth 100000 in
set_option maxHeartbeats 2000000 in
theorem tame_any (w : World) (v : Value) (l : List Pt) (h : Pts w v l) (most W : Nat) (hm : 1 ≤ most) (hm2 : most ≤ 14) (hW : 1 ≤ W) (hW2 : W ≤ 1000) :
    Calls Try.prog 17 #[v, .int .i64 (most : Int), .int .i64 (W : Int)] w fun e w' => ∃ v' y, e = .returned v' ∧ OwnP w.heap.size w' v' y ∧ checkB y = true ∧ genB y = true ∧ y.length ≤ most ∧ Below w.heap.size w w' := by
  obtain ⟨A, n, cap, rfl, hn⟩ := h.shape
  obtain ⟨_, cap', e, hl, hcm, _, hat⟩ := h.open
  injection e with e1 e2 e3
  subst e1 e3
  unfold maxLen at hcm
  have hat := Lib.hid hat
  have hl' : n ≤ cap := by rw [e2]; exact hl
  have hh := Lib.hid h
  clear e2 hl h
  obtain ⟨M, hM⟩ : ∃ M, w.heap.size = M := ⟨_, rfl⟩
  rw [hM]
  go_enter Try.func17, Try.ntmps17
  go_wp2
  go_loopw [7, 8] (fun c7 c8 wr => ∃ (i : Nat) (y : List Pt) (A7 : Option Addr) (n7 C7 : Nat), i ≤ n ∧ c8 = .int .i64 (i : Int) ∧ c7 = .slice A7 n7 C7 ∧ n7 = y.length ∧ n7 ≤ most ∧ Hid (OwnP M wr (.slice A7 n7 C7) y) ∧ Hid (y = [] ∨ (checkB y = true ∧ genB y = true)) ∧ Hid (Below M w wr)) (fun _ c _ => n - (intOf c).toNat)
  case atStart => exact ⟨0, [], none, 0, 0, Nat.zero_le _, rfl, rfl, rfl, Nat.zero_le _, by unfold Hid; exact OwnP.nil _ _, Lib.hid (.inl rfl), Below.refl _ _⟩
  case round =>
    obtain ⟨i, y, A7, n7, C7, hi, rfl, rfl, hyn, hyl, hO, hg, hB⟩ := hrel
    have hy := Lib.hid hyn
    clear hyn
    by_cases hgo : i < n ∧ n7 < most
    case neg =>
      by_cases h0 : n7 = 0
      · have hy0 : y = [] := List.length_eq_zero_iff.1 (by rw [← hy.out]; exact h0)
        have hlt : ¬ i < n := fun h => hgo ⟨h, by omega⟩
        have hlt2 : ¬ (i : Int) < (n : Int) := by omega
        subst h0
        clear hgo
        go_wp2
        go_ret
        refine ⟨_, rfl, [(0, 0)], ?_, by decide, by decide, by simpa using hm, ?_⟩
        · have hz := hB.out.size
          rw [hM] at hz
          exact ⟨rfl, .inr ⟨_, 1, #[.int .i64 0, .int .i64 0], rfl, hz, heap_alloc_new wr _, Nat.le_refl _, by unfold maxLen; decide, rfl, rfl⟩⟩
        · exact hB.out.alloc (by have := hB.out.size; omega) _
      · have hr : checkB y = true ∧ genB y = true := by
          rcases hg.out with h | h
          · rw [h] at hy; exact absurd hy.out h0
          · exact h
        have hr := Lib.hid hr
        have hne : ((n7 : Int) == 0) = false := by simp; omega
        by_cases hlt : (i : Int) < (n : Int)
        · have hlt7 : ¬ (n7 : Int) < (most : Int) := fun h => hgo ⟨by omega, by omega⟩
          clear hgo
          go_wp2
          go_ret
          exact ⟨_, rfl, y, hO.out, hr.out.1, hr.out.2, by rw [← hy.out]; exact hyl, hB.out⟩
        · clear hgo
          go_wp2
          go_ret
          exact ⟨_, rfl, y, hO.out, hr.out.1, hr.out.2, by rw [← hy.out]; exact hyl, hB.out⟩
    obtain ⟨hlt, hlt7⟩ := hgo
    have hil : i < l.length := by rw [← hn.out]; exact hlt
    obtain ⟨b, o, rfl, hx0, hx1⟩ := hat.out i hil
    have q0 := cell_below hx0 (show Below w.heap.size w wr by rw [hM]; exact hB.out)
    have q1 := cell_below hx1 (show Below w.heap.size w wr by rw [hM]; exact hB.out)
    have q0' := cell_below q0 (below1 wr (.cells #[.int .i64 0, .int .i64 0] 22))
    have q1' := cell_below q1 (below1 wr (.cells #[.int .i64 0, .int .i64 0] 22))
    clear hx0 hx1
    generalize ptA l i = p at *
    obtain ⟨pa, pb⟩ := p
    go_wp2
    go_region
    generalize wrap64 (wrap64 ((IntKind.u64.wrap pa).tmod (2 * (W : Int) + 1)) - (W : Int)) = a'
    generalize wrap64 (wrap64 ((IntKind.u64.wrap pb).tmod (2 * (W : Int) + 1)) - (W : Int)) = b'
    have hd := (Blk.new wr 22 #[.int .i64 a', .int .i64 b']).two
    have hBd : Below wr.heap.size wr (wr.alloc (.cells #[.int .i64 a', .int .i64 b'] 22)).drew := below_drewN (below1 _ _) 1
    obtain ⟨wd, hwd⟩ : ∃ wd, (wr.alloc (.cells #[.int .i64 a', .int .i64 b'] 22)).drew = wd := ⟨_, rfl⟩
    obtain ⟨hd0, hd1⟩ : wd.cell? ⟨wr.heap.size, 0, none⟩ = some (.int .i64 a') ∧ wd.cell? ⟨wr.heap.size, 1, none⟩ = some (.int .i64 b') := by rw [← hwd]; exact hd
    rw [hwd] at hBd
    rw [hwd]
    clear hwd hd q0 q1 q0' q1'
    have hOd := Lib.hid (OwnP.below hO.out (Nat.le_refl _) hBd)
    have hBd := Lib.hid hBd
    obtain ⟨cb, hcb⟩ : ∃ cb, checkB (y ++ [(a', b')]) = cb := ⟨_, rfl⟩
    have hzw := hB.out.size
    rw [hM] at hzw
    have hzd := hBd.out.size
    cases cb with
    | false =>
      have hcb := Lib.hid hcb
      go_wp2_with (first
        | (at_builtin; refine wpList_append_pts _ rfl (.tmp 55) (.tmp 57) 31 rfl wd.heap.size Try.underlying31 info22 _ y rfl (hP1.out _) _ rfl [(a', b')] (pts_one (p := (a', b')) (Blk.new w1 22 _)) (by have := hy.out; simp; omega) (by simp; omega) ?_; intro v2 w2 h2 hb2 _ _; obtain ⟨A2, n2, c2, rfl, hn2⟩ := OwnP.shape h2; replace h2 := Lib.hid h2; have hb2 := Lib.hid ((hb1.out.trans ((below1 w1 (.cells #[.int .i64 a', .int .i64 b'] 22)).mono hz1)).trans hb2); have hbw := Lib.hid (bthen hBd.out hb2.out))
        | (at_builtin; refine wpList_append_pts _ rfl (.tmp 52) (.tmp 53) 31 rfl wd.heap.size Try.underlying31 info22 _ [] rfl (OwnP.nil _ _) _ rfl y hOd.out.pts (by have := hy.out; simp; omega) (Nat.le_refl _) ?_; intro v1 w1 h1 hb1 _ _; rw [List.nil_append] at h1; obtain ⟨A1, n1, c1, rfl, hn1⟩ := OwnP.shape h1; have hd0 := cell_below hd0 hb1; have hd1 := cell_below hd1 hb1; have hP1 := Lib.hid (fun o => OwnP.then h1 (below1 w1 o)); replace hb1 := Lib.hid hb1; have hz1 := hb1.out.size; clear h1)
        | (go_at_call 35; refine (checkR_any _ _ (y ++ [(a', b')]) h2.out.pts).mono ?_; rintro e w3 ⟨rfl, hb3⟩; rw [hcb.out]; have hb3 := Lib.hid (bthen hbw.out hb3)))
      go_roundw
      case rel => exact ⟨i + 1, y, _, _, _, by omega, by go_num, rfl, hy.out, hyl, Lib.hid (OwnP.below hO.out (Nat.le_refl _) hb3.out), hg, Lib.hid (hB.out.trans (hb3.out.mono hzw))⟩
      case measure => simp [intOf]; omega
    | true =>
      have hok := Lib.hid (okL_of hcb)
      obtain ⟨gb, hgb⟩ : ∃ gb, genB (y ++ [(a', b')]) = gb := ⟨_, rfl⟩
      have hcb := Lib.hid hcb
      cases gb with
      | false =>
        have hgb := Lib.hid hgb
        go_wp2_with (first
          | (at_builtin; refine wpList_append_pts _ rfl (.tmp 55) (.tmp 57) 31 rfl wd.heap.size Try.underlying31 info22 _ y rfl (hP1.out _) _ rfl [(a', b')] (pts_one (p := (a', b')) (Blk.new w1 22 _)) (by have := hy.out; simp; omega) (by simp; omega) ?_; intro v2 w2 h2 hb2 _ _; obtain ⟨A2, n2, c2, rfl, hn2⟩ := OwnP.shape h2; replace h2 := Lib.hid h2; have hb2 := Lib.hid ((hb1.out.trans ((below1 w1 (.cells #[.int .i64 a', .int .i64 b'] 22)).mono hz1)).trans hb2); have hbw := Lib.hid (bthen hBd.out hb2.out))
          | (at_builtin; refine wpList_append_pts _ rfl (.tmp 52) (.tmp 53) 31 rfl wd.heap.size Try.underlying31 info22 _ [] rfl (OwnP.nil _ _) _ rfl y hOd.out.pts (by have := hy.out; simp; omega) (Nat.le_refl _) ?_; intro v1 w1 h1 hb1 _ _; rw [List.nil_append] at h1; obtain ⟨A1, n1, c1, rfl, hn1⟩ := OwnP.shape h1; have hd0 := cell_below hd0 hb1; have hd1 := cell_below hd1 hb1; have hP1 := Lib.hid (fun o => OwnP.then h1 (below1 w1 o)); replace hb1 := Lib.hid hb1; have hz1 := hb1.out.size; clear h1)
          | (go_at_call 35; refine (checkR_any _ _ (y ++ [(a', b')]) h2.out.pts).mono ?_; rintro e w3 ⟨rfl, hb3⟩; rw [hcb.out]; have h3 := Lib.hid (OwnP.pts (OwnP.then h2.out hb3)); have hb3 := Lib.hid (bthen hbw.out hb3))
          | (go_at_call 36; refine (genR_any _ _ (y ++ [(a', b')]) h3.out hok.out).mono ?_; rintro e w4 ⟨rfl, hb4⟩; rw [hgb.out]; have hb4 := Lib.hid (bthen hb3.out hb4)))
        go_roundw
        case rel => exact ⟨i + 1, y, _, _, _, by omega, by go_num, rfl, hy.out, hyl, Lib.hid (OwnP.below hO.out (Nat.le_refl _) hb4.out), hg, Lib.hid (hB.out.trans (hb4.out.mono hzw))⟩
        case measure => simp [intOf]; omega
      | true =>
        have hgb := Lib.hid hgb
        go_wp2_with (first
          | (at_builtin; refine wpList_append_pts _ rfl (.tmp 55) (.tmp 57) 31 rfl wd.heap.size Try.underlying31 info22 _ y rfl (hP1.out _) _ rfl [(a', b')] (pts_one (p := (a', b')) (Blk.new w1 22 _)) (by have := hy.out; simp; omega) (by simp; omega) ?_; intro v2 w2 h2 hb2 _ _; obtain ⟨A2, n2, c2, rfl, hn2⟩ := OwnP.shape h2; replace h2 := Lib.hid h2; have hb2 := Lib.hid ((hb1.out.trans ((below1 w1 (.cells #[.int .i64 a', .int .i64 b'] 22)).mono hz1)).trans hb2); have hbw := Lib.hid (bthen hBd.out hb2.out))
          | (at_builtin; refine wpList_append_pts _ rfl (.tmp 52) (.tmp 53) 31 rfl wd.heap.size Try.underlying31 info22 _ [] rfl (OwnP.nil _ _) _ rfl y hOd.out.pts (by have := hy.out; simp; omega) (Nat.le_refl _) ?_; intro v1 w1 h1 hb1 _ _; rw [List.nil_append] at h1; obtain ⟨A1, n1, c1, rfl, hn1⟩ := OwnP.shape h1; have hd0 := cell_below hd0 hb1; have hd1 := cell_below hd1 hb1; have hP1 := Lib.hid (fun o => OwnP.then h1 (below1 w1 o)); replace hb1 := Lib.hid hb1; have hz1 := hb1.out.size; clear h1)
          | (go_at_call 35; refine (checkR_any _ _ (y ++ [(a', b')]) h2.out.pts).mono ?_; rintro e w3 ⟨rfl, hb3⟩; rw [hcb.out]; have h3 := Lib.hid (OwnP.then h2.out hb3); have hb3 := Lib.hid (bthen hbw.out hb3))
          | (go_at_call 36; refine (genR_any _ _ (y ++ [(a', b')]) h3.out.pts hok.out).mono ?_; rintro e w4 ⟨rfl, hb4⟩; rw [hgb.out]; have h4 := Lib.hid (OwnP.then h3.out hb4); have hb4 := Lib.hid (bthen hb3.out hb4)))
        go_roundw
        case rel => exact ⟨i + 1, y ++ [(a', b')], _, _, _, by omega, by go_num, rfl, hn2.out, by have := hn2.out; have := hy.out; simp at *; omega, Lib.hid (OwnP.lo_le h4.out (by omega)), Lib.hid (.inr ⟨hcb.out, hgb.out⟩), Lib.hid (hB.out.trans (hb4.out.mono hzw))⟩
        case measure => simp [intOf]; omega

/-- how wide the points of a law lie -/
theorem wide_nat (x : Int) : ∃ W : Nat, 1 + wrap64 ((IntKind.u64.wrap x).tmod 200) = (W : Int) ∧ 1 ≤ W ∧ W ≤ 200 := by
  have h0 : 0 ≤ IntKind.u64.wrap x := by
    unfold IntKind.wrap
    simp [IntKind.signed, IntKind.bits]
    omega
  have h1 : (IntKind.u64.wrap x).tmod 200 = (IntKind.u64.wrap x) % 200 := Int.tmod_eq_emod_of_nonneg h0
  have h2 : wrap64 ((IntKind.u64.wrap x) % 200) = (IntKind.u64.wrap x) % 200 := by unfold wrap64; omega
  rw [h1, h2]
  exact ⟨(1 + (IntKind.u64.wrap x) % 200).toNat, by omega, by omega, by omega⟩
end Go.Proofs.Ythnabheibacbcaa
