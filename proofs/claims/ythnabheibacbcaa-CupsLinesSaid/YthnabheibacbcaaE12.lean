/- CupsLines: the walk. No condition. -/
import Derived.Test.YthnabheibacbcaaE11
import Derived.Test.YthnabheibacbcaaH2
import Derived.Test.YthnabheibacbcaaP1
namespace Go.Proofs.Ythnabheibacbcaa
open Go.RowKit Go.Shelf
attribute [local go_sem high] eql49

theorem check999 : checkB [(1000, 999)] = true := by decide +kernel
theorem Halve_c {w1 w2 : World} {v : Value} {y : List Pt} (hp : Pts w1 v y) (hb : Below w1.heap.size w1 w2) (hc : checkB y = true) (hl : lineOf y ≠ none) :
    Calls Try.prog 34 #[v, .slice (some ⟨w2.heap.size, 0, none⟩) 1 1] (w2.alloc (.cells #[.int .i64 1000, .int .i64 999] 22)) fun e w' => e = .returned (.tuple #[.agg #[.int .i64 0, .int .i64 0, .int .i64 0, .int .i64 0], .int .i64 1]) ∧ Below w1.heap.size w1 w' := by
  have hB := bthen hb (below1 w2 (.cells #[.int .i64 1000, .int .i64 999] 22))
  have hm : Pts (w2.alloc (.cells #[.int .i64 1000, .int .i64 999] 22)) (.slice (some ⟨w2.heap.size, 0, none⟩) 1 1) [(1000, 999)] := pts_one (p := (1000, 999)) (Blk.new w2 22 _)
  refine (Halve_line _ _ _ y [(1000, 999)] (hp.then hB) hm hc check999 (lineOf_append _ hl)).mono ?_
  rintro e w' ⟨he, h⟩
  exact ⟨he, bthen hB h⟩

set_option maxRecDepth 100000 in
set_option maxHeartbeats 40000000 in
theorem CupsLines_a (w : World) (v : Value) (l : List Pt) (h : Pts w v l) (hc : checkB (cut15 l) = false) :
    Calls Try.prog 12 #[v] w fun e w' => e = .returned (.bool true) ∧ Below w.heap.size w w' := by
  have hown := Lib.hid (own_any w v l h)
  obtain ⟨y, hy⟩ : ∃ y, cut15 l = y := ⟨_, rfl⟩
  rw [hy] at hc hown
  clear h hy
  have hc := Lib.hid hc
  go_enter Try.func12, Try.ntmps12
  go_wp2_with (first
    | (go_at_call 33; refine hown.out.mono ?_; rintro e w1 ⟨v1, rfl, ho, hb0⟩; obtain ⟨A1, n1, c1, rfl, hn1⟩ := OwnP.shape ho; have hp := Lib.hid (OwnP.pts ho); have hb0 := Lib.hid hb0; have hb := Lib.hid (Below.refl w1.heap.size w1); clear ho)
    | (go_at_call 35; refine (checkR_any _ _ y (hp.out.then hb.out)).mono ?_; rintro e w2 ⟨rfl, h2⟩; rw [hc.out]; replace hb := Lib.hid (bthen hb.out h2); clear h2)
    | (go_at_call 16; refine (awake_any _).mono ?_; rintro e w2 ⟨rfl, h2⟩; replace hb := Lib.hid (bthen hb.out h2); clear h2))
  go_ret
  exact ⟨rfl, bthen hb0.out hb.out⟩
set_option maxRecDepth 100000 in
set_option maxHeartbeats 40000000 in
theorem CupsLines_b (w : World) (v : Value) (l : List Pt) (h : Pts w v l) (hc : checkB (cut15 l) = true) (hg : genB (cut15 l) = true) :
    Calls Try.prog 12 #[v] w fun e w' => e = .returned (.bool true) ∧ Below w.heap.size w w' := by
  have hown := Lib.hid (own_any w v l h)
  obtain ⟨y, hy⟩ : ∃ y, cut15 l = y := ⟨_, rfl⟩
  rw [hy] at hc hown
  rw [hy] at hg
  clear h hy
  have hok := Lib.hid (okL_of hc)
  have hc := Lib.hid hc
  have hg := Lib.hid hg
  go_enter Try.func12, Try.ntmps12
  go_wp2_with (first
    | (go_at_call 33; refine hown.out.mono ?_; rintro e w1 ⟨v1, rfl, ho, hb0⟩; obtain ⟨A1, n1, c1, rfl, hn1⟩ := OwnP.shape ho; have hp := Lib.hid (OwnP.pts ho); have hb0 := Lib.hid hb0; have hb := Lib.hid (Below.refl w1.heap.size w1); clear ho)
    | (go_at_call 35; refine (checkR_any _ _ y (hp.out.then hb.out)).mono ?_; rintro e w2 ⟨rfl, h2⟩; rw [hc.out]; replace hb := Lib.hid (bthen hb.out h2); clear h2)
    | (go_at_call 36; refine (genR_any _ _ y (hp.out.then hb.out) hok.out).mono ?_; rintro e w2 ⟨rfl, h2⟩; rw [hg.out]; replace hb := Lib.hid (bthen hb.out h2); clear h2)
    | (go_at_call 16; refine (awake_any _).mono ?_; rintro e w2 ⟨rfl, h2⟩; replace hb := Lib.hid (bthen hb.out h2); clear h2))
  go_ret
  exact ⟨rfl, bthen hb0.out hb.out⟩
set_option maxRecDepth 100000 in
set_option maxHeartbeats 40000000 in
theorem CupsLines_c (w : World) (v : Value) (l : List Pt) (h : Pts w v l) (hc : checkB (cut15 l) = true) (hg : genB (cut15 l) = false) :
    Calls Try.prog 12 #[v] w fun e w' => e = .returned (.bool true) ∧ Below w.heap.size w w' := by
  have hown := Lib.hid (own_any w v l h)
  obtain ⟨y, hy⟩ : ∃ y, cut15 l = y := ⟨_, rfl⟩
  rw [hy] at hc hown
  rw [hy] at hg
  clear h hy
  have hok := Lib.hid (okL_of hc)
  have hO := Lib.hid (show ∀ m, openE y m = 1 from fun m => by unfold openE; rw [if_pos hc, hg]; simp)
  have hl := Lib.hid (show lineOf y ≠ none by unfold genB at hg; intro e; rw [e] at hg; cases hg)
  have hc := Lib.hid hc
  have hg := Lib.hid hg
  go_enter Try.func12, Try.ntmps12
  go_wp2_with (first
    | (go_at_call 33; refine hown.out.mono ?_; rintro e w1 ⟨v1, rfl, ho, hb0⟩; obtain ⟨A1, n1, c1, rfl, hn1⟩ := OwnP.shape ho; have hp := Lib.hid (OwnP.pts ho); have hb0 := Lib.hid hb0; have hb := Lib.hid (Below.refl w1.heap.size w1); clear ho)
    | (go_at_call 35; refine (checkR_any _ _ y (hp.out.then hb.out)).mono ?_; rintro e w2 ⟨rfl, h2⟩; rw [hc.out]; replace hb := Lib.hid (bthen hb.out h2); clear h2)
    | (go_at_call 36; refine (genR_any _ _ y (hp.out.then hb.out) hok.out).mono ?_; rintro e w2 ⟨rfl, h2⟩; rw [hg.out]; replace hb := Lib.hid (bthen hb.out h2); clear h2)
    | (go_at_call 18; refine (Cup_err _ _ y 1 (hp.out.then hb.out) (hO.out _) (.inr rfl)).mono ?_; rintro e w2 ⟨rfl, h2⟩; replace hb := Lib.hid (bthen hb.out h2); clear h2)
    | (go_at_call 19; refine (Cap_err _ _ y 1 (hp.out.then hb.out) (hO.out _) (.inr rfl)).mono ?_; rintro e w2 ⟨rfl, h2⟩; replace hb := Lib.hid (bthen hb.out h2); clear h2)
    | (go_at_call 46; refine (Polygon_err _ _ y 1 (hp.out.then hb.out) (hO.out _) (.inr rfl)).mono ?_; rintro e w2 ⟨rfl, h2⟩; replace hb := Lib.hid (bthen hb.out h2); clear h2)
    | (go_at_call 47; refine (Empty_err _ _ y 1 (hp.out.then hb.out) (hO.out _) (.inr rfl)).mono ?_; rintro e w2 ⟨rfl, h2⟩; replace hb := Lib.hid (bthen hb.out h2); clear h2)
    | (go_at_call 24; refine (Layers_err _ _ y 1 (hp.out.then hb.out) (hO.out _) (.inr rfl)).mono ?_; rintro e w2 ⟨rfl, h2⟩; replace hb := Lib.hid (bthen hb.out h2); clear h2)
    | (go_at_call 25; refine (Edges_err _ _ y 1 (hp.out.then hb.out) (hO.out _) (.inr rfl)).mono ?_; rintro e w2 ⟨rfl, h2⟩; replace hb := Lib.hid (bthen hb.out h2); clear h2)
    | (go_at_call 26; refine (Crossings_err _ _ y 1 (hp.out.then hb.out) (hO.out _) (.inr rfl)).mono ?_; rintro e w2 ⟨rfl, h2⟩; replace hb := Lib.hid (bthen hb.out h2); clear h2)
    | (go_at_call 27; refine (Squares_err _ _ y 1 (hp.out.then hb.out) (hO.out _) (.inr rfl)).mono ?_; rintro e w2 ⟨rfl, h2⟩; replace hb := Lib.hid (bthen hb.out h2); clear h2)
    | (go_at_call 34; refine (Halve_c hp.out hb.out hc.out hl.out).mono ?_; rintro e w4 ⟨rfl, h4⟩; have hb4 := Lib.hid h4; obtain ⟨d4, d5, d6, d7⟩ := (Blk.new w4 49 #[.int .i64 0, .int .i64 0, .int .i64 0, .int .i64 0]).four; clear h4)
    | (go_at_call 22; refine (IsCup_err _ _ y 1 _ _ _ (hp.out.then (bthen (bthen hb4.out (below1 _ _)) (below1 _ _))) (hO.out _) (.inr rfl)).mono ?_; rintro e w6 ⟨rfl, h6⟩; have hb5 := Lib.hid (bthen (bthen (bthen hb4.out (below1 _ _)) (below1 _ _)) h6); clear h6)
    | (go_at_call 23; refine (IsCap_err _ _ y 1 _ _ _ (hp.out.then (bthen hb5.out (below1 _ _))) (hO.out _) (.inr rfl)).mono ?_; rintro e w6 ⟨rfl, h6⟩; replace hb5 := Lib.hid (bthen (bthen hb5.out (below1 _ _)) h6); clear h6)
    | (go_at_call 40; refine (IsPolygon_err _ _ y 1 _ _ _ (hp.out.then (bthen hb5.out (below1 _ _))) (hO.out _) (.inr rfl)).mono ?_; rintro e w6 ⟨rfl, h6⟩; replace hb5 := Lib.hid (bthen (bthen hb5.out (below1 _ _)) h6); clear h6)
    | (go_at_call 42; refine (IsEmpty_err _ _ y 1 _ _ _ (hp.out.then (bthen hb5.out (below1 _ _))) (hO.out _) (.inr rfl)).mono ?_; rintro e w6 ⟨rfl, h6⟩; replace hb5 := Lib.hid (bthen (bthen hb5.out (below1 _ _)) h6); clear h6)
    | (go_at_call 16; refine (awake_any _).mono ?_; rintro e w6 ⟨rfl, h6⟩; replace hb5 := Lib.hid (bthen hb5.out h6); clear h6))
  go_ret
  exact ⟨rfl, bthen hb0.out hb5.out⟩
theorem CupsLines_walk (w : World) (v : Value) (l : List Pt) (h : Pts w v l) : Calls Try.prog 12 #[v] w fun e w' => e = .returned (.bool true) ∧ Below w.heap.size w w' := by
  by_cases hc : checkB (cut15 l) = true
  · by_cases hg : genB (cut15 l) = true
    · exact CupsLines_b w v l h hc hg
    · exact CupsLines_c w v l h hc (by simpa using hg)
  · exact CupsLines_a w v l h (by simpa using hc)
end Go.Proofs.Ythnabheibacbcaa
