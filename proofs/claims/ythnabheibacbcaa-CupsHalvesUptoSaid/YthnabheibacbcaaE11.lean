/- CupsChecks: the walk. No condition. -/
import Derived.Test.YthnabheibacbcaaH1
namespace Go.Proofs.Ythnabheibacbcaa
open Go.RowKit Go.Shelf

theorem eqIn62 (d : Nat) (w : World) (a b c : Int) : (Op.equalIn (d + 1 + 1) 62 (.agg #[.int .i64 a, .int .i64 b, .int .i64 c]) (.agg #[.int .i64 a, .int .i64 b, .int .i64 c])).run Try.prog w = .ok true w := by
  rw [Op.equalIn]
  have h22 : Try.prog.underlying 62 = some (.array 3 3) := Try.underlying62
  have h3 : Try.prog.underlying 3 = some (.int .i64) := Try.underlying3
  have hs : ∀ w, (sizeOf 3).run Try.prog w = .ok 1 w := fun _ => by kernel_rfl
  have hp : ∀ i (x y z : Value) w, i < 3 → (part 3 #[x, y, z] i).run Try.prog w = .ok (if i = 0 then x else if i = 1 then y else z) w := fun i x y z w hi => by
    rcases i with _ | _ | _ | i
    · kernel_rfl
    · kernel_rfl
    · kernel_rfl
    · omega
  simp only [Sem.run_bind, run_underlying h22, Result.andThen_ok, hs, Std.Legacy.Range.forIn_eq_forIn_range', Std.Legacy.Range.size]
  have e1 := hp 0 (.int .i64 a) (.int .i64 b) (.int .i64 c)
  have e2 := hp 1 (.int .i64 a) (.int .i64 b) (.int .i64 c)
  have e3 := hp 2 (.int .i64 a) (.int .i64 b) (.int .i64 c)
  simp at e1 e2 e3
  simp [List.range', e1, e2, e3, run_equalIn_int _ _ _ _ _ _ _ h3]
theorem eql62 (w : World) (a b c : Int) : (binOp .eql 62 (.agg #[.int .i64 a, .int .i64 b, .int .i64 c]) (.agg #[.int .i64 a, .int .i64 b, .int .i64 c])).run Try.prog w = .ok (.bool true) w := by
  rw [run_eql_struct, eqIn62 9998]; rfl
theorem eql49 (w : World) : (binOp .eql 49 (.agg #[.int .i64 0, .int .i64 0, .int .i64 0, .int .i64 0]) (.agg #[.int .i64 0, .int .i64 0, .int .i64 0, .int .i64 0])).run Try.prog w = .ok (.bool true) w := by
  kernel_rfl
attribute [local go_sem high] eql62 eql49

set_option maxRecDepth 100000 in
set_option maxHeartbeats 40000000 in
theorem CupsChecks_ok (w : World) (v : Value) (l : List Pt) (h : Pts w v l) (hc : checkB (cut15 l) = true) :
    Calls Try.prog 11 #[v] w fun e w' => e = .returned (.bool true) ∧ Below w.heap.size w w' := by
  have hown := Lib.hid (own_any w v l h)
  obtain ⟨y, hy⟩ : ∃ y, cut15 l = y := ⟨_, rfl⟩
  rw [hy] at hc hown
  clear h hy
  have hok := Lib.hid (okL_of hc)
  have hE := Lib.hid (show checkE y = 0 by unfold checkE; rw [if_pos hc])
  have hc := Lib.hid hc
  rcases hr : lineOf y with _ | ⟨i, j, k⟩

  · have hr := Lib.hid hr
    go_enter Try.func11, Try.ntmps11
    go_wp2_with (first
      | (go_at_call 33; refine hown.out.mono ?_; rintro e w1 ⟨v1, rfl, ho, hb0⟩; obtain ⟨A1, n1, c1, rfl, hn1⟩ := OwnP.shape ho; have hp := Lib.hid (OwnP.pts ho); have hb0 := Lib.hid hb0; have hb := Lib.hid (Below.refl w1.heap.size w1); clear ho)
      | (go_at_call 35; refine (checkR_any _ _ y (hp.out.then hb.out)).mono ?_; rintro e w2 ⟨rfl, h2⟩; rw [hc.out]; replace hb := Lib.hid (bthen hb.out h2); clear h2)
      | (go_at_call 49; refine (General_ok _ _ y (hp.out.then hb.out) hc.out).mono ?_; rintro e w2 ⟨rfl, h2⟩; rw [hr.out]; unfold genV; replace hb := Lib.hid (bthen hb.out h2); clear h2)
      | (go_at_call 50; refine (lineR_any _ _ y (hp.out.then hb.out) hok.out).mono ?_; rintro e w2 ⟨rfl, h2⟩; rw [hr.out]; unfold lineRV; replace hb := Lib.hid (bthen hb.out h2); clear h2)
      | (go_at_call 51; refine (check_any _ _ y (hp.out.then (bthen hb.out (below1 _ _)))).mono ?_; rintro e w3 ⟨rfl, h3⟩; rw [hE.out]; obtain ⟨⟨d0, d1, d2⟩, _⟩ := ((Blk.new w2 62 #[.int .i64 0, .int .i64 0, .int .i64 0]).then h3).three; replace hb := Lib.hid (bthen (bthen hb.out (below1 _ _)) h3); clear h3)
      | (go_at_call 16; refine (awake_any _).mono ?_; rintro e w2 ⟨rfl, h2⟩; replace hb := Lib.hid (bthen hb.out h2); clear h2))
    go_ret
    exact ⟨rfl, bthen hb0.out hb.out⟩
  · have hr := Lib.hid hr
    go_enter Try.func11, Try.ntmps11
    go_wp2_with (first
      | (go_at_call 33; refine hown.out.mono ?_; rintro e w1 ⟨v1, rfl, ho, hb0⟩; obtain ⟨A1, n1, c1, rfl, hn1⟩ := OwnP.shape ho; have hp := Lib.hid (OwnP.pts ho); have hb0 := Lib.hid hb0; have hb := Lib.hid (Below.refl w1.heap.size w1); clear ho)
      | (go_at_call 35; refine (checkR_any _ _ y (hp.out.then hb.out)).mono ?_; rintro e w2 ⟨rfl, h2⟩; rw [hc.out]; replace hb := Lib.hid (bthen hb.out h2); clear h2)
      | (go_at_call 49; refine (General_ok _ _ y (hp.out.then hb.out) hc.out).mono ?_; rintro e w2 ⟨rfl, h2⟩; rw [hr.out]; unfold genV; replace hb := Lib.hid (bthen hb.out h2); clear h2)
      | (go_at_call 50; refine (lineR_any _ _ y (hp.out.then hb.out) hok.out).mono ?_; rintro e w2 ⟨rfl, h2⟩; rw [hr.out]; unfold lineRV; replace hb := Lib.hid (bthen hb.out h2); clear h2)
      | (go_at_call 51; refine (check_any _ _ y (hp.out.then (bthen hb.out (below1 _ _)))).mono ?_; rintro e w3 ⟨rfl, h3⟩; rw [hE.out]; obtain ⟨⟨d0, d1, d2⟩, _⟩ := ((Blk.new w2 62 #[.int .i64 (i : Int), .int .i64 (j : Int), .int .i64 (k : Int)]).then h3).three; replace hb := Lib.hid (bthen (bthen hb.out (below1 _ _)) h3); clear h3)
      | (go_at_call 16; refine (awake_any _).mono ?_; rintro e w2 ⟨rfl, h2⟩; replace hb := Lib.hid (bthen hb.out h2); clear h2))
    go_ret
    exact ⟨rfl, bthen hb0.out hb.out⟩
theorem Blk.four {w : World} {g t : Nat} {a b c d : Value} (h : Blk w g t #[a, b, c, d]) : w.cell? ⟨g, 0, none⟩ = some a ∧ w.cell? ⟨g, 1, none⟩ = some b ∧ w.cell? ⟨g, 2, none⟩ = some c ∧ w.cell? ⟨g, 3, none⟩ = some d :=
  ⟨by have := h.cell 0; simpa using this, by have := h.cell 1; simpa using this, by have := h.cell 2; simpa using this, by have := h.cell 3; simpa using this⟩

theorem Halve_a {w1 w2 : World} {v : Value} {y : List Pt} (hp : Pts w1 v y) (hb : Below w1.heap.size w1 w2) (hc : checkB y = false) :
    Calls Try.prog 34 #[v, .slice (some ⟨w2.heap.size, 0, none⟩) 1 1] (w2.alloc (.cells #[.int .i64 0, .int .i64 0] 22)) fun e w' => e = .returned (.tuple #[.agg #[.int .i64 0, .int .i64 0, .int .i64 0, .int .i64 0], .int .i64 90]) ∧ Below w1.heap.size w1 w' := by
  have hB := bthen hb (below1 w2 (.cells #[.int .i64 0, .int .i64 0] 22))
  have hl : Pts (w2.alloc (.cells #[.int .i64 0, .int .i64 0] 22)) (.slice (some ⟨w2.heap.size, 0, none⟩) 1 1) [(0, 0)] := pts_one (p := (0, 0)) (Blk.new w2 22 _)
  refine (Halve_bad _ _ _ y [(0, 0)] (hp.then hB) hl (by rw [hc]; rfl)).mono ?_
  rintro e w' ⟨he, h⟩
  exact ⟨he, bthen hB h⟩
theorem Halve_b {w1 w3 : World} {v : Value} {y : List Pt} (hp : Pts w1 v y) (hb : Below w1.heap.size w1 w3) (hc : checkB y = false) :
    Calls Try.prog 34 #[.slice (some ⟨w3.heap.size + 1, 0, none⟩) 1 1, v] ((w3.alloc (.cells #[.int .i64 0, .int .i64 0, .int .i64 0, .int .i64 0] 49)).alloc (.cells #[.int .i64 0, .int .i64 0] 22)) fun e w' => e = .returned (.tuple #[.agg #[.int .i64 0, .int .i64 0, .int .i64 0, .int .i64 0], .int .i64 90]) ∧ Below w1.heap.size w1 w' ∧ Blk w' w3.heap.size 49 #[.int .i64 0, .int .i64 0, .int .i64 0, .int .i64 0] := by
  obtain ⟨W, hW⟩ : ∃ W, w3.alloc (.cells #[.int .i64 0, .int .i64 0, .int .i64 0, .int .i64 0] 49) = W := ⟨_, rfl⟩
  have hz : W.heap.size = w3.heap.size + 1 := by rw [← hW]; simp
  have hB1 : Below w1.heap.size w1 W := by rw [← hW]; exact bthen hb (below1 _ _)
  have k : Blk W w3.heap.size 49 #[.int .i64 0, .int .i64 0, .int .i64 0, .int .i64 0] := by rw [← hW]; exact Blk.new _ _ _
  rw [hW, ← hz]
  have hB := bthen hB1 (below1 W (.cells #[.int .i64 0, .int .i64 0] 22))
  have hl : Pts (W.alloc (.cells #[.int .i64 0, .int .i64 0] 22)) (.slice (some ⟨W.heap.size, 0, none⟩) 1 1) [(0, 0)] := pts_one (p := (0, 0)) (Blk.new W 22 _)
  refine (Halve_bad _ _ _ [(0, 0)] y hl (hp.then hB) (by rw [hc, Bool.and_false])).mono ?_
  rintro e w' ⟨he, h⟩
  exact ⟨he, bthen hB h, (k.alloc _).then h⟩

set_option maxRecDepth 100000 in
set_option maxHeartbeats 40000000 in
theorem CupsChecks_bad (w : World) (v : Value) (l : List Pt) (h : Pts w v l) (hc : checkB (cut15 l) = false) :
    Calls Try.prog 11 #[v] w fun e w' => e = .returned (.bool true) ∧ Below w.heap.size w w' := by
  have hown := Lib.hid (own_any w v l h)
  obtain ⟨y, hy⟩ : ∃ y, cut15 l = y := ⟨_, rfl⟩
  rw [hy] at hc hown
  clear h hy

  have hE := Lib.hid (show checkE y = 90 by unfold checkE; rw [hc]; rfl)
  have hO := Lib.hid (show ∀ m, openE y m = 90 from fun m => by unfold openE; rw [hc]; rfl)
  have hc := Lib.hid hc
  go_enter Try.func11, Try.ntmps11
  go_wp2_with (first
    | (go_at_call 33; refine hown.out.mono ?_; rintro e w1 ⟨v1, rfl, ho, hb0⟩; obtain ⟨A1, n1, c1, rfl, hn1⟩ := OwnP.shape ho; have hp := Lib.hid (OwnP.pts ho); have hb0 := Lib.hid hb0; have hb := Lib.hid (Below.refl w1.heap.size w1); clear ho)
    | (go_at_call 35; refine (checkR_any _ _ y (hp.out.then hb.out)).mono ?_; rintro e w2 ⟨rfl, h2⟩; rw [hc.out]; replace hb := Lib.hid (bthen hb.out h2); clear h2)
    | (go_at_call 49; refine (General_bad _ _ y (hp.out.then hb.out) hc.out).mono ?_; rintro e w2 ⟨rfl, h2⟩; replace hb := Lib.hid (bthen hb.out h2); clear h2)
    | (go_at_call 18; refine (Cup_err _ _ y 90 (hp.out.then hb.out) (hO.out _) (.inl rfl)).mono ?_; rintro e w2 ⟨rfl, h2⟩; replace hb := Lib.hid (bthen hb.out h2); clear h2)
    | (go_at_call 19; refine (Cap_err _ _ y 90 (hp.out.then hb.out) (hO.out _) (.inl rfl)).mono ?_; rintro e w2 ⟨rfl, h2⟩; replace hb := Lib.hid (bthen hb.out h2); clear h2)
    | (go_at_call 46; refine (Polygon_err _ _ y 90 (hp.out.then hb.out) (hO.out _) (.inl rfl)).mono ?_; rintro e w2 ⟨rfl, h2⟩; replace hb := Lib.hid (bthen hb.out h2); clear h2)
    | (go_at_call 47; refine (Empty_err _ _ y 90 (hp.out.then hb.out) (hO.out _) (.inl rfl)).mono ?_; rintro e w2 ⟨rfl, h2⟩; replace hb := Lib.hid (bthen hb.out h2); clear h2)
    | (go_at_call 24; refine (Layers_err _ _ y 90 (hp.out.then hb.out) (hO.out _) (.inl rfl)).mono ?_; rintro e w2 ⟨rfl, h2⟩; replace hb := Lib.hid (bthen hb.out h2); clear h2)
    | (go_at_call 25; refine (Edges_err _ _ y 90 (hp.out.then hb.out) (hO.out _) (.inl rfl)).mono ?_; rintro e w2 ⟨rfl, h2⟩; replace hb := Lib.hid (bthen hb.out h2); clear h2)
    | (go_at_call 26; refine (Crossings_err _ _ y 90 (hp.out.then hb.out) (hO.out _) (.inl rfl)).mono ?_; rintro e w2 ⟨rfl, h2⟩; replace hb := Lib.hid (bthen hb.out h2); clear h2)
    | (go_at_call 27; refine (Squares_err _ _ y 90 (hp.out.then hb.out) (hO.out _) (.inl rfl)).mono ?_; rintro e w2 ⟨rfl, h2⟩; replace hb := Lib.hid (bthen hb.out h2); clear h2)
    | (go_at_call 34; refine (Halve_b hp.out hb3.out hc.out).mono ?_; rintro e w4 ⟨rfl, h4, k5⟩; have hb4 := Lib.hid h4; replace k5 := Lib.hid k5; clear h4)
    | (go_at_call 34; refine (Halve_a hp.out hb.out hc.out).mono ?_; rintro e w3 ⟨rfl, h3⟩; have hb3 := Lib.hid h3; clear h3)
    | (go_at_call 51; refine (check_any _ _ y (hp.out.then (bthen hb4.out (below1 _ _)))).mono ?_; rintro e w5 ⟨rfl, h5⟩; rw [hE.out]; obtain ⟨d0, d1, d2, d3⟩ := ((k5.out.alloc _).then h5).four; obtain ⟨d4, d5, d6, d7⟩ := ((Blk.new w4 49 #[.int .i64 0, .int .i64 0, .int .i64 0, .int .i64 0]).then h5).four; have hb5 := Lib.hid (bthen (bthen hb4.out (below1 _ _)) h5); clear h5)
    | (go_at_call 22; refine (IsCup_err _ _ y 90 _ _ _ (hp.out.then (bthen hb5.out (below1 _ _))) (hO.out _) (.inl rfl)).mono ?_; rintro e w6 ⟨rfl, h6⟩; replace hb5 := Lib.hid (bthen (bthen hb5.out (below1 _ _)) h6); clear h6)
    | (go_at_call 23; refine (IsCap_err _ _ y 90 _ _ _ (hp.out.then (bthen hb5.out (below1 _ _))) (hO.out _) (.inl rfl)).mono ?_; rintro e w6 ⟨rfl, h6⟩; replace hb5 := Lib.hid (bthen (bthen hb5.out (below1 _ _)) h6); clear h6)
    | (go_at_call 40; refine (IsPolygon_err _ _ y 90 _ _ _ (hp.out.then (bthen hb5.out (below1 _ _))) (hO.out _) (.inl rfl)).mono ?_; rintro e w6 ⟨rfl, h6⟩; replace hb5 := Lib.hid (bthen (bthen hb5.out (below1 _ _)) h6); clear h6)
    | (go_at_call 42; refine (IsEmpty_err _ _ y 90 _ _ _ (hp.out.then (bthen hb5.out (below1 _ _))) (hO.out _) (.inl rfl)).mono ?_; rintro e w6 ⟨rfl, h6⟩; replace hb5 := Lib.hid (bthen (bthen hb5.out (below1 _ _)) h6); clear h6)
    | (go_at_call 16; refine (awake_any _).mono ?_; rintro e w6 ⟨rfl, h6⟩; replace hb5 := Lib.hid (bthen hb5.out h6); clear h6))
  go_ret
  exact ⟨rfl, bthen hb0.out hb5.out⟩
theorem CupsChecks_walk (w : World) (v : Value) (l : List Pt) (h : Pts w v l) : Calls Try.prog 11 #[v] w fun e w' => e = .returned (.bool true) ∧ Below w.heap.size w w' := by
  by_cases hc : checkB (cut15 l) = true
  · exact CupsChecks_ok w v l h hc
  · exact CupsChecks_bad w v l h (by simpa using hc)
end Go.Proofs.Ythnabheibacbcaa
