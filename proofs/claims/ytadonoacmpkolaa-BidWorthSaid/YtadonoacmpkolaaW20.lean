/- Gain, and the reference's With and Gain. -/
import Derived.Test.YtadonoacmpkolaaR5
import Derived.Test.YtadonoacmpkolaaW18
namespace Go.Proofs.Ytadonoacmpkolaa
open Go.RowKit
attribute [local go_sem high] walk_shl walk_shr walk_bit walk_rem walk_and walk_or walk_andNot

/-- what bidder 'who' gains by the offer 'of' -/
def gainF (m : Nat) (xs : List (List Int)) (who : Nat) (of : List Int) : Int :=
  at0 (rowAt xs who) (natAt (alloc (xs.set who of) (p2 m - 1)) who) - payAt m (xs.set who of) who

theorem Bids.set {m : Nat} {xs : List (List Int)} (h : Bids m xs) (who : Nat) {of : List Int} (ho : isBidB m of = true) : Bids m (xs.set who of) :=
  ⟨h.m1, h.m6, by rw [List.length_set]; exact h.l1, by rw [List.length_set]; exact h.l6, fun l hl => by
    rcases List.mem_or_eq_of_mem_set hl with h1 | h1
    · exact h.all l h1
    · rw [h1]; exact ho⟩

/-- rows that stand in a row of the call's own, themselves read in an elder world -/
theorem rowsOf {w w' : World} {lo : Nat} {v : Value} {xs : List (List Int)} (h : OwnL lo 27 (rowI w) w' v xs) (hB : Below w.heap.size w w') : Rows2 w' v xs :=
  Slc.keep (OwnL.slc h) (fun _ _ _ => ⟨trivial, rfl⟩) fun _ _ _ hc => Ints.below hc (Nat.le_refl _) hB

set_option maxHeartbeats 800000 in
theorem with_any (w : World) (v u : Value) (xs : List (List Int)) (of : List Int) (who : Nat) (h : Rows2 w v xs) (hu : Ints w u of) (hw : who < xs.length) (hl : xs.length ≤ 1000) :
    Calls Try.prog 61 #[v, .int .i64 (who : Int), u] w fun e w' => ∃ v', e = .returned v' ∧ Rows2 w' v' (xs.set who of) ∧ Below w.heap.size w w' := by
  have hh : Hid (Slc anyB (rowI w) w v xs) := h
  obtain ⟨A, n, cap, rfl, hn⟩ := Slc.shape h
  obtain ⟨B, nu, cu, rfl, hnu⟩ := Slc.shape hu
  replace hu := Lib.hid hu
  clear h
  go_enter Try.func61, Try.ntmps61
  go_wp2_with (at_builtin; refine wpList_append_slc _ rfl (.tmp 8) (.tmp 9) 22 rfl w.heap.size 27 Try.underlying22 info27 rfl (by omega) rowI_one _ [] rfl (own_nil _ _ _) _ rfl _ hh.out (by simp; omega) (Nat.le_refl _) ?_; intro v' w' h1 h2 h3 _; rw [List.nil_append] at h1; clear h3; obtain ⟨g, cap', rfl, _, _, hlc, hcm, hcell, hfr⟩ := OwnL.open h1 (by omega); obtain ⟨c9, hc9, _⟩ := hcell who hw; have hf9 := hfr who; clear hcell hfr; unfold maxLen at hcm; replace h1 := Lib.hid h1; replace h2 := Lib.hid h2)
  go_ret
  have hs := (OwnL.set h1.out who (.slice B nu cu) of hu.out).1
  have hB := h2.out.setCell (p := ⟨g, who, none⟩) (OwnL.lt h1.out g rfl).1 (.slice B nu cu)
  rw [List.length_set] at hs
  exact ⟨_, rfl, rowsOf hs hB, hB⟩
theorem told_rows {w w' : World} {g cap : Nat} {xs : List (List Int)} {c : Value} {of : List Int} (who : Nat) (h1 : OwnL w.heap.size 27 (rowI w) w' (.slice (some ⟨g, 0, none⟩) xs.length cap) xs) (h2 : Below w.heap.size w w') (hc : Ints w c of) :
    Rows2 (w'.setCell ⟨g, who, none⟩ c) (.slice (some ⟨g, 0, none⟩) xs.length cap) (xs.set who of) ∧ Below w.heap.size w (w'.setCell ⟨g, who, none⟩ c) := by
  have hs := (OwnL.set h1 who c of hc).1
  rw [List.length_set] at hs
  have hB := h2.setCell (p := ⟨g, who, none⟩) (OwnL.lt h1 g rfl).1 c
  exact ⟨rowsOf hs hB, hB⟩
theorem natAt_lt {m : Nat} (xs : List (List Int)) (i : Nat) : natAt (alloc xs (p2 m - 1)) i < p2 m := by
  have := alloc_le xs (p2 m - 1) i
  have := p2_pos m
  omega
theorem payAt_bd {m : Nat} {xs : List (List Int)} (h : Bids m xs) (i : Nat) (hi : i < xs.length) : -20000000 ≤ payAt m xs i ∧ payAt m xs i ≤ 20000000 := by
  have h1 := wts_bounds (xs.eraseIdx i) (fun b hb s => (h.ok b (List.mem_of_mem_eraseIdx hb)).2 s) (p2 m - 1)
  have h2 : ((xs.eraseIdx i).length : Int) ≤ 6 := by have := h.l6; rw [List.length_eraseIdx_of_lt hi]; omega
  have h3 := sumUpto_bd (ownsOf m xs) 1000000 (fun i => by have := ownsOf_bd h i; omega) xs.length
  have h4 := ownsOf_bd h i
  have h5 : (xs.length : Int) ≤ 6 := by have := h.l6; omega
  unfold payAt
  omega

set_option maxRecDepth 100000 in
set_option maxHeartbeats 1600000 in
theorem Gain_ok (w : World) (v u : Value) (xs : List (List Int)) (of : List Int) (m who : Nat) (h : Rows2 w v xs) (hu : Ints w u of) (hE : Bids m xs) (hw : who < xs.length) (ho : isBidB m of = true) :
    Calls Try.prog 35 #[.int .i64 (m : Int), v, .int .i64 (who : Int), u] w fun e w' => e = .returned (.tuple #[.int .i64 (gainF m xs who of), .int .i64 0]) ∧ Below w.heap.size w w' := by
  have hc := check_any w v xs m h
  rw [hE.check] at hc
  replace hc := Lib.hid hc
  have hi := fun w1 (hB : Below w.heap.size w w1) => isBid_any w1 u of m (Ints.below hu (Nat.le_refl _) hB) hE.m6
  rw [ho] at hi
  replace hi := Lib.hid hi
  have hcl := Lib.hid (fun w1 (hB : Below w.heap.size w w1) => clone_any w1 v xs (Rows2.below h (Nat.le_refl _) hB) (by have := hE.l6; omega))
  have hE2 := hE.set who ho
  have hpm := Lib.hid (fun W V hV => payments_any W V (xs.set who of) m hV hE2)
  have hpb := payAt_bd hE2 who (by rw [List.length_set]; exact hw)
  have hnat := natAt_lt (m := m) (xs.set who of) who
  have hrow := hE.row who hw
  have hvb := hrow.2 (natAt (alloc (xs.set who of) (p2 m - 1)) who)
  have hg : Hid (gainF m xs who of = at0 (rowAt xs who) (natAt (alloc (xs.set who of) (p2 m - 1)) who) - payAt m (xs.set who of) who) := rfl
  have hpa : Hid (at0 (paysOf m (xs.set who of)) who = payAt m (xs.set who of) who) := by
    show _ = _
    unfold paysOf
    rw [at0_tab, List.length_set, if_pos hw]
  have hpl : (paysOf m (xs.set who of)).length = xs.length := by unfold paysOf; rw [tab_length, List.length_set]
  have hal : (casts (alloc (xs.set who of) (p2 m - 1))).length = xs.length := by rw [casts_length, alloc_length, List.length_set]
  have hac := Lib.hid (at0_casts (alloc (xs.set who of) (p2 m - 1)) who)
  rw [hg.out]
  generalize natAt (alloc (xs.set who of) (p2 m - 1)) who = na at *
  generalize payAt m (xs.set who of) who = pa at *
  generalize paysOf m (xs.set who of) = ps at *
  generalize casts (alloc (xs.set who of) (p2 m - 1)) = ls at *
  obtain ⟨A, cap, rfl, hl, hcap, hn, hat⟩ := h.open
  obtain ⟨b1, o1, A1, cap1, rfl, hc1, hi1⟩ := hat who hw
  rw [hrow.1] at hc1
  obtain ⟨A3, cap3, e3, hl3, hcap3, _, hat3⟩ := hi1.open
  rw [hrow.1] at e3 hl3 hat3
  cases e3
  obtain ⟨b4, o4, rfl, hc4⟩ := hat3 na hnat
  generalize at0 (rowAt xs who) na = va at *
  obtain ⟨B, nu, cu, rfl, hnu⟩ := Slc.shape hu
  replace hu := Lib.hid hu
  clear hn h hat hi1 hat3 hE hE2 ho hrow hg
  unfold maxLen at hcap hcap3
  have hwr : IntKind.i64.wrap (va - pa) = va - pa := IntWalk.i64_in _ (by omega)
  clear hpb hvb
  replace hpl := Lib.hid hpl
  replace hal := Lib.hid hal
  go_enter Try.func35, Try.ntmps35
  go_wp2_with (first
    | (go_at_call 45; refine hc.out.mono ?_; rintro e w1 ⟨rfl, hB⟩; replace hB := Lib.hid hB)
    | (go_at_call 59; refine (hi.out _ hB.out).mono ?_; rintro e w2 ⟨rfl, rfl⟩)
    | (go_at_call 60; refine (hcl.out _ hB.out).mono ?_; rintro e w3 ⟨v3, rfl, h1, h2⟩; obtain ⟨g, cap', rfl, _, _, hlc, hcm, hcell, hfr⟩ := OwnL.open h1 (by omega); obtain ⟨c9, hc9, _⟩ := hcell who hw; have hf9 := hfr who; clear hcell hfr; unfold maxLen at hcm; obtain ⟨h5, h6⟩ := told_rows (c := .slice B nu cu) who h1 h2 (Ints.below hu.out (Nat.le_refl _) hB.out); replace h5 := Lib.hid h5; replace h6 := Lib.hid (bthen hB.out h6); clear h1 h2)
    | (go_at_call 53; refine (hpm.out _ _ h5.out).mono ?_; rintro e w5 ⟨v5, v6, rfl, h7, h8, hB5⟩; replace hB5 := Lib.hid (bthen h6.out hB5)))
  obtain ⟨g5, c5, rfl, _, _, hl5, hm5, hat5, _⟩ := OwnI.open h7 (by rw [hpl.out]; omega)
  obtain ⟨g6, c6, rfl, _, _, hl6, hm6, hat6, _⟩ := OwnI.open h8 (by rw [hal.out]; omega)
  have hd5 := hat5 who (by rw [hpl.out]; exact hw)
  have hd6 := hat6 who (by rw [hal.out]; exact hw)
  rw [hpa.out] at hd5
  rw [hac.out] at hd6
  clear hat5 hat6 h7 h8
  rw [hpl.out, hal.out]
  rw [hpl.out] at hl5
  rw [hal.out] at hl6
  unfold maxLen at hm5 hm6
  replace hc1 := (hB5.out.cell (p := ⟨b1, o1 + who, none⟩) (lt_of_cell hc1)).trans hc1
  replace hc4 := (hB5.out.cell (p := ⟨b4, o4 + na, none⟩) (lt_of_cell hc4)).trans hc4
  clear hc9 hf9 hcl hpm hi hc h5 h6 hB hu
  go_quiet (fail)
  go_wp2
  go_ret2
  exact ⟨rfl, below_drewN hB5.out _⟩

set_option maxRecDepth 100000 in
set_option maxHeartbeats 1600000 in
theorem rgain_any (w : World) (v u : Value) (xs : List (List Int)) (of : List Int) (m who : Nat) (h : Rows2 w v xs) (hu : Ints w u of) (hE : Bids m xs) (hw : who < xs.length) (ho : isBidB m of = true) :
    Calls Try.prog 37 #[.int .i64 (m : Int), v, .int .i64 (who : Int), u] w fun e w' => e = .returned (.int .i64 (gainF m xs who of)) ∧ Below w.heap.size w w' := by
  have hwi := Lib.hid (with_any w v u xs of who h hu hw (by have := hE.l6; omega))
  have hE2 := hE.set who ho
  have hbe := Lib.hid (fun W V hV => rbest_any W V (xs.set who of) m hV hE2)
  have hpm := Lib.hid (fun W V hV => rpayments_any W V (xs.set who of) m hV hE2)
  have hpb := payAt_bd hE2 who (by rw [List.length_set]; exact hw)
  have hnat := natAt_lt (m := m) (xs.set who of) who
  have hrow := hE.row who hw
  have hvb := hrow.2 (natAt (alloc (xs.set who of) (p2 m - 1)) who)
  have hg : Hid (gainF m xs who of = at0 (rowAt xs who) (natAt (alloc (xs.set who of) (p2 m - 1)) who) - payAt m (xs.set who of) who) := rfl
  have hpa : Hid (at0 (paysOf m (xs.set who of)) who = payAt m (xs.set who of) who) := by
    show _ = _
    unfold paysOf
    rw [at0_tab, List.length_set, if_pos hw]
  have hpl : (paysOf m (xs.set who of)).length = xs.length := by unfold paysOf; rw [tab_length, List.length_set]
  have hal : (casts (alloc (xs.set who of) (p2 m - 1))).length = xs.length := by rw [casts_length, alloc_length, List.length_set]
  have hac := Lib.hid (at0_casts (alloc (xs.set who of) (p2 m - 1)) who)
  rw [hg.out]
  generalize natAt (alloc (xs.set who of) (p2 m - 1)) who = na at *
  generalize payAt m (xs.set who of) who = pa at *
  generalize paysOf m (xs.set who of) = ps at *
  generalize casts (alloc (xs.set who of) (p2 m - 1)) = ls at *
  obtain ⟨A, cap, rfl, hl, hcap, hn, hat⟩ := h.open
  obtain ⟨b1, o1, A1, cap1, rfl, hc1, hi1⟩ := hat who hw
  rw [hrow.1] at hc1
  obtain ⟨A3, cap3, e3, hl3, hcap3, _, hat3⟩ := hi1.open
  rw [hrow.1] at e3 hl3 hat3
  cases e3
  obtain ⟨b4, o4, rfl, hc4⟩ := hat3 na hnat
  generalize at0 (rowAt xs who) na = va at *
  clear hn h hat hi1 hat3 hE hE2 ho hrow hg hu
  unfold maxLen at hcap hcap3
  have hwr : IntKind.i64.wrap (va - pa) = va - pa := IntWalk.i64_in _ (by omega)
  clear hpb hvb
  replace hpl := Lib.hid hpl
  replace hal := Lib.hid hal
  go_enter Try.func37, Try.ntmps37
  go_wp2_with (first
    | (go_at_call 61; refine hwi.out.mono ?_; rintro e w2 ⟨v2, rfl, hr2, hB2⟩; obtain ⟨A2, n2, c2, rfl, hn2⟩ := Slc.shape hr2; replace hr2 := Lib.hid hr2; replace hB2 := Lib.hid hB2))
  have hd1 := (hB2.out.cell (p := ⟨b1, o1 + who, none⟩) (lt_of_cell hc1)).trans hc1
  have hd4 := (hB2.out.cell (p := ⟨b4, o4 + na, none⟩) (lt_of_cell hc4)).trans hc4
  replace hr2 : Hid (Rows2 w2.drew (.slice A2 n2 c2) (xs.set who of)) := hr2.out.drewN 1
  replace hB2 : Hid (Below w.heap.size w w2.drew) := below_drewN hB2.out 1
  clear hwi hn2
  go_region_with (first
    | (go_at_call 30; refine (hbe.out _ _ hr2.out).mono ?_; rintro e w3 ⟨v3, rfl, h3, hB3⟩; obtain ⟨g6, c6, rfl, _, _, hl6, hm6, hat6, _⟩ := OwnI.open h3 (by rw [hal.out]; omega); have hd6 := hat6 who (by rw [hal.out]; exact hw); rw [hac.out] at hd6; clear hat6 h3; rw [hal.out] at hl6 ⊢; unfold maxLen at hm6; replace hr2 := Lib.hid (hr2.out.then hB3); replace hB3 := Lib.hid (bthen hB2.out hB3); replace hd4 := (hB3.out.cell (p := ⟨b4, o4 + na, none⟩) (lt_of_cell hc4)).trans hc4; replace hd1 := (hB3.out.cell (p := ⟨b1, o1 + who, none⟩) (lt_of_cell hc1)).trans hc1)
    | (go_at_call 31; refine (hpm.out _ _ hr2.out).mono ?_; rintro e w4 ⟨v4, rfl, h4, hB4⟩; obtain ⟨g5, c5, rfl, _, _, hl5, hm5, hat5, _⟩ := OwnI.open h4 (by rw [hpl.out]; omega); have hd5 := hat5 who (by rw [hpl.out]; exact hw); rw [hpa.out] at hd5; clear hat5 h4; rw [hpl.out] at hl5 ⊢; unfold maxLen at hm5; replace hd6 := (hB4.cell (p := ⟨g6, who, none⟩) (lt_of_cell hd6)).trans hd6; replace hB4 := Lib.hid (bthen hB3.out hB4); replace hd4 := (hB4.out.cell (p := ⟨b4, o4 + na, none⟩) (lt_of_cell hc4)).trans hc4; replace hd1 := (hB4.out.cell (p := ⟨b1, o1 + who, none⟩) (lt_of_cell hc1)).trans hc1))
  all_goals (
    go_wp2
    go_ret
    exact ⟨rfl, hB4.out⟩)
end Go.Proofs.Ytadonoacmpkolaa
