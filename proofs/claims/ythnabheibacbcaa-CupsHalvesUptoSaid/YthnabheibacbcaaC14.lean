/- Cup, Cap; awake. No condition. -/
import Derived.Test.YthnabheibacbcaaC13
import Derived.Test.YthnabheibacbcaaD2
import Derived.Test.YthnabheibacbcaaA1
namespace Go.Proofs.Ythnabheibacbcaa
open Go.RowKit Go.Shelf

/-- a chain of places, as long as any -/
def BestRC (l : List Pt) (os : List Nat) (s : Int) (ps : List Nat) : Prop :=
  RC (tp l os) s ps ∧ (∀ d ∈ ps, d < os.length) ∧ ∀ ps', RC (tp l os) s ps' → (∀ d ∈ ps', d < os.length) → ps'.length ≤ ps.length

set_option maxHeartbeats 1000000 in
theorem Cup_ok (w : World) (v : Value) (l : List Pt) (h : Pts w v l) (hc : checkB l = true) (hg : genB l = true) (h2 : 2 ≤ l.length) :
    Calls Try.prog 18 #[v] w fun e w' => ∃ v' os ps, e = .returned (.tuple #[v', .int .i64 0]) ∧ Ordd l os ∧ OwnI w.heap.size 3 w' v' (nats ((ps.map (natAt os)).reverse)) ∧ BestRC l os 1 ps ∧ Below w.heap.size w w' := by
  have H := Lib.hid (open_ok w _ l 2 h hc hg (by omega))
  have hn14 : l.length ≤ 14 := by unfold checkB at hc; simp at hc; exact hc.1.2
  clear h hc hg
  go_enter Try.func18, Try.ntmps18
  go_wp2_with (first
    | (go_at_call 54; refine H.out.mono ?_; rintro e w1 ⟨g, os, rfl, hg1, hord, hP, hb⟩; have hz := hb.size; have hP := Lib.hid hP; have hord := Lib.hid hord; replace hb := Lib.hid hb)
    | (go_at_call 55; refine (longest_ok w1 g l os 1 (.inl rfl) hP.out hord.out h2 hn14).mono ?_; rintro e w2 ⟨v', ps, rfl, ho, q1, q2, q3, hb2⟩; replace ho := Lib.hid ho; have hq := Lib.hid (show BestRC l os 1 ps from ⟨q1, q2, q3⟩); replace hb2 := Lib.hid hb2; clear q1 q2 q3))
  go_ret2
  exact ⟨_, os, ps, rfl, hord.out, OwnL.lo_le ho.out (by omega), hq.out, bthen hb.out hb2.out⟩
set_option maxHeartbeats 1000000 in
theorem Cap_ok (w : World) (v : Value) (l : List Pt) (h : Pts w v l) (hc : checkB l = true) (hg : genB l = true) (h2 : 2 ≤ l.length) :
    Calls Try.prog 19 #[v] w fun e w' => ∃ v' os ps, e = .returned (.tuple #[v', .int .i64 0]) ∧ Ordd l os ∧ OwnI w.heap.size 3 w' v' (nats ((ps.map (natAt os)).reverse)) ∧ BestRC l os (-1) ps ∧ Below w.heap.size w w' := by
  have H := Lib.hid (open_ok w _ l 2 h hc hg (by omega))
  have hn14 : l.length ≤ 14 := by unfold checkB at hc; simp at hc; exact hc.1.2
  clear h hc hg
  go_enter Try.func19, Try.ntmps19
  go_wp2_with (first
    | (go_at_call 54; refine H.out.mono ?_; rintro e w1 ⟨g, os, rfl, hg1, hord, hP, hb⟩; have hz := hb.size; have hP := Lib.hid hP; have hord := Lib.hid hord; replace hb := Lib.hid hb)
    | (go_at_call 55; refine (longest_ok w1 g l os (-1) (.inr rfl) hP.out hord.out h2 hn14).mono ?_; rintro e w2 ⟨v', ps, rfl, ho, q1, q2, q3, hb2⟩; replace ho := Lib.hid ho; have hq := Lib.hid (show BestRC l os (-1) ps from ⟨q1, q2, q3⟩); replace hb2 := Lib.hid hb2; clear q1 q2 q3))
  go_ret2
  exact ⟨_, os, ps, rfl, hord.out, OwnL.lo_le ho.out (by omega), hq.out, bthen hb.out hb2.out⟩

theorem pts_lit {w : World} {g : Nat} {l : List Pt} {n : Nat} (hn : n = l.length) (h : Blk w g 22 (flat l).toArray) (hm : l.length ≤ 1000) : Pts w (.slice (some ⟨g, 0, none⟩) n n) l := by
  subst hn
  refine ⟨_, l.length, rfl, Nat.le_refl _, by unfold maxLen; omega, (fun h => by cases h), fun i hi => ⟨g, 0, rfl, ?_, ?_⟩⟩
  · rw [Nat.zero_add, h.cell, List.getElem?_toArray]; exact (flat_get l i hi).1
  · rw [Nat.zero_add, h.cell, List.getElem?_toArray]; exact (flat_get l i hi).2
theorem wA_sq : sqN wB [0, 2, 3, 1] (p2 wB.length) = 0 := by decide +kernel
theorem wC_line : lineOf wC = some (0, 1, 2) := by decide +kernel
theorem w_turn : trn (0, 0) (1, 0) (0, 1) = 1 := by decide +kernel
theorem wA_len : (tab ((wA.length - 2) / 2 + 1) (edgeC wA (linksL [0, 1, 2, 3]))) = [4, 2] := by decide +kernel
theorem w_nil : checkE [] = 90 := by decide +kernel

set_option maxRecDepth 100000 in
set_option maxHeartbeats 2000000 in
theorem awake_any (w : World) : Calls Try.prog 16 #[] w fun e w' => e = .returned (.bool true) ∧ Below w.heap.size w w' := by
  have hcup := Lib.hid (fun W v (h : Pts W v wA) => Cup_ok W v wA h wA_check wA_gen (by decide))
  have hcr := Lib.hid (fun W v (h : Pts W v wA) => Crossings_ok W v wA h wA_check wA_gen)
  have hed := Lib.hid (fun W v (h : Pts W v wA) => Edges_ok W v wA h wA_check wA_gen (by decide))
  have hsq := Lib.hid (fun W v (h : Pts W v wB) => Squares_ok W v wB h wB_check wB_gen)
  have hge := Lib.hid (fun W v (h : Pts W v wC) => General_ok W v wC h wC_check)
  have htu := Lib.hid (fun W => Turn_ok W (0, 0) (1, 0) (0, 1) (by unfold okP; decide) (by unfold okP; decide) (by unfold okP; decide))
  have hck := Lib.hid (fun W => check_any W (.slice none 0 0) [] ⟨none, 0, rfl, Nat.le_refl _, Nat.zero_le _, fun _ => rfl, fun i hi => absurd hi (by simp)⟩)
  obtain ⟨W0, hW0⟩ : ∃ W0, w.alloc (.cells #[.int .i64 0, .int .i64 0, .int .i64 1, .int .i64 1, .int .i64 2, .int .i64 0, .int .i64 3, .int .i64 1] 22) = W0 := ⟨_, rfl⟩
  have hB0 := Lib.hid (show Below w.heap.size w W0 by rw [← hW0]; exact below1 _ _)
  have hp0 := Lib.hid (show Pts W0 (.slice (some ⟨w.heap.size, 0, none⟩) 4 4) wA from pts_lit (l := wA) rfl (by rw [← hW0]; exact Blk.new w 22 _) (by decide))
  go_enter Try.func16, Try.ntmps16
  go_wp2_with (first
    | (go_at_call 18; refine (hcup.out _ _ hp0.out).mono ?_; rintro e w1 ⟨v1, os, ps, rfl, hord, ho1, hq, hb1⟩; obtain rfl := Ordd.unique hord wA_ord; have hps := (show ps.length = 3 from Nat.le_antisymm (wA_chain hq.1 hq.2.1) (hq.2.2 _ wA_three (by decide))); obtain ⟨A1, n1, c1, rfl, hn1⟩ := OwnL.shape ho1; have hn1' := hn1.out; rw [nats_length, List.length_reverse, List.length_map, hps] at hn1'; subst hn1'; replace hb1 := Lib.hid hb1; clear hq hord hps)
    | (go_at_call 26; refine (hcr.out _ _ (Pts.then hp0.out hb1.out)).mono ?_; rintro e w2 ⟨os, rfl, hord, hb2⟩; obtain rfl := Ordd.unique hord wA_ord; rw [wA_cross]; replace hb2 := Lib.hid (bthen hb1.out hb2))
    | (go_at_call 25; refine (hed.out _ _ (Pts.then hp0.out hb2.out)).mono ?_; rintro e w3 ⟨v3, os, rfl, hord, ho3, hb3⟩; obtain rfl := Ordd.unique hord wA_ord; rw [wA_len] at ho3; obtain ⟨g3, c3, rfl, hg3a, hg3b, _, _, hg3, _⟩ := OwnI.open ho3 (by decide); have d0 := hg3 0 (by decide); have d1 := hg3 1 (by decide); rw [show at0 [4, 2] 0 = 4 from rfl] at d0; rw [show at0 [4, 2] 1 = 2 from rfl] at d1; replace hb3 := Lib.hid (bthen hb2.out hb3); obtain ⟨W3, hW3⟩ : ∃ W3, w3.alloc (.cells #[.int .i64 0, .int .i64 0, .int .i64 4, .int .i64 0, .int .i64 0, .int .i64 4, .int .i64 1, .int .i64 1] 22) = W3 := ⟨_, rfl⟩; have hB3 := (show Below w3.heap.size w3 W3 by rw [← hW3]; exact below1 _ _); have hp3 := Lib.hid (show Pts W3 (.slice (some ⟨w3.heap.size, 0, none⟩) 4 4) wB from pts_lit (l := wB) rfl (by rw [← hW3]; exact Blk.new w3 22 _) (by decide)); replace hb3 := Lib.hid (bthen hb3.out hB3); replace d0 := cell_below d0 hB3; replace d1 := cell_below d1 hB3; clear hB3 hord hg3)
    | (go_at_call 27; refine (hsq.out _ _ hp3.out).mono ?_; rintro e w4 ⟨os, rfl, hord, hb4⟩; obtain rfl := Ordd.unique hord wB_ord; rw [wA_sq]; replace d0 := cell_below d0 hb4; replace d1 := cell_below d1 hb4; replace hb4 := Lib.hid (bthen hb3.out hb4))
    | (go_at_call 13; refine (htu.out _).mono ?_; rintro e w5 ⟨rfl, hb5⟩; rw [w_turn]; replace d0 := cell_below d0 hb5; replace d1 := cell_below d1 hb5; replace hb5 := Lib.hid (bthen hb4.out hb5); obtain ⟨W5, hW5⟩ : ∃ W5, w5.alloc (.cells #[.int .i64 0, .int .i64 0, .int .i64 1, .int .i64 1, .int .i64 2, .int .i64 2] 22) = W5 := ⟨_, rfl⟩; have hB5 := (show Below w5.heap.size w5 W5 by rw [← hW5]; exact below1 _ _); have hp5 := Lib.hid (show Pts W5 (.slice (some ⟨w5.heap.size, 0, none⟩) 3 3) wC from pts_lit (l := wC) rfl (by rw [← hW5]; exact Blk.new w5 22 _) (by decide)); replace hb5 := Lib.hid (bthen hb5.out hB5); replace d0 := cell_below d0 hB5; replace d1 := cell_below d1 hB5; clear hB5)
    | (go_at_call 49; refine (hge.out _ _ hp5.out).mono ?_; rintro e w6 ⟨rfl, hb6⟩; rw [wC_line]; unfold genV; replace d0 := cell_below d0 hb6; replace d1 := cell_below d1 hb6; replace hb6 := Lib.hid (bthen hb5.out hb6))
    | (go_at_call 51; refine (hck.out _).mono ?_; rintro e w7 ⟨rfl, hb7⟩; rw [w_nil]; replace hb7 := Lib.hid (bthen hb6.out hb7)))
  go_ret
  exact ⟨rfl, bthen hB0.out hb7.out⟩
end Go.Proofs.Ythnabheibacbcaa
