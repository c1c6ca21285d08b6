/- Halve: its errors. No condition. -/
import Derived.Test.YthnabheibacbcaaE2
namespace Go.Proofs.Ythnabheibacbcaa
open Go.RowKit Go.Shelf

def z49 : Value := .agg #[.int .i64 0, .int .i64 0, .int .i64 0, .int .i64 0]
theorem blk4_set {w : World} {g t : Nat} {a b c d : Value} (h : Blk w g t #[a, b, c, d]) (a' b' c' d' : Value) :
    Blk ((((w.setCell ⟨g, 0, none⟩ a').setCell ⟨g, 1, none⟩ b').setCell ⟨g, 2, none⟩ c').setCell ⟨g, 3, none⟩ d') g t #[a', b', c', d'] := (((h.set 0 a').set 1 b').set 2 c').set 3 d'
theorem below4_set {B : Nat} {w0 w : World} (h : Below B w0 w) {g : Nat} (hg : B ≤ g) (a' b' c' d' : Value) :
    Below B w0 ((((w.setCell ⟨g, 0, none⟩ a').setCell ⟨g, 1, none⟩ b').setCell ⟨g, 2, none⟩ c').setCell ⟨g, 3, none⟩ d') := (((h.setCell hg _).setCell hg _).setCell hg _).setCell hg _
theorem ret34 {R : Ending → World → Prop} {w : World} {g : Nat} {a b c d : Value} (hk : Blk w g 49 #[a, b, c, d]) {tmps : Array Value} {E : Int}
    (h : R (.returned (.tuple #[.agg #[a, b, c, d], .int .i64 E])) w) (ht : tmps[4]? = some (.pointer (some ⟨g, 0, none⟩)) := by rfl) (ht5 : tmps[5]? = some (.int .i64 E) := by rfl) :
    bodyPost Try.prog Try.f34 R .ret { tmps := tmps, defers := [] } w := by
  have e0 := hk.cell 0
  have e1 := hk.cell 1
  have e2 := hk.cell 2
  have e3 := hk.cell 3
  simp at e0 e1 e2 e3
  refine bodyPost_ret (v := .tuple #[.agg #[a, b, c, d], .int .i64 E]) ?_ rfl h
  simp [results, Try.results34, go_sem, ht, ht5, e0, e1, e2, e3]
set_option maxRecDepth 100000 in
set_option maxHeartbeats 1000000 in
theorem Halve_bad (w : World) (v v2 : Value) (l m : List Pt) (h : Pts w v l) (h2 : Pts w v2 m) (hbad : (checkB l && checkB m) = false) :
    Calls Try.prog 34 #[v, v2] w fun e w' => e = .returned (.tuple #[z49, .int .i64 90]) ∧ Below w.heap.size w w' := by
  obtain ⟨A, n, cap, rfl, hn⟩ := h.shape
  obtain ⟨A2, n2, cap2, rfl, hn2⟩ := h2.shape
  obtain ⟨M, hM⟩ : ∃ M, w.heap.size = M := ⟨_, rfl⟩
  obtain ⟨W, hW⟩ : ∃ W, ((w.alloc (.cells #[.slice A2 n2 cap2] 31)).alloc (.cells #[.int .i64 0, .int .i64 0, .int .i64 0, .int .i64 0] 49)).alloc (.cells #[.slice A n cap, .slice A2 n2 cap2] 31) = W := ⟨_, rfl⟩
  obtain ⟨hB, hsz, k1, k2, k3⟩ := boxed3 w _ _ _ _ _ _ hW
  rw [hM] at hB hsz k1 k2 k3 ⊢
  have p1 := k1.cell 0
  have p3 := k3.cell 0
  have p4 := k3.cell 1
  simp at p1 p3 p4
  go_enter Try.func34, Try.ntmps34
  go_wp2
  have hl := Lib.hid (h.below (by rw [hM]; exact Nat.le_refl _) hB)
  have hm := Lib.hid (h2.below (by rw [hM]; exact Nat.le_refl _) hB)
  have k2 := Lib.hid k2
  have hB := Lib.hid hB
  clear h h2 k1 k3
  go_loopw [23] (fun c wr => ∃ i : Nat, i ≤ 2 ∧ c = .int .i64 (i : Int) ∧ (1 ≤ i → checkB l = true) ∧ (2 ≤ i → checkB m = true) ∧ Hid (Below W.heap.size W wr)) (fun c _ => 2 - (intOf c).toNat)
  case atStart => exact ⟨0, Nat.zero_le _, rfl, fun h => by omega, fun h => by omega, Below.refl _ _⟩
  case round =>
    obtain ⟨i, hi, rfl, c1, c2, hW2⟩ := hrel
    have q1 := cell_below p1 hW2.out
    have q3 := cell_below p3 hW2.out
    have q4 := cell_below p4 hW2.out
    have hck1 := Lib.hid (check_any wr _ l (hl.out.then hW2.out))
    have hck2 := Lib.hid (check_any wr _ m (hm.out.then hW2.out))
    rcases (show i = 0 ∨ i = 1 ∨ i = 2 by omega) with rfl | rfl | rfl
    · clear c1 c2
      by_cases hc : checkB l = true
      · have hE := Lib.hid (show checkE l = 0 by unfold checkE; rw [if_pos hc])
        go_wp2_with (go_at_call 51; refine hck1.out.mono ?_; rintro e w1 ⟨rfl, hb⟩; rw [hE.out]; replace hW2 := Lib.hid (bthen hW2.out hb))
        go_roundw
        case rel => exact ⟨1, by omega, rfl, fun _ => hc, fun h => by omega, hW2⟩
        case measure => simp [intOf]
      · have hE := Lib.hid (show checkE l = 90 by unfold checkE; rw [if_neg hc])
        go_wp2_with (go_at_call 51; refine hck1.out.mono ?_; rintro e w1 ⟨rfl, hb⟩; rw [hE.out]; replace hW2 := Lib.hid (bthen hW2.out hb); have r2 := (k2.out.then hW2.out); have f0 := r2.free 0; have f1 := r2.free 1; have f2 := r2.free 2; have f3 := r2.free 3; have e0 := r2.cell 0; have e1 := r2.cell 1; have e2 := r2.cell 2; have e3 := r2.cell 3; simp at e0 e1 e2 e3; replace r2 := Lib.hid r2)
        have r9 := Lib.hid (blk4_set r2.out (.int .i64 0) (.int .i64 0) (.int .i64 0) (.int .i64 0))
        have h9 := Lib.hid (below4_set (show Below M w w1 from hB.out.trans (hW2.out.mono (by omega))) (g := M + 1) (by omega) (.int .i64 0) (.int .i64 0) (.int .i64 0) (.int .i64 0))
        generalize (((w1.setCell ⟨M + 1, 0, none⟩ (.int .i64 0)).setCell ⟨M + 1, 1, none⟩ (.int .i64 0)).setCell ⟨M + 1, 2, none⟩ (.int .i64 0)).setCell ⟨M + 1, 3, none⟩ (.int .i64 0) = W9 at *
        exact ret34 r9.out ⟨rfl, h9.out⟩
    · have c1 := c1 (Nat.le_refl _)
      have hcm : checkB m = false := by rw [c1] at hbad; simpa using hbad
      have hE := Lib.hid (show checkE m = 90 by unfold checkE; rw [hcm]; rfl)
      clear c1 c2
      go_wp2_with (go_at_call 51; refine hck2.out.mono ?_; rintro e w1 ⟨rfl, hb⟩; rw [hE.out]; replace hW2 := Lib.hid (bthen hW2.out hb); have r2 := (k2.out.then hW2.out); have f0 := r2.free 0; have f1 := r2.free 1; have f2 := r2.free 2; have f3 := r2.free 3; have e0 := r2.cell 0; have e1 := r2.cell 1; have e2 := r2.cell 2; have e3 := r2.cell 3; simp at e0 e1 e2 e3; replace r2 := Lib.hid r2)
      have r9 := Lib.hid (blk4_set r2.out (.int .i64 0) (.int .i64 0) (.int .i64 0) (.int .i64 0))
      have h9 := Lib.hid (below4_set (show Below M w w1 from hB.out.trans (hW2.out.mono (by omega))) (g := M + 1) (by omega) (.int .i64 0) (.int .i64 0) (.int .i64 0) (.int .i64 0))
      generalize (((w1.setCell ⟨M + 1, 0, none⟩ (.int .i64 0)).setCell ⟨M + 1, 1, none⟩ (.int .i64 0)).setCell ⟨M + 1, 2, none⟩ (.int .i64 0)).setCell ⟨M + 1, 3, none⟩ (.int .i64 0) = W9 at *
      exact ret34 r9.out ⟨rfl, h9.out⟩
    · rw [c1 (by omega), c2 (by omega)] at hbad
      cases hbad
end Go.Proofs.Ythnabheibacbcaa
