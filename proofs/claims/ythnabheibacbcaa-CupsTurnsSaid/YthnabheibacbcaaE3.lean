/- CupsTurns: the walk. No condition. -/
import Derived.Test.YthnabheibacbcaaC14
namespace Go.Proofs.Ythnabheibacbcaa
open Go.RowKit

set_option maxHeartbeats 1000000 in
theorem Turn_bad (w : World) (a b c : Pt) (hbad : (okB a && okB b && okB c) = false) :
    Calls Try.prog 13 #[pv a, pv b, pv c] w fun e w' => e = .returned (.tuple #[.int .i64 0, .int .i64 1]) ∧ Below w.heap.size w w' := by
  obtain ⟨a1, a2⟩ := a
  obtain ⟨b1, b2⟩ := b
  obtain ⟨c1, c2⟩ := c
  obtain ⟨W, hW⟩ : ∃ W, ((w.alloc (.cells #[I a1, I a2] 22)).alloc (.cells #[I b1, I b2] 22)).alloc (.cells #[I c1, I c2] 22) = W := ⟨_, rfl⟩
  obtain ⟨hB, hsz, k1, k2, k3⟩ := boxed3 w _ _ _ _ _ _ hW
  replace hB := Lib.hid hB
  clear hsz
  obtain ⟨p1, p2⟩ := k1.two
  obtain ⟨p3, p4⟩ := k2.two
  obtain ⟨p5, p6⟩ := k3.two
  have hcase : okB (a1, a2) = false ∨ (okB (a1, a2) = true ∧ okB (b1, b2) = false) ∨ (okB (a1, a2) = true ∧ okB (b1, b2) = true ∧ okB (c1, c2) = false) := by
    revert hbad
    cases okB (a1, a2) <;> cases okB (b1, b2) <;> simp
  clear hbad
  rcases hcase with e1 | ⟨e1, e2⟩ | ⟨e1, e2, e3⟩
  · replace e1 := Lib.hid e1
    go_enter Try.func13, Try.ntmps13
    go_wp2_with (go_at_call 52; refine (isPoint_any2 _ _ _).mono ?_; rintro e w1 ⟨rfl, h1⟩; rw [e1.out]; replace hB := Lib.hid (bthen hB.out h1))
    go_ret2
    exact ⟨rfl, hB.out⟩
  · replace e1 := Lib.hid e1
    replace e2 := Lib.hid e2
    go_enter Try.func13, Try.ntmps13
    go_wp2_with (go_at_call 52; refine (isPoint_any2 _ _ _).mono ?_; rintro e w1 ⟨rfl, h1⟩; (first | rw [e1.out] | rw [e2.out]); replace k1 := k1.then h1; replace k2 := k2.then h1; replace k3 := k3.then h1; replace hB := Lib.hid (bthen hB.out h1); clear h1; obtain ⟨p1, p2⟩ := k1.two; obtain ⟨p3, p4⟩ := k2.two; obtain ⟨p5, p6⟩ := k3.two)
    go_ret2
    exact ⟨rfl, hB.out⟩
  · replace e1 := Lib.hid e1
    replace e2 := Lib.hid e2
    replace e3 := Lib.hid e3
    go_enter Try.func13, Try.ntmps13
    go_wp2_with (go_at_call 52; refine (isPoint_any2 _ _ _).mono ?_; rintro e w1 ⟨rfl, h1⟩; (first | rw [e1.out] | rw [e2.out] | rw [e3.out]); replace k1 := k1.then h1; replace k2 := k2.then h1; replace k3 := k3.then h1; replace hB := Lib.hid (bthen hB.out h1); clear h1; obtain ⟨p1, p2⟩ := k1.two; obtain ⟨p3, p4⟩ := k2.two; obtain ⟨p5, p6⟩ := k3.two)
    go_ret2
    exact ⟨rfl, hB.out⟩

theorem Turn_all (w : World) (a1 a2 b1 b2 c1 c2 : Int) : Calls Try.prog 13 #[.agg #[.int .i64 a1, .int .i64 a2], .agg #[.int .i64 b1, .int .i64 b2], .agg #[.int .i64 c1, .int .i64 c2]] w fun e w' =>
    ∃ T E : Int, e = .returned (.tuple #[.int .i64 T, .int .i64 E]) ∧ ((okB (a1, a2) && okB (b1, b2) && okB (c1, c2)) = false → T = 0 ∧ E = 1) ∧ ((okB (a1, a2) && okB (b1, b2) && okB (c1, c2)) = true → T = trn (a1, a2) (b1, b2) (c1, c2) ∧ E = 0) ∧ Below w.heap.size w w' := by
  rcases h : (okB (a1, a2) && okB (b1, b2) && okB (c1, c2)) with _ | _
  · refine (Turn_bad w (a1, a2) (b1, b2) (c1, c2) h).mono ?_
    rintro e w1 ⟨rfl, hb⟩
    exact ⟨0, 1, rfl, fun _ => ⟨rfl, rfl⟩, fun h => (by cases h), hb⟩
  · simp only [Bool.and_eq_true] at h
    have ok : ∀ p, okB p = true → okP p := fun p h => of_decide_eq_true h
    refine (Turn_ok w (a1, a2) (b1, b2) (c1, c2) (ok _ h.1.1) (ok _ h.1.2) (ok _ h.2)).mono ?_
    rintro e w1 ⟨rfl, hb⟩
    exact ⟨_, 0, rfl, fun h => (by cases h), fun _ => ⟨rfl, rfl⟩, hb⟩


theorem blk_set0 {w : World} {g t : Nat} {a b : Value} (h : Blk w g t #[a, b]) (u : Value) : Blk (w.setCell ⟨g, 0, none⟩ u) g t #[u, b] := h.set 0 u
theorem blk_set1 {w : World} {g t : Nat} {a b : Value} (h : Blk w g t #[a, b]) (u : Value) : Blk (w.setCell ⟨g, 1, none⟩ u) g t #[a, u] := h.set 1 u

set_option maxRecDepth 100000 in
set_option maxHeartbeats 2000000 in
theorem CupsTurns_walk (w : World) (a b c : Pt) :
    Calls Try.prog 3 #[pv a, pv b, pv c] w fun e w' => e = .returned (.bool true) ∧ Below w.heap.size w w' := by
  obtain ⟨a1, a2⟩ := a
  obtain ⟨b1, b2⟩ := b
  obtain ⟨c1, c2⟩ := c
  have haw := Lib.hid awake_any
  obtain ⟨W, hW⟩ : ∃ W, ((w.alloc (.cells #[I a1, I a2] 22)).alloc (.cells #[I b1, I b2] 22)).alloc (.cells #[I c1, I c2] 22) = W := ⟨_, rfl⟩
  obtain ⟨hB, hsz, k1, k2, k3⟩ := boxed3 w _ _ _ _ _ _ hW
  obtain ⟨B, hBB⟩ : ∃ B, w.heap.size = B := ⟨_, rfl⟩
  rw [hBB] at hB hsz k1 k2 k3 ⊢
  replace hB := Lib.hid hB
  replace k1 := Lib.hid k1
  replace k2 := Lib.hid k2
  replace k3 := Lib.hid k3
  go_enter Try.func3, Try.ntmps3
  go_wp2
  go_loopw [7] (fun c7 wr => ∃ (r : Nat) (a1 a2 b1 b2 c1 c2 : Int), r ≤ 2 ∧ c7 = .int .i64 (r : Int) ∧ Hid (Blk wr B 22 #[.int .i64 a1, .int .i64 a2]) ∧ Hid (Blk wr (B + 1) 22 #[.int .i64 b1, .int .i64 b2]) ∧ Hid (Blk wr (B + 1 + 1) 22 #[.int .i64 c1, .int .i64 c2]) ∧ Hid (Below B w wr)) (fun c _ => 2 - (intOf c).toNat)
  case atStart => exact ⟨0, a1, a2, b1, b2, c1, c2, by omega, rfl, k1, k2, k3, hB⟩
  case round =>
    clear k1 k2 k3 hB hW hsz
    obtain ⟨r, a1, a2, b1, b2, c1, c2, hr, rfl, k1, k2, k3, hB⟩ := hrel
    by_cases hlt : r < 2
    case neg =>
      obtain rfl : r = 2 := by omega
      go_wp2_with (go_at_call 16; refine (haw.out _).mono ?_; rintro e w1 ⟨rfl, h1⟩; replace hB := Lib.hid (hB.out.trans (h1.mono (by have := hB.out.size; omega))))
      go_ret
      exact ⟨rfl, hB.out⟩
    obtain ⟨p1, p2⟩ := k1.out.two
    obtain ⟨p3, p4⟩ := k2.out.two
    obtain ⟨p5, p6⟩ := k3.out.two
    have hcase : okB (a1, a2) = false ∨ (okB (a1, a2) = true ∧ okB (b1, b2) = false) ∨ (okB (a1, a2) = true ∧ okB (b1, b2) = true ∧ okB (c1, c2) = false) ∨ (okB (a1, a2) = true ∧ okB (b1, b2) = true ∧ okB (c1, c2) = true) := by
      cases okB (a1, a2) <;> cases okB (b1, b2) <;> cases okB (c1, c2) <;> simp
    rcases hcase with e1 | ⟨e1, e2⟩ | ⟨e1, e2, e3⟩ | ⟨e1, e2, e3⟩
    · have hTa := Lib.hid (Turn_bad wr (a1, a2) (b1, b2) (c1, c2) (by simp [e1]))
      replace e1 := Lib.hid e1
      go_wp2_with (first
        | (go_at_call 13; refine hTa.out.mono ?_; rintro e w1 ⟨rfl, h1⟩; have k1 := Lib.hid (k1.out.then h1); have k2 := Lib.hid (k2.out.then h1); have k3 := Lib.hid (k3.out.then h1); have hB := Lib.hid (hB.out.trans (h1.mono (by have := hB.out.size; omega))); clear h1; obtain ⟨p1, p2⟩ := k1.out.two; obtain ⟨p3, p4⟩ := k2.out.two; obtain ⟨p5, p6⟩ := k3.out.two)
        | (go_at_call 14; refine (place_any2 _ _ _).mono ?_; rintro e w1 ⟨rfl, h1⟩; (first | rw [e1.out]); have k1 := Lib.hid (k1.out.then h1); have k2 := Lib.hid (k2.out.then h1); have k3 := Lib.hid (k3.out.then h1); have hB := Lib.hid (hB.out.trans (h1.mono (by have := hB.out.size; omega))); clear h1; obtain ⟨p1, p2⟩ := k1.out.two; obtain ⟨p3, p4⟩ := k2.out.two; obtain ⟨p5, p6⟩ := k3.out.two))
      clear hTa
      go_loopw [10] (fun c10 wr => ∃ (i : Nat) (a1 a2 b1 b2 c1 c2 : Int), i ≤ 2 ∧ c10 = .int .i64 (i : Int) ∧ Hid (Blk wr B 22 #[.int .i64 a1, .int .i64 a2]) ∧ Hid (Blk wr (B + 1) 22 #[.int .i64 b1, .int .i64 b2]) ∧ Hid (Blk wr (B + 1 + 1) 22 #[.int .i64 c1, .int .i64 c2]) ∧ Hid (Below B w wr)) (fun c _ => 2 - (intOf c).toNat)
      case atStart => exact ⟨0, _, _, _, _, _, _, by omega, rfl, k1, k2, k3, hB⟩
      case round =>
        clear k1 k2 k3 hB p1 p2 p3 p4 p5 p6
        obtain ⟨i, x1, x2, y1, y2, z1, z2, hi, rfl, k1, k2, k3, hB⟩ := hrel
        by_cases hi2 : i < 2
        case neg =>
          obtain rfl : i = 2 := by omega
          go_wp2
          go_roundw
          case rel => exact ⟨r + 1, _, _, _, _, _, _, by omega, by go_num, k1, k2, k3, hB⟩
          case measure => simp [intOf]; omega
        obtain ⟨p1, p2⟩ := k1.out.two
        obtain ⟨p3, p4⟩ := k2.out.two
        obtain ⟨p5, p6⟩ := k3.out.two
        have f1 := k1.out.free 0
        have f2 := k1.out.free 1
        have f3 := k2.out.free 0
        have f4 := k2.out.free 1
        have f5 := k3.out.free 0
        have f6 := k3.out.free 1
        have hi01 : i = 0 ∨ i = 1 := by omega
        clear hi hi2
        rcases hi01 with rfl | rfl
        · go_wp2
          go_roundw
          case rel =>
            exact ⟨1, _, _, _, _, _, _, by omega, rfl,
              Lib.hid (((blk_set0 k1.out _).far (p := ⟨B + 1, 0, none⟩) (by dsimp only; omega) _).far (p := ⟨B + 1 + 1, 0, none⟩) (by dsimp only; omega) _),
              Lib.hid ((blk_set0 (k2.out.far (p := ⟨B, 0, none⟩) (by dsimp only; omega) _) _).far (p := ⟨B + 1 + 1, 0, none⟩) (by dsimp only; omega) _),
              Lib.hid (blk_set0 ((k3.out.far (p := ⟨B, 0, none⟩) (by dsimp only; omega) _).far (p := ⟨B + 1, 0, none⟩) (by dsimp only; omega) _) _),
              Lib.hid (((hB.out.setCell (p := ⟨B, 0, none⟩) (Nat.le_refl _) _).setCell (p := ⟨B + 1, 0, none⟩) (by dsimp only; omega) _).setCell (p := ⟨B + 1 + 1, 0, none⟩) (by dsimp only; omega) _)⟩
          case measure => simp [intOf]
        · go_wp2
          go_roundw
          case rel =>
            exact ⟨2, _, _, _, _, _, _, by omega, rfl,
              Lib.hid (((blk_set1 k1.out _).far (p := ⟨B + 1, 1, none⟩) (by dsimp only; omega) _).far (p := ⟨B + 1 + 1, 1, none⟩) (by dsimp only; omega) _),
              Lib.hid ((blk_set1 (k2.out.far (p := ⟨B, 1, none⟩) (by dsimp only; omega) _) _).far (p := ⟨B + 1 + 1, 1, none⟩) (by dsimp only; omega) _),
              Lib.hid (blk_set1 ((k3.out.far (p := ⟨B, 1, none⟩) (by dsimp only; omega) _).far (p := ⟨B + 1, 1, none⟩) (by dsimp only; omega) _) _),
              Lib.hid (((hB.out.setCell (p := ⟨B, 1, none⟩) (Nat.le_refl _) _).setCell (p := ⟨B + 1, 1, none⟩) (by dsimp only; omega) _).setCell (p := ⟨B + 1 + 1, 1, none⟩) (by dsimp only; omega) _)⟩
          case measure => simp [intOf]
    · have hTa := Lib.hid (Turn_bad wr (a1, a2) (b1, b2) (c1, c2) (by simp [e1, e2]))
      replace e1 := Lib.hid e1
      replace e2 := Lib.hid e2
      go_wp2_with (first
        | (go_at_call 13; refine hTa.out.mono ?_; rintro e w1 ⟨rfl, h1⟩; have k1 := Lib.hid (k1.out.then h1); have k2 := Lib.hid (k2.out.then h1); have k3 := Lib.hid (k3.out.then h1); have hB := Lib.hid (hB.out.trans (h1.mono (by have := hB.out.size; omega))); clear h1; obtain ⟨p1, p2⟩ := k1.out.two; obtain ⟨p3, p4⟩ := k2.out.two; obtain ⟨p5, p6⟩ := k3.out.two)
        | (go_at_call 14; refine (place_any2 _ _ _).mono ?_; rintro e w1 ⟨rfl, h1⟩; (first | rw [e1.out] | rw [e2.out]); have k1 := Lib.hid (k1.out.then h1); have k2 := Lib.hid (k2.out.then h1); have k3 := Lib.hid (k3.out.then h1); have hB := Lib.hid (hB.out.trans (h1.mono (by have := hB.out.size; omega))); clear h1; obtain ⟨p1, p2⟩ := k1.out.two; obtain ⟨p3, p4⟩ := k2.out.two; obtain ⟨p5, p6⟩ := k3.out.two))
      clear hTa
      go_loopw [10] (fun c10 wr => ∃ (i : Nat) (a1 a2 b1 b2 c1 c2 : Int), i ≤ 2 ∧ c10 = .int .i64 (i : Int) ∧ Hid (Blk wr B 22 #[.int .i64 a1, .int .i64 a2]) ∧ Hid (Blk wr (B + 1) 22 #[.int .i64 b1, .int .i64 b2]) ∧ Hid (Blk wr (B + 1 + 1) 22 #[.int .i64 c1, .int .i64 c2]) ∧ Hid (Below B w wr)) (fun c _ => 2 - (intOf c).toNat)
      case atStart => exact ⟨0, _, _, _, _, _, _, by omega, rfl, k1, k2, k3, hB⟩
      case round =>
        clear k1 k2 k3 hB p1 p2 p3 p4 p5 p6
        obtain ⟨i, x1, x2, y1, y2, z1, z2, hi, rfl, k1, k2, k3, hB⟩ := hrel
        by_cases hi2 : i < 2
        case neg =>
          obtain rfl : i = 2 := by omega
          go_wp2
          go_roundw
          case rel => exact ⟨r + 1, _, _, _, _, _, _, by omega, by go_num, k1, k2, k3, hB⟩
          case measure => simp [intOf]; omega
        obtain ⟨p1, p2⟩ := k1.out.two
        obtain ⟨p3, p4⟩ := k2.out.two
        obtain ⟨p5, p6⟩ := k3.out.two
        have f1 := k1.out.free 0
        have f2 := k1.out.free 1
        have f3 := k2.out.free 0
        have f4 := k2.out.free 1
        have f5 := k3.out.free 0
        have f6 := k3.out.free 1
        have hi01 : i = 0 ∨ i = 1 := by omega
        clear hi hi2
        rcases hi01 with rfl | rfl
        · go_wp2
          go_roundw
          case rel =>
            exact ⟨1, _, _, _, _, _, _, by omega, rfl,
              Lib.hid (((blk_set0 k1.out _).far (p := ⟨B + 1, 0, none⟩) (by dsimp only; omega) _).far (p := ⟨B + 1 + 1, 0, none⟩) (by dsimp only; omega) _),
              Lib.hid ((blk_set0 (k2.out.far (p := ⟨B, 0, none⟩) (by dsimp only; omega) _) _).far (p := ⟨B + 1 + 1, 0, none⟩) (by dsimp only; omega) _),
              Lib.hid (blk_set0 ((k3.out.far (p := ⟨B, 0, none⟩) (by dsimp only; omega) _).far (p := ⟨B + 1, 0, none⟩) (by dsimp only; omega) _) _),
              Lib.hid (((hB.out.setCell (p := ⟨B, 0, none⟩) (Nat.le_refl _) _).setCell (p := ⟨B + 1, 0, none⟩) (by dsimp only; omega) _).setCell (p := ⟨B + 1 + 1, 0, none⟩) (by dsimp only; omega) _)⟩
          case measure => simp [intOf]
        · go_wp2
          go_roundw
          case rel =>
            exact ⟨2, _, _, _, _, _, _, by omega, rfl,
              Lib.hid (((blk_set1 k1.out _).far (p := ⟨B + 1, 1, none⟩) (by dsimp only; omega) _).far (p := ⟨B + 1 + 1, 1, none⟩) (by dsimp only; omega) _),
              Lib.hid ((blk_set1 (k2.out.far (p := ⟨B, 1, none⟩) (by dsimp only; omega) _) _).far (p := ⟨B + 1 + 1, 1, none⟩) (by dsimp only; omega) _),
              Lib.hid (blk_set1 ((k3.out.far (p := ⟨B, 1, none⟩) (by dsimp only; omega) _).far (p := ⟨B + 1, 1, none⟩) (by dsimp only; omega) _) _),
              Lib.hid (((hB.out.setCell (p := ⟨B, 1, none⟩) (Nat.le_refl _) _).setCell (p := ⟨B + 1, 1, none⟩) (by dsimp only; omega) _).setCell (p := ⟨B + 1 + 1, 1, none⟩) (by dsimp only; omega) _)⟩
          case measure => simp [intOf]
    · have hTa := Lib.hid (Turn_bad wr (a1, a2) (b1, b2) (c1, c2) (by simp [e1, e2, e3]))
      replace e1 := Lib.hid e1
      replace e2 := Lib.hid e2
      replace e3 := Lib.hid e3
      go_wp2_with (first
        | (go_at_call 13; refine hTa.out.mono ?_; rintro e w1 ⟨rfl, h1⟩; have k1 := Lib.hid (k1.out.then h1); have k2 := Lib.hid (k2.out.then h1); have k3 := Lib.hid (k3.out.then h1); have hB := Lib.hid (hB.out.trans (h1.mono (by have := hB.out.size; omega))); clear h1; obtain ⟨p1, p2⟩ := k1.out.two; obtain ⟨p3, p4⟩ := k2.out.two; obtain ⟨p5, p6⟩ := k3.out.two)
        | (go_at_call 14; refine (place_any2 _ _ _).mono ?_; rintro e w1 ⟨rfl, h1⟩; (first | rw [e1.out] | rw [e2.out] | rw [e3.out]); have k1 := Lib.hid (k1.out.then h1); have k2 := Lib.hid (k2.out.then h1); have k3 := Lib.hid (k3.out.then h1); have hB := Lib.hid (hB.out.trans (h1.mono (by have := hB.out.size; omega))); clear h1; obtain ⟨p1, p2⟩ := k1.out.two; obtain ⟨p3, p4⟩ := k2.out.two; obtain ⟨p5, p6⟩ := k3.out.two))
      clear hTa
      go_loopw [10] (fun c10 wr => ∃ (i : Nat) (a1 a2 b1 b2 c1 c2 : Int), i ≤ 2 ∧ c10 = .int .i64 (i : Int) ∧ Hid (Blk wr B 22 #[.int .i64 a1, .int .i64 a2]) ∧ Hid (Blk wr (B + 1) 22 #[.int .i64 b1, .int .i64 b2]) ∧ Hid (Blk wr (B + 1 + 1) 22 #[.int .i64 c1, .int .i64 c2]) ∧ Hid (Below B w wr)) (fun c _ => 2 - (intOf c).toNat)
      case atStart => exact ⟨0, _, _, _, _, _, _, by omega, rfl, k1, k2, k3, hB⟩
      case round =>
        clear k1 k2 k3 hB p1 p2 p3 p4 p5 p6
        obtain ⟨i, x1, x2, y1, y2, z1, z2, hi, rfl, k1, k2, k3, hB⟩ := hrel
        by_cases hi2 : i < 2
        case neg =>
          obtain rfl : i = 2 := by omega
          go_wp2
          go_roundw
          case rel => exact ⟨r + 1, _, _, _, _, _, _, by omega, by go_num, k1, k2, k3, hB⟩
          case measure => simp [intOf]; omega
        obtain ⟨p1, p2⟩ := k1.out.two
        obtain ⟨p3, p4⟩ := k2.out.two
        obtain ⟨p5, p6⟩ := k3.out.two
        have f1 := k1.out.free 0
        have f2 := k1.out.free 1
        have f3 := k2.out.free 0
        have f4 := k2.out.free 1
        have f5 := k3.out.free 0
        have f6 := k3.out.free 1
        have hi01 : i = 0 ∨ i = 1 := by omega
        clear hi hi2
        rcases hi01 with rfl | rfl
        · go_wp2
          go_roundw
          case rel =>
            exact ⟨1, _, _, _, _, _, _, by omega, rfl,
              Lib.hid (((blk_set0 k1.out _).far (p := ⟨B + 1, 0, none⟩) (by dsimp only; omega) _).far (p := ⟨B + 1 + 1, 0, none⟩) (by dsimp only; omega) _),
              Lib.hid ((blk_set0 (k2.out.far (p := ⟨B, 0, none⟩) (by dsimp only; omega) _) _).far (p := ⟨B + 1 + 1, 0, none⟩) (by dsimp only; omega) _),
              Lib.hid (blk_set0 ((k3.out.far (p := ⟨B, 0, none⟩) (by dsimp only; omega) _).far (p := ⟨B + 1, 0, none⟩) (by dsimp only; omega) _) _),
              Lib.hid (((hB.out.setCell (p := ⟨B, 0, none⟩) (Nat.le_refl _) _).setCell (p := ⟨B + 1, 0, none⟩) (by dsimp only; omega) _).setCell (p := ⟨B + 1 + 1, 0, none⟩) (by dsimp only; omega) _)⟩
          case measure => simp [intOf]
        · go_wp2
          go_roundw
          case rel =>
            exact ⟨2, _, _, _, _, _, _, by omega, rfl,
              Lib.hid (((blk_set1 k1.out _).far (p := ⟨B + 1, 1, none⟩) (by dsimp only; omega) _).far (p := ⟨B + 1 + 1, 1, none⟩) (by dsimp only; omega) _),
              Lib.hid ((blk_set1 (k2.out.far (p := ⟨B, 1, none⟩) (by dsimp only; omega) _) _).far (p := ⟨B + 1 + 1, 1, none⟩) (by dsimp only; omega) _),
              Lib.hid (blk_set1 ((k3.out.far (p := ⟨B, 1, none⟩) (by dsimp only; omega) _).far (p := ⟨B + 1, 1, none⟩) (by dsimp only; omega) _) _),
              Lib.hid (((hB.out.setCell (p := ⟨B, 1, none⟩) (Nat.le_refl _) _).setCell (p := ⟨B + 1, 1, none⟩) (by dsimp only; omega) _).setCell (p := ⟨B + 1 + 1, 1, none⟩) (by dsimp only; omega) _)⟩
          case measure => simp [intOf]
    · have ok : ∀ p, okB p = true → okP p := fun p h => of_decide_eq_true h
      have hTa := Lib.hid (Turn_ok wr (a1, a2) (b1, b2) (c1, c2) (ok _ e1) (ok _ e2) (ok _ e3))
      have hTr := Lib.hid (fun W => turnR_any W (a1, a2) (b1, b2) (c1, c2) (ok _ e1) (ok _ e2) (ok _ e3))
      generalize trn (a1, a2) (b1, b2) (c1, c2) = T at *
      clear ok
      replace e1 := Lib.hid e1
      replace e2 := Lib.hid e2
      replace e3 := Lib.hid e3
      go_wp2_with (first
        | (go_at_call 13; refine hTa.out.mono ?_; rintro e w1 ⟨rfl, h1⟩; have k1 := Lib.hid (k1.out.then h1); have k2 := Lib.hid (k2.out.then h1); have k3 := Lib.hid (k3.out.then h1); have hB := Lib.hid (hB.out.trans (h1.mono (by have := hB.out.size; omega))); clear h1; obtain ⟨p1, p2⟩ := k1.out.two; obtain ⟨p3, p4⟩ := k2.out.two; obtain ⟨p5, p6⟩ := k3.out.two)
        | (go_at_call 14; refine (place_any2 _ _ _).mono ?_; rintro e w1 ⟨rfl, h1⟩; (first | rw [e1.out] | rw [e2.out] | rw [e3.out]); have k1 := Lib.hid (k1.out.then h1); have k2 := Lib.hid (k2.out.then h1); have k3 := Lib.hid (k3.out.then h1); have hB := Lib.hid (hB.out.trans (h1.mono (by have := hB.out.size; omega))); clear h1; obtain ⟨p1, p2⟩ := k1.out.two; obtain ⟨p3, p4⟩ := k2.out.two; obtain ⟨p5, p6⟩ := k3.out.two)
        | (go_at_call 15; refine (hTr.out _).mono ?_; rintro e w1 ⟨rfl, h1⟩; have k1 := Lib.hid (k1.out.then h1); have k2 := Lib.hid (k2.out.then h1); have k3 := Lib.hid (k3.out.then h1); have hB := Lib.hid (hB.out.trans (h1.mono (by have := hB.out.size; omega))); clear h1; obtain ⟨p1, p2⟩ := k1.out.two; obtain ⟨p3, p4⟩ := k2.out.two; obtain ⟨p5, p6⟩ := k3.out.two))
      clear hTa
      go_loopw [10] (fun c10 wr => ∃ (i : Nat) (a1 a2 b1 b2 c1 c2 : Int), i ≤ 2 ∧ c10 = .int .i64 (i : Int) ∧ Hid (Blk wr B 22 #[.int .i64 a1, .int .i64 a2]) ∧ Hid (Blk wr (B + 1) 22 #[.int .i64 b1, .int .i64 b2]) ∧ Hid (Blk wr (B + 1 + 1) 22 #[.int .i64 c1, .int .i64 c2]) ∧ Hid (Below B w wr)) (fun c _ => 2 - (intOf c).toNat)
      case atStart => exact ⟨0, _, _, _, _, _, _, by omega, rfl, k1, k2, k3, hB⟩
      case round =>
        clear k1 k2 k3 hB p1 p2 p3 p4 p5 p6
        obtain ⟨i, x1, x2, y1, y2, z1, z2, hi, rfl, k1, k2, k3, hB⟩ := hrel
        by_cases hi2 : i < 2
        case neg =>
          obtain rfl : i = 2 := by omega
          go_wp2
          go_roundw
          case rel => exact ⟨r + 1, _, _, _, _, _, _, by omega, by go_num, k1, k2, k3, hB⟩
          case measure => simp [intOf]; omega
        obtain ⟨p1, p2⟩ := k1.out.two
        obtain ⟨p3, p4⟩ := k2.out.two
        obtain ⟨p5, p6⟩ := k3.out.two
        have f1 := k1.out.free 0
        have f2 := k1.out.free 1
        have f3 := k2.out.free 0
        have f4 := k2.out.free 1
        have f5 := k3.out.free 0
        have f6 := k3.out.free 1
        have hi01 : i = 0 ∨ i = 1 := by omega
        clear hi hi2
        rcases hi01 with rfl | rfl
        · go_wp2
          go_roundw
          case rel =>
            exact ⟨1, _, _, _, _, _, _, by omega, rfl,
              Lib.hid (((blk_set0 k1.out _).far (p := ⟨B + 1, 0, none⟩) (by dsimp only; omega) _).far (p := ⟨B + 1 + 1, 0, none⟩) (by dsimp only; omega) _),
              Lib.hid ((blk_set0 (k2.out.far (p := ⟨B, 0, none⟩) (by dsimp only; omega) _) _).far (p := ⟨B + 1 + 1, 0, none⟩) (by dsimp only; omega) _),
              Lib.hid (blk_set0 ((k3.out.far (p := ⟨B, 0, none⟩) (by dsimp only; omega) _).far (p := ⟨B + 1, 0, none⟩) (by dsimp only; omega) _) _),
              Lib.hid (((hB.out.setCell (p := ⟨B, 0, none⟩) (Nat.le_refl _) _).setCell (p := ⟨B + 1, 0, none⟩) (by dsimp only; omega) _).setCell (p := ⟨B + 1 + 1, 0, none⟩) (by dsimp only; omega) _)⟩
          case measure => simp [intOf]
        · go_wp2
          go_roundw
          case rel =>
            exact ⟨2, _, _, _, _, _, _, by omega, rfl,
              Lib.hid (((blk_set1 k1.out _).far (p := ⟨B + 1, 1, none⟩) (by dsimp only; omega) _).far (p := ⟨B + 1 + 1, 1, none⟩) (by dsimp only; omega) _),
              Lib.hid ((blk_set1 (k2.out.far (p := ⟨B, 1, none⟩) (by dsimp only; omega) _) _).far (p := ⟨B + 1 + 1, 1, none⟩) (by dsimp only; omega) _),
              Lib.hid (blk_set1 ((k3.out.far (p := ⟨B, 1, none⟩) (by dsimp only; omega) _).far (p := ⟨B + 1, 1, none⟩) (by dsimp only; omega) _) _),
              Lib.hid (((hB.out.setCell (p := ⟨B, 1, none⟩) (Nat.le_refl _) _).setCell (p := ⟨B + 1, 1, none⟩) (by dsimp only; omega) _).setCell (p := ⟨B + 1 + 1, 1, none⟩) (by dsimp only; omega) _)⟩
          case measure => simp [intOf]
end Go.Proofs.Ythnabheibacbcaa
