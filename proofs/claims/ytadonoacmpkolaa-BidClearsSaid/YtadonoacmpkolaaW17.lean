/- awake. -/
import Derived.Test.YtadonoacmpkolaaW16
namespace Go.Proofs.Ytadonoacmpkolaa
open Go.RowKit
attribute [local go_sem high] walk_shl walk_shr walk_bit walk_rem walk_and walk_or walk_andNot

def wOne : List (List Int) := [[0, 5], [0, 8], [0, 3]]
theorem wOne_bids : Bids 1 wOne := ⟨by decide, by decide, by decide, by decide, by decide +kernel⟩
theorem wOne_v1 : wts wOne (p2 1 - 1) = 8 := by decide +kernel
theorem wOne_v2 : alloc wOne (p2 1 - 1) = [0, 1, 0] := by decide +kernel
theorem wOne_v3 : paysOf 1 wOne = [0, 5, 0] := by decide +kernel
theorem wOne_v4 : secFirst [5, 8, 3] = 1 := by decide +kernel
theorem wOne_v5 : secUpto [5, 8, 3] 1 3 = 5 := by decide +kernel
theorem wOne_v6 : ¬ secBad [5, 8, 3] := by unfold secBad; decide +kernel
theorem wOne_v7 : ([[3, 1], [2, 2]] : List (List Int)).map singleOf = [[0, 3, 1, 3], [0, 2, 2, 2]] := by decide +kernel
theorem wOne_v8 : (([[3, 1], [2, 2]] : List (List Int)).any fun l => wrongB 2 l) = false := by decide +kernel
theorem wTwo_bids : Bids 2 [[0, 3, 1, 3], [0, 2, 2, 2]] := ⟨by decide, by decide, by decide, by decide, by decide +kernel⟩
theorem wTwo_s : ([[0, 3, 1, 3], [0, 2, 2, 2]] : List (List Int)).all (singleB 2) = true := by decide +kernel
theorem wTwo_a : alloc [[0, 3, 1, 3], [0, 2, 2, 2]] (p2 2 - 1) = [1, 2] := by decide +kernel
theorem wTwo_c : Clr 2 [[0, 3, 1, 3], [0, 2, 2, 2]] (alloc [[0, 3, 1, 3], [0, 2, 2, 2]] (p2 2 - 1)) [0, 0] := by
  rw [wTwo_a]
  refine ⟨rfl, fun j => ?_, ?_⟩
  · have : at0 [0, 0] j = 0 := by
      rcases j with _ | _ | j <;> rfl
    rw [this]; decide
  · intro i hi j hj
    unfold wants
    have hi : i < 2 := hi
    rcases i with _ | _ | i <;> rcases j with _ | _ | j <;> first | omega | (intro h; revert h; decide +kernel)
theorem wOne_e : checkE 0 wOne = 1 := by decide +kernel

theorem lit2 (w : World) (a b : Int) : Ints (w.alloc (.cells #[.int .i64 a, .int .i64 b] 2)) (.slice (some ⟨w.heap.size, 0, none⟩) 2 2) [a, b] := by
  refine ⟨_, 2, rfl, by simp, by decide, (fun h => by cases h), fun i hi => ?_⟩
  refine ⟨_, 0, .int .i64 ([a, b][i]), rfl, trivial, ?_, rfl⟩
  rw [Nat.zero_add, (Blk.new w 2 _).cell i]
  have hi : i < 2 := hi
  rcases i with _ | _ | i <;> first | rfl | omega
theorem lit3 (w : World) (a b c : Int) : Ints (w.alloc (.cells #[.int .i64 a, .int .i64 b, .int .i64 c] 2)) (.slice (some ⟨w.heap.size, 0, none⟩) 3 3) [a, b, c] := by
  refine ⟨_, 3, rfl, by simp, by decide, (fun h => by cases h), fun i hi => ?_⟩
  refine ⟨_, 0, .int .i64 ([a, b, c][i]), rfl, trivial, ?_, rfl⟩
  rw [Nat.zero_add, (Blk.new w 2 _).cell i]
  have hi : i < 3 := hi
  rcases i with _ | _ | _ | i <;> first | rfl | omega
theorem litR2 (w : World) (v1 v2 : Value) (a b : List Int) (h1 : Ints w v1 a) (h2 : Ints w v2 b) : Rows2 (w.alloc (.cells #[v1, v2] 27)) (.slice (some ⟨w.heap.size, 0, none⟩) 2 2) [a, b] := by
  have hB : Below w.heap.size w (w.alloc (.cells #[v1, v2] 27)) := (Below.refl _ _).alloc (Nat.le_refl _) _
  replace h1 := Ints.below h1 (Nat.le_refl _) hB
  replace h2 := Ints.below h2 (Nat.le_refl _) hB
  refine ⟨_, 2, rfl, by simp, by decide, (fun h => by cases h), fun i hi => ?_⟩
  have hi : i < 2 := hi
  rcases i with _ | _ | i
  · exact ⟨_, 0, v1, rfl, trivial, by rw [Nat.zero_add, (Blk.new w 27 _).cell 0]; rfl, h1⟩
  · exact ⟨_, 0, v2, rfl, trivial, by rw [Nat.zero_add, (Blk.new w 27 _).cell 1]; rfl, h2⟩
  · omega
theorem litR3 (w : World) (v1 v2 v3 : Value) (a b c : List Int) (h1 : Ints w v1 a) (h2 : Ints w v2 b) (h3 : Ints w v3 c) : Rows2 (w.alloc (.cells #[v1, v2, v3] 27)) (.slice (some ⟨w.heap.size, 0, none⟩) 3 3) [a, b, c] := by
  have hB : Below w.heap.size w (w.alloc (.cells #[v1, v2, v3] 27)) := (Below.refl _ _).alloc (Nat.le_refl _) _
  replace h1 := Ints.below h1 (Nat.le_refl _) hB
  replace h2 := Ints.below h2 (Nat.le_refl _) hB
  replace h3 := Ints.below h3 (Nat.le_refl _) hB
  refine ⟨_, 3, rfl, by simp, by decide, (fun h => by cases h), fun i hi => ?_⟩
  have hi : i < 3 := hi
  rcases i with _ | _ | _ | i
  · exact ⟨_, 0, v1, rfl, trivial, by rw [Nat.zero_add, (Blk.new w 27 _).cell 0]; rfl, h1⟩
  · exact ⟨_, 0, v2, rfl, trivial, by rw [Nat.zero_add, (Blk.new w 27 _).cell 1]; rfl, h2⟩
  · exact ⟨_, 0, v3, rfl, trivial, by rw [Nat.zero_add, (Blk.new w 27 _).cell 2]; rfl, h3⟩
  · omega

theorem awake_one (w : World) : Rows2 ((((w.alloc (.cells #[I 0, I 5] 2)).alloc (.cells #[I 0, I 8] 2)).alloc (.cells #[I 0, I 3] 2)).alloc (.cells #[.slice (some ⟨w.heap.size, 0, none⟩) 2 2, .slice (some ⟨w.heap.size + 1, 0, none⟩) 2 2, .slice (some ⟨w.heap.size + 1 + 1, 0, none⟩) 2 2] 27))
    (.slice (some ⟨w.heap.size + 1 + 1 + 1, 0, none⟩) 3 3) wOne := by
  have h1 := lit2 w 0 5
  have h2 := lit2 (w.alloc (.cells #[I 0, I 5] 2)) 0 8
  have h3 := lit2 ((w.alloc (.cells #[I 0, I 5] 2)).alloc (.cells #[I 0, I 8] 2)) 0 3
  have h1' := Ints.below (Ints.below h1 (Nat.le_refl _) ((Below.refl _ _).alloc (Nat.le_refl _) (.cells #[I 0, I 8] 2))) (Nat.le_refl _) ((Below.refl _ _).alloc (Nat.le_refl _) (.cells #[I 0, I 3] 2))
  have h2' := Ints.below h2 (Nat.le_refl _) ((Below.refl _ _).alloc (Nat.le_refl _) (.cells #[I 0, I 3] 2))
  have := litR3 _ _ _ _ _ _ _ h1' h2' h3
  simp only [World.alloc, Array.size_push] at this ⊢
  exact this
theorem awake_two (w : World) : Rows2 (((w.alloc (.cells #[I 3, I 1] 2)).alloc (.cells #[I 2, I 2] 2)).alloc (.cells #[.slice (some ⟨w.heap.size, 0, none⟩) 2 2, .slice (some ⟨w.heap.size + 1, 0, none⟩) 2 2] 27))
    (.slice (some ⟨w.heap.size + 1 + 1, 0, none⟩) 2 2) [[3, 1], [2, 2]] := by
  have h1 := lit2 w 3 1
  have h2 := lit2 (w.alloc (.cells #[I 3, I 1] 2)) 2 2
  have h1' := Ints.below h1 (Nat.le_refl _) ((Below.refl _ _).alloc (Nat.le_refl _) (.cells #[I 2, I 2] 2))
  have := litR2 _ _ _ _ _ h1' h2
  simp only [World.alloc, Array.size_push] at this ⊢
  exact this

theorem aw23 (w : World) (v : Value) (h : Rows2 w v wOne) : Calls Try.prog 23 #[I 1, v] w fun e w' => ∃ g c, e = .returned (.tuple #[I 8, .slice (some ⟨g, 0, none⟩) 3 c, I 0]) ∧ w'.cell? ⟨g, 1, none⟩ = some (I 1) ∧ Below w.heap.size w w' := by
  refine (Best_ok w v wOne 1 h wOne_bids).mono ?_
  rintro e w' ⟨v', rfl, ho, hB⟩
  rw [wOne_v1]
  rw [wOne_v2] at ho
  obtain ⟨g, cap, rfl, _, _, _, _, hc, _⟩ := OwnI.open ho (by decide)
  exact ⟨g, cap, rfl, hc 1 (by decide), hB⟩
theorem aw24 (w : World) (v : Value) (h : Rows2 w v wOne) : Calls Try.prog 24 #[I 1, v] w fun e w' => ∃ g c, e = .returned (.tuple #[.slice (some ⟨g, 0, none⟩) 3 c, I 0]) ∧ w'.cell? ⟨g, 1, none⟩ = some (I 5) ∧ Below w.heap.size w w' := by
  refine (Payments_ok w v wOne 1 h wOne_bids).mono ?_
  rintro e w' ⟨v', rfl, ho, hB⟩
  rw [wOne_v3] at ho
  obtain ⟨g, cap, rfl, _, _, _, _, hc, _⟩ := OwnI.open ho (by decide)
  exact ⟨g, cap, rfl, hc 1 (by decide), hB⟩
theorem aw19 (w : World) (v : Value) (h : Ints w v [5, 8, 3]) : Calls Try.prog 19 #[v] w fun e w' => e = .returned (.tuple #[I 1, I 5, I 0]) ∧ w = w' := by
  refine (Second_ok w v _ h wOne_v6).mono ?_
  rintro e w' ⟨rfl, rfl⟩
  rw [wOne_v4]
  exact ⟨by rw [show [(5 : Int), 8, 3].length = 3 from rfl, wOne_v5], rfl⟩
theorem aw14 (w : World) (v : Value) (h : Rows2 w v [[3, 1], [2, 2]]) : Calls Try.prog 14 #[I 2, v] w fun e w' => ∃ A n c, e = .returned (.tuple #[.slice A n c, I 0]) ∧ Rows2 w' (.slice A n c) [[0, 3, 1, 3], [0, 2, 2, 2]] ∧ Below w.heap.size w w' := by
  refine (Single_ok w v _ 2 h (by decide) (by decide) (by decide) (by decide) wOne_v8).mono ?_
  rintro e w' ⟨v', rfl, ho, hB⟩
  obtain ⟨A, n, c, rfl, _⟩ := OwnL.shape ho
  rw [wOne_v7] at ho
  exact ⟨A, n, c, rfl, OwnRows.rows ho, hB⟩
theorem aw26 (w : World) (v : Value) (h : Rows2 w v [[0, 3, 1, 3], [0, 2, 2, 2]]) : Calls Try.prog 26 #[I 2, v] w fun e w' => ∃ g c, e = .returned (.tuple #[.slice (some ⟨g, 0, none⟩) 2 c, I 0]) ∧ w'.cell? ⟨g, 0, none⟩ = some (I 0) ∧ w'.cell? ⟨g, 1, none⟩ = some (I 0) ∧ Below w.heap.size w w' := by
  refine (Prices_ok w v _ 2 h wTwo_bids wTwo_s _ wTwo_c).mono ?_
  rintro e w' ⟨v', ps, rfl, ho, hclr, hlow, hB⟩
  have hl : ps.length = 2 := hlow.1
  have hz : ∀ j, j < 2 → at0 ps j = 0 := by
    intro j hj
    have h1 := hlow.2.1 j
    have h2 := hlow.2.2 _ wTwo_c j
    have h3 : at0 [0, 0] j = 0 := by
      rcases j with _ | _ | j <;> rfl
    rw [h3] at h2
    omega
  obtain ⟨g, cap, rfl, _, _, _, _, hc, _⟩ := OwnI.open ho (by omega)
  have c0 := hc 0 (by omega)
  have c1 := hc 1 (by omega)
  rw [hz 0 (by omega)] at c0
  rw [hz 1 (by omega)] at c1
  exact ⟨g, cap, by rw [hl], c0, c1, hB⟩
theorem aw45 (w : World) (v : Value) (h : Rows2 w v wOne) : Calls Try.prog 45 #[I 0, v] w fun e w' => e = .returned (I 1) ∧ Below w.heap.size w w' := by
  have := check_any w v wOne 0 h
  rw [wOne_e] at this
  exact this
theorem cell_below {w w' : World} {p : Addr} {c : Value} (h : w.cell? p = some c) (hb : Below w.heap.size w w') : w'.cell? p = some c := by rw [hb.cell (lt_of_cell h)]; exact h
theorem below1 (w : World) (o1 : Obj) : Below w.heap.size w (w.alloc o1) := (Below.refl w.heap.size w).alloc (Nat.le_refl _) _
theorem bthen {a w w' : World} (h : Below a.heap.size a w) (h' : Below w.heap.size w w') : Below a.heap.size a w' := h.trans (h'.mono h.size)
theorem below2 (w : World) (o1 o2 o3 : Obj) : Below w.heap.size w (((w.alloc o1).alloc o2).alloc o3) := bthen (bthen (below1 _ _) (below1 _ _)) (below1 _ _)
theorem below3 (w : World) (o1 o2 o3 o4 : Obj) : Below w.heap.size w ((((w.alloc o1).alloc o2).alloc o3).alloc o4) := bthen (below2 _ _ _ _) (below1 _ _)
theorem Rows2.then {w w' : World} {v : Value} {xs : List (List Int)} (h : Rows2 w v xs) (hb : Below w.heap.size w w') : Rows2 w' v xs := Rows2.below h (Nat.le_refl _) hb
theorem aw23r (w W : World) (v : Value) (h : Rows2 W v wOne) (hb : Below w.heap.size w W) : Calls Try.prog 23 #[I 1, v] W fun e w' => ∃ g c, e = .returned (.tuple #[I 8, .slice (some ⟨g, 0, none⟩) 3 c, I 0]) ∧ w'.cell? ⟨g, 1, none⟩ = some (I 1) ∧ Rows2 w' v wOne ∧ Below w.heap.size w w' := by
  refine (aw23 W v h).mono ?_
  rintro e w' ⟨g, c, rfl, h1, h2⟩
  exact ⟨g, c, rfl, h1, h.then h2, bthen hb h2⟩
theorem aw19r (w W : World) (v : Value) (h : Ints W v [5, 8, 3]) (hb : Below w.heap.size w W) : Calls Try.prog 19 #[v] W fun e w' => e = .returned (.tuple #[I 1, I 5, I 0]) ∧ Below w.heap.size w w' := by
  refine (aw19 W v h).mono ?_
  rintro e w' ⟨rfl, rfl⟩
  exact ⟨rfl, hb⟩
theorem aw14r (w W : World) (v : Value) (h : Rows2 W v [[3, 1], [2, 2]]) (hb : Below w.heap.size w W) : Calls Try.prog 14 #[I 2, v] W fun e w' => ∃ A n c, e = .returned (.tuple #[.slice A n c, I 0]) ∧ Rows2 w' (.slice A n c) [[0, 3, 1, 3], [0, 2, 2, 2]] ∧ Below w.heap.size w w' := by
  refine (aw14 W v h).mono ?_
  rintro e w' ⟨A, n, c, rfl, h1, h2⟩
  exact ⟨A, n, c, rfl, h1, bthen hb h2⟩

set_option maxHeartbeats 1000000 in
theorem awake_any (w : World) : Calls Try.prog 17 #[] w fun e w' => e = .returned (.bool true) ∧ Below w.heap.size w w' := by
  go_enter Try.func17, Try.ntmps17
  go_wp2_with (first
    | (go_at_call 23; refine (aw23r w _ _ (awake_one w) (below3 w _ _ _ _)).mono ?_; rintro e w1 ⟨g1, c1, rfl, hl1, f1, hB1⟩; replace f1 := Lib.hid f1; replace hB1 := Lib.hid hB1)
    | (go_at_call 24; refine (aw24 _ _ f1.out).mono ?_; rintro e w2 ⟨g2, c2, rfl, hl2, hB2⟩; replace f1 := Lib.hid (f1.out.then hB2); replace hl1 := cell_below hl1 hB2; replace hB2 := Lib.hid (bthen hB1.out hB2))
    | (go_at_call 19; refine (aw19r w2 _ _ (lit3 w2 5 8 3) (below1 w2 _)).mono ?_; rintro e w3 ⟨rfl, hB3⟩; replace f1 := Lib.hid (f1.out.then hB3); replace hl1 := cell_below hl1 hB3; replace hl2 := cell_below hl2 hB3; replace hB3 := Lib.hid (bthen hB2.out hB3))
    | (go_at_call 14; refine (aw14r w3 _ _ (awake_two w3) (below2 w3 _ _ _)).mono ?_; rintro e w4 ⟨A4, n4, c4, rfl, hr4, hB4⟩; replace f1 := Lib.hid (f1.out.then hB4); replace hl1 := cell_below hl1 hB4; replace hl2 := cell_below hl2 hB4; replace hB4 := Lib.hid (bthen hB3.out hB4); replace hr4 := Lib.hid hr4)
    | (go_at_call 26; refine (aw26 _ _ hr4.out).mono ?_; rintro e w5 ⟨g5, c5, rfl, hq0, hq1, hB5⟩; replace hl1 := cell_below hl1 hB5; replace hl2 := cell_below hl2 hB5; replace f1 := Lib.hid (f1.out.then hB5); replace hB5 := Lib.hid (bthen hB4.out hB5))
    | (go_at_call 45; refine (aw45 _ _ f1.out).mono ?_; rintro e w6 ⟨rfl, hB6⟩; replace hB6 := Lib.hid (bthen hB5.out hB6)))
  go_ret
  exact ⟨rfl, hB6.out⟩

end Go.Proofs.Ytadonoacmpkolaa
