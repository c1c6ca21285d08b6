/- Points and their turns: isPoint, turn, Place, Turn, Before. No condition. -/
import Derived.Test.YthnabheibacbcaaP0
namespace Go.Proofs.Ythnabheibacbcaa
open Go.RowKit

/-- a point's numbers are in range -/
def okP (p : Pt) : Prop := -1000 ≤ p.1 ∧ p.1 ≤ 1000 ∧ -1000 ≤ p.2 ∧ p.2 ≤ 1000
instance (p : Pt) : Decidable (okP p) := by unfold okP; infer_instance

theorem mul_bd {x y : Int} (h1 : -2000 ≤ x) (h2 : x ≤ 2000) (h3 : -2000 ≤ y) (h4 : y ≤ 2000) : -4000000 ≤ x * y ∧ x * y ≤ 4000000 := by
  have a1 := Int.mul_nonneg (show 0 ≤ 2000 - x by omega) (show 0 ≤ 2000 - y by omega)
  have a2 := Int.mul_nonneg (show 0 ≤ 2000 + x by omega) (show 0 ≤ 2000 + y by omega)
  have a3 := Int.mul_nonneg (show 0 ≤ 2000 - x by omega) (show 0 ≤ 2000 + y by omega)
  have a4 := Int.mul_nonneg (show 0 ≤ 2000 + x by omega) (show 0 ≤ 2000 - y by omega)
  simp only [Int.sub_mul, Int.mul_sub, Int.add_mul, Int.mul_add] at a1 a2 a3 a4
  omega

set_option maxHeartbeats 400000 in
theorem turnP_any (w : World) (a b c : Pt) (ha : okP a) (hb : okP b) (hc : okP c) :
    Calls Try.prog 53 #[pv a, pv b, pv c] w fun e w' => e = .returned (.int .i64 (trn a b c)) ∧ Below w.heap.size w w' := by
  obtain ⟨a1, a2⟩ := a
  obtain ⟨b1, b2⟩ := b
  obtain ⟨c1, c2⟩ := c
  unfold okP at ha hb hc
  dsimp only at ha hb hc
  obtain ⟨m1, m2⟩ := mul_bd (x := b1 - a1) (y := c2 - a2) (by omega) (by omega) (by omega) (by omega)
  obtain ⟨m3, m4⟩ := mul_bd (x := b2 - a2) (y := c1 - a1) (by omega) (by omega) (by omega) (by omega)
  have hB := Lib.hid ((((Below.refl w.heap.size w).alloc (Nat.le_refl _) (.cells #[I a1, I a2] 22)).alloc (by simp) (.cells #[I b1, I b2] 22)).alloc (by simp; omega) (.cells #[I c1, I c2] 22))
  have ht := Lib.hid (show (0 < (b1 - a1) * (c2 - a2) - (b2 - a2) * (c1 - a1) → trn (a1, a2) (b1, b2) (c1, c2) = 1) ∧ ((b1 - a1) * (c2 - a2) - (b2 - a2) * (c1 - a1) < 0 → trn (a1, a2) (b1, b2) (c1, c2) = -1) ∧
      ((b1 - a1) * (c2 - a2) - (b2 - a2) * (c1 - a1) = 0 → trn (a1, a2) (b1, b2) (c1, c2) = 0) by
    unfold trn det; dsimp only; refine ⟨fun h => ?_, fun h => ?_, fun h => ?_⟩ <;> split <;> (try split) <;> omega)
  rcases (show (b1 - a1) * (c2 - a2) - (b2 - a2) * (c1 - a1) < -1 ∨ (-1 ≤ (b1 - a1) * (c2 - a2) - (b2 - a2) * (c1 - a1) ∧ (b1 - a1) * (c2 - a2) - (b2 - a2) * (c1 - a1) ≤ 1) ∨ 1 < (b1 - a1) * (c2 - a2) - (b2 - a2) * (c1 - a1) by omega) with hx | ⟨hx, hx2⟩ | hx
  all_goals
    go_enter Try.func53, Try.ntmps53
    go_wp2
    all_goals
      go_ret
      refine ⟨ret_int ?_, hB.out⟩
      obtain ⟨h1, h2, h3⟩ := ht.out
      generalize trn (a1, a2) (b1, b2) (c1, c2) = t at *
      generalize (b1 - a1) * (c2 - a2) = x at *
      generalize (b2 - a2) * (c1 - a1) = y at *
      omega

set_option maxHeartbeats 400000 in
theorem turnR_any (w : World) (a b c : Pt) (ha : okP a) (hb : okP b) (hc : okP c) :
    Calls Try.prog 15 #[pv a, pv b, pv c] w fun e w' => e = .returned (.int .i64 (trn a b c)) ∧ Below w.heap.size w w' := by
  obtain ⟨a1, a2⟩ := a
  obtain ⟨b1, b2⟩ := b
  obtain ⟨c1, c2⟩ := c
  unfold okP at ha hb hc
  dsimp only at ha hb hc
  obtain ⟨m1, m2⟩ := mul_bd (x := b1 - a1) (y := c2 - a2) (by omega) (by omega) (by omega) (by omega)
  obtain ⟨m3, m4⟩ := mul_bd (x := b2 - a2) (y := c1 - a1) (by omega) (by omega) (by omega) (by omega)
  have hB := Lib.hid ((((Below.refl w.heap.size w).alloc (Nat.le_refl _) (.cells #[I a1, I a2] 22)).alloc (by simp) (.cells #[I b1, I b2] 22)).alloc (by simp; omega) (.cells #[I c1, I c2] 22))
  have ht := Lib.hid (show (0 < (b1 - a1) * (c2 - a2) - (b2 - a2) * (c1 - a1) → trn (a1, a2) (b1, b2) (c1, c2) = 1) ∧ ((b1 - a1) * (c2 - a2) - (b2 - a2) * (c1 - a1) < 0 → trn (a1, a2) (b1, b2) (c1, c2) = -1) ∧
      ((b1 - a1) * (c2 - a2) - (b2 - a2) * (c1 - a1) = 0 → trn (a1, a2) (b1, b2) (c1, c2) = 0) by
    unfold trn det; dsimp only; refine ⟨fun h => ?_, fun h => ?_, fun h => ?_⟩ <;> split <;> (try split) <;> omega)
  rcases (show (b1 - a1) * (c2 - a2) - (b2 - a2) * (c1 - a1) < -1 ∨ (-1 ≤ (b1 - a1) * (c2 - a2) - (b2 - a2) * (c1 - a1) ∧ (b1 - a1) * (c2 - a2) - (b2 - a2) * (c1 - a1) ≤ 1) ∨ 1 < (b1 - a1) * (c2 - a2) - (b2 - a2) * (c1 - a1) by omega) with hx | ⟨hx, hx2⟩ | hx
  all_goals
    go_enter Try.func15, Try.ntmps15
    go_wp2
    all_goals
      go_ret
      refine ⟨ret_int ?_, hB.out⟩
      obtain ⟨h1, h2, h3⟩ := ht.out
      generalize trn (a1, a2) (b1, b2) (c1, c2) = t at *
      generalize (b1 - a1) * (c2 - a2) = x at *
      generalize (b2 - a2) * (c1 - a1) = y at *
      omega

theorem Blk.two {w : World} {g t : Nat} {a b : Value} (h : Blk w g t #[a, b]) : w.cell? ⟨g, 0, none⟩ = some a ∧ w.cell? ⟨g, 1, none⟩ = some b := ⟨by have := h.cell 0; simpa using this, by have := h.cell 1; simpa using this⟩
theorem Blk.then {w w' : World} {g t : Nat} {cs : Array Value} (h : Blk w g t cs) (hb : Below w.heap.size w w') : Blk w' g t cs := h.below hb h.lt
theorem bthen {a w w' : World} (h : Below a.heap.size a w) (h' : Below w.heap.size w w') : Below a.heap.size a w' := h.trans (h'.mono h.size)
theorem below1 (w : World) (o1 : Obj) : Below w.heap.size w (w.alloc o1) := (Below.refl w.heap.size w).alloc (Nat.le_refl _) _
/-- three boxes -/
theorem boxed3 (w : World) (t1 t2 t3 : Nat) (a b c : Array Value) {W : World} (h : ((w.alloc (.cells a t1)).alloc (.cells b t2)).alloc (.cells c t3) = W) :
    Below w.heap.size w W ∧ w.heap.size + 3 = W.heap.size ∧ Blk W w.heap.size t1 a ∧ Blk W (w.heap.size + 1) t2 b ∧ Blk W (w.heap.size + 1 + 1) t3 c := by
  subst h
  refine ⟨bthen (bthen (below1 _ _) (below1 _ _)) (below1 _ _), by simp, ((Blk.new w t1 _).alloc _).alloc _, ?_, ?_⟩
  · have := (Blk.new (w.alloc (.cells a t1)) t2 b).alloc (.cells c t3); simpa using this
  · have := Blk.new ((w.alloc (.cells a t1)).alloc (.cells b t2)) t3 c; simpa using this

def okB (p : Pt) : Bool := decide (okP p)
theorem okB_iff (x y : Int) : okB (x, y) = true ↔ -1000 ≤ x ∧ x ≤ 1000 ∧ -1000 ≤ y ∧ y ≤ 1000 := by unfold okB; exact decide_eq_true_iff
set_option maxHeartbeats 400000 in
theorem isPoint_any (w : World) (p : Pt) :
    Calls Try.prog 52 #[pv p] w fun e w' => e = .returned (.bool (okB p)) ∧ Below w.heap.size w w' := by
  obtain ⟨x, y⟩ := p
  have hB := Lib.hid ((Below.refl w.heap.size w).alloc (Nat.le_refl _) (.cells #[I x, I y] 22))
  go_enter Try.func52, Try.ntmps52
  go_wp2
  all_goals
    go_ret
    refine ⟨ret_bool ?_, hB.out⟩
    rw [Bool.eq_iff_iff, okB_iff]; simp <;> omega
set_option maxHeartbeats 400000 in
theorem place_any (w : World) (p : Pt) :
    Calls Try.prog 14 #[pv p] w fun e w' => e = .returned (.bool (okB p)) ∧ Below w.heap.size w w' := by
  obtain ⟨x, y⟩ := p
  have hB := Lib.hid ((Below.refl w.heap.size w).alloc (Nat.le_refl _) (.cells #[I x, I y] 22))
  go_enter Try.func14, Try.ntmps14
  go_wp2
  all_goals
    go_ret
    refine ⟨ret_bool ?_, hB.out⟩
    rw [Bool.eq_iff_iff, okB_iff]; simp <;> omega
theorem isPoint_any2 (w : World) (x y : Int) : Calls Try.prog 52 #[.agg #[.int .i64 x, .int .i64 y]] w fun e w' => e = .returned (.bool (okB (x, y))) ∧ Below w.heap.size w w' := isPoint_any w (x, y)
theorem place_any2 (w : World) (x y : Int) : Calls Try.prog 14 #[.agg #[.int .i64 x, .int .i64 y]] w fun e w' => e = .returned (.bool (okB (x, y))) ∧ Below w.heap.size w w' := place_any w (x, y)
def befB (a b : Pt) : Bool := decide (bef a b)
theorem befB_iff (a1 a2 b1 b2 : Int) : befB (a1, a2) (b1, b2) = true ↔ (a1 < b1 ∨ a1 = b1 ∧ a2 < b2) := by unfold befB; exact decide_eq_true_iff
set_option maxHeartbeats 400000 in
theorem before_any (w : World) (a b : Pt) :
    Calls Try.prog 57 #[pv a, pv b] w fun e w' => e = .returned (.bool (befB a b)) ∧ Below w.heap.size w w' := by
  obtain ⟨a1, a2⟩ := a
  obtain ⟨b1, b2⟩ := b
  have hB := Lib.hid (((Below.refl w.heap.size w).alloc (Nat.le_refl _) (.cells #[I a1, I a2] 22)).alloc (by simp) (.cells #[I b1, I b2] 22))
  rcases Int.lt_trichotomy a1 b1 with h | rfl | h
  · go_enter Try.func57, Try.ntmps57
    go_wp2
    go_ret
    exact ⟨ret_bool (by symm; rw [befB_iff]; omega), hB.out⟩
  · go_enter Try.func57, Try.ntmps57
    go_wp2
    go_ret
    exact ⟨ret_bool (by rw [Bool.eq_iff_iff, befB_iff]; simp), hB.out⟩
  · have hne : (a1 == b1) = false := by simp; omega
    go_enter Try.func57, Try.ntmps57
    go_wp2
    go_ret
    exact ⟨ret_bool (by rw [Bool.eq_iff_iff, befB_iff]; simp; omega), hB.out⟩

set_option maxHeartbeats 400000 in
theorem Turn_ok (w : World) (a b c : Pt) (ha : okP a) (hb : okP b) (hc : okP c) :
    Calls Try.prog 13 #[pv a, pv b, pv c] w fun e w' => e = .returned (.tuple #[.int .i64 (trn a b c), .int .i64 0]) ∧ Below w.heap.size w w' := by
  obtain ⟨a1, a2⟩ := a
  obtain ⟨b1, b2⟩ := b
  obtain ⟨c1, c2⟩ := c
  have e1 := Lib.hid (show okB (a1, a2) = true by simp [okB, ha])
  have e2 := Lib.hid (show okB (b1, b2) = true by simp [okB, hb])
  have e3 := Lib.hid (show okB (c1, c2) = true by simp [okB, hc])
  have hT := fun W => Lib.hid (turnP_any W _ _ _ ha hb hc)
  obtain ⟨W, hW⟩ : ∃ W, ((w.alloc (.cells #[I a1, I a2] 22)).alloc (.cells #[I b1, I b2] 22)).alloc (.cells #[I c1, I c2] 22) = W := ⟨_, rfl⟩
  obtain ⟨hB, hsz, k1, k2, k3⟩ := boxed3 w _ _ _ _ _ _ hW
  replace hB := Lib.hid hB
  replace ha := Lib.hid ha
  replace hb := Lib.hid hb
  replace hc := Lib.hid hc
  clear hsz
  obtain ⟨p1, p2⟩ := k1.two
  obtain ⟨p3, p4⟩ := k2.two
  obtain ⟨p5, p6⟩ := k3.two
  go_enter Try.func13, Try.ntmps13
  go_wp2_with (first
    | (go_at_call 52; refine (isPoint_any2 _ _ _).mono ?_; rintro e w1 ⟨rfl, h1⟩; (first | rw [e1.out] | rw [e2.out] | rw [e3.out]); replace k1 := k1.then h1; replace k2 := k2.then h1; replace k3 := k3.then h1; replace hB := Lib.hid (bthen hB.out h1); clear h1; obtain ⟨p1, p2⟩ := k1.two; obtain ⟨p3, p4⟩ := k2.two; obtain ⟨p5, p6⟩ := k3.two)
    | (go_at_call 53; refine (hT _).out.mono ?_; rintro e w1 ⟨rfl, h1⟩; replace hB := Lib.hid (bthen hB.out h1)))
  go_ret2
  exact ⟨rfl, hB.out⟩
theorem eqIn22 (d : Nat) (w : World) (a b c e : Int) : (Op.equalIn (d + 1 + 1) 22 (.agg #[.int .i64 a, .int .i64 b]) (.agg #[.int .i64 c, .int .i64 e])).run Try.prog w = .ok (a == c && b == e) w := by
  rw [Op.equalIn]
  have h22 : Try.prog.underlying 22 = some (.array 2 3) := Try.underlying22
  have h3 : Try.prog.underlying 3 = some (.int .i64) := Try.underlying3
  have hs : ∀ w, (sizeOf 3).run Try.prog w = .ok 1 w := fun _ => by kernel_rfl
  have hp : ∀ i (x y : Value) w, i < 2 → (part 3 #[x, y] i).run Try.prog w = .ok (if i = 0 then x else y) w := fun i x y w hi => by
    rcases i with _ | _ | i
    · kernel_rfl
    · kernel_rfl
    · omega
  simp only [Sem.run_bind, run_underlying h22, Result.andThen_ok, hs, Std.Legacy.Range.forIn_eq_forIn_range', Std.Legacy.Range.size]
  have e1 := hp 0 (.int .i64 a) (.int .i64 b)
  have e2 := hp 1 (.int .i64 a) (.int .i64 b)
  have e3 := hp 0 (.int .i64 c) (.int .i64 e)
  have e4 := hp 1 (.int .i64 c) (.int .i64 e)
  simp at e1 e2 e3 e4
  by_cases h1 : a = c
  · subst h1
    by_cases h2 : b = e
    · subst h2
      simp [List.range', e1, e2, run_equalIn_int _ _ _ _ _ _ _ h3]
    · simp [List.range', e1, e2, e3, e4, run_equalIn_int _ _ _ _ _ _ _ h3, h2]
  · simp [List.range', e1, e3, run_equalIn_int _ _ _ _ _ _ _ h3, h1]
theorem eql22 (w : World) (a b c e : Int) : (binOp .eql 22 (.agg #[.int .i64 a, .int .i64 b]) (.agg #[.int .i64 c, .int .i64 e])).run Try.prog w = .ok (.bool (a == c && b == e)) w := by
  rw [run_eql_struct, eqIn22 9998]; rfl
end Go.Proofs.Ythnabheibacbcaa
