/- R.cross. No condition. -/
import Derived.Test.YthnabheibacbcaaC4
import Derived.Test.YthnabheibacbcaaC10
namespace Go.Proofs.Ythnabheibacbcaa
open Go.RowKit Go.Shelf

/-- the segments of two pairs of points cross -/
def crsP (a b c d : Pt) : Bool := !(trn a b c == trn a b d) && !(trn c d a == trn c d b)
theorem boxed4 (w : World) (t : Nat) (a b c d : Array Value) {W : World} (h : (((w.alloc (.cells a t)).alloc (.cells b t)).alloc (.cells c t)).alloc (.cells d t) = W) :
    Below w.heap.size w W ∧ Blk W w.heap.size t a ∧ Blk W (w.heap.size + 1) t b ∧ Blk W (w.heap.size + 1 + 1) t c ∧ Blk W (w.heap.size + 1 + 1 + 1) t d := by
  obtain ⟨W3, h3⟩ : ∃ W3, ((w.alloc (.cells a t)).alloc (.cells b t)).alloc (.cells c t) = W3 := ⟨_, rfl⟩
  obtain ⟨b1, b2, b3, b4, b5⟩ := boxed3 w t t t a b c h3
  rw [h3] at h
  subst h
  refine ⟨bthen b1 (below1 _ _), b3.then (below1 _ _), b4.then (below1 _ _), b5.then (below1 _ _), ?_⟩
  have h6 : w.heap.size + 1 + 1 + 1 = W3.heap.size := b2
  rw [h6]
  exact Blk.new _ _ _

set_option maxRecDepth 100000 in
set_option maxHeartbeats 2000000 in
theorem crossR_any (w : World) (a b c d : Pt) (ha : okP a) (hb : okP b) (hc : okP c) (hd : okP d) :
    Calls Try.prog 65 #[pv a, pv b, pv c, pv d] w fun e w' => e = .returned (.bool (crsP a b c d)) ∧ Below w.heap.size w w' := by
  obtain ⟨W, hW⟩ : ∃ W, (((w.alloc (.cells #[I a.1, I a.2] 22)).alloc (.cells #[I b.1, I b.2] 22)).alloc (.cells #[I c.1, I c.2] 22)).alloc (.cells #[I d.1, I d.2] 22) = W := ⟨_, rfl⟩
  obtain ⟨hB, ka, kb, kc, kd⟩ := boxed4 w 22 _ _ _ _ hW
  have hB := Lib.hid hB
  obtain ⟨ka0, ka1⟩ := ka.two
  obtain ⟨kb0, kb1⟩ := kb.two
  obtain ⟨kc0, kc1⟩ := kc.two
  obtain ⟨kd0, kd1⟩ := kd.two
  have t0 := fun g : Gr W => g.cell ka0
  have t1 := fun g : Gr W => g.cell ka1
  have t2 := fun g : Gr W => g.cell kb0
  have t3 := fun g : Gr W => g.cell kb1
  have t4 := fun g : Gr W => g.cell kc0
  have t5 := fun g : Gr W => g.cell kc1
  have t6 := fun g : Gr W => g.cell kd0
  have t7 := fun g : Gr W => g.cell kd1
  have h1 := Lib.hid (fun g : Gr W => grow_of (g := g) (turnR_any g.w1 a b c ha hb hc))
  have h2 := Lib.hid (fun g : Gr W => grow_of (g := g) (turnR_any g.w1 a b d ha hb hd))
  have h3 := Lib.hid (fun g : Gr W => grow_of (g := g) (turnR_any g.w1 c d a hc hd ha))
  have h4 := Lib.hid (fun g : Gr W => grow_of (g := g) (turnR_any g.w1 c d b hc hd hb))
  have hr := Lib.hid (show crsP a b c d = (!(trn a b c == trn a b d) && !(trn c d a == trn c d b)) from rfl)
  clear ka kb kc kd ka0 ka1 kb0 kb1 kc0 kc1 kd0 kd1 ha hb hc hd
  generalize crsP a b c d = R at *
  generalize trn a b c = T1 at *
  generalize trn a b d = T2 at *
  generalize trn c d a = T3 at *
  generalize trn c d b = T4 at *
  obtain ⟨a1, a2⟩ := a
  obtain ⟨b1, b2⟩ := b
  obtain ⟨c1, c2⟩ := c
  obtain ⟨d1, d2⟩ := d
  have hT : ∀ x y : Int, (x == y) = true ∨ (x == y) = false := fun x y => by cases x == y <;> simp
  rcases hT T1 T2 with h12 | h12
  · have hr := Lib.hid (show R = false by rw [hr.out, h12]; rfl)
    have h12' : (T1 != T2) = false := by unfold bne; rw [h12]; rfl
    clear hT
    go_enter Try.func65, Try.ntmps65
    go_wp2
    refine wp_region_grow (by kernel_rfl) (by kernel_rfl) ?_
    repeat (go_big_quiet_step ((go_at_call 15; first | (with_reducible exact h1.out _) | (with_reducible exact h2.out _) | (with_reducible exact h3.out _) | (with_reducible exact h4.out _))))
    refine wpQuiet_nil ?_
    rintro _ ⟨g, rfl⟩
    go_wp2
    go_ret
    exact ⟨ret_bool (by rw [hr.out]), bthen hB.out g.h⟩
  · have hr := Lib.hid (show R = !(T3 == T4) by rw [hr.out, h12]; rfl)
    have h12' : (T1 != T2) = true := by unfold bne; rw [h12]; rfl
    rcases hT T3 T4 with h34 | h34
    all_goals
      have hr := Lib.hid (hr.out.trans (by rw [h34]))
      clear hT
      go_enter Try.func65, Try.ntmps65
      go_wp2
      refine wp_region_grow (by kernel_rfl) (by kernel_rfl) ?_
      repeat (go_big_quiet_step ((go_at_call 15; first | (with_reducible exact h1.out _) | (with_reducible exact h2.out _) | (with_reducible exact h3.out _) | (with_reducible exact h4.out _))))
      refine wpQuiet_nil ?_
      rintro _ ⟨g, rfl⟩
      go_wp2
      go_ret
      exact ⟨ret_bool (by rw [hr.out]; simp_all), bthen hB.out g.h⟩
end Go.Proofs.Ythnabheibacbcaa
