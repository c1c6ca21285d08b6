/- R.cross. No condition. R.Crossings. No condition. R.Edges. No condition. -/
import Derived.Test.YthnabheibacbcaaC4
import Derived.Test.YthnabheibacbcaaC10
import Derived.Test.YthnabheibacbcaaC5
import Derived.Test.YthnabheibacbcaaC9
namespace Go.Proofs.Ythnabheibacbcaa
section
open Go.RowKit Go.Shelf

/-- the segments of two pairs of points cross -/
def crsP (a b c d : Pt) : Bool := !(trn a b c == trn a b d) && !(trn c d a == trn c d b)
theorem boxed4 (w : World) (t : Nat) (a b c d : Array Value) {W : World} (h : (((w.alloc (.cells a t)).alloc (.cells b t)).alloc (.cells c t)).alloc (.cells d t) = W) :
    Below w.heap.size w W ∧ Blk W w.heap.size t a ∧ Blk W (w.heap.size + 1) t b ∧ Blk W (w.heap.size + 1 + 1) t c ∧ Blk W (w.heap.size + 1 + 1 + 1) t d := by
  obtain ⟨W3, h3⟩ : ∃ W3, ((w.alloc (.cells a t)).alloc (.cells b t)).alloc (.cells c t) = W3 := ⟨_, rfl⟩
  obtain ⟨b1, b2, b3, b4, b5⟩ := boxed3 w t t t a b c h3
  rw [h3] at h
  subst h
  refine ⟨bthen b1 (below1 _ _), b3.then (below1 _ _), b4.then (below1 _ _), b5.then (below1 _ _), ?_⟩
  have h6 : w.heap.size + 1 + 1 + 1 = W3.heap.size := b2
  rw [h6]
  exact Blk.new _ _ _

set_option maxRecDepth 100000 in
set_option maxHeartbeats 2000000 in
theorem crossR_any (w : World) (a b c d : Pt) (ha : okP a) (hb : okP b) (hc : okP c) (hd : okP d) :
    Calls Try.prog 65 #[pv a, pv b, pv c, pv d] w fun e w' => e = .returned (.bool (crsP a b c d)) ∧ Below w.heap.size w w' := by
  obtain ⟨W, hW⟩ : ∃ W, (((w.alloc (.cells #[I a.1, I a.2] 22)).alloc (.cells #[I b.1, I b.2] 22)).alloc (.cells #[I c.1, I c.2] 22)).alloc (.cells #[I d.1, I d.2] 22) = W := ⟨_, rfl⟩
  obtain ⟨hB, ka, kb, kc, kd⟩ := boxed4 w 22 _ _ _ _ hW
  have hB := Lib.hid hB
  obtain ⟨ka0, ka1⟩ := ka.two
  obtain ⟨kb0, kb1⟩ := kb.two
  obtain ⟨kc0, kc1⟩ := kc.two
  obtain ⟨kd0, kd1⟩ := kd.two
  have t0 := fun g : Gr W => g.cell ka0
  have t1 := fun g : Gr W => g.cell ka1
  have t2 := fun g : Gr W => g.cell kb0
  have t3 := fun g : Gr W => g.cell kb1
  have t4 := fun g : Gr W => g.cell kc0
  have t5 := fun g : Gr W => g.cell kc1
  have t6 := fun g : Gr W => g.cell kd0
  have t7 := fun g : Gr W => g.cell kd1
  have h1 := Lib.hid (fun g : Gr W => grow_of (g := g) (turnR_any g.w1 a b c ha hb hc))
  have h2 := Lib.hid (fun g : Gr W => grow_of (g := g) (turnR_any g.w1 a b d ha hb hd))
  have h3 := Lib.hid (fun g : Gr W => grow_of (g := g) (turnR_any g.w1 c d a hc hd ha))
  have h4 := Lib.hid (fun g : Gr W => grow_of (g := g) (turnR_any g.w1 c d b hc hd hb))
  have hr := Lib.hid (show crsP a b c d = (!(trn a b c == trn a b d) && !(trn c d a == trn c d b)) from rfl)
  clear ka kb kc kd ka0 ka1 kb0 kb1 kc0 kc1 kd0 kd1 ha hb hc hd
  generalize crsP a b c d = R at *
  generalize trn a b c = T1 at *
  generalize trn a b d = T2 at *
  generalize trn c d a = T3 at *
  generalize trn c d b = T4 at *
  obtain ⟨a1, a2⟩ := a
  obtain ⟨b1, b2⟩ := b
  obtain ⟨c1, c2⟩ := c
  obtain ⟨d1, d2⟩ := d
  have hT : ∀ x y : Int, (x == y) = true ∨ (x == y) = false := fun x y => by cases x == y <;> simp
  rcases hT T1 T2 with h12 | h12
  · have hr := Lib.hid (show R = false by rw [hr.out, h12]; rfl)
    have h12' : (T1 != T2) = false := by unfold bne; rw [h12]; rfl
    clear hT
    go_enter Try.func65, Try.ntmps65
    go_wp2
    refine wp_region_grow (by kernel_rfl) (by kernel_rfl) ?_
    repeat (go_big_quiet_step ((go_at_call 15; first | (with_reducible exact h1.out _) | (with_reducible exact h2.out _) | (with_reducible exact h3.out _) | (with_reducible exact h4.out _))))
    refine wpQuiet_nil ?_
    rintro _ ⟨g, rfl⟩
    go_wp2
    go_ret
    exact ⟨ret_bool (by rw [hr.out]), bthen hB.out g.h⟩
  · have hr := Lib.hid (show R = !(T3 == T4) by rw [hr.out, h12]; rfl)
    have h12' : (T1 != T2) = true := by unfold bne; rw [h12]; rfl
    rcases hT T3 T4 with h34 | h34
    all_goals
      have hr := Lib.hid (hr.out.trans (by rw [h34]))
      clear hT
      go_enter Try.func65, Try.ntmps65
      go_wp2
      refine wp_region_grow (by kernel_rfl) (by kernel_rfl) ?_
      repeat (go_big_quiet_step ((go_at_call 15; first | (with_reducible exact h1.out _) | (with_reducible exact h2.out _) | (with_reducible exact h3.out _) | (with_reducible exact h4.out _))))
      refine wpQuiet_nil ?_
      rintro _ ⟨g, rfl⟩
      go_wp2
      go_ret
      exact ⟨ret_bool (by rw [hr.out]; simp_all), bthen hB.out g.h⟩
end
section
open Go.RowKit Go.Shelf

/-- the number of crossing pairs, as the reference counts them -/
def cD (l : List Pt) (a b c : Nat) : Nat → Nat
  | 0 => 0
  | d + 1 => cD l a b c d + if c < d ∧ c ≠ b ∧ d ≠ b ∧ crsP (ptA l a) (ptA l b) (ptA l c) (ptA l d) = true then 1 else 0
def cC (l : List Pt) (n a b : Nat) : Nat → Nat
  | 0 => 0
  | c + 1 => cC l n a b c + if a < c then cD l a b c n else 0
def cB (l : List Pt) (n a : Nat) : Nat → Nat
  | 0 => 0
  | b + 1 => cB l n a b + if a < b then cC l n a b n else 0
def cA (l : List Pt) (n : Nat) : Nat → Nat
  | 0 => 0
  | a + 1 => cA l n a + cB l n a n
theorem cD_le (l : List Pt) (a b c : Nat) : ∀ d, cD l a b c d ≤ d
  | 0 => Nat.le_refl _
  | d + 1 => by have := cD_le l a b c d; simp only [cD]; split <;> omega
theorem cC_le (l : List Pt) {n : Nat} (hn : n ≤ 14) (a b : Nat) : ∀ c, cC l n a b c ≤ c * 14
  | 0 => Nat.le_refl _
  | c + 1 => by have := cC_le l hn a b c; have := cD_le l a b c n; simp only [cC]; split <;> omega
theorem cB_le (l : List Pt) {n : Nat} (hn : n ≤ 14) (a : Nat) : ∀ b, cB l n a b ≤ b * 196
  | 0 => Nat.le_refl _
  | b + 1 => by have := cB_le l hn a b; have := cC_le l hn a b n; simp only [cB]; split <;> omega
theorem cA_le (l : List Pt) {n : Nat} (hn : n ≤ 14) : ∀ a, cA l n a ≤ a * 2744
  | 0 => Nat.le_refl _
  | a + 1 => by have := cA_le l hn a; have := cB_le l hn a n; simp only [cA]; omega
theorem cD_zero (l : List Pt) (a b c : Nat) : ∀ d, d ≤ c + 1 → cD l a b c d = 0
  | 0, _ => rfl
  | d + 1, h => by simp only [cD]; rw [cD_zero l a b c d (by omega), if_neg (fun h => by omega)]
theorem cC_zero (l : List Pt) (n a b : Nat) : ∀ c, c ≤ a + 1 → cC l n a b c = 0
  | 0, _ => rfl
  | c + 1, h => by simp only [cC]; rw [cC_zero l n a b c (by omega), if_neg (by omega)]
theorem cB_zero (l : List Pt) (n a : Nat) : ∀ b, b ≤ a + 1 → cB l n a b = 0
  | 0, _ => rfl
  | b + 1, h => by simp only [cB]; rw [cB_zero l n a b (by omega), if_neg (by omega)]

set_option maxRecDepth 100000 in
set_option maxHeartbeats 4000000 in
theorem CrossingsR_any (w : World) (v : Value) (l : List Pt) (h : Pts w v l) (hok : OkL l) (h14 : l.length ≤ 14) :
    Calls Try.prog 30 #[v] w fun e w' => e = .returned (.int .i64 ((cA l l.length l.length : Nat) : Int)) ∧ Below w.heap.size w w' := by
  obtain ⟨A, n, cap, rfl, hN⟩ := h.shape
  obtain ⟨_, cap', e, hl, hcm, _, hat⟩ := h.open
  injection e with e1 e2 e3
  subst e1 e3
  unfold maxLen at hcm
  rw [← e2] at hl
  have hr := Lib.hid (show cA l l.length l.length = cA l n n by rw [e2])
  have hn14 : n ≤ 14 := by rw [e2]; exact h14
  clear e2
  have hat := Lib.hid (show ∀ i, i < n → ∃ b off, A = some ⟨b, off, none⟩ ∧ w.cell? ⟨b, off + i * 2, none⟩ = some (.int .i64 (ptA l i).1) ∧ w.cell? ⟨b, off + i * 2 + 1, none⟩ = some (.int .i64 (ptA l i).2) from fun i hi => by
    obtain ⟨b, o, e, h0, h1⟩ := hat i (by rw [← hN.out]; exact hi)
    exact ⟨b, o, e, h0, h1⟩)
  have hokn := Lib.hid (show ∀ i, i < n → okP (ptA l i) from fun i hi => hok i (by rw [← hN.out]; exact hi))
  clear h hok h14
  go_enter Try.func30, Try.ntmps30
  go_wp2
  go_loopw [4, 5] (fun c4 c5 wr => ∃ a : Nat, a ≤ n ∧ c5 = .int .i64 (a : Int) ∧ c4 = .int .i64 ((cA l n a : Nat) : Int) ∧ Hid (Below w.heap.size w wr)) (fun _ c _ => n - (intOf c).toNat)
  case atStart => exact ⟨0, Nat.zero_le _, rfl, rfl, Below.refl _ _⟩
  case round =>
    obtain ⟨a, ha, rfl, rfl, hBa⟩ := hrel
    have lA := cA_le l hn14 a
    by_cases hlta : a < n
    case neg =>
      obtain rfl : n = a := by omega
      go_wp2
      go_ret
      exact ⟨ret_int (by rw [hr.out]), hBa.out⟩
    have sA := Lib.hid (show cA l n (a + 1) = cA l n a + cB l n a n from rfl)
    have zB := Lib.hid (cB_zero l n a (a + 1) (Nat.le_refl _))
    go_wp2
    go_loopw [4, 6] (fun c4 c6 wr => ∃ b : Nat, a + 1 ≤ b ∧ b ≤ n ∧ c6 = .int .i64 (b : Int) ∧ c4 = .int .i64 ((cA l n a + cB l n a b : Nat) : Int) ∧ Hid (Below w.heap.size w wr)) (fun _ c _ => n - (intOf c).toNat)
    case atStart => exact ⟨a + 1, Nat.le_refl _, by omega, by go_num, by rw [zB.out]; rfl, hBa⟩
    case round =>
      obtain ⟨b, hab, hb, rfl, rfl, hBb⟩ := hrel
      have lB := cB_le l hn14 a b
      by_cases hltb : b < n
      case neg =>
        obtain rfl : n = b := by omega
        go_wp2
        go_roundw
        case rel => exact ⟨a + 1, by omega, by go_num, by rw [sA.out], hBb⟩
        case measure => simp [intOf]; omega
      have sB := Lib.hid (show cB l n a (b + 1) = cB l n a b + cC l n a b n by simp only [cB]; rw [if_pos (by omega)])
      have zC := Lib.hid (cC_zero l n a b (a + 1) (Nat.le_refl _))
      go_wp2
      go_loopw [4, 7] (fun c4 c7 wr => ∃ c : Nat, a + 1 ≤ c ∧ c ≤ n ∧ c7 = .int .i64 (c : Int) ∧ c4 = .int .i64 ((cA l n a + cB l n a b + cC l n a b c : Nat) : Int) ∧ Hid (Below w.heap.size w wr)) (fun _ c _ => n - (intOf c).toNat)
      case atStart => exact ⟨a + 1, Nat.le_refl _, by omega, by go_num, by rw [zC.out]; rfl, hBb⟩
      case round =>
        obtain ⟨c, hac, hc, rfl, rfl, hBc⟩ := hrel
        have lC := cC_le l hn14 a b c
        by_cases hltc : c < n
        case neg =>
          obtain rfl : n = c := by omega
          go_wp2
          go_roundw
          case rel => exact ⟨b + 1, by omega, by omega, by go_num, by rw [sB.out, Nat.add_assoc], hBc⟩
          case measure => simp [intOf]; omega
        have sC := Lib.hid (show cC l n a b (c + 1) = cC l n a b c + cD l a b c n by simp only [cC]; rw [if_pos (by omega)])
        have zD := Lib.hid (cD_zero l a b c (c + 1) (Nat.le_refl _))
        go_wp2
        go_loopw [4, 8] (fun c4 c8 wr => ∃ d : Nat, c + 1 ≤ d ∧ d ≤ n ∧ c8 = .int .i64 (d : Int) ∧ c4 = .int .i64 ((cA l n a + cB l n a b + cC l n a b c + cD l a b c d : Nat) : Int) ∧ Hid (Below w.heap.size w wr)) (fun _ c _ => n - (intOf c).toNat)
        case atStart => exact ⟨c + 1, Nat.le_refl _, by omega, by go_num, by rw [zD.out]; rfl, hBc⟩
        case round =>
          obtain ⟨d, hcd, hd, rfl, rfl, hBd⟩ := hrel
          have lD := cD_le l a b c d
          by_cases hltd : d < n
          case neg =>
            obtain rfl : n = d := by omega
            go_wp2
            go_roundw
            case rel => exact ⟨c + 1, by omega, by omega, by go_num, by rw [sC.out]; simp only [Nat.add_assoc], hBd⟩
            case measure => simp [intOf]; omega
          have sD := Lib.hid (show cD l a b c (d + 1) = cD l a b c d + if c < d ∧ c ≠ b ∧ d ≠ b ∧ crsP (ptA l a) (ptA l b) (ptA l c) (ptA l d) = true then 1 else 0 from rfl)
          by_cases hcb : c = b
          · have sD := Lib.hid (show cD l a b c (d + 1) = cD l a b c d by rw [sD.out, if_neg (fun h => h.2.1 hcb), Nat.add_zero])
            subst hcb
            go_wp2
            refine wp_region_grow (by kernel_rfl) (by kernel_rfl) ?_
            repeat (go_big_quiet_step (fail))
            refine wpQuiet_nil ?_
            rintro _ ⟨g, rfl⟩
            go_wp2
            go_roundw
            case rel => exact ⟨d + 1, by omega, by omega, by go_num, by (first | (rw [sD.out]; done) | (rw [sD.out]; simp only [Int.natCast_add])), Lib.hid (bthen hBd.out g.h)⟩
            case measure => simp [intOf]; omega
          have hcb1 : ((c : Int) == (b : Int)) = false := by simp; omega
          have hcb2 : ((c : Int) != (b : Int)) = true := by unfold bne; rw [hcb1]; rfl
          by_cases hdb : d = b
          · have sD := Lib.hid (show cD l a b c (d + 1) = cD l a b c d by rw [sD.out, if_neg (fun h => h.2.2.1 hdb), Nat.add_zero])
            subst hdb
            go_wp2
            refine wp_region_grow (by kernel_rfl) (by kernel_rfl) ?_
            repeat (go_big_quiet_step (fail))
            refine wpQuiet_nil ?_
            rintro _ ⟨g, rfl⟩
            go_wp2
            go_roundw
            case rel => exact ⟨d + 1, by omega, by omega, by go_num, by (first | (rw [sD.out]; done) | (rw [sD.out]; simp only [Int.natCast_add])), Lib.hid (bthen hBd.out g.h)⟩
            case measure => simp [intOf]; omega
          have hdb1 : ((d : Int) == (b : Int)) = false := by simp; omega
          have hdb2 : ((d : Int) != (b : Int)) = true := by unfold bne; rw [hdb1]; rfl
          obtain ⟨bp, op, rfl, pa0, pa1⟩ := hat.out a hlta
          obtain ⟨_, _, e, pb0, pb1⟩ := hat.out b hltb
          cases e
          obtain ⟨_, _, e, pc0, pc1⟩ := hat.out c hltc
          cases e
          obtain ⟨_, _, e, pd0, pd1⟩ := hat.out d hltd
          cases e
          have t0 := fun g : Gr wr => g.cell (cell_below pa0 hBd.out)
          have t1 := fun g : Gr wr => g.cell (cell_below pa1 hBd.out)
          have t2 := fun g : Gr wr => g.cell (cell_below pb0 hBd.out)
          have t3 := fun g : Gr wr => g.cell (cell_below pb1 hBd.out)
          have t4 := fun g : Gr wr => g.cell (cell_below pc0 hBd.out)
          have t5 := fun g : Gr wr => g.cell (cell_below pc1 hBd.out)
          have t6 := fun g : Gr wr => g.cell (cell_below pd0 hBd.out)
          have t7 := fun g : Gr wr => g.cell (cell_below pd1 hBd.out)
          have hCr := Lib.hid (fun g : Gr wr => grow_of (g := g) (crossR_any g.w1 (ptA l a) (ptA l b) (ptA l c) (ptA l d) (hokn.out a hlta) (hokn.out b hltb) (hokn.out c hltc) (hokn.out d hltd)))
          clear pa0 pa1 pb0 pb1 pc0 pc1 pd0 pd1
          have sD := Lib.hid (show cD l a b c (d + 1) = cD l a b c d + if crsP (ptA l a) (ptA l b) (ptA l c) (ptA l d) = true then 1 else 0 by rw [sD.out]; simp [hcb, hdb, show c < d by omega])
          generalize crsP (ptA l a) (ptA l b) (ptA l c) (ptA l d) = R at *
          generalize ptA l a = qa at *
          generalize ptA l b = qb at *
          generalize ptA l c = qc at *
          generalize ptA l d = qd at *
          obtain ⟨qa1, qa2⟩ := qa
          obtain ⟨qb1, qb2⟩ := qb
          obtain ⟨qc1, qc2⟩ := qc
          obtain ⟨qd1, qd2⟩ := qd
          cases R
          · have sD := Lib.hid (show cD l a b c (d + 1) = cD l a b c d by rw [sD.out]; rfl)
            go_wp2
            refine wp_region_grow (by kernel_rfl) (by kernel_rfl) ?_
            repeat (go_big_quiet_step ((go_at_call 65; exact hCr.out _)))
            refine wpQuiet_nil ?_
            rintro _ ⟨g, rfl⟩
            go_wp2
            go_roundw
            case rel => exact ⟨d + 1, by omega, by omega, by go_num, by (first | (rw [sD.out]; done) | (rw [sD.out]; simp only [Int.natCast_add])), Lib.hid (bthen hBd.out g.h)⟩
            case measure => simp [intOf]; omega
          · have sD := Lib.hid (show cD l a b c (d + 1) = cD l a b c d + 1 by rw [sD.out]; rfl)
            go_wp2
            refine wp_region_grow (by kernel_rfl) (by kernel_rfl) ?_
            repeat (go_big_quiet_step ((go_at_call 65; exact hCr.out _)))
            refine wpQuiet_nil ?_
            rintro _ ⟨g, rfl⟩
            go_wp2
            go_roundw
            case rel => exact ⟨d + 1, by omega, by omega, by go_num, by (rw [sD.out]; first | (go_num; done) | (simp only [Int.natCast_add]; congr 1; omega)), Lib.hid (bthen hBd.out g.h)⟩
            case measure => simp [intOf]; omega
end
section
open Go.RowKit Go.Shelf

/-- the pairs of numbers, in their order -/
def rpB (a : Nat) : Nat → List (Nat × Nat)
  | 0 => []
  | b + 1 => rpB a b ++ if a < b then [(a, b)] else []
def rpA (n : Nat) : Nat → List (Nat × Nat)
  | 0 => []
  | a + 1 => rpA n a ++ rpB a n
theorem rpB_len (a : Nat) : ∀ b, (rpB a b).length ≤ b
  | 0 => Nat.le_refl _
  | b + 1 => by have := rpB_len a b; simp only [rpB, List.length_append]; split <;> simp <;> omega
theorem rpA_len {n : Nat} (hn : n ≤ 14) : ∀ a, (rpA n a).length ≤ a * 14
  | 0 => Nat.le_refl _
  | a + 1 => by have := rpA_len hn a; have := rpB_len a n; simp only [rpA, List.length_append]; omega
theorem rpB_zero (a : Nat) : ∀ b, b ≤ a + 1 → rpB a b = []
  | 0, _ => rfl
  | b + 1, h => by simp only [rpB]; rw [rpB_zero a b (by omega), if_neg (by omega)]; rfl
theorem edgeC_bd (l : List Pt) (ps : List (Nat × Nat)) (e : Nat) (h : ps.length < 1000) : 0 ≤ edgeC l ps e ∧ edgeC l ps e < 1000 := by
  unfold edgeC
  have h1 := List.countP_le_length (p := fun p => decide (edgeK l p = e)) (l := ps)
  omega

set_option maxRecDepth 100000 in
set_option maxHeartbeats 4000000 in
theorem EdgesR_ok (w : World) (v : Value) (l : List Pt) (h : Pts w v l) (hok : OkL l) (h2 : 2 ≤ l.length) (h14 : l.length ≤ 14) :
    Calls Try.prog 29 #[v] w fun e w' => ∃ v', e = .returned v' ∧ OwnI w.heap.size 3 w' v' (tab ((l.length - 2) / 2 + 1) (edgeC l (rpA l.length l.length))) ∧ Below w.heap.size w w' := by
  obtain ⟨A, n, cap, rfl, hN⟩ := h.shape
  obtain ⟨_, cap', e, hl, hcm, _, hat⟩ := h.open
  injection e with e1 e2 e3
  subst e1 e3
  unfold maxLen at hcm
  rw [← e2] at hl h2 h14
  clear e2
  have hat := Lib.hid (show ∀ i, i < n → ∃ b off, A = some ⟨b, off, none⟩ ∧ w.cell? ⟨b, off + i * 2, none⟩ = some (.int .i64 (ptA l i).1) ∧ w.cell? ⟨b, off + i * 2 + 1, none⟩ = some (.int .i64 (ptA l i).2) from fun i hi => by
    obtain ⟨b, o, e, h0, h1⟩ := hat i (by rw [← hN.out]; exact hi)
    exact ⟨b, o, e, h0, h1⟩)
  have hokn := Lib.hid (show ∀ i, i < n → okP (ptA l i) from fun i hi => hok i (by rw [← hN.out]; exact hi))
  clear h hok
  have hm : ¬ (n : Int) < 2 := by omega
  have hq : ((n : Int) - 2) / 2 + 1 = (((n - 2) / 2 + 1 : Nat) : Int) := by omega
  go_enter Try.func29, Try.ntmps29
  go_wp2_with (at_make; refine wpList_make_ints rfl (.tmp 17) (.tmp 17) 33 rfl w.heap.size 3 Try.underlying33 info3 ((n - 2) / 2 + 1) rfl rfl (by omega) (Nat.le_refl _) _ rfl ?_; intro w1 hT hB1 hz1; replace hT := Lib.hid hT; replace hB1 := Lib.hid hB1)
  obtain ⟨M, hM⟩ : ∃ M, w.heap.size = M := ⟨_, rfl⟩
  rw [hM] at hT hB1 hz1 ⊢
  clear hq
  go_loopw [5] (fun c5 wr => ∃ a : Nat, a ≤ n ∧ c5 = .int .i64 (a : Int) ∧ Hid (OwnT M 3 wr M ((n - 2) / 2 + 1) ((n - 2) / 2 + 1) (edgeC l (rpA n a))) ∧ Hid (Below M w wr)) (fun c _ => n - (intOf c).toNat)
  case atStart => exact ⟨0, Nat.zero_le _, rfl, Lib.hid (hT.out.congr fun i _ => by simp [edgeC, rpA]), hB1⟩
  case round =>
    obtain ⟨a, ha, rfl, hO, hBa⟩ := hrel
    have lA := rpA_len h14 a
    by_cases hlta : a < n
    case neg =>
      obtain rfl : n = a := by omega
      go_wp2
      go_ret
      exact ⟨_, rfl, by rw [← hN.out, hM]; exact hO.out, by rw [hM]; exact hBa.out⟩
    have sA := Lib.hid (show rpA n (a + 1) = rpA n a ++ rpB a n from rfl)
    have zB := Lib.hid (rpB_zero a (a + 1) (Nat.le_refl _))
    go_wp2
    go_loopw [6] (fun c6 wr => ∃ b : Nat, a + 1 ≤ b ∧ b ≤ n ∧ c6 = .int .i64 (b : Int) ∧ Hid (OwnT M 3 wr M ((n - 2) / 2 + 1) ((n - 2) / 2 + 1) (edgeC l (rpA n a ++ rpB a b))) ∧ Hid (Below M w wr)) (fun c _ => n - (intOf c).toNat)
    case atStart => exact ⟨a + 1, Nat.le_refl _, by omega, by go_num, by rw [zB.out, List.append_nil]; exact hO, hBa⟩
    case round =>
      obtain ⟨b, hab, hb, rfl, hO, hBb⟩ := hrel
      have lB := rpB_len a b
      by_cases hltb : b < n
      case neg =>
        obtain rfl : n = b := by omega
        go_wp2
        go_roundw
        case rel => exact ⟨a + 1, by omega, by go_num, by rw [sA.out]; exact hO, hBb⟩
        case measure => simp [intOf]; omega
      have sB := Lib.hid (show rpA n a ++ rpB a (b + 1) = (rpA n a ++ rpB a b) ++ [(a, b)] by simp only [rpB]; rw [if_pos (by omega), List.append_assoc])
      obtain ⟨bp, op, rfl, pa0, pa1⟩ := hat.out a hlta
      obtain ⟨_, _, e, pb0, pb1⟩ := hat.out b hltb
      cases e
      go_wp2
      go_loopw [7, 8] (fun c7 c8 wr => ∃ k : Nat, k ≤ n ∧ c8 = .int .i64 (k : Int) ∧ c7 = .int .i64 ((leftN l a b k : Nat) : Int) ∧ Hid (OwnT M 3 wr M ((n - 2) / 2 + 1) ((n - 2) / 2 + 1) (edgeC l (rpA n a ++ rpB a b))) ∧ Hid (Below M w wr)) (fun _ c _ => n - (intOf c).toNat)
      case atStart => exact ⟨0, Nat.zero_le _, rfl, rfl, hO, hBb⟩
      case round =>
        obtain ⟨k, hk, rfl, rfl, hO, hBk⟩ := hrel
        by_cases hltk : k < n
        case neg =>
          obtain rfl : k = n := by omega
          have hle := leftAll_le (l := l) (i := a) (j := b) (by have := hN.out; omega) (by have := hN.out; omega)
          have hek : edgeK l (a, b) = min (leftAll l a b) (k - 2 - leftAll l a b) := by unfold edgeK; rw [hN.out]
          have hL : leftAll l a b = leftN l a b k := by unfold leftAll; rw [hN.out]
          rw [hL] at hek hle
          rw [← hN.out] at hle
          generalize leftN l a b k = L at *
          obtain ⟨e, he⟩ : ∃ e, e = edgeK l (a, b) := ⟨_, rfl⟩
          have hek2 : e < (k - 2) / 2 + 1 := by rw [he, hek]; omega
          have hsub : IntKind.i64.wrap ((k : Int) - 2 - (L : Int)) = (k : Int) - 2 - (L : Int) := wrap_small _ (by omega) (by omega)
          have hmn : min (L : Int) ((k : Int) - 2 - (L : Int)) = (e : Int) := by rw [he, hek]; omega
          have hin : 0 ≤ (e : Int) ∧ (e : Int) < ((k - 2 : Nat) : Int) / 2 + 1 := by omega
          have mO := hO.out.at e hek2
          have mF := hO.out.free e (by omega)
          have hcb := edgeC_bd l (rpA k a ++ rpB a b) e (by rw [List.length_append]; omega)
          have hst := Lib.hid (edgeC_snoc l (rpA k a ++ rpB a b) (a, b))
          rw [← he] at hst
          generalize hcv : edgeC l (rpA k a ++ rpB a b) e = c at *
          replace hcv := Lib.hid hcv
          replace hM := Lib.hid hM
          clear hek hL he hle hT hB1
          go_wp2
          go_roundw
          case rel => exact ⟨b + 1, by omega, by omega, by go_num, by rw [sB.out, hst.out]; exact Lib.hid (hO.out.set e (c + 1)), Lib.hid (hBk.out.setCell (p := ⟨M, e, none⟩) (Nat.le_refl _) _)⟩
          case measure => simp [intOf]; omega
        have hkl : leftN l a b k ≤ k := leftN_le0 l a b k
        have hst := Lib.hid (show leftN l a b (k + 1) = leftN l a b k + if 0 < trn (ptA l a) (ptA l b) (ptA l k) then 1 else 0 from rfl)
        obtain ⟨_, _, e, pk0, pk1⟩ := hat.out k hltk
        cases e
        have hcl := fun x y (h : w.cell? x = some y) => cell_below h (hM ▸ hBk.out)
        have t0 := fun g : Gr wr => g.cell (hcl _ _ pa0)
        have t1 := fun g : Gr wr => g.cell (hcl _ _ pa1)
        have t2 := fun g : Gr wr => g.cell (hcl _ _ pb0)
        have t3 := fun g : Gr wr => g.cell (hcl _ _ pb1)
        have t4 := fun g : Gr wr => g.cell (hcl _ _ pk0)
        have t5 := fun g : Gr wr => g.cell (hcl _ _ pk1)
        have hTu := Lib.hid (fun g : Gr wr => grow_of (g := g) (turnR_any g.w1 (ptA l a) (ptA l b) (ptA l k) (hokn.out a hlta) (hokn.out b hltb) (hokn.out k hltk)))
        clear pa0 pa1 pb0 pb1 pk0 pk1 hcl
        replace hM := Lib.hid hM
        have hMz : M ≤ wr.heap.size := by have := hBk.out.size; have := hM.out; omega
        generalize ptA l a = qa at *
        generalize ptA l b = qb at *
        generalize ptA l k = qk at *
        generalize trn qa qb qk = T at *
        obtain ⟨qa1, qa2⟩ := qa
        obtain ⟨qb1, qb2⟩ := qb
        obtain ⟨qk1, qk2⟩ := qk
        by_cases hTt : 0 < T
        all_goals
          go_wp2
          refine wp_region_grow (by kernel_rfl) (by kernel_rfl) ?_
          repeat (go_big_quiet_step ((go_at_call 15; exact hTu.out _)))
          refine wpQuiet_nil ?_
          rintro _ ⟨g, rfl⟩
          go_wp2
          go_roundw
          case rel => exact ⟨k + 1, by omega, by go_num, by (first | (rw [hst.out, if_pos hTt]; go_num; done) | (rw [hst.out, if_neg (show ¬ 0 < T by omega)]; go_num; done) | (rw [hst.out, if_neg (show ¬ 0 < T by omega), Nat.add_zero])), Lib.hid (hO.out.below (Nat.le_refl _) g.h), Lib.hid (hBk.out.trans (g.h.mono hMz))⟩
          case measure => simp [intOf]; omega
end
end Go.Proofs.Ythnabheibacbcaa
