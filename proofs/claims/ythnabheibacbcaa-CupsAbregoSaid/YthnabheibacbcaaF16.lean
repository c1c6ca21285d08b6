/- R.Crossings. No condition. -/
import Derived.Test.YthnabheibacbcaaF15
import Derived.Test.YthnabheibacbcaaC5
namespace Go.Proofs.Ythnabheibacbcaa
open Go.RowKit Go.Shelf

/-- the number of crossing pairs, as the reference counts them -/
def cD (l : List Pt) (a b c : Nat) : Nat → Nat
  | 0 => 0
  | d + 1 => cD l a b c d + if c < d ∧ c ≠ b ∧ d ≠ b ∧ crsP (ptA l a) (ptA l b) (ptA l c) (ptA l d) = true then 1 else 0
def cC (l : List Pt) (n a b : Nat) : Nat → Nat
  | 0 => 0
  | c + 1 => cC l n a b c + if a < c then cD l a b c n else 0
def cB (l : List Pt) (n a : Nat) : Nat → Nat
  | 0 => 0
  | b + 1 => cB l n a b + if a < b then cC l n a b n else 0
def cA (l : List Pt) (n : Nat) : Nat → Nat
  | 0 => 0
  | a + 1 => cA l n a + cB l n a n
theorem cD_le (l : List Pt) (a b c : Nat) : ∀ d, cD l a b c d ≤ d
  | 0 => Nat.le_refl _
  | d + 1 => by have := cD_le l a b c d; simp only [cD]; split <;> omega
theorem cC_le (l : List Pt) {n : Nat} (hn : n ≤ 14) (a b : Nat) : ∀ c, cC l n a b c ≤ c * 14
  | 0 => Nat.le_refl _
  | c + 1 => by have := cC_le l hn a b c; have := cD_le l a b c n; simp only [cC]; split <;> omega
theorem cB_le (l : List Pt) {n : Nat} (hn : n ≤ 14) (a : Nat) : ∀ b, cB l n a b ≤ b * 196
  | 0 => Nat.le_refl _
  | b + 1 => by have := cB_le l hn a b; have := cC_le l hn a b n; simp only [cB]; split <;> omega
theorem cA_le (l : List Pt) {n : Nat} (hn : n ≤ 14) : ∀ a, cA l n a ≤ a * 2744
  | 0 => Nat.le_refl _
  | a + 1 => by have := cA_le l hn a; have := cB_le l hn a n; simp only [cA]; omega
theorem cD_zero (l : List Pt) (a b c : Nat) : ∀ d, d ≤ c + 1 → cD l a b c d = 0
  | 0, _ => rfl
  | d + 1, h => by simp only [cD]; rw [cD_zero l a b c d (by omega), if_neg (fun h => by omega)]
theorem cC_zero (l : List Pt) (n a b : Nat) : ∀ c, c ≤ a + 1 → cC l n a b c = 0
  | 0, _ => rfl
  | c + 1, h => by simp only [cC]; rw [cC_zero l n a b c (by omega), if_neg (by omega)]
theorem cB_zero (l : List Pt) (n a : Nat) : ∀ b, b ≤ a + 1 → cB l n a b = 0
  | 0, _ => rfl
  | b + 1, h => by simp only [cB]; rw [cB_zero l n a b (by omega), if_neg (by omega)]

set_option maxRecDepth 100000 in
set_option maxHeartbeats 4000000 in
theorem CrossingsR_any (w : World) (v : Value) (l : List Pt) (h : Pts w v l) (hok : OkL l) (h14 : l.length ≤ 14) :
    Calls Try.prog 30 #[v] w fun e w' => e = .returned (.int .i64 ((cA l l.length l.length : Nat) : Int)) ∧ Below w.heap.size w w' := by
  obtain ⟨A, n, cap, rfl, hN⟩ := h.shape
  obtain ⟨_, cap', e, hl, hcm, _, hat⟩ := h.open
  injection e with e1 e2 e3
  subst e1 e3
  unfold maxLen at hcm
  rw [← e2] at hl
  have hr := Lib.hid (show cA l l.length l.length = cA l n n by rw [e2])
  have hn14 : n ≤ 14 := by rw [e2]; exact h14
  clear e2
  have hat := Lib.hid (show ∀ i, i < n → ∃ b off, A = some ⟨b, off, none⟩ ∧ w.cell? ⟨b, off + i * 2, none⟩ = some (.int .i64 (ptA l i).1) ∧ w.cell? ⟨b, off + i * 2 + 1, none⟩ = some (.int .i64 (ptA l i).2) from fun i hi => by
    obtain ⟨b, o, e, h0, h1⟩ := hat i (by rw [← hN.out]; exact hi)
    exact ⟨b, o, e, h0, h1⟩)
  have hokn := Lib.hid (show ∀ i, i < n → okP (ptA l i) from fun i hi => hok i (by rw [← hN.out]; exact hi))
  clear h hok h14
  go_enter Try.func30, Try.ntmps30
  go_wp2
  go_loopw [4, 5] (fun c4 c5 wr => ∃ a : Nat, a ≤ n ∧ c5 = .int .i64 (a : Int) ∧ c4 = .int .i64 ((cA l n a : Nat) : Int) ∧ Hid (Below w.heap.size w wr)) (fun _ c _ => n - (intOf c).toNat)
  case atStart => exact ⟨0, Nat.zero_le _, rfl, rfl, Below.refl _ _⟩
  case round =>
    obtain ⟨a, ha, rfl, rfl, hBa⟩ := hrel
    have lA := cA_le l hn14 a
    by_cases hlta : a < n
    case neg =>
      obtain rfl : n = a := by omega
      go_wp2
      go_ret
      exact ⟨ret_int (by rw [hr.out]), hBa.out⟩
    have sA := Lib.hid (show cA l n (a + 1) = cA l n a + cB l n a n from rfl)
    have zB := Lib.hid (cB_zero l n a (a + 1) (Nat.le_refl _))
    go_wp2
    go_loopw [4, 6] (fun c4 c6 wr => ∃ b : Nat, a + 1 ≤ b ∧ b ≤ n ∧ c6 = .int .i64 (b : Int) ∧ c4 = .int .i64 ((cA l n a + cB l n a b : Nat) : Int) ∧ Hid (Below w.heap.size w wr)) (fun _ c _ => n - (intOf c).toNat)
    case atStart => exact ⟨a + 1, Nat.le_refl _, by omega, by go_num, by rw [zB.out]; rfl, hBa⟩
    case round =>
      obtain ⟨b, hab, hb, rfl, rfl, hBb⟩ := hrel
      have lB := cB_le l hn14 a b
      by_cases hltb : b < n
      case neg =>
        obtain rfl : n = b := by omega
        go_wp2
        go_roundw
        case rel => exact ⟨a + 1, by omega, by go_num, by rw [sA.out], hBb⟩
        case measure => simp [intOf]; omega
      have sB := Lib.hid (show cB l n a (b + 1) = cB l n a b + cC l n a b n by simp only [cB]; rw [if_pos (by omega)])
      have zC := Lib.hid (cC_zero l n a b (a + 1) (Nat.le_refl _))
      go_wp2
      go_loopw [4, 7] (fun c4 c7 wr => ∃ c : Nat, a + 1 ≤ c ∧ c ≤ n ∧ c7 = .int .i64 (c : Int) ∧ c4 = .int .i64 ((cA l n a + cB l n a b + cC l n a b c : Nat) : Int) ∧ Hid (Below w.heap.size w wr)) (fun _ c _ => n - (intOf c).toNat)
      case atStart => exact ⟨a + 1, Nat.le_refl _, by omega, by go_num, by rw [zC.out]; rfl, hBb⟩
      case round =>
        obtain ⟨c, hac, hc, rfl, rfl, hBc⟩ := hrel
        have lC := cC_le l hn14 a b c
        by_cases hltc : c < n
        case neg =>
          obtain rfl : n = c := by omega
          go_wp2
          go_roundw
          case rel => exact ⟨b + 1, by omega, by omega, by go_num, by rw [sB.out, Nat.add_assoc], hBc⟩
          case measure => simp [intOf]; omega
        have sC := Lib.hid (show cC l n a b (c + 1) = cC l n a b c + cD l a b c n by simp only [cC]; rw [if_pos (by omega)])
        have zD := Lib.hid (cD_zero l a b c (c + 1) (Nat.le_refl _))
        go_wp2
        go_loopw [4, 8] (fun c4 c8 wr => ∃ d : Nat, c + 1 ≤ d ∧ d ≤ n ∧ c8 = .int .i64 (d : Int) ∧ c4 = .int .i64 ((cA l n a + cB l n a b + cC l n a b c + cD l a b c d : Nat) : Int) ∧ Hid (Below w.heap.size w wr)) (fun _ c _ => n - (intOf c).toNat)
        case atStart => exact ⟨c + 1, Nat.le_refl _, by omega, by go_num, by rw [zD.out]; rfl, hBc⟩
        case round =>
          obtain ⟨d, hcd, hd, rfl, rfl, hBd⟩ := hrel
          have lD := cD_le l a b c d
          by_cases hltd : d < n
          case neg =>
            obtain rfl : n = d := by omega
            go_wp2
            go_roundw
            case rel => exact ⟨c + 1, by omega, by omega, by go_num, by rw [sC.out]; simp only [Nat.add_assoc], hBd⟩
            case measure => simp [intOf]; omega
          have sD := Lib.hid (show cD l a b c (d + 1) = cD l a b c d + if c < d ∧ c ≠ b ∧ d ≠ b ∧ crsP (ptA l a) (ptA l b) (ptA l c) (ptA l d) = true then 1 else 0 from rfl)
          by_cases hcb : c = b
          · have sD := Lib.hid (show cD l a b c (d + 1) = cD l a b c d by rw [sD.out, if_neg (fun h => h.2.1 hcb), Nat.add_zero])
            subst hcb
            go_wp2
            refine wp_region_grow (by kernel_rfl) (by kernel_rfl) ?_
            repeat (go_big_quiet_step (fail))
            refine wpQuiet_nil ?_
            rintro _ ⟨g, rfl⟩
            go_wp2
            go_roundw
            case rel => exact ⟨d + 1, by omega, by omega, by go_num, by (first | (rw [sD.out]; done) | (rw [sD.out]; simp only [Int.natCast_add])), Lib.hid (bthen hBd.out g.h)⟩
            case measure => simp [intOf]; omega
          have hcb1 : ((c : Int) == (b : Int)) = false := by simp; omega
          have hcb2 : ((c : Int) != (b : Int)) = true := by unfold bne; rw [hcb1]; rfl
          by_cases hdb : d = b
          · have sD := Lib.hid (show cD l a b c (d + 1) = cD l a b c d by rw [sD.out, if_neg (fun h => h.2.2.1 hdb), Nat.add_zero])
            subst hdb
            go_wp2
            refine wp_region_grow (by kernel_rfl) (by kernel_rfl) ?_
            repeat (go_big_quiet_step (fail))
            refine wpQuiet_nil ?_
            rintro _ ⟨g, rfl⟩
            go_wp2
            go_roundw
            case rel => exact ⟨d + 1, by omega, by omega, by go_num, by (first | (rw [sD.out]; done) | (rw [sD.out]; simp only [Int.natCast_add])), Lib.hid (bthen hBd.out g.h)⟩
            case measure => simp [intOf]; omega
          have hdb1 : ((d : Int) == (b : Int)) = false := by simp; omega
          have hdb2 : ((d : Int) != (b : Int)) = true := by unfold bne; rw [hdb1]; rfl
          obtain ⟨bp, op, rfl, pa0, pa1⟩ := hat.out a hlta
          obtain ⟨_, _, e, pb0, pb1⟩ := hat.out b hltb
          cases e
          obtain ⟨_, _, e, pc0, pc1⟩ := hat.out c hltc
          cases e
          obtain ⟨_, _, e, pd0, pd1⟩ := hat.out d hltd
          cases e
          have t0 := fun g : Gr wr => g.cell (cell_below pa0 hBd.out)
          have t1 := fun g : Gr wr => g.cell (cell_below pa1 hBd.out)
          have t2 := fun g : Gr wr => g.cell (cell_below pb0 hBd.out)
          have t3 := fun g : Gr wr => g.cell (cell_below pb1 hBd.out)
          have t4 := fun g : Gr wr => g.cell (cell_below pc0 hBd.out)
          have t5 := fun g : Gr wr => g.cell (cell_below pc1 hBd.out)
          have t6 := fun g : Gr wr => g.cell (cell_below pd0 hBd.out)
          have t7 := fun g : Gr wr => g.cell (cell_below pd1 hBd.out)
          have hCr := Lib.hid (fun g : Gr wr => grow_of (g := g) (crossR_any g.w1 (ptA l a) (ptA l b) (ptA l c) (ptA l d) (hokn.out a hlta) (hokn.out b hltb) (hokn.out c hltc) (hokn.out d hltd)))
          clear pa0 pa1 pb0 pb1 pc0 pc1 pd0 pd1
          have sD := Lib.hid (show cD l a b c (d + 1) = cD l a b c d + if crsP (ptA l a) (ptA l b) (ptA l c) (ptA l d) = true then 1 else 0 by rw [sD.out]; simp [hcb, hdb, show c < d by omega])
          generalize crsP (ptA l a) (ptA l b) (ptA l c) (ptA l d) = R at *
          generalize ptA l a = qa at *
          generalize ptA l b = qb at *
          generalize ptA l c = qc at *
          generalize ptA l d = qd at *
          obtain ⟨qa1, qa2⟩ := qa
          obtain ⟨qb1, qb2⟩ := qb
          obtain ⟨qc1, qc2⟩ := qc
          obtain ⟨qd1, qd2⟩ := qd
          cases R
          · have sD := Lib.hid (show cD l a b c (d + 1) = cD l a b c d by rw [sD.out]; rfl)
            go_wp2
            refine wp_region_grow (by kernel_rfl) (by kernel_rfl) ?_
            repeat (go_big_quiet_step ((go_at_call 65; exact hCr.out _)))
            refine wpQuiet_nil ?_
            rintro _ ⟨g, rfl⟩
            go_wp2
            go_roundw
            case rel => exact ⟨d + 1, by omega, by omega, by go_num, by (first | (rw [sD.out]; done) | (rw [sD.out]; simp only [Int.natCast_add])), Lib.hid (bthen hBd.out g.h)⟩
            case measure => simp [intOf]; omega
          · have sD := Lib.hid (show cD l a b c (d + 1) = cD l a b c d + 1 by rw [sD.out]; rfl)
            go_wp2
            refine wp_region_grow (by kernel_rfl) (by kernel_rfl) ?_
            repeat (go_big_quiet_step ((go_at_call 65; exact hCr.out _)))
            refine wpQuiet_nil ?_
            rintro _ ⟨g, rfl⟩
            go_wp2
            go_roundw
            case rel => exact ⟨d + 1, by omega, by omega, by go_num, by (rw [sD.out]; first | (go_num; done) | (simp only [Int.natCast_add]; congr 1; omega)), Lib.hid (bthen hBd.out g.h)⟩
            case measure => simp [intOf]; omega
end Go.Proofs.Ythnabheibacbcaa
