/- slices.Compare at points; the order that open gives points. No condition. -/
import Derived.Test.YthnabheibacbcaaC5
namespace Go.Proofs.Ythnabheibacbcaa
open Go.RowKit

def cmpPt (a b : Pt) : Int := if bef a b then -1 else if bef b a then 1 else 0
theorem cmpPt_neg (a b : Pt) : cmpPt a b < 0 ↔ bef a b := by
  unfold cmpPt
  split
  · simp [*]
  · split <;> simp [*]

def cmpI (x y : Int) : Int := if x < y then -1 else if y < x then 1 else 0
theorem cmpI_lt {x y : Int} (h : x < y) : cmpI x y = -1 := by unfold cmpI; rw [if_pos h]
theorem cmpI_gt {x y : Int} (h : y < x) : cmpI x y = 1 := by unfold cmpI; rw [if_neg (by omega), if_pos h]
theorem cmpI_eq (x : Int) : cmpI x x = 0 := by unfold cmpI; rw [if_neg (by omega), if_neg (by omega)]
set_option maxHeartbeats 400000 in
theorem cmpInt_any (w : World) (x y : Int) : Calls Try.prog 97 #[.int .i64 x, .int .i64 y] w fun e w' => e = .returned (.int .i64 (cmpI x y)) ∧ w = w' := by
  rcases Int.lt_trichotomy x y with h | rfl | h
  · have hr := Lib.hid (cmpI_lt h)
    go_enter Try.func97, Try.ntmps97
    go_wp2
    go_ret
    exact ⟨ret_int hr.out.symm, rfl⟩
  · have hr := Lib.hid (cmpI_eq x)
    go_enter Try.func97, Try.ntmps97
    go_wp2
    go_ret
    exact ⟨ret_int hr.out.symm, rfl⟩
  · have hr := Lib.hid (cmpI_gt h)
    go_enter Try.func97, Try.ntmps97
    go_wp2
    go_ret
    exact ⟨ret_int hr.out.symm, rfl⟩

/-- comparing from number k on -/
def cmpFrom (p q : Pt) : Nat → Int
  | 0 => if cmpI p.1 q.1 ≠ 0 then cmpI p.1 q.1 else cmpI p.2 q.2
  | 1 => cmpI p.2 q.2
  | _ => 0
theorem cmpFrom_pt (p q : Pt) : cmpFrom p q 0 = cmpPt p q := by
  show (if cmpI p.1 q.1 ≠ 0 then cmpI p.1 q.1 else cmpI p.2 q.2) = cmpPt p q
  unfold cmpPt cmpI bef
  rcases Int.lt_trichotomy p.1 q.1 with h | h | h
  · simp [h]
  · rcases Int.lt_trichotomy p.2 q.2 with h2 | h2 | h2
    · simp [h, h2]
    · simp [h, h2]
    · have h3 : ¬ p.2 < q.2 := by omega
      simp [h, h2, h3]
  · have h3 : ¬ p.1 < q.1 := by omega
    have h4 : ¬ p.1 = q.1 := by omega
    simp [h, h3, h4]
def numAt (p : Pt) (k : Nat) : Int := if k = 0 then p.1 else p.2

set_option maxHeartbeats 400000 in
theorem compare2_any (w : World) (b1 o1 c1 b2 o2 c2 : Nat) (p q : Pt) (h1 : ∀ k, k < 2 → w.cell? ⟨b1, o1 + k, none⟩ = some (.int .i64 (numAt p k))) (h2 : ∀ k, k < 2 → w.cell? ⟨b2, o2 + k, none⟩ = some (.int .i64 (numAt q k))) :
    Calls Try.prog 81 #[.slice (some ⟨b1, o1, none⟩) 2 c1, .slice (some ⟨b2, o2, none⟩) 2 c2] w fun e w' => e = .returned (.int .i64 (cmpPt p q)) ∧ w = w' := by
  rw [← cmpFrom_pt]
  replace h1 := Lib.hid h1
  replace h2 := Lib.hid h2
  go_enter Try.func81, Try.ntmps81
  go_wp2
  go_loop [11] (fun c => ∃ k : Nat, k ≤ 2 ∧ c = .int .i64 k ∧ Hid (cmpFrom p q 0 = cmpFrom p q k)) (fun c => 2 - (intOf c).toNat)
  case atStart => exact ⟨0, Nat.zero_le _, rfl, rfl⟩
  case round =>
    obtain ⟨k, hk, rfl, hf⟩ := hrel
    by_cases hlt : k < 2
    · have m1 := h1.out k hlt
      have m2 := h2.out k hlt
      have hs : Hid (cmpFrom p q k = if cmpI (numAt p k) (numAt q k) ≠ 0 then cmpI (numAt p k) (numAt q k) else cmpFrom p q (k + 1)) := by
        unfold Hid
        rcases (show k = 0 ∨ k = 1 by omega) with rfl | rfl
        · simp [cmpFrom, numAt]
        · simp only [cmpFrom, numAt]; simp
      have hc := Lib.hid (cmpInt_any w (numAt p k) (numAt q k))
      generalize cmpI (numAt p k) (numAt q k) = r at *
      by_cases hr : r = 0
      · have hf' := Lib.hid (show cmpFrom p q 0 = cmpFrom p q (k + 1) by rw [hf.out, hs.out, if_neg (by simp [hr])])
        have hr1 : (r != 0) = false := by simp [hr]
        replace hr := Lib.hid hr
        go_wp2_with (go_at_call 97; refine hc.out.mono ?_; rintro e w1 ⟨rfl, rfl⟩)
        go_round
        case rel => exact ⟨k + 1, by omega, by go_num, hf'⟩
        case measure => simp [intOf]; omega
      · have hf' := Lib.hid (show cmpFrom p q 0 = r by rw [hf.out, hs.out, if_pos (by simp [hr])])
        have hr1 : (r != 0) = true := by simp [hr]
        replace hr := Lib.hid hr
        go_wp2_with (go_at_call 97; refine hc.out.mono ?_; rintro e w1 ⟨rfl, rfl⟩)
        go_ret
        exact ⟨ret_int hf'.out.symm, rfl⟩
    · obtain rfl : k = 2 := by omega
      go_wp2
      go_ret
      exact ⟨ret_int hf.out.symm, rfl⟩

theorem two_cells {w : World} {b o : Nat} {p : Pt} (h0 : w.cell? ⟨b, o, none⟩ = some (.int .i64 p.1)) (h1 : w.cell? ⟨b, o + 1, none⟩ = some (.int .i64 p.2)) : ∀ k, k < 2 → w.cell? ⟨b, o + k, none⟩ = some (.int .i64 (numAt p k)) := by
  intro k hk
  rcases (show k = 0 ∨ k = 1 by omega) with rfl | rfl
  · exact h0
  · exact h1
set_option maxHeartbeats 400000 in
theorem openCmp_any (w : World) (B : Nat) (v : Value) (l : List Pt) (i j : Nat) (hB : w.cell? ⟨B, 0, none⟩ = some v) (h : Pts w v l) (hi : i < l.length) (hj : j < l.length) :
    Calls Try.prog 80 #[.int .i64 i, .int .i64 j, .pointer (some ⟨B, 0, none⟩)] w fun e w' => e = .returned (.int .i64 (cmpPt (ptA l i) (ptA l j))) ∧ ∃ q, w' = w.drewN q := by
  obtain ⟨A, cap, rfl, hl, hcap, hn, hat⟩ := h.open
  obtain ⟨b, off, rfl, q1, q2⟩ := hat i hi
  obtain ⟨b', off', e, r1, r2⟩ := hat j hj
  cases e
  have hc := fun n => Lib.hid (compare2_any (w.drewN n) b (off + i * 2) 2 b (off + j * 2) 2 (ptA l i) (ptA l j)
    (two_cells (w := w.drewN n) q1 q2) (two_cells (w := w.drewN n) r1 r2))
  clear hn hat h q1 q2 r1 r2
  unfold maxLen at hcap
  generalize cmpPt (ptA l i) (ptA l j) = r at *
  go_enter Try.func80, Try.ntmps80
  go_wp2
  go_quiet ((go_at_call 81; exact Calls.quiet_of_same ((hc _).out.mono fun _ _ ⟨h1, h2⟩ => ⟨h1, h2.symm⟩)))
  go_wp2
  go_ret
  exact ⟨rfl, _, rfl⟩
end Go.Proofs.Ythnabheibacbcaa
