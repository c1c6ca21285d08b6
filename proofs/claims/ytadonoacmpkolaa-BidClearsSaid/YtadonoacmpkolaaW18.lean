/- The errors of Gain, IsSingle, Clears, IsCore, IsAllocation; IsSingle, Gain, IsAllocation. -/
import Derived.Test.YtadonoacmpkolaaW14
namespace Go.Proofs.Ytadonoacmpkolaa
open Go.RowKit
attribute [local go_sem high] walk_shl walk_shr walk_bit walk_rem walk_and walk_or walk_andNot

set_option maxHeartbeats 400000 in
theorem Gain_bad (w : World) (v : Value) (xs : List (List Int)) (m who : Int) (u : Value) (h : Rows2 w v xs) (hE : checkE m xs ≠ 0) :
    Calls Try.prog 35 #[.int .i64 m, v, .int .i64 who, u] w fun e w' => e = .returned (.tuple #[.int .i64 0, .int .i64 (checkE m xs)]) ∧ Below w.heap.size w w' := by
  have hc := Lib.hid (check_any w v xs m h)
  have hne : (checkE m xs != 0) = true := by simpa using hE
  replace hE := Lib.hid hE
  clear h
  generalize checkE m xs = c at *
  go_enter Try.func35, Try.ntmps35
  go_wp2_with (go_at_call 45; refine hc.out.mono ?_; rintro e w1 ⟨rfl, hb⟩; replace hb := Lib.hid hb)
  go_ret2
  exact ⟨rfl, hb.out⟩
set_option maxHeartbeats 400000 in
theorem IsSingle_bad (w : World) (v : Value) (xs : List (List Int)) (m : Int) (h : Rows2 w v xs) (hE : checkE m xs ≠ 0) :
    Calls Try.prog 25 #[.int .i64 m, v] w fun e w' => e = .returned (.tuple #[.bool false, .int .i64 (checkE m xs)]) ∧ Below w.heap.size w w' := by
  have hc := Lib.hid (check_any w v xs m h)
  have hne : (checkE m xs != 0) = true := by simpa using hE
  replace hE := Lib.hid hE
  clear h
  generalize checkE m xs = c at *
  go_enter Try.func25, Try.ntmps25
  go_wp2_with (go_at_call 45; refine hc.out.mono ?_; rintro e w1 ⟨rfl, hb⟩; replace hb := Lib.hid hb)
  go_ret2
  exact ⟨rfl, hb.out⟩
set_option maxHeartbeats 400000 in
theorem Clears_bad (w : World) (v : Value) (xs : List (List Int)) (m : Int) (u1 u2 : Value) (h : Rows2 w v xs) (hE : checkE m xs ≠ 0) :
    Calls Try.prog 42 #[.int .i64 m, v, u1, u2] w fun e w' => e = .returned (.tuple #[.bool false, .int .i64 (checkE m xs)]) ∧ Below w.heap.size w w' := by
  have hc := Lib.hid (check_any w v xs m h)
  have hne : (checkE m xs != 0) = true := by simpa using hE
  replace hE := Lib.hid hE
  clear h
  generalize checkE m xs = c at *
  go_enter Try.func42, Try.ntmps42
  go_wp2_with (go_at_call 45; refine hc.out.mono ?_; rintro e w1 ⟨rfl, hb⟩; replace hb := Lib.hid hb)
  go_ret2
  exact ⟨rfl, hb.out⟩
set_option maxHeartbeats 400000 in
theorem IsCore_bad (w : World) (v : Value) (xs : List (List Int)) (m : Int) (u : Value) (h : Rows2 w v xs) (hE : checkE m xs ≠ 0) :
    Calls Try.prog 39 #[.int .i64 m, v, u] w fun e w' => e = .returned (.tuple #[.bool false, .int .i64 (checkE m xs)]) ∧ Below w.heap.size w w' := by
  have hc := Lib.hid (check_any w v xs m h)
  have hne : (checkE m xs != 0) = true := by simpa using hE
  replace hE := Lib.hid hE
  clear h
  generalize checkE m xs = c at *
  go_enter Try.func39, Try.ntmps39
  go_wp2_with (go_at_call 45; refine hc.out.mono ?_; rintro e w1 ⟨rfl, hb⟩; replace hb := Lib.hid hb)
  go_ret2
  exact ⟨rfl, hb.out⟩
set_option maxHeartbeats 400000 in
theorem IsAllocation_bad (w : World) (v : Value) (xs : List (List Int)) (m : Int) (u : Value) (h : Rows2 w v xs) (hE : checkE m xs ≠ 0) :
    Calls Try.prog 41 #[.int .i64 m, v, u] w fun e w' => e = .returned (.bool false) ∧ Below w.heap.size w w' := by
  have hc := Lib.hid (check_any w v xs m h)
  have hne : (checkE m xs == 0) = false := by simpa using hE
  replace hE := Lib.hid hE
  clear h
  generalize checkE m xs = c at *
  go_enter Try.func41, Try.ntmps41
  go_wp2_with (go_at_call 45; refine hc.out.mono ?_; rintro e w1 ⟨rfl, hb⟩; replace hb := Lib.hid hb)
  go_ret
  exact ⟨rfl, hb.out⟩

set_option maxHeartbeats 400000 in
theorem IsSingle_ok (w : World) (v : Value) (xs : List (List Int)) (m : Nat) (h : Rows2 w v xs) (hE : Bids m xs) :
    Calls Try.prog 25 #[.int .i64 (m : Int), v] w fun e w' => e = .returned (.tuple #[.bool (xs.all (singleB m)), .int .i64 0]) ∧ Below w.heap.size w w' := by
  have hc := check_any w v xs m h
  rw [hE.check] at hc
  replace hc := Lib.hid hc
  have hs := Lib.hid (fun w1 hb => isSingle_any w1 v xs m (Rows2.below h (Nat.le_refl _) hb) hE.m6 (fun l hl => (hE.ok l hl).1))
  generalize xs.all (singleB m) = b at *
  clear h hE
  go_enter Try.func25, Try.ntmps25
  go_wp2_with (first
    | (go_at_call 45; refine hc.out.mono ?_; rintro e w1 ⟨rfl, hb⟩; replace hb := Lib.hid hb)
    | (go_at_call 54; refine (hs.out _ hb.out).mono ?_; rintro e w2 ⟨rfl, hb2⟩; replace hb2 := Lib.hid hb2))
  go_ret2
  exact ⟨rfl, hb.out.trans (hb2.out.mono hb.out.size)⟩

/-! ### Gain -/
set_option maxHeartbeats 400000 in
theorem Gain_who (w : World) (v : Value) (xs : List (List Int)) (m : Nat) (who : Int) (u : Value) (h : Rows2 w v xs) (hE : Bids m xs) (hw : who < 0 ∨ (xs.length : Int) ≤ who) :
    Calls Try.prog 35 #[.int .i64 (m : Int), v, .int .i64 who, u] w fun e w' => e = .returned (.tuple #[.int .i64 0, .int .i64 1]) ∧ Below w.heap.size w w' := by
  have hc := check_any w v xs m h
  rw [hE.check] at hc
  replace hc := Lib.hid hc
  obtain ⟨A, cap, rfl, hl, hcap, hn, hat⟩ := h.open
  clear hn h hE hat
  unfold maxLen at hcap
  have hcs : who < 0 ∨ (¬ who < 0 ∧ (xs.length : Int) ≤ who) := by omega
  clear hw
  rcases hcs with h1 | ⟨h1, h2⟩
  all_goals (
    go_enter Try.func35, Try.ntmps35
    go_wp2_with (go_at_call 45; refine hc.out.mono ?_; rintro e w1 ⟨rfl, hb⟩; replace hb := Lib.hid hb)
    go_ret2
    exact ⟨rfl, hb.out⟩)

set_option maxHeartbeats 400000 in
theorem Gain_offer (w : World) (v : Value) (xs : List (List Int)) (m : Nat) (who : Int) (u : Value) (of : List Int) (h : Rows2 w v xs) (hu : Ints w u of) (hE : Bids m xs) (hw0 : ¬ who < 0) (hw1 : ¬ (xs.length : Int) ≤ who) (hb : isBidB m of = false) :
    Calls Try.prog 35 #[.int .i64 (m : Int), v, .int .i64 who, u] w fun e w' => e = .returned (.tuple #[.int .i64 0, .int .i64 80]) ∧ Below w.heap.size w w' := by
  have hc := check_any w v xs m h
  rw [hE.check] at hc
  replace hc := Lib.hid hc
  have hi := fun w1 (hB : Below w.heap.size w w1) => isBid_any w1 u of m (Ints.below hu (Nat.le_refl _) hB) hE.m6
  rw [hb] at hi
  replace hi := Lib.hid hi
  obtain ⟨A, cap, rfl, hl, hcap, hn, hat⟩ := h.open
  clear hn h hE hat hu hb
  unfold maxLen at hcap
  go_enter Try.func35, Try.ntmps35
  go_wp2_with (first
    | (go_at_call 45; refine hc.out.mono ?_; rintro e w1 ⟨rfl, hb⟩; replace hb := Lib.hid hb)
    | (go_at_call 59; refine (hi.out _ hb.out).mono ?_; rintro e w2 ⟨rfl, rfl⟩))
  go_ret2
  exact ⟨rfl, hb.out⟩
end Go.Proofs.Ytadonoacmpkolaa
