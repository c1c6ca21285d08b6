/- Small functions that only read: slices.Min, Max, Index, longs, ints. -/
import Derived.Test.YtadonoacmpkolaaBits
namespace Go.Proofs.Ytadonoacmpkolaa
open Go.RowKit

def minUpto (xs : List Int) : Nat → Int
  | 0 => at0 xs 0
  | k + 1 => if at0 xs k < minUpto xs k then at0 xs k else minUpto xs k
def maxUpto (xs : List Int) : Nat → Int
  | 0 => at0 xs 0
  | k + 1 => if maxUpto xs k < at0 xs k then at0 xs k else maxUpto xs k

set_option maxHeartbeats 400000 in
theorem min_any (w : World) (v : Value) (xs : List Int) (h : Ints w v xs) (h0 : 0 < xs.length) :
    Calls Try.prog 47 #[v] w fun e w' => e = .returned (.int .i64 (minUpto xs xs.length)) ∧ w = w' := by
  obtain ⟨A, cap, rfl, hl, hcap, hn, hat⟩ := h.open
  obtain ⟨b1, o1, rfl, hc0⟩ := hat 0 h0
  have h1 := Lib.hid (show minUpto xs 1 = at0 xs 0 by simp [minUpto])
  replace hat := Lib.hid hat
  clear hn h
  unfold maxLen at hcap
  simp only [Nat.add_zero] at hc0
  have hlt1 : ¬ ((xs.length : Int) < 1) := by omega
  go_enter Try.func47, Try.ntmps47
  go_wp2
  go_loop [3, 4] (fun m i => ∃ k : Nat, k ≤ xs.length ∧ i = .int .i64 k ∧ m = .int .i64 (minUpto xs k)) (fun _ i => xs.length - (intOf i).toNat)
  case atStart => exact ⟨1, h0, rfl, by rw [h1.out]⟩
  case round =>
    obtain ⟨k, hk, rfl, rfl⟩ := hrel
    by_cases hlt : k < xs.length
    · obtain ⟨b2, o2, he, hc⟩ := hat.out k hlt
      cases he
      go_wp2
      go_round
      case rel => exact ⟨k + 1, by omega, by go_num, by simp [minUpto]⟩
      case measure => simp [intOf]; omega
    · obtain rfl : k = xs.length := by omega
      go_wp2
      go_ret
      exact ⟨rfl, rfl⟩

set_option maxHeartbeats 400000 in
theorem max_any (w : World) (v : Value) (xs : List Int) (h : Ints w v xs) (h0 : 0 < xs.length) :
    Calls Try.prog 48 #[v] w fun e w' => e = .returned (.int .i64 (maxUpto xs xs.length)) ∧ w = w' := by
  obtain ⟨A, cap, rfl, hl, hcap, hn, hat⟩ := h.open
  obtain ⟨b1, o1, rfl, hc0⟩ := hat 0 h0
  have h1 := Lib.hid (show maxUpto xs 1 = at0 xs 0 by simp [maxUpto])
  replace hat := Lib.hid hat
  clear hn h
  unfold maxLen at hcap
  simp only [Nat.add_zero] at hc0
  have hlt1 : ¬ ((xs.length : Int) < 1) := by omega
  go_enter Try.func48, Try.ntmps48
  go_wp2
  go_loop [3, 4] (fun m i => ∃ k : Nat, k ≤ xs.length ∧ i = .int .i64 k ∧ m = .int .i64 (maxUpto xs k)) (fun _ i => xs.length - (intOf i).toNat)
  case atStart => exact ⟨1, h0, rfl, by rw [h1.out]⟩
  case round =>
    obtain ⟨k, hk, rfl, rfl⟩ := hrel
    by_cases hlt : k < xs.length
    · obtain ⟨b2, o2, he, hc⟩ := hat.out k hlt
      cases he
      go_wp2
      go_round
      case rel => exact ⟨k + 1, by omega, by go_num, by simp [maxUpto]⟩
      case measure => simp [intOf]; omega
    · obtain rfl : k = xs.length := by omega
      go_wp2
      go_ret
      exact ⟨rfl, rfl⟩

/-- the first index from k on (n places) at which p is true, else -1 -/
def firstFrom (p : Nat → Bool) : Nat → Nat → Int
  | _, 0 => -1
  | k, n + 1 => if p k then (k : Int) else firstFrom p (k + 1) n

set_option maxHeartbeats 400000 in
theorem index_any (w : World) (v : Value) (xs : List Int) (y : Int) (h : Ints w v xs) :
    Calls Try.prog 51 #[v, .int .i64 y] w fun e w' => e = .returned (.int .i64 (firstFrom (fun i => y == at0 xs i) 0 xs.length)) ∧ w = w' := by
  obtain ⟨A, cap, rfl, hl, hcap, hn, hat⟩ := h.open
  replace hat := Lib.hid hat
  clear hn h
  unfold maxLen at hcap
  go_enter Try.func51, Try.ntmps51
  go_wp2
  go_loop [8] (fun i => ∃ k : Nat, k ≤ xs.length ∧ i = .int .i64 k ∧ Hid (firstFrom (fun i => y == at0 xs i) 0 xs.length = firstFrom (fun i => y == at0 xs i) k (xs.length - k))) (fun i => xs.length - (intOf i).toNat)
  case atStart => exact ⟨0, Nat.zero_le _, rfl, rfl⟩
  case round =>
    obtain ⟨k, hk, rfl, hf⟩ := hrel
    by_cases hlt : k < xs.length
    · obtain ⟨b2, o2, rfl, hc⟩ := hat.out k hlt
      have hs : Hid (xs.length - k = (xs.length - (k + 1)) + 1) := by unfold Hid; omega
      by_cases hy : (y == at0 xs k) = true
      · have hr := Lib.hid (show firstFrom (fun i => y == at0 xs i) 0 xs.length = (k : Int) by rw [hf.out, hs.out, firstFrom, if_pos hy])
        go_wp2
        go_ret
        exact ⟨ret_int hr.out.symm, rfl⟩
      · have hr := Lib.hid (show firstFrom (fun i => y == at0 xs i) 0 xs.length = firstFrom (fun i => y == at0 xs i) (k + 1) (xs.length - (k + 1)) by rw [hf.out, hs.out, firstFrom, if_neg hy])
        replace hy : (y == at0 xs k) = false := by simpa using hy
        go_wp2
        go_round
        case rel => exact ⟨k + 1, by omega, by go_num, hr⟩
        case measure => simp [intOf]; omega
    · obtain rfl : k = xs.length := by omega
      have hr := Lib.hid (show firstFrom (fun i => y == at0 xs i) 0 xs.length = -1 by rw [hf.out, Nat.sub_self, firstFrom])
      go_wp2
      go_ret
      exact ⟨ret_int hr.out.symm, rfl⟩

set_option maxHeartbeats 400000 in
theorem longs_eq (A B : Option Addr) (n c d : Nat) (xs ys : List Int) (w : World)
   (hx : xs.length = n) (hy : ys.length = n) (hn : n ≤ 9223372036854775807)
   (ha : ∀ i (_ : i < xs.length), ∃ b off, A = some ⟨b, off, none⟩ ∧ w.cell? ⟨b, off + i, none⟩ = some (.int .i64 (at0 xs i)))
   (hb : ∀ i (_ : i < ys.length), ∃ b off, B = some ⟨b, off, none⟩ ∧ w.cell? ⟨b, off + i, none⟩ = some (.int .i64 (at0 ys i))) :
    Calls Try.prog 16 #[.slice A n c, .slice B n d] w fun e w' => e = .returned (.bool (decide (xs = ys))) ∧ ∃ k, w.drewN k = w' := by
  replace hx := Lib.hid hx
  replace hy := Lib.hid hy
  replace ha := Lib.hid ha
  replace hb := Lib.hid hb
  go_enter Try.func16, Try.ntmps16
  go_wp2
  go_loopw [5] (fun i wr => ∃ k : Nat, k ≤ n ∧ i = .int .i64 k ∧ Hid (xs.take k = ys.take k) ∧ ∃ q, wr = w.drewN q) (fun i _ => n - (intOf i).toNat)
  case atStart => exact ⟨0, Nat.zero_le _, rfl, rfl, 0, rfl⟩
  case round =>
    obtain ⟨k, hk, rfl, ht, q, rfl⟩ := hrel
    by_cases hlt : k < n
    · have hkx : k < xs.length := by rw [hx.out]; exact hlt
      have hky : k < ys.length := by rw [hy.out]; exact hlt
      obtain ⟨b1, o1, rfl, hc1⟩ := ha.out k hkx
      obtain ⟨b2, o2, rfl, hc2⟩ := hb.out k hky
      have ht1 : Hid (at0 xs k = at0 ys k → xs.take (k+1) = ys.take (k+1)) := fun h => by
        rw [take_at0 hkx, take_at0 hky, ht.out, h]
      have ht2 : Hid (at0 xs k ≠ at0 ys k → ¬ xs = ys) := fun h e => by subst e; exact h rfl
      clear ha hb ht hkx hky
      generalize at0 xs k = x at hc1 ht1 ht2
      generalize at0 ys k = y at hc2 ht1 ht2
      go_wp2_with fail
      by_cases hxy : x = y
      · have hbb : (x != y) = false := by simp [hxy]
        have h3 := Lib.hid (ht1.out hxy)
        clear hxy ht1 ht2
        go_quiet (fail)
        go_wp2
        go_roundw
        case rel => exact ⟨k+1, by omega, by go_num, h3, _, rfl⟩
        case measure => simp [intOf]; omega
      · have hbb : (x != y) = true := by simp [hxy]
        have h3 := Lib.hid (ht2.out hxy)
        clear hxy ht1 ht2
        go_quiet (fail)
        go_wp2
        go_ret
        exact ⟨ret_bool (by simp [h3.out]), _, (World.drewN_drewN _ _ _).symm⟩
    · go_wp2
      go_ret
      have : k = n := by omega
      subst this
      have e : xs = ys := by
        have := ht.out
        rwa [List.take_of_length_le (by rw [hx.out]; exact Nat.le_refl _), List.take_of_length_le (by rw [hy.out]; exact Nat.le_refl _)] at this
      exact ⟨ret_bool (by simp [e]), _, rfl⟩

set_option maxHeartbeats 400000 in
theorem longs_any (w : World) (v1 v2 : Value) (xs ys : List Int) (h1 : Ints w v1 xs) (h2 : Ints w v2 ys) :
    Calls Try.prog 16 #[v1, v2] w fun e w' => e = .returned (.bool (decide (xs = ys))) ∧ ∃ k, w.drewN k = w' := by
  obtain ⟨A, c, rfl, ha1, ha2, _, ha⟩ := h1.open
  obtain ⟨B, d, rfl, hb1, hb2, _, hb⟩ := h2.open
  unfold maxLen at ha2
  by_cases hl : xs.length = ys.length
  · rw [hl]
    exact longs_eq A B ys.length c d xs ys w hl rfl (by omega) ha hb
  · have hne : ((xs.length : Int) != (ys.length : Int)) = true := by simp; omega
    have hd : decide (xs = ys) = false := by simp; intro e; exact hl (by rw [e])
    replace hl := Lib.hid hl
    replace hd := Lib.hid hd
    clear ha hb
    go_enter Try.func16, Try.ntmps16
    go_wp2
    go_ret
    exact ⟨ret_bool hd.out.symm, 0, rfl⟩

set_option maxHeartbeats 400000 in
theorem ints_eq (A B : Option Addr) (n c d : Nat) (xs ys : List Int) (w : World)
   (hx : xs.length = n) (hy : ys.length = n) (hn : n ≤ 9223372036854775807)
   (ha : ∀ i (_ : i < xs.length), ∃ b off, A = some ⟨b, off, none⟩ ∧ w.cell? ⟨b, off + i, none⟩ = some (.int .i64 (at0 xs i)))
   (hb : ∀ i (_ : i < ys.length), ∃ b off, B = some ⟨b, off, none⟩ ∧ w.cell? ⟨b, off + i, none⟩ = some (.int .i64 (at0 ys i))) :
    Calls Try.prog 29 #[.slice A n c, .slice B n d] w fun e w' => e = .returned (.bool (decide (xs = ys))) ∧ ∃ k, w.drewN k = w' := by
  replace hx := Lib.hid hx
  replace hy := Lib.hid hy
  replace ha := Lib.hid ha
  replace hb := Lib.hid hb
  go_enter Try.func29, Try.ntmps29
  go_wp2
  go_loopw [5] (fun i wr => ∃ k : Nat, k ≤ n ∧ i = .int .i64 k ∧ Hid (xs.take k = ys.take k) ∧ ∃ q, wr = w.drewN q) (fun i _ => n - (intOf i).toNat)
  case atStart => exact ⟨0, Nat.zero_le _, rfl, rfl, 0, rfl⟩
  case round =>
    obtain ⟨k, hk, rfl, ht, q, rfl⟩ := hrel
    by_cases hlt : k < n
    · have hkx : k < xs.length := by rw [hx.out]; exact hlt
      have hky : k < ys.length := by rw [hy.out]; exact hlt
      obtain ⟨b1, o1, rfl, hc1⟩ := ha.out k hkx
      obtain ⟨b2, o2, rfl, hc2⟩ := hb.out k hky
      have ht1 : Hid (at0 xs k = at0 ys k → xs.take (k+1) = ys.take (k+1)) := fun h => by
        rw [take_at0 hkx, take_at0 hky, ht.out, h]
      have ht2 : Hid (at0 xs k ≠ at0 ys k → ¬ xs = ys) := fun h e => by subst e; exact h rfl
      clear ha hb ht hkx hky
      generalize at0 xs k = x at hc1 ht1 ht2
      generalize at0 ys k = y at hc2 ht1 ht2
      go_wp2_with fail
      by_cases hxy : x = y
      · have hbb : (x != y) = false := by simp [hxy]
        have h3 := Lib.hid (ht1.out hxy)
        clear hxy ht1 ht2
        go_quiet (fail)
        go_wp2
        go_roundw
        case rel => exact ⟨k+1, by omega, by go_num, h3, _, rfl⟩
        case measure => simp [intOf]; omega
      · have hbb : (x != y) = true := by simp [hxy]
        have h3 := Lib.hid (ht2.out hxy)
        clear hxy ht1 ht2
        go_quiet (fail)
        go_wp2
        go_ret
        exact ⟨ret_bool (by simp [h3.out]), _, (World.drewN_drewN _ _ _).symm⟩
    · go_wp2
      go_ret
      have : k = n := by omega
      subst this
      have e : xs = ys := by
        have := ht.out
        rwa [List.take_of_length_le (by rw [hx.out]; exact Nat.le_refl _), List.take_of_length_le (by rw [hy.out]; exact Nat.le_refl _)] at this
      exact ⟨ret_bool (by simp [e]), _, rfl⟩

set_option maxHeartbeats 400000 in
theorem ints_any (w : World) (v1 v2 : Value) (xs ys : List Int) (h1 : Ints w v1 xs) (h2 : Ints w v2 ys) :
    Calls Try.prog 29 #[v1, v2] w fun e w' => e = .returned (.bool (decide (xs = ys))) ∧ ∃ k, w.drewN k = w' := by
  obtain ⟨A, c, rfl, ha1, ha2, _, ha⟩ := h1.open
  obtain ⟨B, d, rfl, hb1, hb2, _, hb⟩ := h2.open
  unfold maxLen at ha2
  by_cases hl : xs.length = ys.length
  · rw [hl]
    exact ints_eq A B ys.length c d xs ys w hl rfl (by omega) ha hb
  · have hne : ((xs.length : Int) != (ys.length : Int)) = true := by simp; omega
    have hd : decide (xs = ys) = false := by simp; intro e; exact hl (by rw [e])
    replace hl := Lib.hid hl
    replace hd := Lib.hid hd
    clear ha hb
    go_enter Try.func29, Try.ntmps29
    go_wp2
    go_ret
    exact ⟨ret_bool hd.out.symm, 0, rfl⟩

end Go.Proofs.Ytadonoacmpkolaa
