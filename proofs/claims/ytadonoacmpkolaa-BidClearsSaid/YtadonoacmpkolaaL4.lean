/- BidSeconds: the walk. -/
import Derived.Test.YtadonoacmpkolaaR1
import Derived.Test.YtadonoacmpkolaaW17
namespace Go.Proofs.Ytadonoacmpkolaa
open Go.RowKit

theorem max_best (xs : List Int) (h : 1 ≤ xs.length) : ∀ k, k ≤ xs.length → maxUpto xs k = at0 xs (bestUpto xs k)
  | 0, _ => rfl
  | k + 1, hk => by
    have ih := max_best xs h k (by omega)
    rw [maxUpto, bestUpto, ih]
    split <;> rfl
theorem best_first (xs : List Int) : ∀ k, ∀ i, i < bestUpto xs k → at0 xs i < at0 xs (bestUpto xs k)
  | 0, i, hi => absurd hi (by simp [bestUpto])
  | k + 1, i, hi => by
    rw [bestUpto] at hi ⊢
    split at hi
    · rename_i hlt
      rw [if_pos hlt]
      rcases Nat.lt_trichotomy i (bestUpto xs k) with h1 | h1 | h1
      · have := best_first xs k i h1; omega
      · rw [h1]; exact hlt
      · have : at0 xs i ≤ at0 xs (bestUpto xs k) := best_max xs k i hi
        omega
    · rename_i hlt
      rw [if_neg hlt]
      exact best_first xs k i hi
where best_max (xs : List Int) : ∀ k, ∀ i, i < k → at0 xs i ≤ at0 xs (bestUpto xs k)
  | 0, i, hi => absurd hi (by omega)
  | k + 1, i, hi => by
    rw [bestUpto]
    by_cases e : i = k
    · subst e; split <;> omega
    · have := best_max xs k i (by omega)
      split <;> omega
theorem firstFrom_eq (p : Nat → Bool) (b : Nat) (hb : p b = true) (hlt : ∀ i, i < b → p i = false) : ∀ n k, k ≤ b → b < k + n → firstFrom p k n = (b : Int)
  | 0, k, h1, h2 => by omega
  | n + 1, k, h1, h2 => by
    rw [firstFrom]
    by_cases e : k = b
    · subst e; rw [if_pos hb]
    · rw [hlt k (by omega)]
      exact firstFrom_eq p b hb hlt n (k + 1) (by omega) (by omega)
theorem secFirst_best (xs : List Int) (h : 1 ≤ xs.length) : secFirst xs = ((bestUpto xs xs.length : Nat) : Int) := by
  unfold secFirst
  have hm := max_best xs h xs.length (Nat.le_refl _)
  refine firstFrom_eq _ _ (by simp [hm]) (fun i hi => ?_) _ _ (Nat.zero_le _) (by have := bestUpto_lt xs xs.length (by omega); omega)
  have := best_first xs xs.length i hi
  simp only [hm, beq_eq_false_iff_ne, ne_eq]
  omega

def badUpto (xs : List Int) : Nat → Bool
  | 0 => decide (xs.length < 1) || decide (100 < xs.length)
  | k + 1 => badUpto xs k || (decide (at0 xs k < 0) || decide (1000000000000 < at0 xs k))
theorem min_le (xs : List Int) : ∀ k i, i < k → minUpto xs k ≤ at0 xs i
  | 0, i, h => by omega
  | k + 1, i, h => by
    rw [minUpto]
    by_cases e : i = k
    · subst e; split <;> omega
    · have := min_le xs k i (by omega)
      split <;> omega
theorem le_max (xs : List Int) : ∀ k i, i < k → at0 xs i ≤ maxUpto xs k
  | 0, i, h => by omega
  | k + 1, i, h => by
    rw [maxUpto]
    by_cases e : i = k
    · subst e; split <;> omega
    · have := le_max xs k i (by omega)
      split <;> omega
theorem min_mem (xs : List Int) (h : 1 ≤ xs.length) : ∀ k, k ≤ xs.length → ∃ i, i < xs.length ∧ minUpto xs k = at0 xs i
  | 0, _ => ⟨0, h, rfl⟩
  | k + 1, hk => by
    rw [minUpto]
    split
    · exact ⟨k, by omega, rfl⟩
    · exact min_mem xs h k (by omega)
theorem max_mem (xs : List Int) (h : 1 ≤ xs.length) : ∀ k, k ≤ xs.length → ∃ i, i < xs.length ∧ maxUpto xs k = at0 xs i
  | 0, _ => ⟨0, h, rfl⟩
  | k + 1, hk => by
    rw [maxUpto]
    split
    · exact ⟨k, by omega, rfl⟩
    · exact max_mem xs h k (by omega)
theorem badUpto_iff (xs : List Int) : ∀ k, badUpto xs k = true ↔ (xs.length < 1 ∨ 100 < xs.length ∨ ∃ i, i < k ∧ (at0 xs i < 0 ∨ 1000000000000 < at0 xs i))
  | 0 => by
    simp only [badUpto, Bool.or_eq_true, decide_eq_true_eq]
    constructor
    · rintro (h | h)
      · exact .inl h
      · exact .inr (.inl h)
    · rintro (h | h | ⟨i, h, _⟩)
      · exact .inl h
      · exact .inr h
      · omega
  | k + 1 => by
    simp only [badUpto, Bool.or_eq_true, decide_eq_true_eq, badUpto_iff xs k]
    constructor
    · rintro ((h | h | ⟨i, h, h'⟩) | h)
      · exact .inl h
      · exact .inr (.inl h)
      · exact .inr (.inr ⟨i, by omega, h'⟩)
      · exact .inr (.inr ⟨k, by omega, h⟩)
    · rintro (h | h | ⟨i, h, h'⟩)
      · exact .inl (.inl h)
      · exact .inl (.inr (.inl h))
      · by_cases e : i = k
        · subst e; exact .inr h'
        · exact .inl (.inr (.inr ⟨i, by omega, h'⟩))
theorem badUpto_sec (xs : List Int) : badUpto xs xs.length = true ↔ secBad xs := by
  rw [badUpto_iff]
  unfold secBad
  constructor
  · rintro (h | h | ⟨i, h, h' | h'⟩)
    · exact .inl h
    · exact .inr (.inl h)
    · have := min_le xs xs.length i h
      exact .inr (.inr (.inl (by omega)))
    · have := le_max xs xs.length i h
      exact .inr (.inr (.inr (by omega)))
  · intro h
    by_cases h1 : xs.length < 1
    · exact .inl h1
    · rcases h with h | h | h | h
      · exact .inl h
      · exact .inr (.inl h)
      · obtain ⟨i, hi, he⟩ := min_mem xs (by omega) xs.length (Nat.le_refl _)
        exact .inr (.inr ⟨i, hi, .inl (by omega)⟩)
      · obtain ⟨i, hi, he⟩ := max_mem xs (by omega) xs.length (Nat.le_refl _)
        exact .inr (.inr ⟨i, hi, .inr (by omega)⟩)

set_option maxHeartbeats 2000000 in
theorem BidSeconds_walk (w : World) (v : Value) (xs : List Int) (h : Ints w v xs) :
    Calls Try.prog 4 #[v] w fun e w' => e = .returned (.bool true) ∧ Below w.heap.size w w' := by
  have hl := list_any w v xs 101 h (by omega) (by omega)
  clear h
  obtain ⟨ys, hys⟩ : ∃ ys, ys = xs.take (101 : Int).toNat := ⟨_, rfl⟩
  rw [← hys] at hl
  clear hys
  replace hl := Lib.hid hl
  have haw := Lib.hid awake_any
  have hiff := badUpto_sec ys
  obtain ⟨f, hf⟩ : ∃ f, f = bestUpto ys ys.length := ⟨_, rfl⟩
  have hsec : Hid (∀ (W : World) (u : Value), Ints W u ys → Calls Try.prog 19 #[u] W fun e W' => ∃ K N E, e = .returned (.tuple #[.int .i64 K, .int .i64 N, .int .i64 E]) ∧ W = W' ∧
      (badUpto ys ys.length = true → K = 0 ∧ N = 0 ∧ E = 1) ∧ (badUpto ys ys.length = false → K = ((f : Nat) : Int) ∧ N = secUpto ys f ys.length ∧ E = 0)) := by
    intro W u hu
    by_cases hb : secBad ys
    · refine (Second_bad W u ys hu hb).mono ?_
      rintro e W' ⟨rfl, rfl⟩
      exact ⟨_, _, _, rfl, rfl, fun _ => ⟨rfl, rfl, rfl⟩, fun h => by rw [hiff.2 hb] at h; cases h⟩
    · refine (Second_ok W u ys hu hb).mono ?_
      rintro e W' ⟨rfl, rfl⟩
      refine ⟨_, _, _, rfl, rfl, fun h => absurd (hiff.1 h) hb, fun _ => ?_⟩
      have h1 : 1 ≤ ys.length := by unfold secBad at hb; omega
      rw [secFirst_best ys h1, hf]
      exact ⟨rfl, rfl, rfl⟩
  have hlen : Hid (badUpto ys ys.length = false → 1 ≤ ys.length) := by
    intro h
    have : ¬ secBad ys := fun hh => by rw [hiff.2 hh] at h; cases h
    unfold secBad at this
    omega
  have hrs : Hid (∀ (W : World) (u : Value), Ints W u ys → 1 ≤ ys.length → Calls Try.prog 20 #[u] W fun e W' => e = .returned (.tuple #[.int .i64 (f : Int), .int .i64 (secUpto ys f ys.length)]) ∧ Below W.heap.size W W') := by
    intro W u hu h1
    rw [hf]
    refine (rsecond_any W u ys hu h1).mono ?_
    rintro e W' ⟨rfl, d, rfl⟩
    exact ⟨rfl, below_drewN (Below.refl _ _) d⟩
  clear hiff hf
  have h3 : ys.length < 1 ∨ (¬ ys.length < 1 ∧ 100 < ys.length) ∨ (¬ ys.length < 1 ∧ ¬ 100 < ys.length) := by omega
  have hstart : Hid (badUpto ys 0 = (decide (ys.length < 1) || decide (100 < ys.length))) := rfl
  go_enter Try.func4, Try.ntmps4
  go_wp2_with (first
      | (go_at_call 18; refine hl.out.mono ?_; rintro e w1 ⟨v1, rfl, ho, hB⟩; have hi := Lib.hid (OwnI.ints ho); obtain ⟨A, cap, rfl, hle, hcap, _, hat⟩ := Ints.open hi.out; unfold maxLen at hcap; replace hat := Lib.hid hat; replace ho := Lib.hid ho; replace hB := Lib.hid hB)
      | (go_at_call 19; refine (hsec.out _ _ hi.out).mono ?_; rintro e w2 ⟨K, N, E, rfl, rfl, hK1, hK2⟩; replace hK1 := Lib.hid hK1; replace hK2 := Lib.hid hK2; clear hsec; rcases h3 with h3 | ⟨h3, h4⟩ | ⟨h3, h4⟩))
  all_goals (
    go_loop [7, 8] (fun b i => ∃ k : Nat, k ≤ ys.length ∧ i = .int .i64 k ∧ b = .bool (badUpto ys k)) (fun _ i => ys.length - (intOf i).toNat)
    case atStart => exact ⟨0, Nat.zero_le _, rfl, by rw [hstart.out]; first | (simp [h3]; done) | (simp [h3]; omega) | (simp [h3, h4]; omega)⟩
    case round =>
      clear hstart
      obtain ⟨k, hk, rfl, rfl⟩ := hrel
      by_cases hlt : k < ys.length
      · obtain ⟨b2, o2, rfl, hc⟩ := hat.out k hlt
        have hs2 : Hid (badUpto ys (k + 1) = (badUpto ys k || (decide (at0 ys k < 0) || decide (1000000000000 < at0 ys k)))) := rfl
        generalize badUpto ys k = b at *
        generalize at0 ys k = x at *
        cases b
        · by_cases h5 : x < 0
          · go_wp2
            go_round
            case rel => exact ⟨k + 1, by omega, by go_num, by rw [hs2.out]; simp [h5]⟩
            case measure => simp [intOf]; omega
          · by_cases h6 : 1000000000000 < x
            · go_wp2
              go_round
              case rel => exact ⟨k + 1, by omega, by go_num, by rw [hs2.out]; simp [h6]⟩
              case measure => simp [intOf]; omega
            · go_wp2
              go_round
              case rel => exact ⟨k + 1, by omega, by go_num, by rw [hs2.out]; simp [h5, h6]⟩
              case measure => simp [intOf]; omega
        · go_wp2
          go_round
          case rel => exact ⟨k + 1, by omega, by go_num, by rw [hs2.out]; simp⟩
          case measure => simp [intOf]; omega
      · obtain rfl : k = ys.length := by omega
        cases hbb : badUpto ys ys.length
        · obtain ⟨rfl, rfl, rfl⟩ := hK2.out hbb
          have hcall := Lib.hid (hrs.out _ _ hi.out (hlen.out hbb))
          generalize secUpto ys f ys.length = S at *
          clear hbb
          go_wp2_with (first
            | (go_at_call 20; refine hcall.out.mono ?_; rintro e w3 ⟨rfl, hB3⟩; replace hB3 := Lib.hid hB3)
            | (go_at_call 17; refine (haw.out _).mono ?_; rintro e w4 ⟨rfl, hB4⟩; replace hB4 := Lib.hid hB4))
          go_ret
          exact ⟨rfl, bthen hB.out (bthen hB3.out hB4.out)⟩
        · obtain ⟨rfl, rfl, rfl⟩ := hK1.out hbb
          clear hbb
          go_wp2_with (first
            | (go_at_call 17; refine (haw.out _).mono ?_; rintro e w4 ⟨rfl, hB4⟩; replace hB4 := Lib.hid hB4))
          go_ret
          exact ⟨rfl, bthen hB.out hB4.out⟩)
end Go.Proofs.Ytadonoacmpkolaa
