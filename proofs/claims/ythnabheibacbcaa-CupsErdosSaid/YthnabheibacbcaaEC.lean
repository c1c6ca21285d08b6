/- choose: n over k. Condition: n below 29, k below 15. -/
import Derived.Test.YthnabheibacbcaaC14
import Derived.Test.YthnabheibacbcaaGA
namespace Go.Proofs.Ythnabheibacbcaa
open Go.RowKit Go.Shelf

theorem choN_bd : ∀ n : Nat, n < 29 → ∀ i : Nat, i < 15 → 0 ≤ choN n i ∧ choN n i ≤ 1000000000 ∧ 0 ≤ choN n i * ((n : Int) - i) ∧ choN n i * ((n : Int) - i) ≤ 1000000000 := by decide +kernel

set_option maxHeartbeats 1000000 in
theorem choose_any (w : World) (n k : Nat) (hn : n < 29) (hk : k < 15) : Calls Try.prog 32 #[.int .i64 (n : Int), .int .i64 (k : Int)] w fun e w' => e = .returned (.int .i64 (choN n k)) ∧ w = w' := by
  have hbd := Lib.hid (choN_bd n hn)
  go_enter Try.func32, Try.ntmps32
  go_wp2
  go_loop [5, 6] (fun c5 c6 => ∃ i : Nat, i ≤ k ∧ c6 = .int .i64 (i : Int) ∧ c5 = .int .i64 (choN n i)) (fun _ c => k - (intOf c).toNat)
  case atStart => exact ⟨0, Nat.zero_le _, rfl, rfl⟩
  case round =>
    obtain ⟨i, hi, rfl, rfl⟩ := hrel
    obtain ⟨b1, b2, b3, b4⟩ := hbd.out i (by omega)
    have hs := Lib.hid (show choN n (i + 1) = choN n i * ((n : Int) - i) / ((i : Int) + 1) from rfl)
    by_cases hlt : i < k
    · generalize choN n i = c at *
      go_wp2
      go_round
      case rel => exact ⟨i + 1, by omega, by go_num, by rw [hs.out]⟩
      case measure => simp [intOf]; omega
    · obtain rfl : i = k := by omega
      go_wp2
      go_ret
      exact ⟨rfl, rfl⟩
end Go.Proofs.Ythnabheibacbcaa
