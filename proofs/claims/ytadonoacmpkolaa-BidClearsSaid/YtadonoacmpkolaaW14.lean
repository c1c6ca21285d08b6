/- cost. -/
import Derived.Test.YtadonoacmpkolaaW13
namespace Go.Proofs.Ytadonoacmpkolaa
open Go.RowKit
attribute [local go_sem high] walk_shl walk_shr walk_bit walk_rem walk_and walk_or walk_andNot

def costUpto (ps : List Int) (s : Nat) : Nat → Int
  | 0 => 0
  | k + 1 => if bitOf s k = 1 then costUpto ps s k + at0 ps k else costUpto ps s k
def costOf (ps : List Int) (s : Nat) : Int := costUpto ps s ps.length
theorem costUpto_bd (ps : List Int) (s : Nat) (B : Int) (hB : 0 ≤ B) (h : ∀ i, -B ≤ at0 ps i ∧ at0 ps i ≤ B) : ∀ k : Nat, -(B * k) ≤ costUpto ps s k ∧ costUpto ps s k ≤ B * k
  | 0 => by simp [costUpto]
  | k + 1 => by
    have := costUpto_bd ps s B hB h k
    have h2 := h k
    rw [costUpto, Int.natCast_add, Int.mul_add]
    split <;> simp <;> omega

set_option maxHeartbeats 400000 in
theorem cost_any (w : World) (X : Nat) (v : Value) (ps : List Int) (s : Nat) (hx : w.cell? ⟨X, 3, none⟩ = some v) (h : Ints w v ps) (hs : small s) (hl : ps.length ≤ 6) (hb : ∀ i, -10000000000 ≤ at0 ps i ∧ at0 ps i ≤ 10000000000) :
    Calls Try.prog 64 #[.pointer (some ⟨X, 0, none⟩), .int .i64 (s : Int)] w fun e w' => e = .returned (.int .i64 (costOf ps s)) ∧ w = w' := by
  obtain ⟨A, cap, rfl, hl2, hcap, hn, hat⟩ := h.open
  replace hat := Lib.hid hat
  replace hb := Lib.hid hb
  clear hn h
  unfold maxLen at hcap
  have hcst : Hid (costUpto ps s ps.length = costOf ps s) := rfl
  generalize costOf ps s = co at *
  go_enter Try.func64, Try.ntmps64
  go_wp2
  go_loop [5, 13] (fun m i => ∃ k : Nat, k ≤ ps.length ∧ i = .int .i64 k ∧ m = .int .i64 (costUpto ps s k)) (fun _ i => ps.length - (intOf i).toNat)
  case atStart => exact ⟨0, Nat.zero_le _, rfl, rfl⟩
  case round =>
    obtain ⟨k, hk, rfl, rfl⟩ := hrel
    by_cases hlt : k < ps.length
    · obtain ⟨b2, o2, rfl, hc⟩ := hat.out k hlt
      have hbk := hb.out k
      have hsb := costUpto_bd ps s 10000000000 (by omega) hb.out k
      have hs2 : Hid (costUpto ps s (k + 1) = if bitOf s k = 1 then costUpto ps s k + at0 ps k else costUpto ps s k) := rfl
      have hr1 : -100000000000 ≤ costUpto ps s k := by omega
      have hr2 : costUpto ps s k ≤ 100000000000 := by omega
      have hks : smallS k := smallS_of (by omega)
      clear hsb
      by_cases hbit : bitOf s k = 1
      · replace hs2 := Lib.hid (show costUpto ps s (k + 1) = costUpto ps s k + at0 ps k by rw [hs2.out, if_pos hbit])
        have hbb : (((bitOf s k : Nat) : Int) == 1) = true := by simp [hbit]
        replace hbit := Lib.hid hbit
        go_wp2
        go_round
        case rel => exact ⟨k + 1, by omega, by go_num, by rw [hs2.out]⟩
        case measure => simp [intOf]; omega
      · replace hs2 := Lib.hid (show costUpto ps s (k + 1) = costUpto ps s k by rw [hs2.out, if_neg hbit])
        have hbb : (((bitOf s k : Nat) : Int) == 1) = false := by simp; omega
        replace hbit := Lib.hid hbit
        go_wp2
        go_round
        case rel => exact ⟨k + 1, by omega, by go_num, by rw [hs2.out]⟩
        case measure => simp [intOf]; omega
    · obtain rfl : k = ps.length := by omega
      go_wp2
      go_ret
      exact ⟨ret_int hcst.out, rfl⟩

end Go.Proofs.Ytadonoacmpkolaa
