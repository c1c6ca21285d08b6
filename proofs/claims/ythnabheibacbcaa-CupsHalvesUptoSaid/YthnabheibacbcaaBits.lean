/- Bits of int, as the walk spells them: shifts, and, or, and-not over numbers that are not negative. No condition. -/
import Derived.Test.YthnabheibacbcaaBase
namespace Go.Proofs.Ythnabheibacbcaa
open Go.RowKit

/-- 2 to the m, kept from simp and omega -/
def p2 (m : Nat) : Nat := 2 ^ m
/-- a without the bits of b -/
def andN (a b : Nat) : Nat := a ^^^ (a &&& b)
/-- bit i of s -/
def bitOf (s i : Nat) : Nat := (s >>> i) % 2
def shrN (s i : Nat) : Nat := s >>> i

theorem p2_pos (m : Nat) : 0 < p2 m := Nat.two_pow_pos m
theorem p2_le {m k : Nat} (h : m ≤ k) : p2 m ≤ p2 k := Nat.pow_le_pow_right (by omega) h
theorem p2_lt {m k : Nat} (h : m < k) : p2 m < p2 k := Nat.pow_lt_pow_right (by omega) h
theorem p2_le64 {m : Nat} (h : m ≤ 6) : p2 m ≤ 64 := p2_le h
theorem p2_succ (m : Nat) : p2 (m + 1) = 2 * p2 m := by unfold p2; omega

theorem wrap_small (x : Int) (h1 : 0 ≤ x) (h2 : x < 9223372036854775808) : IntKind.i64.wrap x = x := by rw [IntKind.wrap_i64]; omega

theorem shl_one (yk : IntKind) (m : Nat) (h : m < 63) : Op.shift .shl .i64 1 yk (m : Int) = pure (.int .i64 ((p2 m : Nat) : Int)) := by
  rw [shift_shl_any _ _ _ _ (by omega)]
  have hm : min (m : Int).toNat IntKind.i64.bits = m := by simp [IntKind.bits]; omega
  rw [hm]
  have h2 : (2 : Int) ^ m = ((2 ^ m : Nat) : Int) := by simp
  have h3 : 2 ^ m < 2 ^ 63 := Nat.pow_lt_pow_right (by omega) h
  have h4 : (1 : Int) * (2 : Int) ^ m = ((p2 m : Nat) : Int) := by rw [h2, Int.one_mul]; rfl
  have h5 : p2 m < 2 ^ 63 := h3
  rw [h4, wrap_small _ (by omega) (by omega)]
theorem shr_nat (yk : IntKind) (s m : Nat) (hs : s < 9223372036854775808) : Op.shift .shr .i64 (s : Int) yk (m : Int) = pure (.int .i64 ((shrN s m : Nat) : Int)) := by
  rw [shift_shr_any _ _ _ _ (by omega)]
  have e : min (m : Int).toNat IntKind.i64.bits = min m 64 := by simp [IntKind.bits]
  rw [e]
  have h2 : (2 : Int) ^ (min m 64) = ((2 ^ (min m 64) : Nat) : Int) := by simp
  rw [h2, ← Int.natCast_ediv]
  congr 2
  unfold shrN
  rw [Nat.shiftRight_eq_div_pow]
  by_cases h : m ≤ 64
  · rw [Nat.min_eq_left h]
  · rw [Nat.min_eq_right (by omega)]
    have h3 : 2 ^ 64 ≤ 2 ^ m := Nat.pow_le_pow_right (by omega) (by omega)
    rw [Nat.div_eq_of_lt (by omega), Nat.div_eq_of_lt (by omega)]

theorem ofInt64 (a : Nat) (ha : a < 9223372036854775808) : (BitVec.ofInt 64 (a : Int)).toNat = a := by
  rw [BitVec.ofInt_natCast, BitVec.toNat_ofNat]; exact Nat.mod_eq_of_lt (by omega)
theorem and_nat (a b : Nat) (ha : a < 9223372036854775808) (hb : b < 9223372036854775808) : bits .and .i64 (a : Int) (b : Int) = ((a &&& b : Nat) : Int) := by
  have hx : a &&& b < 2 ^ 63 := Nat.and_lt_two_pow _ (by omega)
  show IntKind.i64.wrap ((BitVec.ofInt 64 (a : Int) &&& BitVec.ofInt 64 (b : Int)).toNat : Int) = _
  rw [BitVec.toNat_and, ofInt64 a ha, ofInt64 b hb, wrap_small _ (by omega) (by omega)]
theorem or_nat (a b : Nat) (ha : a < 9223372036854775808) (hb : b < 9223372036854775808) : bits .or .i64 (a : Int) (b : Int) = ((a ||| b : Nat) : Int) := by
  have hx : a ||| b < 2 ^ 63 := Nat.or_lt_two_pow (by omega) (by omega)
  show IntKind.i64.wrap ((BitVec.ofInt 64 (a : Int) ||| BitVec.ofInt 64 (b : Int)).toNat : Int) = _
  rw [BitVec.toNat_or, ofInt64 a ha, ofInt64 b hb, wrap_small _ (by omega) (by omega)]
theorem andN_le (a b : Nat) : andN a b ≤ a := by
  unfold andN
  have : a ^^^ (a &&& b) = a &&& (a ^^^ (a &&& b)) := by
    apply Nat.eq_of_testBit_eq; intro i; simp; cases a.testBit i <;> simp
  rw [this]; exact Nat.and_le_left
theorem andNot_nat (a b : Nat) (ha : a < 9223372036854775808) (hb : b < 9223372036854775808) : bits .andNot .i64 (a : Int) (b : Int) = ((andN a b : Nat) : Int) := by
  have hx := andN_le a b
  show IntKind.i64.wrap ((BitVec.ofInt 64 (a : Int) &&& ~~~ BitVec.ofInt 64 (b : Int)).toNat : Int) = _
  have e : (BitVec.ofInt 64 (a : Int) &&& ~~~ BitVec.ofInt 64 (b : Int)).toNat = andN a b := by
    apply Nat.eq_of_testBit_eq
    intro i
    rw [BitVec.testBit_toNat, BitVec.getLsbD_and, BitVec.getLsbD_not, ← BitVec.testBit_toNat, ← BitVec.testBit_toNat, ofInt64 a ha, ofInt64 b hb]
    unfold andN
    rw [Nat.testBit_xor, Nat.testBit_and]
    by_cases hi : i < 64
    · simp [hi]; cases a.testBit i <;> simp
    · have : a.testBit i = false := Nat.testBit_lt_two_pow (Nat.lt_of_lt_of_le ha (by have : 2^63 ≤ 2^i := Nat.pow_le_pow_right (by omega) (by omega); omega))
      simp [hi, this]
  rw [e, wrap_small _ (by omega) (by omega)]
theorem and_one (a : Nat) (ha : a < 9223372036854775808) : bits .and .i64 (a : Int) 1 = ((a % 2 : Nat) : Int) := by
  have := and_nat a 1 ha (by omega)
  rw [show ((1 : Nat) : Int) = 1 from rfl, Nat.and_one_is_mod] at this
  exact this

/-- a number that int holds: a side condition that the walk finds among the hypotheses -/
def small (n : Nat) : Prop := n < 9223372036854775808
def smallS (n : Nat) : Prop := n < 63
theorem small_of {n : Nat} (h : n ≤ 1000000) : small n := by unfold small; omega
theorem smallS_of {n : Nat} (h : n ≤ 62) : smallS n := by unfold smallS; omega
theorem walk_shl (t : TypeId) (yk : IntKind) (m : Nat) (h : smallS m) : binOp .shl t (.int .i64 1) (.int yk (m : Int)) = pure (.int .i64 ((p2 m : Nat) : Int)) := shl_one yk m h
theorem walk_shr (t : TypeId) (yk : IntKind) (s m : Nat) (hs : small s) : binOp .shr t (.int .i64 (s : Int)) (.int yk (m : Int)) = pure (.int .i64 ((shrN s m : Nat) : Int)) := shr_nat yk s m hs
theorem shrN_le (s m : Nat) : shrN s m ≤ s := by unfold shrN; rw [Nat.shiftRight_eq_div_pow]; exact Nat.div_le_self _ _
theorem walk_bit (s m : Nat) (hs : small s) : bits .and .i64 ((shrN s m : Nat) : Int) 1 = ((bitOf s m : Nat) : Int) := and_one _ (by have := shrN_le s m; unfold small at hs; omega)
theorem walk_rem (s m : Nat) : ((shrN s m : Nat) : Int) % 2 = ((bitOf s m : Nat) : Int) := by unfold shrN bitOf; omega
theorem walk_and (a b : Nat) (ha : small a) (hb : small b) : bits .and .i64 (a : Int) (b : Int) = ((a &&& b : Nat) : Int) := and_nat a b ha hb
theorem walk_or (a b : Nat) (ha : small a) (hb : small b) : bits .or .i64 (a : Int) (b : Int) = ((a ||| b : Nat) : Int) := or_nat a b ha hb
theorem walk_andNot (a b : Nat) (ha : small a) (hb : small b) : bits .andNot .i64 (a : Int) (b : Int) = ((andN a b : Nat) : Int) := andNot_nat a b ha hb

theorem testBit_bitOf (s i : Nat) : bitOf s i = if s.testBit i then 1 else 0 := by
  unfold bitOf
  rw [Nat.testBit, Nat.and_comm, Nat.and_one_is_mod]
  have := Nat.mod_two_eq_zero_or_one (s >>> i)
  rcases this with h | h <;> simp [h]

theorem testBit_andN (a b i : Nat) : (andN a b).testBit i = (a.testBit i && !b.testBit i) := by
  unfold andN
  rw [Nat.testBit_xor, Nat.testBit_and]
  cases a.testBit i <;> simp
theorem testBit_p2 (m i : Nat) : (p2 m).testBit i = decide (m = i) := by unfold p2; rw [Nat.testBit_two_pow]
end Go.Proofs.Ythnabheibacbcaa
