/- Plain: the program's number of squares is the reference's. No condition. -/
import Derived.Test.YthnabheibacbcaaG7
import Derived.Test.YthnabheibacbcaaC13
namespace Go.Proofs.Ythnabheibacbcaa

theorem sqN_count (l : List Pt) (os : List Nat) : ∀ N, sqN l os N = (List.range N).countP (sqOne l os)
  | 0 => rfl
  | N + 1 => by
    simp only [sqN]
    rw [List.range_succ, List.countP_append, sqN_count l os N]
    congr 1
    by_cases h : sqOne l os N = true <;> simp [h]
/-- a list of four as a quadruple -/
def dec4 (xs : List Nat) : Quad := (natAt xs 0, natAt xs 1, natAt xs 2, natAt xs 3)
theorem four_of {xs : List Nat} (h : xs.length = 4) : xs = [natAt xs 0, natAt xs 1, natAt xs 2, natAt xs 3] := by
  match xs, h with
  | [a, b, c, d], _ => rfl
theorem sub_mem {n k i : Nat} : i ∈ subL (List.range n) k ↔ i < n ∧ k.testBit i = true := by unfold subL; rw [List.mem_filter, List.mem_range]
theorem sub_len {os : List Nat} {n : Nat} (ho : os.Perm (List.range n)) (k : Nat) : (subL os k).length = (subL (List.range n) k).length := (ho.filter _).length_eq
theorem sub_sel {os : List Nat} {n : Nat} (ho : os.Perm (List.range n)) {k : Nat} (h : (subL (List.range n) k).length = 4) :
    subL os k = sel4 os (dec4 (subL (List.range n) k)).1 (dec4 (subL (List.range n) k)).2.1 (dec4 (subL (List.range n) k)).2.2.1 (dec4 (subL (List.range n) k)).2.2.2 := by
  have hm : ∀ i, i < n → (k.testBit i = true ↔ i ∈ subL (List.range n) k) := fun i hi => by rw [sub_mem]; exact ⟨fun h => ⟨hi, h⟩, fun h => h.2⟩
  generalize subL (List.range n) k = xs at *
  have h4 := four_of h
  unfold subL sel4 dec4
  refine List.filter_congr fun i hi => ?_
  have hi' : i < n := by simpa using ho.mem_iff.1 hi
  have h5 := hm i hi'
  rw [h4] at h5
  simp only [List.mem_cons, List.not_mem_nil, or_false] at h5
  dsimp only
  rw [Bool.eq_iff_iff, h5, decide_eq_true_eq]
theorem sorted_sub (n k : Nat) : (subL (List.range n) k).Pairwise (· < ·) := List.pairwise_lt_range.sublist List.filter_sublist
theorem dec_mem {n k : Nat} (h : (subL (List.range n) k).length = 4) : dec4 (subL (List.range n) k) ∈ qA n n := by
  rw [mem_qA]
  have hs := sorted_sub n k
  have hm : ∀ i ∈ subL (List.range n) k, i < n := fun i hi => (sub_mem.1 hi).1
  generalize subL (List.range n) k = xs at *
  rw [four_of h] at hs hm
  unfold dec4
  simp only [List.pairwise_cons, List.mem_cons, List.not_mem_nil, or_false] at hs hm
  have a1 := hs.1 (natAt xs 1) (.inl rfl)
  have a2 := hs.2.1 (natAt xs 2) (.inl rfl)
  have a3 := hs.2.2.1 (natAt xs 3) rfl
  have a4 := hm (natAt xs 3) (.inr (.inr (.inr rfl)))
  have a5 := hm (natAt xs 0) (.inl rfl)
  dsimp only
  omega
theorem dec_inj {n k k' : Nat} (hk : k < 2 ^ n) (hk' : k' < 2 ^ n) (h : (subL (List.range n) k).length = 4) (h' : (subL (List.range n) k').length = 4) (e : dec4 (subL (List.range n) k) = dec4 (subL (List.range n) k')) : k = k' := by
  have e2 : subL (List.range n) k = subL (List.range n) k' := by
    rw [four_of h, four_of h']
    unfold dec4 at e
    simp only [Prod.mk.injEq] at e
    obtain ⟨e0, e1, e2, e3⟩ := e
    rw [e0, e1, e2, e3]
  refine Nat.eq_of_testBit_eq fun i => ?_
  by_cases hi : i < n
  · have h1 : i ∈ subL (List.range n) k ↔ i ∈ subL (List.range n) k' := by rw [e2]
    rw [sub_mem, sub_mem] at h1
    rw [Bool.eq_iff_iff]
    exact ⟨fun h => (h1.1 ⟨hi, h⟩).2, fun h => (h1.2 ⟨hi, h⟩).2⟩
  · have hp : 2 ^ n ≤ 2 ^ i := Nat.pow_le_pow_right (by omega) (by omega)
    rw [Nat.testBit_lt_two_pow (by omega), Nat.testBit_lt_two_pow (by omega)]
end Go.Proofs.Ythnabheibacbcaa
