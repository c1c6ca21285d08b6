/- Plain: what the checks say of points. No program. -/
import Derived.Test.YthnabheibacbcaaC7
namespace Go.Proofs.Ythnabheibacbcaa

theorem lineOf_none {l : List Pt} : lineOf l = none ↔ ∀ i j k, i < j → j < k → k < l.length → tur l i j k ≠ 0 := by
  have h1 : ∀ i j k, line1 l i j k = none ↔ tur l i j k ≠ 0 := fun i j k => by unfold line1; split <;> simp_all
  unfold lineOf
  rw [fsome_none]
  constructor
  · intro h i j k hij hjk hk
    have h2 := h i (Nat.zero_le _) (by omega)
    unfold line3 at h2
    have h3 := fsome_none.1 h2 j (by omega) (by omega)
    unfold line2 at h3
    exact (h1 i j k).1 (fsome_none.1 h3 k (by omega) (by omega))
  · intro h i _ hi
    unfold line3
    rw [fsome_none]
    intro j hj hj2
    unfold line2
    rw [fsome_none]
    intro k hk hk2
    exact (h1 i j k).2 (h i j k (by omega) (by omega) (by omega))
theorem ptA_append {l m : List Pt} {i : Nat} (h : i < l.length) : ptA (l ++ m) i = ptA l i := by
  rw [ptA_eq (by rw [List.length_append]; omega), ptA_eq h, List.getElem_append_left h]
theorem lineOf_append {l : List Pt} (m : List Pt) (h : lineOf l ≠ none) : lineOf (l ++ m) ≠ none := by
  intro h2
  apply h
  rw [lineOf_none] at h2 ⊢
  intro i j k hij hjk hk
  have := h2 i j k hij hjk (by rw [List.length_append]; omega)
  unfold tur at *
  rwa [ptA_append (by omega), ptA_append (by omega), ptA_append (by omega)] at this
theorem tur_perm1 (l : List Pt) (i j k : Nat) : tur l j i k = - tur l i j k := trn_anti _ _ _
theorem tur_perm2 (l : List Pt) (i j k : Nat) : tur l i j k = tur l j k i := trn_cyc _ _ _
theorem tur_ne_sorted {l : List Pt} (h : lineOf l = none) {i j k : Nat} (hi : i < l.length) (hj : j < l.length) (hk : k < l.length) (h1 : i ≠ j) (h2 : j ≠ k) (h3 : i ≠ k) : tur l i j k ≠ 0 := by
  rw [lineOf_none] at h
  have key := h
  rcases Nat.lt_or_gt_of_ne h1 with a | a <;> rcases Nat.lt_or_gt_of_ne h2 with b | b <;> rcases Nat.lt_or_gt_of_ne h3 with c | c
  · exact key _ _ _ a b hk
  · omega
  · have := key _ _ _ c b hj; have e := tur_perm2 l k i j; have := tur_perm1 l i k j; have := tur_perm2 l i k j; have := tur_perm2 l i j k; have := tur_perm1 l j k i; omega
  · have := key _ _ _ c a hj; have := tur_perm2 l k i j; omega
  · have := key _ _ _ a c hk; have := tur_perm1 l i j k; omega
  · have := key _ _ _ b c hi; have := tur_perm2 l i j k; omega
  · omega
  · have := key _ _ _ b a hi; have := tur_perm1 l j k i; have := tur_perm2 l i j k; have := tur_perm2 l k j i; have := tur_perm2 l j i k; have := tur_perm1 l i j k; omega
theorem gen_of {l : List Pt} (hc : checkB l = true) (hg : genB l = true) : Gen l := by
  refine ⟨dist_of hc, fun i j k hi hj hk h1 h2 h3 => ?_⟩
  have : lineOf l = none := by unfold genB at hg; simpa using hg
  exact tur_ne_sorted this hi hj hk h1 h2 h3
theorem len_of {l : List Pt} (hc : checkB l = true) : 1 ≤ l.length ∧ l.length ≤ 14 := by
  unfold checkB at hc; simp at hc; omega
end Go.Proofs.Ythnabheibacbcaa
