/- Plain: sums over the pairs of a list stay the same when the list is put in another order. No condition. -/
import Derived.Test.YthnabheibacbcaaF17
namespace Go.Proofs.Ythnabheibacbcaa

/-- the sum of a function over the pairs -/
def sumP (f : Nat × Nat → Nat) (ps : List (Nat × Nat)) : Nat := (ps.map f).sum
theorem sumP_app (f : Nat × Nat → Nat) (a b : List (Nat × Nat)) : sumP f (a ++ b) = sumP f a + sumP f b := by unfold sumP; rw [List.map_append, List.sum_append]
theorem linksTo_app (x : Nat) (os : List Nat) : ∀ k, k ≤ os.length → linksTo (os ++ [x]) k = linksTo os k
  | 0, _ => rfl
  | k + 1, h => by
    simp only [linksTo]
    rw [linksTo_app x os k (by omega), List.take_append_of_le_length (by omega)]
    have : natAt (os ++ [x]) k = natAt os k := by rw [natAt_eq (by simp; omega), natAt_eq (by omega), List.getElem_append_left (by omega)]
    rw [this]
theorem linksL_app (x : Nat) (os : List Nat) : linksL (os ++ [x]) = linksL os ++ os.map fun i => (i, x) := by
  unfold linksL
  rw [List.length_append]
  simp only [List.length_cons, List.length_nil, Nat.zero_add, linksTo]
  rw [linksTo_app x os _ (Nat.le_refl _), List.take_left]
  have : natAt (os ++ [x]) os.length = x := by rw [natAt_eq (by simp)]; simp
  rw [this]
theorem sumP_cons (f : Nat × Nat → Nat) (x : Nat) : ∀ (n : Nat) (os : List Nat), os.length = n → sumP f (linksL (x :: os)) = (os.map fun y => f (x, y)).sum + sumP f (linksL os)
  | 0, os, h => by
    obtain rfl := List.eq_nil_of_length_eq_zero h
    simp [linksL, linksTo, sumP]
  | n + 1, os, h => by
    have hne : os ≠ [] := by intro e; rw [e] at h; simp at h
    obtain ⟨pre, y, rfl⟩ : ∃ pre y, os = pre ++ [y] := ⟨_, _, (List.dropLast_concat_getLast hne).symm⟩
    have hl : pre.length = n := by simp at h; exact h
    rw [← List.cons_append, linksL_app, linksL_app, sumP_app, sumP_app, sumP_cons f x n pre hl, List.map_append, List.sum_append]
    simp only [sumP, List.map_cons, List.map_nil, List.sum_cons, List.sum_nil, List.map_map]
    omega
theorem sumP_perm {f : Nat × Nat → Nat} (hf : ∀ x y, f (x, y) = f (y, x)) {os os' : List Nat} (h : os.Perm os') : sumP f (linksL os) = sumP f (linksL os') := by
  induction h with
  | nil => rfl
  | cons x h ih => rw [sumP_cons f x _ _ rfl, sumP_cons f x _ _ rfl, ih, (h.map fun y => f (x, y)).sum_nat]
  | swap x y l =>
    rw [sumP_cons f y _ _ rfl, sumP_cons f x _ _ rfl, sumP_cons f x _ _ rfl, sumP_cons f y _ _ rfl]
    simp only [List.map_cons, List.sum_cons]
    have := hf x y
    omega
  | trans _ _ h1 h2 => exact h1.trans h2
theorem rpA_snoc (f : Nat × Nat → Nat) (n : Nat) : ∀ a, a ≤ n → sumP f (rpA (n + 1) a) = sumP f (rpA n a) + ((List.range a).map fun i => f (i, n)).sum
  | 0, _ => rfl
  | a + 1, h => by
    simp only [rpA, rpB]
    rw [if_pos (show a < n by omega), sumP_app, sumP_app, sumP_app, rpA_snoc f n a (by omega), List.range_succ, List.map_append, List.sum_append]
    simp only [sumP, List.map_cons, List.map_nil, List.sum_cons, List.sum_nil]
    omega
theorem sumP_range (f : Nat × Nat → Nat) : ∀ n, sumP f (rpA n n) = sumP f (linksL (List.range n))
  | 0 => rfl
  | n + 1 => by
    have h0 : rpB n (n + 1) = [] := rpB_zero n (n + 1) (Nat.le_refl _)
    rw [List.range_succ, linksL_app, sumP_app, ← sumP_range f n]
    show sumP f (rpA (n + 1) n ++ rpB n (n + 1)) = _
    rw [h0, List.append_nil, rpA_snoc f n n (Nat.le_refl _)]
    simp only [sumP, List.map_map]
    rfl
theorem countP_sum (p : Nat × Nat → Bool) : ∀ ps : List (Nat × Nat), ps.countP p = sumP (fun x => if p x = true then 1 else 0) ps
  | [] => rfl
  | x :: ps => by
    rw [List.countP_cons, countP_sum p ps]
    simp only [sumP, List.map_cons, List.sum_cons]
    omega
/-- each other point is on one side -/
theorem leftN_both {l : List Pt} {i j : Nat} (hij : i ≠ j) (hs : ∀ k, k < l.length → k ≠ i → k ≠ j → tur l i j k ≠ 0) (hsw : ∀ k, tur l j i k = - tur l i j k) : ∀ k, k ≤ l.length →
    leftN l i j k + leftN l j i k + (if i < k then 1 else 0) + (if j < k then 1 else 0) = k
  | 0, _ => by simp [leftN]
  | k + 1, h => by
    have ih := leftN_both hij hs hsw k (by omega)
    simp only [leftN]
    have h3 := hsw k
    by_cases e1 : i = k
    · subst e1
      have h4 := tur_self1 l i j
      rw [h4] at h3
      rw [h4, h3, if_neg (by omega), if_neg (by omega), if_pos (show i < i + 1 by omega)]
      rw [if_neg (Nat.lt_irrefl i)] at ih
      by_cases e2 : j < i
      · rw [if_pos e2] at ih; rw [if_pos (by omega)]; omega
      · rw [if_neg e2] at ih; rw [if_neg (by omega)]; omega
    by_cases e2 : j = k
    · subst e2
      have h4 := tur_self2 l i j
      rw [h4] at h3
      rw [h4, h3, if_neg (by omega), if_neg (by omega), if_pos (show j < j + 1 by omega)]
      rw [if_neg (Nat.lt_irrefl j)] at ih
      by_cases e3 : i < j
      · rw [if_pos e3] at ih; rw [if_pos (by omega)]; omega
      · rw [if_neg e3] at ih; rw [if_neg (by omega)]; omega
    have h5 := hs k (by omega) (fun e => e1 e.symm) (fun e => e2 e.symm)
    rw [h3]
    split at ih <;> split at ih <;> split <;> split <;> split <;> split <;> omega
end Go.Proofs.Ythnabheibacbcaa
