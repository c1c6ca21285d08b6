/- Plain: a longest chain of places is a row, as long as R.Longest says. No program. -/
import Derived.Test.YthnabheibacbcaaF5
import Derived.Test.YthnabheibacbcaaF3
import Derived.Test.YthnabheibacbcaaC14
namespace Go.Proofs.Ythnabheibacbcaa

theorem chain_of (T : Nat → Nat → Nat → Int) (h : Nat → Int) (s : Int) : ∀ (f c d : Nat), c ≤ f → c < d → ∃ r : List Nat, RC T s (d :: c :: r) ∧ ((d :: c :: r).length : Int) = (Bst T h s c d).1 ∧ ∀ x ∈ r, x < c
  | f, c, d, hf, hcd => by
    rcases Bst_cases T h s c d with h1 | ⟨e, he, ht, h1⟩
    · exact ⟨[], hcd, by rw [h1]; rfl, by simp⟩
    · rcases f with _ | f
      · omega
      · obtain ⟨r, h2, h3, h4⟩ := chain_of T h s f e c (by omega) he
        refine ⟨e :: r, ⟨hcd, ht, h2⟩, ?_, ?_⟩
        · rw [h1]
          simp only [List.length_cons] at h3 ⊢
          omega
        · intro x hx
          rcases List.mem_cons.1 hx with rfl | hx
          · exact he
          · have := h4 x hx; omega
theorem best_long {l : List Pt} {os : List Nat} {s : Int} {ps : List Nat} {R : Int} (h : BestRC l os s ps) (hR : LongV l os s os.length R) : (ps.length : Int) = R := by
  obtain ⟨h1, h2, h3⟩ := h
  match ps, h1 with
  | d :: c :: r, h1 =>
    have hcd : c < d := by cases r with | nil => exact h1 | cons => exact h1.1
    have hle := RC_len (tp l os) (hp os) s r d c h1
    have hle2 := hR.1 c d hcd (h2 d (by simp))
    rcases hR.2 with hR2 | ⟨c', d', h4, h5, h6⟩
    · simp only [List.length_cons] at *
      unfold BS at *
      omega
    · obtain ⟨r', g1, g2, g3⟩ := chain_of (tp l os) (hp os) s c' c' d' (Nat.le_refl _) h4
      have := h3 (d' :: c' :: r') g1 (by
        intro x hx
        rcases List.mem_cons.1 hx with rfl | hx
        · exact h5
        · rcases List.mem_cons.1 hx with rfl | hx
          · omega
          · have := g3 x hx; omega)
      simp only [List.length_cons] at *
      unfold BS at *
      omega
theorem RC_step {T : Nat → Nat → Nat → Int} {s : Int} : ∀ {ps : List Nat}, RC T s ps → ∀ i, i + 1 < ps.length → natAt ps (i + 1) < natAt ps i
  | [d, c], h, i, hi => by
    simp at hi
    obtain rfl : i = 0 := by omega
    exact h
  | d :: c :: e :: r, h, i, hi => by
    obtain ⟨h1, h2, h3⟩ := h
    rcases i with _ | i
    · exact h1
    · have := RC_step h3 i (by simpa using hi)
      simpa [natAt] using this
theorem RC_tri {T : Nat → Nat → Nat → Int} {s : Int} : ∀ {ps : List Nat}, RC T s ps → ∀ i, i + 2 < ps.length → T (natAt ps (i + 2)) (natAt ps (i + 1)) (natAt ps i) = s
  | [d, c], h, i, hi => by simp at hi; omega
  | d :: c :: e :: r, h, i, hi => by
    obtain ⟨h1, h2, h3⟩ := h
    rcases i with _ | i
    · exact h2
    · have := RC_tri h3 i (by simpa using hi)
      simpa [natAt] using this
theorem RC_lt {T : Nat → Nat → Nat → Int} {s : Int} {ps : List Nat} (h : RC T s ps) {i j : Nat} (hij : i < j) (hj : j < ps.length) : natAt ps j < natAt ps i := by
  induction hij with
  | refl => exact RC_step h i hj
  | @step m hij ih => have h1 : natAt ps (m + 1) < natAt ps m := RC_step h m hj; have h2 := ih (by omega); exact Nat.lt_trans h1 h2
theorem RC_two {T : Nat → Nat → Nat → Int} {s : Int} : ∀ {ps : List Nat}, RC T s ps → 2 ≤ ps.length
  | [d, c], _ => by simp
  | d :: c :: e :: r, _ => by simp
theorem row_at {os ps : List Nat} {k : Nat} (hk : k < ps.length) : nAt (nats ((ps.map (natAt os)).reverse)) k = natAt os (natAt ps (ps.length - 1 - k)) := by
  unfold nAt
  rw [at0_nats]
  have h1 : k < ((ps.map (natAt os)).reverse).length := by simpa using hk
  rw [natAt_eq h1, List.getElem_reverse, List.getElem_map, natAt_eq (l := ps) (by omega)]
  simp
theorem best_row {l : List Pt} {os : List Nat} {s : Int} {ps : List Nat} (ho : Ordd l os) (h : RC (tp l os) s ps) (hb : ∀ d ∈ ps, d < os.length) : rowB l (nats ((ps.map (natAt os)).reverse)) s = true := by
  have hlen : (nats ((ps.map (natAt os)).reverse)).length = ps.length := by rw [nats_length, List.length_reverse, List.length_map]
  have hnd : os.Nodup := ho.1.nodup_iff.2 List.nodup_range
  have hpl : ∀ i, i < ps.length → natAt ps i < os.length := fun i hi => hb _ (by rw [natAt_eq hi]; exact List.getElem_mem _)
  have hol : ∀ p, p < os.length → natAt os p < l.length := fun p hp => by rw [natAt_eq hp]; simpa using ho.1.mem_iff.1 (List.getElem_mem hp)
  have hat : ∀ k, k < ps.length → at0 (nats ((ps.map (natAt os)).reverse)) k = ((natAt os (natAt ps (ps.length - 1 - k)) : Nat) : Int) := fun k hk => by
    have := row_at (os := os) hk
    unfold nAt at this
    rw [at0_nats] at this ⊢
    rw [Int.toNat_natCast] at this
    rw [this]
  refine rowB_good (by rw [hlen]; exact RC_two h) (idxB_good fun k hk => ?_) fun k h1 hk => ?_
  · rw [hlen] at hk
    unfold idxOk
    rw [hat k hk]
    have hx := hol _ (hpl (ps.length - 1 - k) (by omega))
    have hm : memB ((nats ((ps.map (natAt os)).reverse)).take k) ((natAt os (natAt ps (ps.length - 1 - k)) : Nat) : Int) = false := by
      unfold memB
      rw [List.any_eq_false]
      intro y hy
      obtain ⟨j, hj, rfl⟩ := List.getElem_of_mem hy
      rw [List.length_take, hlen] at hj
      rw [List.getElem_take, ← at0_eq (by rw [hlen]; omega), hat j (by omega)]
      simp only [beq_iff_eq]
      intro e
      have e2 : natAt os (natAt ps (ps.length - 1 - j)) = natAt os (natAt ps (ps.length - 1 - k)) := by omega
      have e3 := natAt_inj hnd (hpl _ (by omega)) (hpl _ (by omega)) e2
      have := RC_lt h (i := ps.length - 1 - k) (j := ps.length - 1 - j) (by omega) (by omega)
      omega
    rw [hm]
    simp
    exact hx
  · rw [hlen] at hk
    unfold stepB
    rw [row_at hk, row_at (by omega)]
    have e1 : ps.length - 1 - (k - 1) = ps.length - 1 - k + 1 := by omega
    rw [e1]
    have hlt := RC_step h (ps.length - 1 - k) (by omega)
    have hbf : befB (ptA l (natAt os (natAt ps (ps.length - 1 - k + 1)))) (ptA l (natAt os (natAt ps (ps.length - 1 - k)))) = true := by
      unfold befB
      rw [decide_eq_true_eq]
      have h2 := List.pairwise_iff_getElem.1 ho.2 _ _ (hpl _ (by omega)) (hpl _ (by omega)) hlt
      rw [← natAt_eq (hpl _ (by omega)), ← natAt_eq (hpl _ (by omega))] at h2
      exact h2
    rw [hbf]
    by_cases hk1 : k ≤ 1
    · simp [hk1]
    · have htr := RC_tri h (ps.length - 1 - k) (by omega)
      unfold tp at htr
      rw [row_at (by omega), show ps.length - 1 - (k - 2) = ps.length - 1 - k + 2 by omega, htr]
      simp
end Go.Proofs.Ythnabheibacbcaa
