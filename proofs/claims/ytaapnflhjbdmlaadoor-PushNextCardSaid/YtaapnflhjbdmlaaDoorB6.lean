/- The specification's table of what follows a head, as it is filled: in plain words. No condition. -/
import Derived.Test.YtaapnflhjbdmlaaDoorPX
namespace Go.Proofs.YtaapnflhjbdmlaaDoor

/-- what has been put into the table before the place (i, k, q) -/
def LkP (R : List Rule) (C : Nat) (T : Nat → Nat → Nat → Bool) (i k q a b : Nat) : Prop :=
  ∃ (i' : Nat) (r : Rule) (k' q' : Nat), R[i']? = some r ∧ (i' < i ∨ i' = i ∧ (k' < k ∨ k' = k ∧ q' < q)) ∧ a = r.fr.toNat * 5 + (r.top - 97).toNat ∧ k' < r.put.length ∧ q' < C ∧
    ppw C T (r.put.take k') (at1 r.to.toNat) q' = true ∧ b = q' * 5 + (r.put.getD k' 0 - 97).toNat
open Classical in
noncomputable def Lk (R : List Rule) (C : Nat) (T : Nat → Nat → Nat → Bool) (i k q a b : Nat) : Bool := decide (LkP R C T i k q a b)
variable {R : List Rule} {C : Nat} {T : Nat → Nat → Nat → Bool}
theorem Lk_iff {i k q a b : Nat} : Lk R C T i k q a b = true ↔ LkP R C T i k q a b := by simp [Lk]
theorem Lk_zero (a b : Nat) : Lk R C T 0 0 0 a b = false := by
  rw [Bool.eq_false_iff]
  intro h
  obtain ⟨i', r, k', q', _, h1, _⟩ := Lk_iff.1 h
  omega
theorem Lk_new {i k q : Nat} {r : Rule} (hr : R[i]? = some r) (hk : k < r.put.length) (hq : q < C) (hn : ppw C T (r.put.take k) (at1 r.to.toNat) q = true) (a b : Nat) :
    Lk R C T i k (q + 1) a b = (decide (a = r.fr.toNat * 5 + (r.top - 97).toNat ∧ b = q * 5 + (r.put.getD k 0 - 97).toNat) || Lk R C T i k q a b) := by
  rw [Bool.eq_iff_iff, Bool.or_eq_true, Lk_iff, Lk_iff, decide_eq_true_iff]
  constructor
  · rintro ⟨i', r', k', q', h1, h2, h3, h4, h5, h6, h7⟩
    by_cases he : i' = i ∧ k' = k ∧ q' = q
    · obtain ⟨rfl, rfl, rfl⟩ := he
      rw [hr] at h1
      cases h1
      exact .inl ⟨h3, h7⟩
    · exact .inr ⟨i', r', k', q', h1, by omega, h3, h4, h5, h6, h7⟩
  · rintro (⟨h1, h2⟩ | ⟨i', r', k', q', h1, h2, h3⟩)
    · exact ⟨i, r, k, q, hr, by omega, h1, hk, hq, hn, h2⟩
    · exact ⟨i', r', k', q', h1, by omega, h3⟩
theorem Lk_old {i k q : Nat} {r : Rule} (hr : R[i]? = some r) (hn : ppw C T (r.put.take k) (at1 r.to.toNat) q = false) : Lk R C T i k (q + 1) = Lk R C T i k q := by
  funext a b
  rw [Bool.eq_iff_iff, Lk_iff, Lk_iff]
  constructor
  · rintro ⟨i', r', k', q', h1, h2, h3, h4, h5, h6, h7⟩
    by_cases he : i' = i ∧ k' = k ∧ q' = q
    · obtain ⟨rfl, rfl, rfl⟩ := he
      rw [hr] at h1
      cases h1
      rw [hn] at h6
      cases h6
    · exact ⟨i', r', k', q', h1, by omega, h3, h4, h5, h6, h7⟩
  · rintro ⟨i', r', k', q', h1, h2, h3⟩
    exact ⟨i', r', k', q', h1, by omega, h3⟩
theorem Lk_letter {i k : Nat} : Lk R C T i k C = Lk R C T i (k + 1) 0 := by
  funext a b
  rw [Bool.eq_iff_iff, Lk_iff, Lk_iff]
  constructor
  · rintro ⟨i', r', k', q', h1, h2, h3, h4, h5, h6, h7⟩
    exact ⟨i', r', k', q', h1, by omega, h3, h4, h5, h6, h7⟩
  · rintro ⟨i', r', k', q', h1, h2, h3, h4, h5, h6, h7⟩
    exact ⟨i', r', k', q', h1, by omega, h3, h4, h5, h6, h7⟩
theorem Lk_rule {i k : Nat} {r : Rule} (hr : R[i]? = some r) (hk : r.put.length ≤ k) : Lk R C T i k 0 = Lk R C T (i + 1) 0 0 := by
  funext a b
  rw [Bool.eq_iff_iff, Lk_iff, Lk_iff]
  constructor
  · rintro ⟨i', r', k', q', h1, h2, h3, h4, h5, h6, h7⟩
    exact ⟨i', r', k', q', h1, by omega, h3, h4, h5, h6, h7⟩
  · rintro ⟨i', r', k', q', h1, h2, h3, h4, h5, h6, h7⟩
    refine ⟨i', r', k', q', h1, ?_, h3, h4, h5, h6, h7⟩
    by_cases he : i' = i
    · subst he
      rw [hr] at h1
      cases h1
      omega
    · omega
theorem Lk_all (a b : Nat) : Lk R C T R.length 0 0 a b = true ↔ ∃ (i : Nat) (r : Rule) (k q : Nat), R[i]? = some r ∧ a = r.fr.toNat * 5 + (r.top - 97).toNat ∧ k < r.put.length ∧ q < C ∧ ppw C T (r.put.take k) (at1 r.to.toNat) q = true ∧ b = q * 5 + (r.put.getD k 0 - 97).toNat := by
  rw [Lk_iff]
  constructor
  · rintro ⟨i', r', k', q', h1, h2, h3⟩
    exact ⟨i', r', k', q', h1, h3⟩
  · rintro ⟨i', r', k', q', h1, h3⟩
    exact ⟨i', r', k', q', h1, .inl (List.getElem?_eq_some_iff.1 h1).1, h3⟩
/-! ### the rows of a table in one row -/
theorem zdm {N F b z : Nat} (hb : b < N) : z = F * N + b ↔ z / N = F ∧ z % N = b := by
  constructor
  · rintro rfl
    exact ⟨by rw [Nat.mul_comm, Nat.mul_add_div (by omega), Nat.div_eq_of_lt hb]; omega, by rw [Nat.mul_comm, Nat.mul_add_mod, Nat.mod_eq_of_lt hb]⟩
  · rintro ⟨rfl, rfl⟩
    rw [Nat.mul_comm]
    exact (Nat.div_add_mod z N).symm
theorem idx_in {N F b : Nat} (hF : F < N) (hb : b < N) : F * N + b < N * N := by
  have : (F + 1) * N ≤ N * N := Nat.mul_le_mul_right _ hF
  rw [Nat.add_mul] at this
  omega
def upd2 (L : Nat → Nat → Bool) (F b : Nat) (v : Bool) : Nat → Nat → Bool := fun i j => if i = F ∧ j = b then v else L i j

/-! ### a row of the pivot's round -/
/-- the first J places of row I are done for the pivot K -/
def rowJ (L : Nat → Nat → Bool) (K I J : Nat) : Nat → Nat → Bool := fun i j => if i = I ∧ j < J then L i j || L K j else L i j
theorem rowJ_zero (L : Nat → Nat → Bool) (K I : Nat) : rowJ L K I 0 = L := by funext i j; simp [rowJ]
theorem rowJ_pivot (L : Nat → Nat → Bool) (K I J j : Nat) : rowJ L K I J K j = L K j := by
  unfold rowJ
  split
  · cases L K j <;> rfl
  · rfl
theorem rowJ_here (L : Nat → Nat → Bool) (K I J : Nat) : rowJ L K I J I J = L I J := by simp [rowJ]
theorem rowJ_col {L : Nat → Nat → Bool} {K I J : Nat} (h : J = 0 ∨ L I K = true) : rowJ L K I J I K = L I K := by
  rcases h with rfl | h
  · rw [rowJ_zero]
  · unfold rowJ
    split
    · rw [h]; rfl
    · rfl
theorem rowJ_succ (L : Nat → Nat → Bool) (K I J : Nat) : upd2 (rowJ L K I J) I J (L I J || L K J) = rowJ L K I (J + 1) := by
  funext i j
  unfold upd2 rowJ
  by_cases hi : i = I
  · subst hi
    by_cases hj : j = J
    · subst hj; simp
    · have : (j < J + 1) = (j < J) := by apply propext; omega
      simp [hj, this]
  · simp [hi]
theorem pv_none {L : Nat → Nat → Bool} {K I : Nat} (h : pv L K I I K = false) : pv L K I = pv L K (I + 1) := by
  rw [pv_col] at h
  funext i j
  unfold pv
  by_cases hi : i = I
  · subst hi
    simp [h]
  · have : (i < I + 1) = (i < I) := by apply propext; omega
    simp [this]
theorem pv_row {L : Nat → Nat → Bool} {K I n : Nat} (h : pv L K I I K = true) {i j : Nat} (hj : j < n) : rowJ (pv L K I) K I n i j = pv L K (I + 1) i j := by
  rw [pv_col] at h
  unfold rowJ
  by_cases hi : i = I
  · subst hi
    rw [if_pos ⟨rfl, hj⟩, pv_pivot]
    unfold pv
    simp [h]
  · rw [if_neg (fun h => hi h.1)]
    unfold pv
    have : (i < I + 1) = (i < I) := by apply propext; omega
    simp [this]

/-! ### the search for a head that leads to itself -/
def FndE (C : Nat) (t : Nat → Nat → Nat → Bool) (L : Nat → Nat → Bool) (p : Nat) (w : List Int) (k q j : Nat) : Prop :=
  headB C t p w k q = true ∧ L j j = true ∧ (j = q * 5 + (w.getD k 0 - 97).toNat ∨ L (q * 5 + (w.getD k 0 - 97).toNat) j = true)
def NoF (C n : Nat) (t : Nat → Nat → Nat → Bool) (L : Nat → Nat → Bool) (p : Nat) (w : List Int) (K Q J : Nat) : Prop :=
  ∀ k q j, k < w.length → q < C → j < n → (k < K ∨ k = K ∧ (q < Q ∨ q = Q ∧ j < J)) → ¬ FndE C t L p w k q j
section
variable {n : Nat} {t : Nat → Nat → Nat → Bool} {L : Nat → Nat → Bool} {p : Nat} {w : List Int} {K Q J : Nat}
theorem NoF.begin : NoF C n t L p w 0 0 0 := fun k q j _ _ _ h => by omega
theorem NoF.place (h : NoF C n t L p w K Q J) (hn : ¬ FndE C t L p w K Q J) : NoF C n t L p w K Q (J + 1) := fun k q j h1 h2 h3 h4 => by
  by_cases he : k = K ∧ q = Q ∧ j = J
  · obtain ⟨rfl, rfl, rfl⟩ := he; exact hn
  · exact h k q j h1 h2 h3 (by omega)
theorem NoF.control (h : NoF C n t L p w K Q n) : NoF C n t L p w K (Q + 1) 0 := fun k q j h1 h2 h3 h4 => h k q j h1 h2 h3 (by omega)
theorem NoF.none (h : NoF C n t L p w K Q J) (hn : headB C t p w K Q = false) : NoF C n t L p w K (Q + 1) 0 := fun k q j h1 h2 h3 h4 => by
  by_cases he : k = K ∧ q = Q
  · obtain ⟨rfl, rfl⟩ := he
    intro hf
    have := hf.1
    rw [hn] at this
    cases this
  · exact h k q j h1 h2 h3 (by omega)
theorem NoF.letter (h : NoF C n t L p w K C 0) : NoF C n t L p w (K + 1) 0 0 := fun k q j h1 h2 h3 h4 => h k q j h1 h2 h3 (by omega)
end
end Go.Proofs.YtaapnflhjbdmlaaDoor
