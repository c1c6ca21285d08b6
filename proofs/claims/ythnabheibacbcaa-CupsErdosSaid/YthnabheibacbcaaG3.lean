/- Plain: the two chains are what is found from corner to corner. No program. -/
import Derived.Test.YthnabheibacbcaaG2
import Derived.Test.YthnabheibacbcaaSrt
namespace Go.Proofs.Ythnabheibacbcaa

section
variable {S : Nat → Prop} {t : Nat → Nat → Nat → Int} {lt : Nat → Nat → Prop}
/-- x follows a: all others are on the left -/
def nxt (t : Nat → Nat → Nat → Int) (D : List Nat) (a x : Nat) : Prop := x ∈ D ∧ x ≠ a ∧ ∀ y ∈ D, y ≠ a → y ≠ x → 0 < t a x y
theorem nxt_unique (h : Chi S t lt) {D : List Nat} {a x y : Nat} (hx : nxt t D a x) (hy : nxt t D a y) : x = y := by
  rcases Decidable.em (x = y) with e | e
  · exact e
  · have h1 := hx.2.2 y hy.1 hy.2.1 (fun h => e h.symm)
    have h2 := hy.2.2 x hx.1 hx.2.1 e
    rw [h.swap] at h2
    omega
/-- a closed way of corners -/
structure IsH (t : Nat → Nat → Nat → Int) (lt : Nat → Nat → Prop) (D H : List Nat) : Prop where
  pos : 0 < H.length
  mem : natAt H 0 ∈ D
  low : ∀ p ∈ D, p ≠ natAt H 0 → lt (natAt H 0) p
  step : ∀ i, i + 1 < H.length → nxt t D (natAt H i) (natAt H (i + 1))
  last : (H.length = 1 ∧ ∀ x ∈ D, x = natAt H 0) ∨ (2 ≤ H.length ∧ nxt t D (natAt H (H.length - 1)) (natAt H 0))
  nd : ∀ i, 0 < i → i < H.length → natAt H i ≠ natAt H 0
theorem IsH.congr {D D' H : List Nat} (h : IsH t lt D H) (e : ∀ x, x ∈ D ↔ x ∈ D') : IsH t lt D' H := by
  have hn : ∀ a x, nxt t D a x → nxt t D' a x := fun a x ⟨h1, h2, h3⟩ => ⟨(e _).1 h1, h2, fun y hy => h3 y ((e _).2 hy)⟩
  exact ⟨h.pos, (e _).1 h.mem, fun p hp => h.low p ((e _).2 hp), fun i hi => hn _ _ (h.step i hi), h.last.imp (fun ⟨a, b⟩ => ⟨a, fun x hx => b x ((e _).2 hx)⟩) (fun ⟨a, b⟩ => ⟨a, hn _ _ b⟩), h.nd⟩
theorem edges_at {D : List Nat} : ∀ {s : List Nat}, Edges t D s → ∀ i, i + 1 < s.length → ∀ p ∈ D, p ≠ natAt s (i + 1) → p ≠ natAt s i → 0 < t (natAt s (i + 1)) (natAt s i) p
  | [], _, i, hi => by simp at hi
  | [_], _, i, hi => by simp at hi
  | v :: u :: r, h, i, hi => by
    rcases i with _ | i
    · exact h.1
    · have := edges_at h.2 i (by simpa using hi)
      simpa [natAt] using this
theorem natAt_rev {s : List Nat} {i : Nat} (hi : i < s.length) : natAt s.reverse i = natAt s (s.length - 1 - i) := by
  rw [natAt_eq (by simpa using hi), List.getElem_reverse, natAt_eq (by omega)]
theorem natAt_appL {a b : List Nat} {i : Nat} (hi : i < a.length) : natAt (a ++ b) i = natAt a i := by
  rw [natAt_eq (by rw [List.length_append]; omega), natAt_eq hi, List.getElem_append_left hi]
theorem natAt_appR {a b : List Nat} {i : Nat} (hi : i < b.length) : natAt (a ++ b) (a.length + i) = natAt b i := by
  rw [natAt_eq (by rw [List.length_append]; omega), natAt_eq hi, List.getElem_append_right (by omega)]
  simp
theorem natAt_dropLast {a : List Nat} {i : Nat} (hi : i < a.length - 1) : natAt a.dropLast i = natAt a i := by
  rw [natAt_eq (by simpa using hi), natAt_eq (by omega), List.getElem_dropLast]
/-- one way up or down -/
theorem chain_way (h : Chi S t lt) {l : List Nat} (hl : 2 ≤ l.length) (hS : ∀ p ∈ l, S p) (hp : l.Pairwise lt) :
    ∃ A : List Nat, (chain t l).reverse = A ∧ 2 ≤ A.length ∧ natAt A 0 = natAt l 0 ∧ natAt A (A.length - 1) = natAt l (l.length - 1) ∧ (∀ i, i < A.length → natAt A i ∈ l) ∧ (∀ i j, i < j → j < A.length → lt (natAt A i) (natAt A j)) ∧ ∀ i, i + 1 < A.length → nxt t l (natAt A i) (natAt A (i + 1)) := by
  have hne : l ≠ [] := by intro e; rw [e] at hl; simp at hl
  obtain ⟨h1, h2, h3, h4, h5⟩ := chain_edges h l.length l rfl hne hS hp
  have hc : 0 < (chain t l).length := by
    rcases hcc : chain t l with _ | ⟨x, r⟩
    · rw [hcc, List.getLast?_eq_some_getLast hne] at h5; cases h5
    · simp
  have e0 : natAt (chain t l) 0 = natAt l (l.length - 1) := by
    rw [natAt_eq hc, natAt_eq (by omega)]
    rw [List.head?_eq_getElem?, List.getElem?_eq_getElem hc, List.getLast?_eq_getElem?, List.getElem?_eq_getElem (by omega)] at h5
    exact Option.some.inj h5
  have e1 : natAt (chain t l) ((chain t l).length - 1) = natAt l 0 := by
    rw [natAt_eq (by omega), natAt_eq (by omega)]
    rw [List.head?_eq_getElem?, List.getElem?_eq_getElem (by omega), List.getLast?_eq_getElem?, List.getElem?_eq_getElem (by omega)] at h4
    exact Option.some.inj h4
  have hpw : ∀ i j, i < j → j < (chain t l).length → lt (natAt (chain t l) j) (natAt (chain t l) i) := fun i j hij hj => by
    have := List.pairwise_iff_getElem.1 h1 i j (by omega) hj hij
    rw [natAt_eq hj, natAt_eq (show i < (chain t l).length by omega)]
    exact this
  have h0l : lt (natAt l 0) (natAt l (l.length - 1)) := by
    have := List.pairwise_iff_getElem.1 hp 0 (l.length - 1) (by omega) (by omega) (by omega)
    rwa [natAt_eq (by omega), natAt_eq (by omega)]
  have h2c : 2 ≤ (chain t l).length := by
    rcases Nat.lt_or_ge (chain t l).length 2 with hlt | hge
    · have : (chain t l).length - 1 = 0 := by omega
      rw [this, e0] at e1
      rw [e1] at h0l
      exact absurd h0l (h.irr _)
    · exact hge
  refine ⟨_, rfl, by simpa using h2c, ?_, ?_, ?_, ?_, ?_⟩
  · rw [natAt_rev hc, Nat.sub_zero]; exact e1
  · rw [List.length_reverse, natAt_rev (by omega), Nat.sub_self]; exact e0
  · intro i hi
    rw [List.length_reverse] at hi
    rw [natAt_rev hi, natAt_eq (by omega)]
    exact h2 _ (List.getElem_mem _)
  · intro i j hij hj
    rw [List.length_reverse] at hj
    rw [natAt_rev (by omega), natAt_rev hj]
    exact hpw _ _ (by omega) (by omega)
  · intro i hi
    rw [List.length_reverse] at hi
    rw [natAt_rev (by omega), natAt_rev hi]
    obtain ⟨k, hk⟩ : ∃ k, (chain t l).length - 1 - (i + 1) = k := ⟨_, rfl⟩
    rw [hk, show (chain t l).length - 1 - i = k + 1 by omega]
    refine ⟨by rw [natAt_eq (by omega)]; exact h2 _ (List.getElem_mem _), ?_, fun y hy n1 n2 => edges_at h3 k (by omega) y hy n1 n2⟩
    exact (h.ne (hpw k (k + 1) (by omega) (by omega))).symm
theorem hull_isH (h : Chi S t lt) {l : List Nat} (hl : 0 < l.length) (hS : ∀ p ∈ l, S p) (hp : l.Pairwise lt) : IsH t lt l (hullL t l) := by
  have hlow : ∀ p ∈ l, p ≠ natAt l 0 → lt (natAt l 0) p := fun p hpm hn => by
    obtain ⟨i, hi, rfl⟩ := List.getElem_of_mem hpm
    rcases Nat.eq_zero_or_pos i with e | e
    · subst e; rw [natAt_eq hl] at hn; exact absurd rfl hn
    · rw [natAt_eq hl]; exact List.pairwise_iff_getElem.1 hp 0 i hl hi e
  unfold hullL
  by_cases h3 : l.length < 3
  · rw [if_pos h3]
    match l, h3 with
    | [a], _ => exact ⟨by simp, by simp [natAt], hlow, fun i hi => by simp at hi, .inl ⟨rfl, by simp [natAt]⟩, fun i h1 h2 => by simp at h2; omega⟩
    | [a, b], _ =>
      have hab : a ≠ b := h.ne (by simpa using hp)
      have n1 : nxt t [a, b] a b := ⟨by simp, fun e => hab e.symm, fun y hy h1 h2 => by simp at hy; rcases hy with rfl | rfl; exact absurd rfl h1; exact absurd rfl h2⟩
      have n2 : nxt t [a, b] b a := ⟨by simp, hab, fun y hy h1 h2 => by simp at hy; rcases hy with rfl | rfl; exact absurd rfl h2; exact absurd rfl h1⟩
      refine ⟨by simp, by simp [natAt], hlow, fun i hi => ?_, .inr ⟨by simp, n2⟩, fun i h1 h2 => ?_⟩
      · simp at hi
        obtain rfl : i = 0 := by omega
        exact n1
      · simp at h2
        obtain rfl : i = 1 := by omega
        exact fun e => hab e.symm
  · rw [if_neg h3]
    obtain ⟨A, hA, a1, a2, a3, a4, a5, a6⟩ := chain_way h (by omega) hS hp
    obtain ⟨B, hB, b1, b2, b3, b4, b5, b6⟩ := chain_way (l := l.reverse) h.back (by simp; omega) (fun p hp => hS p (by simpa using hp)) (List.pairwise_reverse.2 hp)
    have e1 : half t l = A.dropLast := by unfold half; rw [← hA, List.dropLast_reverse]
    have e2 : half t l.reverse = B.dropLast := by unfold half; rw [← hB, List.dropLast_reverse]
    rw [e1, e2]
    have q1 : natAt l.reverse 0 = natAt l (l.length - 1) := by rw [natAt_rev hl, Nat.sub_zero]
    have q2 : natAt l.reverse (l.reverse.length - 1) = natAt l 0 := by rw [List.length_reverse, natAt_rev (by omega)]; congr 1; omega
    rw [q1] at b2
    rw [q2] at b3
    have hm : ∀ x, x ∈ l.reverse ↔ x ∈ l := fun x => by simp
    have b6' : ∀ i, i + 1 < B.length → nxt t l (natAt B i) (natAt B (i + 1)) := fun i hi => by
      obtain ⟨c1, c2, c3⟩ := b6 i hi
      exact ⟨(hm _).1 c1, c2, fun y hy => c3 y ((hm _).2 hy)⟩
    have hlen : (A.dropLast ++ B.dropLast).length = A.length - 1 + (B.length - 1) := by simp
    have atA : ∀ i, i < A.length - 1 → natAt (A.dropLast ++ B.dropLast) i = natAt A i := fun i hi => by rw [natAt_appL (by simpa using hi), natAt_dropLast hi]
    have atB : ∀ i, i < B.length - 1 → natAt (A.dropLast ++ B.dropLast) (A.length - 1 + i) = natAt B i := fun i hi => by
      have := natAt_appR (a := A.dropLast) (b := B.dropLast) (i := i) (by simpa using hi)
      rw [List.length_dropLast] at this
      rw [this, natAt_dropLast hi]
    have at0' : natAt (A.dropLast ++ B.dropLast) 0 = natAt l 0 := by rw [atA 0 (by omega)]; exact a2
    refine ⟨by omega, ?_, ?_, ?_, .inr ⟨by omega, ?_⟩, ?_⟩
    · rw [at0', natAt_eq hl]; exact List.getElem_mem _
    · rw [at0']; exact hlow
    · intro i hi
      rw [hlen] at hi
      by_cases c1 : i + 1 < A.length - 1
      · rw [atA i (by omega), atA (i + 1) c1]
        exact a6 i (by omega)
      · by_cases c2 : i < A.length - 1
        · have e : i + 1 = A.length - 1 + 0 := by omega
          rw [atA i c2, e, atB 0 (by omega), b2, ← a3, show A.length - 1 = i + 1 by omega]
          exact a6 i (by omega)
        · obtain ⟨j, rfl⟩ : ∃ j, i = A.length - 1 + j := ⟨i - (A.length - 1), by omega⟩
          rw [Nat.add_assoc, atB j (by omega), atB (j + 1) (by omega)]
          exact b6' j (by omega)
    · rw [hlen, at0', show A.length - 1 + (B.length - 1) - 1 = A.length - 1 + (B.length - 2) by omega, atB _ (by omega), ← b3, show B.length - 1 = B.length - 2 + 1 by omega]
      exact b6' _ (by omega)
    · intro i h0 hi
      rw [hlen] at hi
      rw [at0']
      by_cases c : i < A.length - 1
      · rw [atA i c, ← a2]
        exact (h.ne (a5 0 i h0 (by omega))).symm
      · obtain ⟨j, rfl⟩ : ∃ j, i = A.length - 1 + j := ⟨i - (A.length - 1), by omega⟩
        rw [atB j (by omega), ← b3]
        exact fun e => h.ne (b5 j (B.length - 1) (by omega) (by omega)) e.symm
end
end Go.Proofs.Ythnabheibacbcaa
