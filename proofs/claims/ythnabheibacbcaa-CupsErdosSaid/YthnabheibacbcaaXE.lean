/- Plain: of enough points some are a cup, or some a cap. No condition. Plain: a polygon is a cup and a cap with the same ends. No condition. Plain: points round the lowest one; triangles; closed ways. No condition. Plain: ten points have an empty pentagon. No condition. Plain: ten points have an empty pentagon (the end). No condition. Plain: five points have an empty polygon of four. No condition. -/
import Derived.Test.YthnabheibacbcaaD1
import Derived.Test.YthnabheibacbcaaQD
import Derived.Test.YthnabheibacbcaaXB
namespace Go.Proofs.Ythnabheibacbcaa
section
section
/-- n over k -/
def bi : Nat → Nat → Nat
  | _, 0 => 1
  | 0, _ + 1 => 0
  | n + 1, k + 1 => bi n k + bi n (k + 1)
theorem bi_zero (n : Nat) : bi n 0 = 1 := by cases n <;> rfl
theorem bi_lt : ∀ n k, n < k → bi n k = 0
  | 0, k + 1, _ => rfl
  | n + 1, 0, h => by omega
  | n + 1, k + 1, h => by show bi n k + bi n (k + 1) = 0; rw [bi_lt n k (by omega), bi_lt n (k + 1) (by omega)]
theorem bi_self : ∀ n, bi n n = 1
  | 0 => rfl
  | n + 1 => by show bi n n + bi n (n + 1) = 1; rw [bi_self n, bi_lt n (n + 1) (by omega)]

section
variable {T : Nat → Nat → Nat → Int} {s : Int}
theorem RC.two : ∀ {ps : List Nat}, RC T s ps → ∃ d c r, ps = d :: c :: r ∧ c < d
  | [_, _], h => ⟨_, _, _, rfl, h⟩
  | _ :: _ :: _ :: _, h => ⟨_, _, _, rfl, h.1⟩
theorem RC.take : ∀ {ps : List Nat} (k : Nat), RC T s ps → 2 ≤ k → RC T s (ps.take k)
  | [d, c], k, h, hk => by rw [List.take_of_length_le (by simpa using hk)]; exact h
  | d :: c :: e :: r, k, h, hk => by
    obtain ⟨m, rfl⟩ : ∃ m, k = m + 2 := ⟨k - 2, by omega⟩
    rcases m with _ | m
    · exact h.1
    · have := RC.take (ps := c :: e :: r) (m + 2) h.2.2 (by omega)
      simp only [List.take_succ_cons] at this ⊢
      exact ⟨h.1, h.2.1, this⟩
theorem RC.snoc : ∀ {ps : List Nat} {y2 y1 c : Nat} {r : List Nat}, RC T s (r ++ [y2, y1]) → c < y1 → T c y1 y2 = s → RC T s (r ++ [y2, y1, c])
  | _, _, _, _, [], _, hc, ht => ⟨by assumption, ht, hc⟩
  | _, _, _, _, [x], h, hc, ht => ⟨h.1, h.2.1, h.2.2, ht, hc⟩
  | _, y2, y1, c, x :: z :: r, h, hc, ht => by
    have h3 : RC T s (z :: (r ++ [y2, y1])) := by
      cases r with
      | nil => exact h.2.2
      | cons w r => exact h.2.2
    have h4 := RC.snoc (ps := []) (r := z :: r) h3 hc ht
    cases r with
    | nil => exact ⟨h.1, h.2.1, h4⟩
    | cons w r => exact ⟨h.1, h.2.1, h4⟩
end
theorem last_two {ps : List Nat} (h : 2 ≤ ps.length) : ∃ r y2 y1, ps = r ++ [y2, y1] := by
  obtain ⟨a, y1, e⟩ : ∃ a y1, ps = a ++ [y1] := ⟨ps.dropLast, ps.getLast (by intro e; rw [e] at h; simp at h), (List.dropLast_concat_getLast _).symm⟩
  have ha : a ≠ [] := by intro e2; rw [e, e2] at h; simp at h
  obtain ⟨r, y2, e2⟩ : ∃ r y2, a = r ++ [y2] := ⟨a.dropLast, a.getLast ha, (List.dropLast_concat_getLast _).symm⟩
  exact ⟨r, y2, y1, by rw [e, e2]; simp⟩
theorem len_part {α : Type} (p : α → Bool) : ∀ l : List α, l.length = (l.filter p).length + (l.filter fun x => !p x).length
  | [] => rfl
  | x :: l => by
    have := len_part p l
    by_cases h : p x = true
    · rw [List.filter_cons_of_pos h, List.filter_cons_of_neg (by simp [h])]; simp only [List.length_cons]; omega
    · rw [List.filter_cons_of_neg h, List.filter_cons_of_pos (by simpa using h)]; simp only [List.length_cons]; omega

open Classical in
/-- Erdos and Szekeres -/
theorem es {T : Nat → Nat → Nat → Int} {n : Nat} (hT : ∀ e c d, e < c → c < d → d < n → T e c d = 1 ∨ T e c d = -1) : ∀ (m p q : Nat), p + q = m → 2 ≤ p → 2 ≤ q → ∀ X : List Nat, X.Pairwise (· < ·) → (∀ x ∈ X, x < n) →
    (∀ ps, RC T 1 ps → (∀ d ∈ ps, d ∈ X) → ps.length < p) → (∀ ps, RC T (-1) ps → (∀ d ∈ ps, d ∈ X) → ps.length < q) → X.length ≤ bi (p + q - 4) (p - 2) := by
  intro m
  induction m with
  | zero => intro p q h; omega
  | succ m ih =>
    intro p q hm hp hq X hX hXn h1 h2
    have hpair : ∀ x y, X = x :: y :: X.tail.tail → x < y := fun x y e => by
      rw [e] at hX
      exact (List.pairwise_cons.1 hX).1 y (by simp)
    by_cases hp2 : p = 2
    · subst hp2
      rw [show 2 - 2 = 0 from rfl, bi_zero]
      match X, hX, h1 with
      | [], _, _ => simp
      | [_], _, _ => simp
      | x :: y :: X, hX, h1 =>
        have := h1 [y, x] ((List.pairwise_cons.1 hX).1 y (by simp)) (fun d hd => by simp at hd; rcases hd with rfl | rfl <;> simp)
        simp at this
    by_cases hq2 : q = 2
    · subst hq2
      rw [show p + 2 - 4 = p - 2 by omega, bi_self]
      match X, hX, h2 with
      | [], _, _ => simp
      | [_], _, _ => simp
      | x :: y :: X, hX, h2 =>
        have := h2 [y, x] ((List.pairwise_cons.1 hX).1 y (by simp)) (fun d hd => by simp at hd; rcases hd with rfl | rfl <;> simp)
        simp at this
    have hpart := len_part (fun y => decide (∃ ps, RC T 1 (y :: ps) ∧ (∀ d ∈ y :: ps, d ∈ X) ∧ (y :: ps).length = p - 1)) X
    have hA := ih p (q - 1) (by omega) hp (by omega) (X.filter fun y => decide (∃ ps, RC T 1 (y :: ps) ∧ (∀ d ∈ y :: ps, d ∈ X) ∧ (y :: ps).length = p - 1)) (hX.sublist List.filter_sublist) (fun x hx => hXn x (List.mem_filter.1 hx).1)
      (fun ps hc hs => h1 ps hc fun d hd => (List.mem_filter.1 (hs d hd)).1) (fun ps hc hs => by
        rcases Nat.lt_or_ge ps.length (q - 1) with c | c
        · exact c
        exfalso
        obtain ⟨r, y2, y1, rfl⟩ := last_two (show 2 ≤ ps.length by omega)
        obtain ⟨y1X, hy⟩ := List.mem_filter.1 (hs y1 (by simp))
        have hy2X := (List.mem_filter.1 (hs y2 (by simp))).1
        obtain ⟨cs, hcs, hcX, hcl⟩ := of_decide_eq_true hy
        obtain ⟨d', c2, r2, e, hlt⟩ := hcs.two
        injection e with e1 e2
        subst e1 e2
        have hlt2 : y1 < y2 := by
          have h3 : ∀ (r : List Nat), RC T (-1) (r ++ [y2, y1]) → y1 < y2 := fun r => by
            induction r with
            | nil => exact fun h => h
            | cons x r ihr =>
              intro h
              cases r with
              | nil => exact h.2.2
              | cons z r =>
                cases r with
                | nil => exact ihr h.2.2
                | cons w r => exact ihr h.2.2
          exact h3 r hc
        rcases hT c2 y1 y2 hlt hlt2 (hXn _ hy2X) with e | e
        · have h5 : RC T 1 (y2 :: y1 :: c2 :: r2) := ⟨hlt2, e, hcs⟩
          have := h1 _ h5 (fun d hd => by rcases List.mem_cons.1 hd with rfl | hd; exact hy2X; exact hcX d hd)
          simp only [List.length_cons] at this hcl
          omega
        · have h5 := RC.snoc (ps := []) hc hlt e
          have := h2 _ h5 (fun d hd => by
            rcases List.mem_append.1 hd with hd | hd
            · exact (List.mem_filter.1 (hs d (by simp [hd]))).1
            · simp only [List.mem_cons, List.not_mem_nil, or_false] at hd
              rcases hd with rfl | rfl | rfl
              · exact hy2X
              · exact y1X
              · exact hcX _ (by simp))
          simp only [List.length_append, List.length_cons, List.length_nil] at this c
          omega)
    have hB := ih (p - 1) q (by omega) (by omega) hq (X.filter fun y => !decide (∃ ps, RC T 1 (y :: ps) ∧ (∀ d ∈ y :: ps, d ∈ X) ∧ (y :: ps).length = p - 1)) (hX.sublist List.filter_sublist) (fun x hx => hXn x (List.mem_filter.1 hx).1)
      (fun ps hc hs => by
        rcases Nat.lt_or_ge ps.length (p - 1) with c | c
        · exact c
        exfalso
        have h5 := RC.take (p - 1) hc (by omega)
        obtain ⟨d, c2, r2, e, _⟩ := h5.two
        have hsub : ∀ x ∈ ps.take (p - 1), x ∈ ps := fun x hx => List.mem_of_mem_take hx
        have hd : d ∈ ps := hsub d (by rw [e]; simp)
        have hno := (List.mem_filter.1 (hs d hd)).2
        rw [Bool.not_eq_true', decide_eq_false_iff_not] at hno
        refine hno ⟨c2 :: r2, by rw [← e]; exact h5, fun x hx => (List.mem_filter.1 (hs x (hsub x (by rw [e]; exact hx)))).1, ?_⟩
        rw [← e, List.length_take]; omega)
      (fun ps hc hs => h2 ps hc fun d hd => (List.mem_filter.1 (hs d hd)).1)
    obtain ⟨p', rfl⟩ : ∃ p', p = p' + 3 := ⟨p - 3, by omega⟩
    obtain ⟨q', rfl⟩ : ∃ q', q = q' + 3 := ⟨q - 3, by omega⟩
    rw [show p' + 3 + (q' + 3 - 1) - 4 = p' + q' + 1 by omega, show p' + 3 - 2 = p' + 1 by omega] at hA
    rw [show p' + 3 - 1 + (q' + 3) - 4 = p' + q' + 1 by omega, show p' + 3 - 1 - 2 = p' by omega] at hB
    rw [show p' + 3 + (q' + 3) - 4 = p' + q' + 1 + 1 by omega, show p' + 3 - 2 = p' + 1 by omega]
    show X.length ≤ bi (p' + q' + 1) p' + bi (p' + q' + 1) (p' + 1)
    omega
end
section
/-- a chain of points, the last one ahead -/
def CI (l : List Pt) (s : Int) : List Nat → Prop
  | d :: c :: e :: r => befI l c d ∧ tur l e c d = s ∧ CI l s (c :: e :: r)
  | [d, c] => befI l c d
  | _ => False
theorem CI.of {l : List Pt} {s : Int} : ∀ (Q : List Nat), 2 ≤ Q.length → (∀ i, i + 1 < Q.length → befI l (natAt Q (i + 1)) (natAt Q i)) → (∀ i, i + 2 < Q.length → tur l (natAt Q (i + 2)) (natAt Q (i + 1)) (natAt Q i) = s) → CI l s Q
  | [], h, _, _ => by simp at h
  | [_], h, _, _ => by simp at h
  | [d, c], _, h, _ => h 0 (by simp)
  | d :: c :: e :: r, _, h1, h2 => ⟨h1 0 (by simp), h2 0 (by simp), CI.of (c :: e :: r) (by simp) (fun i hi => by
      have := h1 (i + 1) (by simpa using hi)
      rwa [natAt_cons, natAt_cons] at this) (fun i hi => by
      have := h2 (i + 1) (by simpa using hi)
      rwa [natAt_cons, natAt_cons, natAt_cons] at this)⟩
theorem place_of {l : List Pt} {os : List Nat} (hC : Chi (· < l.length) (tur l) (befI l)) (ho : Ordd l os) {x y : Nat} (hx : x ∈ os) (hy : y ∈ os) (h : befI l x y) : os.idxOf x < os.idxOf y ∧ natAt os (os.idxOf x) = x ∧ natAt os (os.idxOf y) = y := by
  have h1 := List.idxOf_lt_length_of_mem hx
  have h2 := List.idxOf_lt_length_of_mem hy
  have e1 : os[os.idxOf x] = x := List.getElem_idxOf h1
  have e2 : os[os.idxOf y] = y := List.getElem_idxOf h2
  refine ⟨?_, by rw [natAt_eq h1, e1], by rw [natAt_eq h2, e2]⟩
  rcases Nat.lt_trichotomy (os.idxOf x) (os.idxOf y) with c | c | c
  · exact c
  · exfalso
    have : x = y := by rw [← e1, ← e2]; simp only [c]
    subst this
    exact hC.irr _ h
  · exfalso
    have := List.pairwise_iff_getElem.1 ho.2 _ _ h2 h1 c
    rw [e1, e2] at this
    exact hC.asym h this
theorem CI.places {l : List Pt} {os : List Nat} (hC : Chi (· < l.length) (tur l) (befI l)) (ho : Ordd l os) {s : Int} : ∀ Q : List Nat, CI l s Q → (∀ x ∈ Q, x ∈ os) → RC (tp l os) s (Q.map os.idxOf)
  | [d, c], h, hm => (place_of hC ho (hm c (by simp)) (hm d (by simp)) h).1
  | d :: c :: e :: r, h, hm => by
    have h3 := CI.places hC ho (c :: e :: r) h.2.2 fun x hx => hm x (List.mem_cons_of_mem _ hx)
    obtain ⟨p1, p2, p3⟩ := place_of hC ho (hm c (by simp)) (hm d (by simp)) h.1
    have hec : befI l e c := by
      cases r with
      | nil => exact h.2.2
      | cons z r => exact h.2.2.1
    obtain ⟨_, p4, _⟩ := place_of hC ho (hm e (by simp)) (hm c (by simp)) hec
    refine ⟨p1, ?_, h3⟩
    unfold tp
    rw [p2, p3, p4]
    exact h.2.1

/-- once it goes down it goes down -/
theorem poly_down {l : List Pt} (hg : Gen l) {H : List Nat} (h : IsPoly l H) {i : Nat} (hi : i + 2 < H.length) (hd : befI l (natAt H (i + 1)) (natAt H i)) : befI l (natAt H (i + 2)) (natAt H (i + 1)) := by
  have hC := chi_of hg
  have hm := h.hull.all
  have hS : ∀ k, k < H.length → natAt H k < l.length := fun k hk => h.lt _ (hm k hk)
  have hdf : ∀ a b, a < b → b < H.length → natAt H a ≠ natAt H b := fun a b hab hb => h.hull.diff hC a b hab hb
  have n1 := h.hull.step i (by omega)
  have n2 := h.hull.step (i + 1) hi
  rw [show i + 1 + 1 = i + 2 from rfl] at n2
  rcases hC.total (hS (i + 2) hi) (hS (i + 1) (by omega)) (fun e => hdf (i + 1) (i + 2) (by omega) hi e.symm) with c | c
  · exact c
  exfalso
  have hi0 : i ≠ 0 := fun e => by
    subst e
    have := h.hull.low _ (hm 1 (by omega)) (fun e => hdf 0 1 (by omega) (by omega) e.symm)
    exact hC.asym hd this
  have hf1 : befI l (natAt H 0) (natAt H (i + 1)) := h.hull.low _ (hm _ (by omega)) (fun e => hdf 0 (i + 1) (by omega) (by omega) e.symm)
  have t1 := n1.2.2 (natAt H 0) (hm 0 (by omega)) (hdf 0 i (by omega) (by omega)) (hdf 0 (i + 1) (by omega) (by omega))
  have t2 := n2.2.2 (natAt H 0) (hm 0 (by omega)) (hdf 0 (i + 1) (by omega) (by omega)) (hdf 0 (i + 2) (by omega) hi)
  have t3 := n1.2.2 (natAt H (i + 2)) (hm _ hi) (fun e => hdf i (i + 2) (by omega) hi e.symm) (fun e => hdf (i + 1) (i + 2) (by omega) hi e.symm)
  generalize natAt H 0 = f at *
  have e1 : tur l f (natAt H (i + 1)) (natAt H i) < 0 := by rw [hC.swap, hC.cyc]; omega
  have e2 : 0 < tur l f (natAt H (i + 1)) (natAt H (i + 2)) := by rw [hC.cyc]; exact t2
  rcases hC.total (hS i (by omega)) (hS (i + 2) hi) (hdf i (i + 2) (by omega) hi) with q | q
  · have e3 : tur l (natAt H (i + 1)) (natAt H i) (natAt H (i + 2)) < 0 := by rw [hC.anti]; omega
    have := hC.n2 hf1 hd q e1 e3
    omega
  · have e3 : 0 < tur l (natAt H (i + 1)) (natAt H (i + 2)) (natAt H i) := by rw [← hC.cyc]; exact t3
    have := hC.p2 hf1 c q e2 e3
    omega
theorem poly_turn {l : List Pt} (hg : Gen l) {H : List Nat} (h : IsPoly l H) : ∃ j, 1 ≤ j ∧ j + 1 ≤ H.length ∧ (∀ i, i < j → befI l (natAt H i) (natAt H (i + 1))) ∧ ∀ i, j ≤ i → i + 1 < H.length → befI l (natAt H (i + 1)) (natAt H i) := by
  have hC := chi_of hg
  have hl := h.len
  have hm := h.hull.all
  have hS : ∀ k, k < H.length → natAt H k < l.length := fun k hk => h.lt _ (hm k hk)
  have hdf : ∀ a b, a < b → b < H.length → natAt H a ≠ natAt H b := fun a b hab hb => h.hull.diff hC a b hab hb
  have hup : ∀ k, 1 ≤ k → k + 1 ≤ H.length → (∀ i, i < k → befI l (natAt H i) (natAt H (i + 1))) ∨ ∃ j, 1 ≤ j ∧ j < k ∧ (∀ i, i < j → befI l (natAt H i) (natAt H (i + 1))) ∧ befI l (natAt H (j + 1)) (natAt H j) := by
    intro k
    induction k with
    | zero => intro h; omega
    | succ k ih =>
      intro _ hk2
      rcases Nat.eq_zero_or_pos k with c | c
      · subst c
        refine .inl fun i hi => ?_
        obtain rfl : i = 0 := by omega
        exact h.hull.low _ (hm 1 (by omega)) (fun e => hdf 0 1 (by omega) (by omega) e.symm)
      · rcases ih c (by omega) with h1 | ⟨j, a, b, h2⟩
        · rcases hC.total (hS k (by omega)) (hS (k + 1) (by omega)) (hdf k (k + 1) (by omega) (by omega)) with q | q
          · refine .inl fun i hi => ?_
            by_cases e : i = k
            · subst e; exact q
            · exact h1 i (by omega)
          · exact .inr ⟨k, c, by omega, h1, q⟩
        · exact .inr ⟨j, a, by omega, h2⟩
  rcases hup (H.length - 1) (by omega) (by omega) with h1 | ⟨j, a, b, h1, h2⟩
  · exact ⟨H.length - 1, by omega, by omega, h1, fun i hi hi2 => by omega⟩
  · refine ⟨j, a, by omega, h1, fun i => ?_⟩
    induction i with
    | zero => intro h; omega
    | succ i ih =>
      intro hi hi2
      by_cases e : j = i + 1
      · subst e; exact h2
      · exact poly_down hg h hi2 (ih (by omega) (by omega))

theorem natAt_drop (H : List Nat) (j i : Nat) (h : j + i < H.length) : natAt (H.drop j) i = natAt H (j + i) := by
  rw [natAt_eq (by rw [List.length_drop]; omega), natAt_eq h, List.getElem_drop]
theorem natAt_take (H : List Nat) {j i : Nat} (h : i < j) (hj : j ≤ H.length) : natAt (H.take j) i = natAt H i := by
  rw [natAt_eq (by rw [List.length_take]; omega), natAt_eq (by omega), List.getElem_take]
/-- a polygon has two corners less than a cup and a cap -/
theorem poly_cups {l : List Pt} {os : List Nat} (hg : Gen l) (ho : Ordd l os) {H : List Nat} (h : IsPoly l H) {a b : Nat} (ha : ∀ ps, RC (tp l os) 1 ps → (∀ d ∈ ps, d < os.length) → ps.length ≤ a) (hb : ∀ ps, RC (tp l os) (-1) ps → (∀ d ∈ ps, d < os.length) → ps.length ≤ b) :
    H.length + 2 ≤ a + b := by
  have hC := chi_of hg
  obtain ⟨j, j1, j2, hu, hd⟩ := poly_turn hg h
  have hm := h.hull.all
  have hl := h.len
  have hS : ∀ k, k < H.length → natAt H k < l.length := fun k hk => h.lt _ (hm k hk)
  have hdf : ∀ a b, a < b → b < H.length → natAt H a ≠ natAt H b := fun a b hab hb => h.hull.diff hC a b hab hb
  have hos : ∀ x ∈ H, x ∈ os := fun x hx => ho.1.mem_iff.2 (List.mem_range.2 (h.lt x hx))
  have hpl : ∀ Q : List Nat, (∀ x ∈ Q, x ∈ os) → ∀ d ∈ Q.map os.idxOf, d < os.length := fun Q hQ d hdm => by
    obtain ⟨x, hx, rfl⟩ := List.mem_map.1 hdm
    exact List.idxOf_lt_length_of_mem (hQ x hx)
  have htri : ∀ i, i + 2 < H.length → tur l (natAt H i) (natAt H (i + 1)) (natAt H (i + 2)) = 1 := fun i hi => by
    have h1 := (h.hull.step i (by omega)).2.2 (natAt H (i + 2)) (hm _ hi) (fun e => hdf i (i + 2) (by omega) hi e.symm) (fun e => hdf (i + 1) (i + 2) (by omega) hi e.symm)
    have h2 := tur_pm hg (hS i (by omega)) (hS (i + 1) (by omega)) (hS (i + 2) hi) (hdf i (i + 1) (by omega) (by omega)) (hdf (i + 1) (i + 2) (by omega) hi) (hdf i (i + 2) (by omega) hi)
    omega
  have hq1 : ∀ x ∈ (H.take (j + 1)).reverse, x ∈ os := fun x hx => hos x (List.mem_of_mem_take (List.mem_reverse.1 hx))
  have hlen1 : (H.take (j + 1)).length = j + 1 := by rw [List.length_take]; omega
  have hat1 : ∀ i, i < j + 1 → natAt (H.take (j + 1)).reverse i = natAt H (j - i) := fun i hi => by
    rw [natAt_rev (by omega), hlen1, natAt_take H (by omega) j2, show j + 1 - 1 - i = j - i by omega]
  have c1 : CI l 1 (H.take (j + 1)).reverse := CI.of _ (by rw [List.length_reverse, hlen1]; omega) (fun i hi => by
      rw [List.length_reverse, hlen1] at hi
      rw [hat1 _ (by omega), hat1 _ (by omega)]
      have := hu (j - (i + 1)) (by omega)
      rwa [show j - (i + 1) + 1 = j - i by omega] at this) (fun i hi => by
      rw [List.length_reverse, hlen1] at hi
      rw [hat1 _ (by omega), hat1 _ (by omega), hat1 _ (by omega)]
      have := htri (j - (i + 2)) (by omega)
      rwa [show j - (i + 2) + 1 = j - (i + 1) by omega, show j - (i + 2) + 2 = j - i by omega] at this)
  have r1 := ha _ (c1.places hC ho _ hq1) (hpl _ hq1)
  rw [List.length_map, List.length_reverse, hlen1] at r1
  have hq2 : ∀ x ∈ H.drop j ++ [natAt H 0], x ∈ os := fun x hx => by
    rcases List.mem_append.1 hx with hx | hx
    · exact hos x (List.mem_of_mem_drop hx)
    · rw [List.mem_singleton.1 hx]; exact hos _ (hm 0 (by omega))
  have hlen2 : (H.drop j).length = H.length - j := List.length_drop
  have hat2 : ∀ i, i < H.length - j → natAt (H.drop j ++ [natAt H 0]) i = natAt H (j + i) := fun i hi => by
    rw [natAt_appL (by omega), natAt_drop _ _ _ (by omega)]
  have hat3 : natAt (H.drop j ++ [natAt H 0]) (H.length - j) = natAt H 0 := by
    have := natAt_appR (a := H.drop j) (b := [natAt H 0]) (i := 0) (by simp)
    rwa [hlen2, Nat.add_zero] at this
  have c2 : CI l (-1) (H.drop j ++ [natAt H 0]) := CI.of _ (by rw [List.length_append, hlen2, List.length_singleton]; omega) (fun i hi => by
      rw [List.length_append, hlen2, List.length_singleton] at hi
      rw [hat2 i (by omega)]
      by_cases e : i + 1 = H.length - j
      · rw [e, hat3]
        exact h.hull.low _ (hm _ (by omega)) (fun e' => hdf 0 (j + i) (by omega) (by omega) e'.symm)
      · rw [hat2 _ (by omega)]
        exact hd (j + i) (by omega) (by omega)) (fun i hi => by
      rw [List.length_append, hlen2, List.length_singleton] at hi
      rw [hat2 i (by omega), hat2 (i + 1) (by omega), hC.rev]
      by_cases e : i + 2 = H.length - j
      · rw [e, hat3]
        have h1 := (h.hull.step (j + i) (by omega)).2.2 (natAt H 0) (hm 0 (by omega)) (hdf 0 (j + i) (by omega) (by omega)) (hdf 0 (j + i + 1) (by omega) (by omega))
        have h2 := tur_pm hg (hS (j + i) (by omega)) (hS (j + i + 1) (by omega)) (hS 0 (by omega)) (hdf _ _ (by omega) (by omega)) (fun e' => hdf 0 (j + i + 1) (by omega) (by omega) e'.symm) (fun e' => hdf 0 (j + i) (by omega) (by omega) e'.symm)
        rw [show j + (i + 1) = j + i + 1 from rfl]
        omega
      · rw [hat2 _ (by omega)]
        have := htri (j + i) (by omega)
        rw [show j + (i + 1) = j + i + 1 from rfl, show j + (i + 2) = j + i + 2 from rfl]
        omega)
  have r2 := hb _ (c2.places hC ho _ hq2) (hpl _ hq2)
  rw [List.length_map, List.length_append, hlen2, List.length_singleton] at r2
  omega
end
end
section
section
theorem det_p1 (f a b c d : Pt) : det a b d * det f a c = det a b c * det f a d + det a c d * det f a b := by unfold det; grind
theorem det_p4 (f a b c d : Pt) : det a c d * det f b d = det a b d * det f c d + det b c d * det f a d := by unfold det; grind
theorem sgn_pos {X q A u C v : Int} (h : X * q = A * u + C * v) (hq : 0 < q) (hu : 0 < u) (hv : 0 < v) (hA : 0 < A) (hC : 0 < C) : 0 < X := by
  refine pos_of ?_ hq
  rw [h]
  have := Int.mul_pos hA hu
  have := Int.mul_pos hC hv
  omega
theorem sgn_neg {X q A u C v : Int} (h : X * q = A * u + C * v) (hq : 0 < q) (hu : 0 < u) (hv : 0 < v) (hA : A < 0) (hC : C < 0) : X < 0 := by
  have := sgn_pos (X := -X) (q := q) (A := -A) (u := u) (C := -C) (v := v) (by rw [Int.neg_mul, Int.neg_mul, Int.neg_mul, h]; omega) hq hu hv (by omega) (by omega)
  omega
def behind (l : List Pt) (f x : Nat) : Prop := x < l.length ∧ befI l f x
def ltA (l : List Pt) (f x y : Nat) : Prop := behind l f x ∧ behind l f y ∧ 0 < tur l f x y
/-- round the point f the others are in an order, too -/
theorem chi_ang {l : List Pt} (hg : Gen l) {f : Nat} (hf : f < l.length) : Chi (behind l f) (tur l) (ltA l f) := by
  have hC := chi_of hg
  have hpos : ∀ x y z, befI l f x → befI l f y → befI l f z → 0 < tur l f x y → 0 < tur l f y z → 0 < tur l f x z := fun x y z h1 h2 h3 h4 h5 => by
    unfold tur at *
    rw [trn_pos, ← crs_det] at *
    exact vec_pos (vpos_sub h1) (vpos_sub h2) (vpos_sub h3) h4 h5
  have htr : ∀ {a b c}, ltA l f a b → ltA l f b c → ltA l f a c := fun {a b c} h1 h2 => ⟨h1.1, h2.2.1, hpos a b c h1.1.2 h1.2.1.2 h2.2.1.2 h1.2.2 h2.2.2⟩
  have dp : ∀ {a b}, ltA l f a b → 0 < det (ptA l f) (ptA l a) (ptA l b) := fun h => trn_pos.1 h.2.2
  refine ⟨hC.cyc, hC.anti, fun ha hb hc h1 h2 h3 => hC.gen ha.1 hb.1 hc.1 h1 h2 h3, fun a h => by have := h.2.2; rw [hC.same] at this; omega, htr, fun {a b} ha hb hne => ?_, ?_, ?_, ?_, ?_, ?_, ?_, ?_, ?_⟩
  · have h1 := hC.gen hf ha.1 hb.1 (hC.ne ha.2) hne (hC.ne hb.2)
    rcases Int.lt_or_le 0 (tur l f a b) with c | c
    · exact .inl ⟨ha, hb, c⟩
    · exact .inr ⟨hb, ha, by rw [hC.swap]; omega⟩
  · intro a b c d h1 h2 h3 h4 h5
    exact trn_pos.2 (sgn_pos (det_p1 (ptA l f) _ _ _ _) (dp (htr h1 h2)) (dp (htr (htr h1 h2) h3)) (dp h1) (trn_pos.1 h4) (trn_pos.1 h5))
  · intro a b c d h1 h2 h3 h4 h5
    exact trn_pos.2 (sgn_pos (det_p2 (ptA l f) _ _ _ _) (dp h2) (dp h1) (dp (htr h2 h3)) (trn_pos.1 h5) (trn_pos.1 h4))
  · intro a b c d h1 h2 h3 h4 h5
    exact trn_pos.2 (sgn_pos (det_p3 (ptA l f) _ _ _ _) (dp h2) (dp (htr h1 h2)) (dp h3) (trn_pos.1 h5) (trn_pos.1 h4))
  · intro a b c d h1 h2 h3 h4 h5
    exact trn_pos.2 (sgn_pos (det_p4 (ptA l f) _ _ _ _) (dp (htr h2 h3)) (dp h3) (dp (htr (htr h1 h2) h3)) (trn_pos.1 h4) (trn_pos.1 h5))
  · intro a b c d h1 h2 h3 h4 h5
    exact trn_neg.2 (sgn_neg (det_p1 (ptA l f) _ _ _ _) (dp (htr h1 h2)) (dp (htr (htr h1 h2) h3)) (dp h1) (trn_neg.1 h4) (trn_neg.1 h5))
  · intro a b c d h1 h2 h3 h4 h5
    exact trn_neg.2 (sgn_neg (det_p2 (ptA l f) _ _ _ _) (dp h2) (dp h1) (dp (htr h2 h3)) (trn_neg.1 h5) (trn_neg.1 h4))
  · intro a b c d h1 h2 h3 h4 h5
    exact trn_neg.2 (sgn_neg (det_p3 (ptA l f) _ _ _ _) (dp h2) (dp (htr h1 h2)) (dp h3) (trn_neg.1 h5) (trn_neg.1 h4))
  · intro a b c d h1 h2 h3 h4 h5
    exact trn_neg.2 (sgn_neg (det_p4 (ptA l f) _ _ _ _) (dp (htr h2 h3)) (dp h3) (dp (htr (htr h1 h2) h3)) (trn_neg.1 h4) (trn_neg.1 h5))

/-! ### triangles -/
/-- p is inside a, b, c -/
def inTri (l : List Pt) (a b c p : Nat) : Prop := 0 < tur l a b p ∧ 0 < tur l b c p ∧ 0 < tur l c a p
theorem not_low {l : List Pt} {a b c p : Nat} (ha : befI l p a) (hb : befI l p b) (hc : befI l p c) : ¬ inTri l a b c p := by
  rintro ⟨h1, h2, h3⟩
  rw [tur_cyc, tur_cyc] at h1 h2 h3
  unfold tur at h1 h2 h3
  rw [trn_pos, ← crs_det] at h1 h2 h3
  have := vec_pos (vpos_sub ha) (vpos_sub hb) (vpos_sub hc) h1 h2
  rw [crs_swap] at this
  omega
theorem not_high {l : List Pt} {a b c p : Nat} (ha : befI l a p) (hb : befI l b p) (hc : befI l c p) : ¬ inTri l a b c p := by
  have hneg : ∀ x y, crs (vsub (ptA l x) (ptA l p)) (vsub (ptA l y) (ptA l p)) = crs (vsub (ptA l p) (ptA l x)) (vsub (ptA l p) (ptA l y)) := fun x y => by unfold crs vsub; grind
  rintro ⟨h1, h2, h3⟩
  rw [tur_cyc, tur_cyc] at h1 h2 h3
  unfold tur at h1 h2 h3
  rw [trn_pos, ← crs_det, hneg] at h1 h2 h3
  have := vec_pos (vpos_sub ha) (vpos_sub hb) (vpos_sub hc) h1 h2
  rw [crs_swap] at this
  omega
/-- what lies inside a triangle of the first k points is one of these -/
theorem tri_first {l : List Pt} {os : List Nat} (ho : Ordd l os) {k a b c p : Nat} (ha : a ∈ os.take k) (hb : b ∈ os.take k) (hc : c ∈ os.take k) (hp : p ∈ os) (h : inTri l a b c p) : p ∈ os.take k := by
  rcases Decidable.em (p ∈ os.take k) with e | e
  · exact e
  exfalso
  have hpd : p ∈ os.drop k := by
    rw [← List.take_append_drop k os] at hp
    exact (List.mem_append.1 hp).resolve_left e
  have hlt : ∀ x ∈ os.take k, befI l x p := fun x hx => by
    have := ho.2
    rw [← List.take_append_drop k os] at this
    exact (List.pairwise_append.1 this).2.2 x hx p hpd
  exact not_high (hlt a ha) (hlt b hb) (hlt c hc) h

/-! ### closed ways -/
theorem cyc_poly {l : List Pt} {os : List Nat} (hg : Gen l) (ho : Ordd l os) {C : List Nat} (h3 : 3 ≤ C.length) (hnd : C.Nodup) (hlt : ∀ x ∈ C, x < l.length) (hn : ∀ i, i < C.length → nxt (tur l) C (natAt C i) (natAt C ((i + 1) % C.length))) :
    ∃ H, IsPoly l H ∧ H.length = C.length ∧ ∀ p, insB (tur l) H p = true → insB (tur l) C p = true := by
  have hC := chi_of hg
  have hsub : (os.filter fun i => decide (i ∈ C)).Sublist os := List.filter_sublist
  have hm : ∀ x, x ∈ (os.filter fun i => decide (i ∈ C)) ↔ x ∈ C := fun x => by
    rw [List.mem_filter, decide_eq_true_eq]
    exact ⟨fun h => h.2, fun h => ⟨ho.1.mem_iff.2 (List.mem_range.2 (hlt x h)), h⟩⟩
  have hne : (os.filter fun i => decide (i ∈ C)) ≠ [] := List.ne_nil_of_mem ((hm _).2 (List.getElem_mem (show 0 < C.length by omega)))
  have hH := (rest_isH hg ho hsub hne).congr hm
  generalize hullL (tur l) (os.filter fun i => decide (i ∈ C)) = H at hH
  have hCm : ∀ i, i < C.length → natAt C i ∈ C := fun i hi => by rw [natAt_eq hi]; exact List.getElem_mem _
  have hin : ∀ x, x ∈ C ↔ x ∈ H := fun x => by
    refine ⟨fun hx => ?_, hH.sub x⟩
    obtain ⟨i, hi, e⟩ := List.getElem_of_mem hx
    rw [← natAt_eq hi] at e
    rw [← e]
    exact nxt_corner hg hH hnd h3 (hCm i hi) (hn i hi)
  have hHn := hH.nodup hC
  have hlen := ((List.perm_ext_iff_of_nodup hHn hnd).2 fun x => (hin x).symm).length_eq
  have hP : IsPoly l H := ⟨by omega, hHn, fun x hx => hlt x ((hin x).2 hx), hH.congr hin⟩
  refine ⟨H, hP, hlen, fun p hp => ?_⟩
  rw [insB_iff] at hp ⊢
  intro i hi
  obtain ⟨k, hk, e⟩ := List.getElem_of_mem ((hin _).1 (hCm i hi))
  rw [← natAt_eq hk] at e
  have hnk : nxt (tur l) C (natAt H k) (natAt H ((k + 1) % H.length)) := by
    by_cases c : k + 1 < H.length
    · rw [Nat.mod_eq_of_lt c]; exact hH.step k c
    · obtain ⟨_, this⟩ := hH.two hnd (by omega)
      rw [show H.length - 1 = k by omega] at this
      rw [show k + 1 = H.length by omega, Nat.mod_self]
      exact this
  rw [e] at hnk
  rw [nxt_unique hC (hn i hi) hnk, ← e]
  exact hp k hk
/-- what is inside is inside a triangle of the fan -/
theorem cyc_fan {l : List Pt} (hg : Gen l) {c : Nat} {r : List Nat} {p : Nat} (h2 : 2 ≤ r.length) (hlt : ∀ x ∈ c :: r, x < l.length) (hp : p < l.length) (hnc : ∀ x ∈ r, c ≠ x) (h : insB (tur l) (c :: r) p = true) : ∃ i, i + 1 < r.length ∧ inTri l c (natAt r i) (natAt r (i + 1)) p := by
  have hC := chi_of hg
  rw [insB_iff] at h
  obtain ⟨m, hm⟩ : ∃ m, r.length = m + 2 := ⟨r.length - 2, by omega⟩
  have hL : (c :: r).length = m + 3 := by simp; omega
  rw [hL] at h
  have q1 := h 0 (by omega)
  rw [Nat.mod_eq_of_lt (by omega), natAt_cons, natAt_head] at q1
  have q3 := h (m + 2) (by omega)
  rw [show (m + 2 + 1) % (m + 3) = 0 from Nat.mod_self _, natAt_cons, natAt_head] at q3
  have q2 : ∀ i, i + 1 < r.length → 0 < tur l (natAt r i) (natAt r (i + 1)) p := fun i hi => by
    have := h (i + 1) (by omega)
    rwa [Nat.mod_eq_of_lt (by omega), natAt_cons, natAt_cons] at this
  have hlast : ¬ 0 < tur l c (natAt r (m + 1)) p := by rw [hC.anti] at q3; omega
  have hex : ∀ k, 0 < tur l c (natAt r k) p ∨ ∃ i, i < k ∧ 0 < tur l c (natAt r i) p ∧ ¬ 0 < tur l c (natAt r (i + 1)) p := fun k => by
    induction k with
    | zero => exact .inl q1
    | succ k ih =>
      rcases ih with ih | ⟨i, h1, h2⟩
      · by_cases d : 0 < tur l c (natAt r (k + 1)) p
        · exact .inl d
        · exact .inr ⟨k, by omega, ih, d⟩
      · exact .inr ⟨i, by omega, h2⟩
  rcases hex (m + 1) with h5 | ⟨i, hi, h1, h4⟩
  · exact absurd h5 hlast
  · have h3 := q2 i (by omega)
    have hmem : natAt r (i + 1) ∈ r := by rw [natAt_eq (by omega)]; exact List.getElem_mem _
    have hpf : c ≠ p := fun e => by subst e; rw [tur_self1] at q1; omega
    have hpi : natAt r (i + 1) ≠ p := fun e => by rw [← e, tur_self2] at h3; omega
    have h6 := hC.gen (hlt c (by simp)) (hlt _ (List.mem_cons_of_mem _ hmem)) hp (hnc _ hmem) hpi hpf
    exact ⟨i, by omega, h1, h3, by rw [hC.anti]; omega⟩
/-- an empty polygon out of a closed way -/
theorem cyc_hole {l : List Pt} {os : List Nat} (hg : Gen l) (ho : Ordd l os) {c : Nat} {r : List Nat} (h2 : 2 ≤ r.length) (hnd : (c :: r).Nodup) (hlt : ∀ x ∈ c :: r, x < l.length) (hn : ∀ i, i < (c :: r).length → nxt (tur l) (c :: r) (natAt (c :: r) i) (natAt (c :: r) ((i + 1) % (c :: r).length)))
    (hE : ∀ i, i + 1 < r.length → ∀ p ∈ os, ¬ inTri l c (natAt r i) (natAt r (i + 1)) p) : ∃ H, IsPoly l H ∧ H.length = r.length + 1 ∧ ∀ p ∈ os, insB (tur l) H p = false := by
  obtain ⟨H, hP, hl, hI⟩ := cyc_poly hg ho (by simp; omega) hnd hlt hn
  refine ⟨H, hP, by rw [hl]; simp, fun p hp => ?_⟩
  rw [Bool.eq_false_iff]
  intro hc
  obtain ⟨i, hi, ht⟩ := cyc_fan hg h2 hlt (ord_lt ho p hp) (fun x hx e => (List.nodup_cons.1 hnd).1 (e ▸ hx)) (hI p hc)
  exact hE i hi p hp ht
end
section
/-! ### five points and their signs -/
def mkS (b0 b1 b2 b3 b4 b5 b6 b7 b8 b9 : Bool) (x y z : Nat) : Bool :=
  if x = 0 then (if y = 1 then (if z = 2 then b0 else if z = 3 then b1 else b2) else if y = 2 then (if z = 3 then b3 else b4) else b5)
  else if x = 1 then (if y = 2 then (if z = 3 then b6 else b7) else b8) else b9
/-- the turn of any three, out of those that rise -/
def ccw (s : Nat → Nat → Nat → Bool) (x y z : Nat) : Bool :=
  if x < y then (if y < z then s x y z else if x < z then !s x z y else s z x y)
  else (if x < z then !s y x z else if y < z then s y z x else !s z y x)
def convB (s : Nat → Nat → Nat → Bool) (cyc : List Nat) : Bool :=
  (List.range 5).all fun i => (List.range 5).all fun z => (z == nth cyc i) || ((z == nth cyc ((i + 1) % 5)) || ccw s (nth cyc i) (nth cyc ((i + 1) % 5)) z)
/-- one sign change at most, for four -/
def mono4 (a b c d : Bool) : Bool := !((a && !b && c) || (a && !b && d) || (a && !c && d) || (b && !c && d) || (!a && b && !c) || (!a && b && !d) || (!a && c && !d) || (!b && c && !d))
def okS (s : Nat → Nat → Nat → Bool) (kd : List (Bool × Nat × Nat × Nat) × List Nat) : Bool := kd.1.all fun u => s u.2.1 u.2.2.1 u.2.2.2 == u.1
def bl (f : Bool → Bool) : Bool := f true && f false
theorem bl_all {f : Bool → Bool} (h : bl f = true) (b : Bool) : f b = true := by
  unfold bl at h
  rw [Bool.and_eq_true] at h
  cases b
  · exact h.2
  · exact h.1
theorem conv_run : (bl fun b0 => bl fun b1 => bl fun b2 => bl fun b3 => bl fun b4 => bl fun b5 => bl fun b6 => bl fun b7 => bl fun b8 => bl fun b9 => !(mono4 b0 b1 b3 b6 && (mono4 b0 b2 b4 b7 && (mono4 b1 b2 b5 b8 && (mono4 b3 b4 b5 b9 && mono4 b6 b7 b8 b9)))) || kinds.all fun kd => !(okS (mkS b0 b1 b2 b3 b4 b5 b6 b7 b8 b9) kd) || convB (mkS b0 b1 b2 b3 b4 b5 b6 b7 b8 b9) kd.2) = true := by decide +kernel
theorem conv_all (b0 b1 b2 b3 b4 b5 b6 b7 b8 b9 : Bool) (h1 : mono4 b0 b1 b3 b6 = true) (h2 : mono4 b0 b2 b4 b7 = true) (h3 : mono4 b1 b2 b5 b8 = true) (h4 : mono4 b3 b4 b5 b9 = true) (h5 : mono4 b6 b7 b8 b9 = true) (kd : List (Bool × Nat × Nat × Nat) × List Nat) (hk : kd ∈ kinds)
    (ho : okS (mkS b0 b1 b2 b3 b4 b5 b6 b7 b8 b9) kd = true) : convB (mkS b0 b1 b2 b3 b4 b5 b6 b7 b8 b9) kd.2 = true := by
  have h := bl_all (bl_all (bl_all (bl_all (bl_all (bl_all (bl_all (bl_all (bl_all (bl_all (conv_run) b0) b1) b2) b3) b4) b5) b6) b7) b8) b9
  rw [h1, h2, h3, h4, h5] at h
  obtain ⟨ka, kb⟩ := kd
  simp at h
  rcases h ka kb hk with e | e
  · rw [ho] at e; cases e
  · exact e
theorem kinds_cyc : ∀ kd ∈ kinds, kd.2.length = 5 ∧ nth kd.2 0 = 0 ∧ kd.2.Nodup ∧ (∀ x ∈ kd.2, x < 5) := by decide

section
variable {l : List Pt} {q : Nat → Nat}
/-- the signs of five points -/
def sgn5 (l : List Pt) (q : Nat → Nat) (x y z : Nat) : Bool := decide (0 < tur l (q x) (q y) (q z))
theorem mkS_eq (s : Nat → Nat → Nat → Bool) {x y z : Nat} (h1 : x < y) (h2 : y < z) (h3 : z < 5) : mkS (s 0 1 2) (s 0 1 3) (s 0 1 4) (s 0 2 3) (s 0 2 4) (s 0 3 4) (s 1 2 3) (s 1 2 4) (s 1 3 4) (s 2 3 4) x y z = s x y z := by
  have hz : z = 2 ∨ z = 3 ∨ z = 4 := by omega
  rcases hz with rfl | rfl | rfl
  · obtain rfl : y = 1 := by omega
    obtain rfl : x = 0 := by omega
    rfl
  · have hy : y = 1 ∨ y = 2 := by omega
    rcases hy with rfl | rfl
    · obtain rfl : x = 0 := by omega
      rfl
    · have hx : x = 0 ∨ x = 1 := by omega
      rcases hx with rfl | rfl <;> rfl
  · have hy : y = 1 ∨ y = 2 ∨ y = 3 := by omega
    rcases hy with rfl | rfl | rfl
    · obtain rfl : x = 0 := by omega
      rfl
    · have hx : x = 0 ∨ x = 1 := by omega
      rcases hx with rfl | rfl <;> rfl
    · have hx : x = 0 ∨ x = 1 ∨ x = 2 := by omega
      rcases hx with rfl | rfl | rfl <;> rfl
theorem ccw_eq (hq : ∀ x y z, x < y → y < z → z < 5 → tur l (q x) (q y) (q z) ≠ 0) {s : Nat → Nat → Nat → Bool} (hs : ∀ x y z, x < y → y < z → z < 5 → s x y z = sgn5 l q x y z) {x y z : Nat} (hx : x < 5) (hy : y < 5) (hz : z < 5) (h1 : x ≠ y) (h2 : y ≠ z) (h3 : x ≠ z)
    (h : ccw s x y z = true) : 0 < tur l (q x) (q y) (q z) := by
  have pos : ∀ a b c, a < b → b < c → c < 5 → s a b c = true → 0 < tur l (q a) (q b) (q c) := fun a b c u v w e => by rw [hs a b c u v w] at e; exact of_decide_eq_true e
  have neg : ∀ a b c, a < b → b < c → c < 5 → (!s a b c) = true → tur l (q a) (q b) (q c) < 0 := fun a b c u v w e => by
    rw [hs a b c u v w, Bool.not_eq_true'] at e
    have := of_decide_eq_false e
    have := hq a b c u v w
    omega
  unfold ccw at h
  split at h
  · split at h
    · exact pos x y z (by omega) (by omega) hz h
    · split at h
      · have := neg x z y (by omega) (by omega) hy h
        rw [tur_swap] at this; omega
      · have := pos z x y (by omega) (by omega) hy h
        rwa [tur_cyc] at this
  · split at h
    · have := neg y x z (by omega) (by omega) hz h
      rw [tur_anti] at this; omega
    · split at h
      · have := pos y z x (by omega) (by omega) hx h
        rwa [← tur_cyc] at this
      · have := neg z y x (by omega) (by omega) hx h
        rw [tur_cyc, tur_anti] at this
        omega
end
end
section
section
variable {S : Nat → Prop} {t : Nat → Nat → Nat → Int} {lt : Nat → Nat → Prop}
/-- a list put into an order -/
theorem ins_of (h : Chi S t lt) {x : Nat} (hx : S x) : ∀ B : List Nat, B.Pairwise lt → (∀ y ∈ B, S y ∧ y ≠ x) → ∃ B' : List Nat, B'.Perm (x :: B) ∧ B'.Pairwise lt
  | [], _, _ => ⟨[x], List.Perm.refl _, by simp⟩
  | b :: B, hB, hm => by
    obtain ⟨h1, h2⟩ := List.pairwise_cons.1 hB
    obtain ⟨hb, hbx⟩ := hm b (by simp)
    rcases h.total hx hb (fun e => hbx e.symm) with c | c
    · refine ⟨x :: b :: B, List.Perm.refl _, List.pairwise_cons.2 ⟨fun y hy => ?_, hB⟩⟩
      rcases List.mem_cons.1 hy with rfl | hy
      · exact c
      · exact h.trans c (h1 y hy)
    · obtain ⟨B', p1, p2⟩ := ins_of h hx B h2 fun y hy => hm y (List.mem_cons_of_mem _ hy)
      refine ⟨b :: B', (p1.cons b).trans (List.Perm.swap _ _ _), List.pairwise_cons.2 ⟨fun y hy => ?_, p2⟩⟩
      rcases List.mem_cons.1 (p1.mem_iff.1 hy) with rfl | hy
      · exact c
      · exact h1 y hy
theorem sort_of (h : Chi S t lt) : ∀ X : List Nat, X.Nodup → (∀ x ∈ X, S x) → ∃ B : List Nat, B.Perm X ∧ B.Pairwise lt
  | [], _, _ => ⟨[], List.Perm.refl _, List.Pairwise.nil⟩
  | x :: X, hnd, hS => by
    obtain ⟨h1, h2⟩ := List.nodup_cons.1 hnd
    obtain ⟨B, p1, p2⟩ := sort_of h X h2 fun y hy => hS y (List.mem_cons_of_mem _ hy)
    obtain ⟨B', p3, p4⟩ := ins_of h (hS x (by simp)) B p2 fun y hy => ⟨hS y (List.mem_cons_of_mem _ (p1.mem_iff.1 hy)), fun e => h1 (e ▸ p1.mem_iff.1 hy)⟩
    exact ⟨B', p3.trans (p1.cons x), p4⟩
theorem mono_of (h : Chi S t lt) {a b c d : Nat} (ha : S a) (hb : S b) (hc : S c) (hd : S d) (h1 : lt a b) (h2 : lt b c) (h3 : lt c d) :
    mono4 (decide (0 < t a b c)) (decide (0 < t a b d)) (decide (0 < t a c d)) (decide (0 < t b c d)) = true := by
  have n1 := h.gen ha hb hc (h.ne h1) (h.ne h2) (h.ne (h.trans h1 h2))
  have n2 := h.gen ha hb hd (h.ne h1) (h.ne (h.trans h2 h3)) (h.ne (h.trans (h.trans h1 h2) h3))
  have n3 := h.gen ha hc hd (h.ne (h.trans h1 h2)) (h.ne h3) (h.ne (h.trans (h.trans h1 h2) h3))
  have n4 := h.gen hb hc hd (h.ne h2) (h.ne h3) (h.ne (h.trans h2 h3))
  have a1 := h.p1 h1 h2 h3; have a2 := h.p2 h1 h2 h3; have a3 := h.p3 h1 h2 h3; have a4 := h.p4 h1 h2 h3
  have b1 := h.n1 h1 h2 h3; have b2 := h.n2 h1 h2 h3; have b3 := h.n3 h1 h2 h3; have b4 := h.n4 h1 h2 h3
  generalize t a b c = x1 at *
  generalize t a b d = x2 at *
  generalize t a c d = x3 at *
  generalize t b c d = x4 at *
  by_cases c1 : 0 < x1 <;> by_cases c2 : 0 < x2 <;> by_cases c3 : 0 < x3 <;> by_cases c4 : 0 < x4 <;> simp only [c1, c2, c3, c4, decide_true, decide_false] <;> first | rfl | (exfalso; omega)
end

section
variable {l : List Pt} {os : List Nat}
theorem nth_lt {q : Nat → Nat} {C : List Nat} {i : Nat} (h : i < C.length) : natAt (C.map q) i = q (nth C i) := by
  rw [natAt_eq (by rw [List.length_map]; exact h), List.getElem_map]
  unfold nth
  simp [List.getD, h]
theorem kinds_rise : ∀ kd ∈ kinds, ∀ u ∈ kd.1, u.2.1 < u.2.2.1 ∧ u.2.2.1 < u.2.2.2 ∧ u.2.2.2 < 5 := by decide
/-- an empty pentagon out of five points -/
theorem five_hole (hg : Gen l) (ho : Ordd l os) (hno : ∀ H, IsPoly l H → H.length = 5 → (∀ p ∈ os, insB (tur l) H p = false) → False) {q : Nat → Nat} (hlt : ∀ x, x < 5 → q x < l.length) (hinj : ∀ x y, x < 5 → y < 5 → x ≠ y → q x ≠ q y)
    (hm : ∀ a b c d, a < b → b < c → c < d → d < 5 → mono4 (sgn5 l q a b c) (sgn5 l q a b d) (sgn5 l q a c d) (sgn5 l q b c d) = true) {kd : List (Bool × Nat × Nat × Nat) × List Nat} (hk : kd ∈ kinds) (hc : ∀ u ∈ kd.1, sgn5 l q u.2.1 u.2.2.1 u.2.2.2 = u.1)
    (hE : ∀ x y, (x, y) = (nth kd.2 1, nth kd.2 2) ∨ (x, y) = (nth kd.2 2, nth kd.2 3) ∨ (x, y) = (nth kd.2 3, nth kd.2 4) → ∀ p ∈ os, ¬ inTri l (q 0) (q x) (q y) p) : False := by
  have hq : ∀ x y z, x < y → y < z → z < 5 → tur l (q x) (q y) (q z) ≠ 0 := fun x y z h1 h2 h3 =>
    hg.2 _ _ _ (hlt x (by omega)) (hlt y (by omega)) (hlt z h3) (hinj x y (by omega) (by omega) (by omega)) (hinj y z (by omega) h3 (by omega)) (hinj x z (by omega) h3 (by omega))
  obtain ⟨k1, k2, k3, k4⟩ := kinds_cyc kd hk
  have k5 : ∀ u ∈ kd.1, u.2.1 < u.2.2.1 ∧ u.2.2.1 < u.2.2.2 ∧ u.2.2.2 < 5 := kinds_rise kd hk
  have hconv := conv_all _ _ _ _ _ _ _ _ _ _ (hm 0 1 2 3 (by omega) (by omega) (by omega) (by omega)) (hm 0 1 2 4 (by omega) (by omega) (by omega) (by omega)) (hm 0 1 3 4 (by omega) (by omega) (by omega) (by omega)) (hm 0 2 3 4 (by omega) (by omega) (by omega) (by omega)) (hm 1 2 3 4 (by omega) (by omega) (by omega) (by omega)) kd hk
    (List.all_eq_true.2 fun u hu => by
      obtain ⟨u1, u2, u3⟩ := k5 u hu
      rw [mkS_eq (sgn5 l q) u1 u2 u3, hc u hu]; simp)
  unfold convB at hconv
  have hs : ∀ x y z, x < y → y < z → z < 5 → mkS (sgn5 l q 0 1 2) (sgn5 l q 0 1 3) (sgn5 l q 0 1 4) (sgn5 l q 0 2 3) (sgn5 l q 0 2 4) (sgn5 l q 0 3 4) (sgn5 l q 1 2 3) (sgn5 l q 1 2 4) (sgn5 l q 1 3 4) (sgn5 l q 2 3 4) x y z = sgn5 l q x y z := fun x y z => mkS_eq (sgn5 l q)
  generalize mkS (sgn5 l q 0 1 2) (sgn5 l q 0 1 3) (sgn5 l q 0 1 4) (sgn5 l q 0 2 3) (sgn5 l q 0 2 4) (sgn5 l q 0 3 4) (sgn5 l q 1 2 3) (sgn5 l q 1 2 4) (sgn5 l q 1 3 4) (sgn5 l q 2 3 4) = s at *
  have hnm : ∀ i, i < 5 → nth kd.2 i ∈ kd.2 := fun i hi => by unfold nth; simp [List.getD, k1, hi]
  have hnd : ∀ i j, i < 5 → j < 5 → i ≠ j → nth kd.2 i ≠ nth kd.2 j := fun i j hi hj hij e => by
    unfold nth at e
    simp [List.getD, k1, hi, hj] at e
    exact hij ((List.getElem_inj k3).1 e)
  have hway : ∀ i, i < 5 → nxt (tur l) (kd.2.map q) (natAt (kd.2.map q) i) (natAt (kd.2.map q) ((i + 1) % 5)) := fun i hi => by
    have hi2 : (i + 1) % 5 < 5 := Nat.mod_lt _ (by omega)
    have hne : i ≠ (i + 1) % 5 := by omega
    rw [nth_lt (by omega), nth_lt (by omega)]
    refine ⟨List.mem_map.2 ⟨_, hnm _ hi2, rfl⟩, hinj _ _ (k4 _ (hnm _ hi2)) (k4 _ (hnm _ hi)) (fun e => hnd _ _ hi hi2 hne e.symm), fun y hy n1 n2 => ?_⟩
    obtain ⟨z, hz, rfl⟩ := List.mem_map.1 hy
    have h1 := List.all_eq_true.1 (List.all_eq_true.1 hconv i (List.mem_range.2 hi)) z (List.mem_range.2 (k4 z hz))
    simp only [Bool.or_eq_true, beq_iff_eq] at h1
    rcases h1 with e | e | e
    · exact absurd (by rw [e]) n1
    · exact absurd (by rw [e]) n2
    · exact ccw_eq hq hs (k4 _ (hnm _ hi)) (k4 _ (hnm _ hi2)) (k4 z hz) (hnd _ _ hi hi2 hne) (fun e => n2 (by rw [e])) (fun e => n1 (by rw [e])) e
  obtain ⟨ka, kb⟩ := kd
  dsimp only at *
  match kb, k1 with
  | [x0, x1, x2, x3, x4], _ =>
    have e0 : x0 = 0 := k2
    subst e0
    have hmem : ∀ x ∈ [q 0, q x1, q x2, q x3, q x4], x < l.length := fun x hx => by
      obtain ⟨z, hz, rfl⟩ := List.mem_map.1 (show x ∈ [0, x1, x2, x3, x4].map q from hx)
      exact hlt z (k4 z hz)
    have hnd5 : [q 0, q x1, q x2, q x3, q x4].Nodup := by
      show ([0, x1, x2, x3, x4].map q).Nodup
      unfold List.Nodup
      rw [List.pairwise_map]
      exact List.Pairwise.imp_of_mem (fun {a b} ha hb hab => hinj a b (k4 a ha) (k4 b hb) hab) k3
    obtain ⟨H, h1, h2, h3⟩ := cyc_hole hg ho (c := q 0) (r := [q x1, q x2, q x3, q x4]) (by simp) hnd5 hmem (fun i hi => hway i (by simpa using hi)) (fun i hi p hp => by
      rcases (show i = 0 ∨ i = 1 ∨ i = 2 by simp only [List.length_cons, List.length_nil] at hi; omega) with rfl | rfl | rfl
      · exact hE x1 x2 (.inl rfl) p hp
      · exact hE x2 x3 (.inr (.inl rfl)) p hp
      · exact hE x3 x4 (.inr (.inr rfl)) p hp)
    exact hno H h1 h2 h3
theorem det_sum (a b c p : Pt) : det a b c = det a b p + det b c p + det c a p := by unfold det; grind
theorem inTri_pos {a b c p : Nat} (h : inTri l a b c p) : 0 < tur l a b c := by
  obtain ⟨h1, h2, h3⟩ := h
  unfold tur at *
  rw [trn_pos] at *
  rw [det_sum _ _ _ (ptA l p)]
  omega
/-- the point behind which all corners are is not inside -/
theorem not_first {a b c d e : Nat} (h1 : 0 < tur l d e a) (h2 : 0 < tur l d e b) (h3 : 0 < tur l d e c) {p : Nat} (hp : p = d ∨ p = e) : ¬ inTri l a b c p := fun h => by
  have := tri_in (inTri_pos h) h.1 h.2.1 h.2.2 (d := d) (e := e) (by omega) (by omega) (by omega) (.inl h1)
  rcases hp with rfl | rfl
  · rw [tur_self1] at this; omega
  · rw [tur_self2] at this; omega

open Classical in
/-- ten points have an empty pentagon -/
theorem hole5 (hg : Gen l) (ho : Ordd l os) (h10 : 10 ≤ l.length) : ∃ H, IsPoly l H ∧ H.length = 5 ∧ ∀ p ∈ os, insB (tur l) H p = false := by
  rcases Classical.em (∃ H, IsPoly l H ∧ H.length = 5 ∧ ∀ p ∈ os, insB (tur l) H p = false) with e | e
  · exact e
  exfalso
  have hno : ∀ H, IsPoly l H → H.length = 5 → (∀ p ∈ os, insB (tur l) H p = false) → False := fun H h1 h2 h3 => e ⟨H, h1, h2, h3⟩
  have hlen : os.length = l.length := by rw [ho.1.length_eq, List.length_range]
  have hnd : os.Nodup := ho.1.nodup_iff.2 List.nodup_range
  obtain ⟨f, tl, hos⟩ : ∃ f tl, os = f :: tl := by
    match os, hlen with
    | [], h => simp at h; omega
    | f :: tl, _ => exact ⟨f, tl, rfl⟩
  have hfo : f ∈ os := by rw [hos]; simp
  have hfl := ord_lt ho f hfo
  have hA := chi_ang hg hfl
  have htl : tl.length = l.length - 1 := by rw [← hlen, hos]; simp
  have hbeh : ∀ x ∈ tl, behind l f x := fun x hx => by
    refine ⟨ord_lt ho x (by rw [hos]; exact List.mem_cons_of_mem _ hx), ?_⟩
    have := ho.2
    rw [hos] at this
    exact (List.pairwise_cons.1 this).1 x hx
  have htn : tl.Nodup := by rw [hos] at hnd; exact (List.nodup_cons.1 hnd).2
  obtain ⟨B, hBp, hBs⟩ := sort_of hA (tl.take 9) (htn.sublist (List.take_sublist _ _)) fun x hx => hbeh x (List.mem_of_mem_take hx)
  have hBl : B.length = 9 := by rw [hBp.length_eq, List.length_take]; omega
  have hfirst : ∀ x, x ∈ os.take 10 ↔ x = f ∨ x ∈ B := fun x => by rw [hos, List.take_succ_cons, List.mem_cons, hBp.mem_iff]
  have hBm : ∀ i, i < 9 → natAt B i ∈ B := fun i hi => by rw [natAt_eq (by omega)]; exact List.getElem_mem _
  have hb : ∀ i, i < 9 → behind l f (natAt B i) := fun i hi => hbeh _ (List.mem_of_mem_take (hBp.mem_iff.1 (hBm i hi)))
  have hR : ∀ i j, i < j → j < 9 → ltA l f (natAt B i) (natAt B j) := fun i j hij hj => by
    rw [natAt_eq (by omega), natAt_eq (by omega)]
    exact List.pairwise_iff_getElem.1 hBs i j (by omega) (by omega) hij
  have ht10 : ∀ i, i < 9 → natAt B i ∈ os.take 10 := fun i hi => (hfirst _).2 (.inr (hBm i hi))
  have hf10 : f ∈ os.take 10 := (hfirst _).2 (.inl rfl)
  have hidx : ∀ x ∈ B, ∃ m, m < 9 ∧ x = natAt B m := fun x hx => by
    obtain ⟨m, hm, e⟩ := List.getElem_of_mem hx
    exact ⟨m, by omega, by rw [natAt_eq hm, e]⟩
  generalize natAt B = P at *
  have hgen : ∀ i j k, i < j → j < k → k < 9 → tur l (P i) (P j) (P k) ≠ 0 := fun i j k h1 h2 h3 => hA.gen (hb i (by omega)) (hb j (by omega)) (hb k h3) (hA.ne (hR i j h1 (by omega))) (hA.ne (hR j k h2 h3)) (hA.ne (hR i k (by omega) h3))
  have hfP : ∀ i j, i < j → j < 9 → 0 < tur l f (P i) (P j) := fun i j h1 h2 => (hR i j h1 h2).2.2
  have hfP' : ∀ i j, i < 9 → j < 9 → 0 < tur l f (P i) (P j) → i < j := fun i j h1 h2 h3 => by
    rcases Nat.lt_trichotomy i j with c | c | c
    · exact c
    · subst c; rw [tur_self2] at h3; omega
    · have := hfP j i c h1; rw [tur_swap] at this; omega
  have hPf : ∀ i, i < 9 → P i ≠ f := fun i hi e => by have := (hb i hi).2; rw [e] at this; exact bef_irrefl _ this
  have hPinj : ∀ i j, i < 9 → j < 9 → i ≠ j → P i ≠ P j := fun i j hi hj hij e => by
    rcases Nat.lt_or_ge i j with c | c
    · exact hA.ne (hR i j c hj) e
    · exact hA.ne (hR j i (by omega) hi) e.symm
  have hmono : ∀ a b c d, a < b → b < c → c < d → d < 9 → mono4 (decide (0 < tur l (P a) (P b) (P c))) (decide (0 < tur l (P a) (P b) (P d))) (decide (0 < tur l (P a) (P c) (P d))) (decide (0 < tur l (P b) (P c) (P d))) = true := fun a b c d h1 h2 h3 h4 =>
    mono_of hA (hb a (by omega)) (hb b (by omega)) (hb c (by omega)) (hb d h4) (hR a b h1 (by omega)) (hR b c h2 (by omega)) (hR c d h3 h4)
  refine not_marks (S := fun i j k => decide (0 < tur l (P i) (P j) (P k))) (Z := fun i j => decide (∀ p ∈ os, ¬ inTri l f (P i) (P j) p))
    (E := fun g i j k => decide (∀ p ∈ os, ¬ inTri l (P i) (if g then P j else P k) (if g then P k else P j) p)) (I := fun g m i j k => decide (inTri l (P i) (if g then P j else P k) (if g then P k else P j) (P m))) ⟨?_, ?_, ?_, ?_, ?_, ?_, ?_⟩
  · intro i j k m h1 h2 h3 h4 b
    have := hmono i j k m h1 h2 h3 h4
    revert this
    generalize decide (0 < tur l (P i) (P j) (P k)) = x1
    generalize decide (0 < tur l (P i) (P j) (P m)) = x2
    generalize decide (0 < tur l (P i) (P k) (P m)) = x3
    generalize decide (0 < tur l (P j) (P k) (P m)) = x4
    cases b <;> cases x1 <;> cases x2 <;> cases x3 <;> cases x4 <;> simp [mono4]
  · intro i j h1 h2 hz
    have hz := of_decide_eq_false hz
    simp only [Classical.not_forall, Classical.not_not] at hz
    obtain ⟨p, hp, hin⟩ := hz
    rcases (hfirst p).1 (tri_first ho hf10 (ht10 i (by omega)) (ht10 j h2) hp hin) with rfl | hpB
    · have := hin.1; rw [tur_self1] at this; omega
    · obtain ⟨m, hm, rfl⟩ := hidx p hpB
      obtain ⟨a1, a2, a3⟩ := hin
      rw [tur_anti] at a3
      refine ⟨m, hfP' i m (by omega) hm a1, hfP' m j hm h2 (by rw [tur_swap]; omega), decide_eq_false ?_⟩
      rw [tur_swap]; omega
  · intro g i j k m h1 h2 h3 h4 h5 hI
    obtain ⟨a1, a2, a3⟩ := of_decide_eq_true hI
    have e1 : tur l (P i) (P m) (P j) = - tur l (P i) (P j) (P m) := tur_swap _ _ _ _
    have e2 : tur l (P i) (P m) (P k) = - tur l (P i) (P k) (P m) := tur_swap _ _ _ _
    have e3 : tur l (P m) (P j) (P k) = tur l (P j) (P k) (P m) := tur_cyc _ _ _ _
    have e4 : tur l (P k) (P i) (P m) = tur l (P i) (P m) (P k) := tur_cyc _ _ _ _
    have e5 : tur l (P j) (P i) (P m) = tur l (P i) (P m) (P j) := tur_cyc _ _ _ _
    have e6 : tur l (P k) (P j) (P m) = - tur l (P j) (P k) (P m) := tur_anti _ _ _ _
    cases g
    · simp only [Bool.false_eq_true, if_false] at a1 a2 a3
      exact ⟨decide_eq_true (by omega), decide_eq_false (by omega), decide_eq_false (by omega)⟩
    · simp only [if_true] at a1 a2 a3
      exact ⟨decide_eq_false (by omega), decide_eq_true (by omega), decide_eq_true (by omega)⟩
  · intro g i j k m h1 h2 h3 h4 h5 hI
    obtain ⟨a1, a2, a3⟩ := of_decide_eq_true hI
    have e2 : tur l (P i) (P m) (P k) = - tur l (P i) (P k) (P m) := tur_swap _ _ _ _
    have e3 : tur l (P j) (P m) (P k) = - tur l (P j) (P k) (P m) := tur_swap _ _ _ _
    have e4 : tur l (P k) (P i) (P m) = tur l (P i) (P m) (P k) := tur_cyc _ _ _ _
    have e5 : tur l (P j) (P i) (P m) = - tur l (P i) (P j) (P m) := tur_anti _ _ _ _
    have e6 : tur l (P k) (P j) (P m) = - tur l (P j) (P k) (P m) := tur_anti _ _ _ _
    cases g
    · simp only [Bool.false_eq_true, if_false] at a1 a2 a3
      exact ⟨decide_eq_false (by omega), decide_eq_false (by omega), decide_eq_true (by omega)⟩
    · simp only [if_true] at a1 a2 a3
      exact ⟨decide_eq_true (by omega), decide_eq_true (by omega), decide_eq_false (by omega)⟩
  · intro g i j k h1 h2 h3 hE
    have hE := of_decide_eq_false hE
    simp only [Classical.not_forall, Classical.not_not] at hE
    obtain ⟨p, hp, hin⟩ := hE
    have hX : ∀ x, x = (if g then P j else P k) ∨ x = (if g then P k else P j) → x = P j ∨ x = P k := fun x hx => by cases g <;> simp at hx ⊢ <;> rcases hx with rfl | rfl <;> simp
    have hb1 := hX _ (.inl rfl)
    have hb2 := hX _ (.inr rfl)
    have hall : ∀ Q : Nat → Prop, Q (P j) → Q (P k) → Q (if g then P j else P k) ∧ Q (if g then P k else P j) := fun Q u v => by
      refine ⟨?_, ?_⟩
      · rcases hb1 with e | e <;> rw [e] <;> assumption
      · rcases hb2 with e | e <;> rw [e] <;> assumption
    obtain ⟨t1, t2⟩ := hall (· ∈ os.take 10) (ht10 j (by omega)) (ht10 k h3)
    rcases (hfirst p).1 (tri_first ho (ht10 i (by omega)) t1 t2 hp hin) with rfl | hpB
    · obtain ⟨l1, l2⟩ := hall (befI l p) (hb j (by omega)).2 (hb k h3).2
      exact absurd hin (not_low (hb i (by omega)).2 l1 l2)
    · obtain ⟨m, hm, rfl⟩ := hidx p hpB
      have hlo : i < m := by
        rcases Nat.lt_trichotomy i m with c | c | c
        · exact c
        · subst c
          obtain ⟨l1, l2⟩ := hall (fun x => 0 < tur l f (P i) x) (hfP i j h1 (by omega)) (hfP i k (by omega) h3)
          have := hin.1
          rw [tur_self1] at this
          omega
        · obtain ⟨l1, l2⟩ := hall (fun x => 0 < tur l f (P m) x) (hfP m j (by omega) (by omega)) (hfP m k (by omega) h3)
          exact absurd hin (not_first (hfP m i c (by omega)) l1 l2 (.inr rfl))
      have hhi : m < k := by
        rcases Nat.lt_trichotomy m k with c | c | c
        · exact c
        · subst c
          exfalso
          cases g
          · have := hin.1; simp only [Bool.false_eq_true, if_false] at this; rw [tur_self2] at this; omega
          · have := hin.2.1; simp only [if_true] at this; rw [tur_self2] at this; omega
        · have hr : ∀ x, x < m → 0 < tur l (P m) f (P x) := fun x hx => by rw [tur_cyc]; exact hfP x m hx hm
          obtain ⟨l1, l2⟩ := hall (fun x => 0 < tur l (P m) f x) (hr j (by omega)) (hr k c)
          exact absurd hin (not_first (hr i (by omega)) l1 l2 (.inl rfl))
      have hne : m ≠ j := fun e => by
        subst e
        cases g
        · have := hin.2.1; simp only [Bool.false_eq_true, if_false] at this; rw [tur_self2] at this; omega
        · have := hin.1; simp only [if_true] at this; rw [tur_self2] at this; omega
      exact ⟨m, by omega, decide_eq_true hin⟩
  · intro i j k m h1 h2 h3 h4 s1 s2 z1 z2 z3
    have s1 := of_decide_eq_true s1
    have s2 := of_decide_eq_true s2
    have z1 := of_decide_eq_true z1
    have z2 := of_decide_eq_true z2
    have z3 := of_decide_eq_true z3
    have hq : ∀ x y z, x < y → y < z → z < 5 → sgn5 l (nth [f, P i, P j, P k, P m]) 0 y z = true := fun x y z u v w => by
      unfold sgn5
      rcases (show y = 1 ∨ y = 2 ∨ y = 3 by omega) with rfl | rfl | rfl
      · rcases (show z = 2 ∨ z = 3 ∨ z = 4 by omega) with rfl | rfl | rfl
        · exact decide_eq_true (hfP i j h1 (by omega))
        · exact decide_eq_true (hfP i k (by omega) (by omega))
        · exact decide_eq_true (hfP i m (by omega) h4)
      · rcases (show z = 3 ∨ z = 4 by omega) with rfl | rfl
        · exact decide_eq_true (hfP j k h2 (by omega))
        · exact decide_eq_true (hfP j m (by omega) h4)
      · obtain rfl : z = 4 := by omega
        exact decide_eq_true (hfP k m h3 h4)
    refine five_hole hg ho hno (q := nth [f, P i, P j, P k, P m]) (fun x hx => ?_) (fun x y hx hy hxy => ?_) (fun a b c d u v w x => ?_) (kd := ([(true, 0, 1, 2), (true, 1, 2, 3), (true, 2, 3, 4)], [0, 1, 2, 3, 4])) (by simp [kinds]) (fun u hu => ?_) (fun x y hxy => ?_)
    · rcases (show x = 0 ∨ x = 1 ∨ x = 2 ∨ x = 3 ∨ x = 4 by omega) with rfl | rfl | rfl | rfl | rfl
      · exact hfl
      · exact (hb i (by omega)).1
      · exact (hb j (by omega)).1
      · exact (hb k (by omega)).1
      · exact (hb m h4).1
    · have key : ∀ x y, x < y → y < 5 → nth [f, P i, P j, P k, P m] x ≠ nth [f, P i, P j, P k, P m] y := fun x y u v => by
        rcases (show x = 0 ∨ x = 1 ∨ x = 2 ∨ x = 3 by omega) with rfl | rfl | rfl | rfl <;> rcases (show y = 1 ∨ y = 2 ∨ y = 3 ∨ y = 4 by omega) with rfl | rfl | rfl | rfl <;> first | omega | skip
        · exact fun e => hPf i (by omega) e.symm
        · exact fun e => hPf j (by omega) e.symm
        · exact fun e => hPf k (by omega) e.symm
        · exact fun e => hPf m h4 e.symm
        · exact hPinj i j (by omega) (by omega) (by omega)
        · exact hPinj i k (by omega) (by omega) (by omega)
        · exact hPinj i m (by omega) (by omega) (by omega)
        · exact hPinj j k (by omega) (by omega) (by omega)
        · exact hPinj j m (by omega) (by omega) (by omega)
        · exact hPinj k m (by omega) (by omega) (by omega)
      rcases Nat.lt_or_ge x y with c | c
      · exact key x y c hy
      · exact fun e => key y x (by omega) hx e.symm
    · by_cases a0 : a = 0
      · subst a0
        rw [hq 0 b c (by omega) v (by omega), hq 0 b d (by omega) (by omega) x, hq 0 c d (by omega) w x]
        cases sgn5 l (nth [f, P i, P j, P k, P m]) b c d <;> rfl
      · obtain rfl : a = 1 := by omega
        obtain rfl : b = 2 := by omega
        obtain rfl : c = 3 := by omega
        obtain rfl : d = 4 := by omega
        exact hmono i j k m h1 h2 h3 h4
    · simp only [List.mem_cons, List.not_mem_nil, or_false] at hu
      rcases hu with rfl | rfl | rfl
      · exact hq 0 1 2 (by omega) (by omega) (by omega)
      · exact decide_eq_true s1
      · exact decide_eq_true s2
    · rcases hxy with e | e | e <;> injection e with e1 e2 <;> subst e1 e2
      · exact z1
      · exact z2
      · exact z3
  · intro a b c d e' h1 h2 h3 h4 h5 kd hk hs hE
    have hn : ∀ x, x < 5 → nth [a, b, c, d, e'] x < 9 := fun x hx => by
      rcases (show x = 0 ∨ x = 1 ∨ x = 2 ∨ x = 3 ∨ x = 4 by omega) with rfl | rfl | rfl | rfl | rfl <;> simp [nth] <;> omega
    have hinc : ∀ x y, x < y → y < 5 → nth [a, b, c, d, e'] x < nth [a, b, c, d, e'] y := fun x y u v => by
      rcases (show x = 0 ∨ x = 1 ∨ x = 2 ∨ x = 3 by omega) with rfl | rfl | rfl | rfl <;> rcases (show y = 1 ∨ y = 2 ∨ y = 3 ∨ y = 4 by omega) with rfl | rfl | rfl | rfl <;> simp [nth] <;> omega
    refine five_hole hg ho hno (q := fun x => P (nth [a, b, c, d, e'] x)) (fun x hx => (hb _ (hn x hx)).1) (fun x y hx hy hxy => hPinj _ _ (hn x hx) (hn y hy) (fun e => ?_)) (fun x y z u v1 v2 v3 v4 => hmono _ _ _ _ (hinc x y v1 (by omega)) (hinc y z v2 (by omega)) (hinc z u v3 v4) (hn u v4)) hk hs (fun x y hxy p hp => ?_)
    · rcases Nat.lt_or_ge x y with c | c
      · have := hinc x y c hy; omega
      · have := hinc y x (by omega) hx; omega
    · have := hE x y hxy
      split at this
      · have := of_decide_eq_true this p hp
        simpa using this
      · have := of_decide_eq_true this p hp
        simpa using this
end
end
section
section
variable {l : List Pt} {os : List Nat}
/-- an empty polygon of four out of the turns -/
theorem four_hole (hg : Gen l) (ho : Ordd l os) {a b c d : Nat} (hm : ∀ x ∈ [a, b, c, d], x < l.length) (hnd : [a, b, c, d].Nodup) (h1 : 0 < tur l a b c) (h2 : 0 < tur l a b d) (h3 : 0 < tur l b c d) (h4 : 0 < tur l a c d)
    (hE1 : ∀ p ∈ os, ¬ inTri l a b c p) (hE2 : ∀ p ∈ os, ¬ inTri l a c d p) : ∃ H, IsPoly l H ∧ H.length = 4 ∧ ∀ p ∈ os, insB (tur l) H p = false := by
  have e1 : tur l b c a = tur l a b c := (tur_cyc _ _ _ _).symm
  have e2 : tur l c d a = tur l a c d := (tur_cyc _ _ _ _).symm
  have e3 : tur l c d b = tur l b c d := (tur_cyc _ _ _ _).symm
  have e4 : tur l d a b = tur l a b d := tur_cyc _ _ _ _
  have e5 : tur l d a c = tur l a c d := tur_cyc _ _ _ _
  have hne : ∀ x y, x ∈ [a, b, c, d] → y ∈ [a, b, c, d] → x ≠ y → True := fun _ _ _ _ _ => trivial
  obtain ⟨d1, d2⟩ := List.nodup_cons.1 hnd
  obtain ⟨d3, d4⟩ := List.nodup_cons.1 d2
  obtain ⟨d5, d6⟩ := List.nodup_cons.1 d4
  simp only [List.mem_cons, List.not_mem_nil, or_false, not_or] at d1 d3 d5
  refine cyc_hole hg ho (c := a) (r := [b, c, d]) (by simp) hnd hm (fun i hi => ?_) (fun i hi => ?_)
  · simp only [List.length_cons, List.length_nil] at hi
    rcases (show i = 0 ∨ i = 1 ∨ i = 2 ∨ i = 3 by omega) with rfl | rfl | rfl | rfl
    · refine ⟨by simp [natAt], fun e => d1.1 e.symm, fun y hy n1 n2 => ?_⟩
      simp only [List.mem_cons, List.not_mem_nil, or_false] at hy
      rcases hy with rfl | rfl | rfl | rfl
      · exact absurd rfl n1
      · exact absurd rfl n2
      · exact h1
      · exact h2
    · refine ⟨by simp [natAt], fun e => d3.1 e.symm, fun y hy n1 n2 => ?_⟩
      simp only [List.mem_cons, List.not_mem_nil, or_false] at hy
      rcases hy with rfl | rfl | rfl | rfl
      · show 0 < tur l b c y; omega
      · exact absurd rfl n1
      · exact absurd rfl n2
      · exact h3
    · refine ⟨by simp [natAt], fun e => d5 e.symm, fun y hy n1 n2 => ?_⟩
      simp only [List.mem_cons, List.not_mem_nil, or_false] at hy
      rcases hy with rfl | rfl | rfl | rfl
      · show 0 < tur l c d y; omega
      · show 0 < tur l c d y; omega
      · exact absurd rfl n1
      · exact absurd rfl n2
    · have h0 : (3 + 1) % [a, b, c, d].length = 0 := by simp
      rw [h0]
      show nxt (tur l) [a, b, c, d] d a
      refine ⟨by simp, fun e => d1.2.2 e, fun y hy n1 n2 => ?_⟩
      simp only [List.mem_cons, List.not_mem_nil, or_false] at hy
      rcases hy with rfl | rfl | rfl | rfl
      · exact absurd rfl n2
      · show 0 < tur l d a y; omega
      · show 0 < tur l d a y; omega
      · exact absurd rfl n1
  · simp only [List.length_cons, List.length_nil] at hi
    rcases (show i = 0 ∨ i = 1 by omega) with rfl | rfl
    · exact hE1
    · exact hE2

theorem hole4 (hg : Gen l) (ho : Ordd l os) (h5 : 5 ≤ l.length) : ∃ H, IsPoly l H ∧ H.length = 4 ∧ ∀ p ∈ os, insB (tur l) H p = false := by
  have hlen : os.length = l.length := by rw [ho.1.length_eq, List.length_range]
  have hnd : os.Nodup := ho.1.nodup_iff.2 List.nodup_range
  obtain ⟨f, tl, hos⟩ : ∃ f tl, os = f :: tl := by
    match os, hlen with
    | [], h => simp at h; omega
    | f :: tl, _ => exact ⟨f, tl, rfl⟩
  have hfo : f ∈ os := by rw [hos]; simp
  have hfl := ord_lt ho f hfo
  have hA := chi_ang hg hfl
  have htl : tl.length = l.length - 1 := by rw [← hlen, hos]; simp
  have hbeh : ∀ x ∈ tl, behind l f x := fun x hx => by
    refine ⟨ord_lt ho x (by rw [hos]; exact List.mem_cons_of_mem _ hx), ?_⟩
    have := ho.2
    rw [hos] at this
    exact (List.pairwise_cons.1 this).1 x hx
  have htn : tl.Nodup := by rw [hos] at hnd; exact (List.nodup_cons.1 hnd).2
  obtain ⟨B, hBp, hBs⟩ := sort_of hA (tl.take 4) (htn.sublist (List.take_sublist _ _)) fun x hx => hbeh x (List.mem_of_mem_take hx)
  have hBl : B.length = 4 := by rw [hBp.length_eq, List.length_take]; omega
  have hfirst : ∀ x, x ∈ os.take 5 ↔ x = f ∨ x ∈ B := fun x => by rw [hos, List.take_succ_cons, List.mem_cons, hBp.mem_iff]
  have hBm : ∀ i, i < 4 → natAt B i ∈ B := fun i hi => by rw [natAt_eq (by omega)]; exact List.getElem_mem _
  have hb : ∀ i, i < 4 → behind l f (natAt B i) := fun i hi => hbeh _ (List.mem_of_mem_take (hBp.mem_iff.1 (hBm i hi)))
  have hR : ∀ i j, i < j → j < 4 → ltA l f (natAt B i) (natAt B j) := fun i j hij hj => by
    rw [natAt_eq (by omega), natAt_eq (by omega)]
    exact List.pairwise_iff_getElem.1 hBs i j (by omega) (by omega) hij
  have ht5 : ∀ i, i < 4 → natAt B i ∈ os.take 5 := fun i hi => (hfirst _).2 (.inr (hBm i hi))
  have hf5 : f ∈ os.take 5 := (hfirst _).2 (.inl rfl)
  have hidx : ∀ x ∈ B, ∃ m, m < 4 ∧ x = natAt B m := fun x hx => by
    obtain ⟨m, hm, e⟩ := List.getElem_of_mem hx
    exact ⟨m, by omega, by rw [natAt_eq hm, e]⟩
  generalize natAt B = P at *
  have hgen : ∀ i j k, i < j → j < k → k < 4 → tur l (P i) (P j) (P k) ≠ 0 := fun i j k h1 h2 h3 => hA.gen (hb i (by omega)) (hb j (by omega)) (hb k h3) (hA.ne (hR i j h1 (by omega))) (hA.ne (hR j k h2 h3)) (hA.ne (hR i k (by omega) h3))
  have hfP : ∀ i j, i < j → j < 4 → 0 < tur l f (P i) (P j) := fun i j h1 h2 => (hR i j h1 h2).2.2
  have hfP' : ∀ i j, i < 4 → j < 4 → 0 < tur l f (P i) (P j) → i < j := fun i j h1 h2 h3 => by
    rcases Nat.lt_trichotomy i j with c | c | c
    · exact c
    · subst c; rw [tur_self2] at h3; omega
    · have := hfP j i c h1; rw [tur_swap] at this; omega
  have hPf : ∀ i, i < 4 → f ≠ P i := fun i hi e => by have := (hb i hi).2; rw [← e] at this; exact bef_irrefl _ this
  have hPn : ∀ i j, i < j → j < 4 → P i ≠ P j := fun i j hij hj => hA.ne (hR i j hij hj)
  -- with the lowest one
  have hpole : ∀ i, i + 2 < 4 → 0 < tur l (P i) (P (i + 1)) (P (i + 2)) → ∃ H, IsPoly l H ∧ H.length = 4 ∧ ∀ p ∈ os, insB (tur l) H p = false := fun i hi hs => by
    have hfan : ∀ j, j + 1 < 4 → ∀ p ∈ os, ¬ inTri l f (P j) (P (j + 1)) p := fun j hj p hp hin => by
      rcases (hfirst p).1 (tri_first ho hf5 (ht5 j (by omega)) (ht5 (j + 1) hj) hp hin) with rfl | hpB
      · have := hin.1; rw [tur_self1] at this; omega
      · obtain ⟨m, hm, rfl⟩ := hidx p hpB
        obtain ⟨a1, a2, a3⟩ := hin
        rw [tur_anti] at a3
        have u1 := hfP' j m (by omega) hm a1
        have u2 := hfP' m (j + 1) hm hj (by rw [tur_swap]; omega)
        omega
    refine four_hole hg ho (a := f) (b := P i) (c := P (i + 1)) (d := P (i + 2)) (fun x hx => ?_) ?_ (hfP i (i + 1) (by omega) (by omega)) (hfP i (i + 2) (by omega) hi) hs (hfP (i + 1) (i + 2) (by omega) hi) (hfan i (by omega)) (hfan (i + 1) hi)
    · simp only [List.mem_cons, List.not_mem_nil, or_false] at hx
      rcases hx with rfl | rfl | rfl | rfl
      · exact hfl
      · exact (hb i (by omega)).1
      · exact (hb (i + 1) (by omega)).1
      · exact (hb (i + 2) hi).1
    · simp only [List.nodup_cons, List.mem_cons, List.not_mem_nil, or_false, not_or, not_false_eq_true, List.nodup_nil, and_true]
      exact ⟨⟨hPf i (by omega), hPf (i + 1) (by omega), hPf (i + 2) hi⟩, ⟨hPn i (i + 1) (by omega) (by omega), hPn i (i + 2) (by omega) hi⟩, hPn (i + 1) (i + 2) (by omega) hi⟩
  by_cases s1 : 0 < tur l (P 0) (P 1) (P 2)
  · exact hpole 0 (by omega) s1
  by_cases s2 : 0 < tur l (P 1) (P 2) (P 3)
  · exact hpole 1 (by omega) s2
  have g1 := hgen 0 1 2 (by omega) (by omega) (by omega)
  have g2 := hgen 1 2 3 (by omega) (by omega) (by omega)
  have s3 := hA.n2 (hR 0 1 (by omega) (by omega)) (hR 1 2 (by omega) (by omega)) (hR 2 3 (by omega) (by omega)) (by omega) (by omega)
  have s4 := hA.n3 (hR 0 1 (by omega) (by omega)) (hR 1 2 (by omega) (by omega)) (hR 2 3 (by omega) (by omega)) (by omega) (by omega)
  have e1 : tur l (P 0) (P 3) (P 2) = - tur l (P 0) (P 2) (P 3) := tur_swap _ _ _ _
  have e2 : tur l (P 0) (P 3) (P 1) = - tur l (P 0) (P 1) (P 3) := tur_swap _ _ _ _
  have e3 : tur l (P 0) (P 2) (P 1) = - tur l (P 0) (P 1) (P 2) := tur_swap _ _ _ _
  have e4 : tur l (P 3) (P 2) (P 1) = - tur l (P 1) (P 2) (P 3) := by rw [tur_anti, ← tur_cyc]
  have e5 : tur l (P 2) (P 0) (P 1) = tur l (P 0) (P 1) (P 2) := tur_cyc _ _ _ _
  have hfan : ∀ a b c, a < 4 → b < 4 → c < 4 → (∀ m, m < 4 → ¬ inTri l (P a) (P b) (P c) (P m)) → ∀ p ∈ os, ¬ inTri l (P a) (P b) (P c) p := fun a b c ha hb' hc hno p hp hin => by
    rcases (hfirst p).1 (tri_first ho (ht5 a ha) (ht5 b hb') (ht5 c hc) hp hin) with rfl | hpB
    · exact not_low (hb a ha).2 (hb b hb').2 (hb c hc).2 hin
    · obtain ⟨m, hm, rfl⟩ := hidx p hpB
      exact hno m hm hin
  refine four_hole hg ho (a := P 0) (b := P 3) (c := P 2) (d := P 1) (fun x hx => ?_) ?_ (by omega) (by omega) (by omega) (by omega) (hfan 0 3 2 (by omega) (by omega) (by omega) fun m hm hin => ?_) (hfan 0 2 1 (by omega) (by omega) (by omega) fun m hm hin => ?_)
  · simp only [List.mem_cons, List.not_mem_nil, or_false] at hx
    rcases hx with rfl | rfl | rfl | rfl
    · exact (hb 0 (by omega)).1
    · exact (hb 3 (by omega)).1
    · exact (hb 2 (by omega)).1
    · exact (hb 1 (by omega)).1
  · simp only [List.nodup_cons, List.mem_cons, List.not_mem_nil, or_false, not_or, not_false_eq_true, List.nodup_nil, and_true]
    exact ⟨⟨hPn 0 3 (by omega) (by omega), hPn 0 2 (by omega) (by omega), hPn 0 1 (by omega) (by omega)⟩, ⟨fun e => hPn 2 3 (by omega) (by omega) e.symm, fun e => hPn 1 3 (by omega) (by omega) e.symm⟩, fun e => hPn 1 2 (by omega) (by omega) e.symm⟩
  · obtain ⟨a1, a2, a3⟩ := hin
    rcases (show m = 0 ∨ m = 1 ∨ m = 2 ∨ m = 3 by omega) with rfl | rfl | rfl | rfl
    · rw [tur_self1] at a1; omega
    · omega
    · rw [tur_self2] at a2; omega
    · rw [tur_self2] at a1; omega
  · obtain ⟨a1, a2, a3⟩ := hin
    rcases (show m = 0 ∨ m = 1 ∨ m = 2 ∨ m = 3 by omega) with rfl | rfl | rfl | rfl
    · rw [tur_self1] at a1; omega
    · rw [tur_self2] at a2; omega
    · rw [tur_self2] at a1; omega
    · omega
end
end
end
end Go.Proofs.Ythnabheibacbcaa
