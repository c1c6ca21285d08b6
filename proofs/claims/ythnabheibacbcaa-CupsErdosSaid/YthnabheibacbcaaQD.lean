/- Plain: what the search finds is a polygon, and each polygon is found. No condition. Plain: each polygon is found; an empty one has no point inside. No condition. Plain: the best that is found, and the best of all sets. No condition. -/
import Derived.Test.YthnabheibacbcaaQB
import Derived.Test.YthnabheibacbcaaGA
import Derived.Test.YthnabheibacbcaaFC
namespace Go.Proofs.Ythnabheibacbcaa
section
section
variable {S : Nat → Prop} {t : Nat → Nat → Nat → Int} {lt : Nat → Nat → Prop}
theorem IsH.same (hC : Chi S t lt) {D H H' : List Nat} (h : IsH t lt D H) (h' : IsH t lt D H') : ∀ i, i < H.length → i < H'.length ∧ natAt H i = natAt H' i
  | 0, _ => by
    refine ⟨h'.pos, ?_⟩
    rcases Decidable.em (natAt H 0 = natAt H' 0) with e | e
    · exact e
    · exact absurd (h'.low _ h.mem e) (hC.asym (h.low _ h'.mem (fun e' => e e'.symm)))
  | i + 1, hi => by
    obtain ⟨h1, h2⟩ := h.same hC h' i (by omega)
    have hn := h.step i hi
    rw [h2] at hn
    have h0 := (h.same hC h' 0 h.pos).2
    rcases Nat.lt_or_ge (i + 1) H'.length with c | c
    · exact ⟨c, nxt_unique hC hn (h'.step i c)⟩
    · exfalso
      rcases h'.last with ⟨e1, e2⟩ | ⟨_, e2⟩
      · have a1 := e2 _ hn.1
        rw [show i = 0 by omega] at hn a1
        exact hn.2.1 a1
      · rw [show H'.length - 1 = i by omega] at e2
        exact h.nd (i + 1) (by omega) hi ((nxt_unique hC hn e2).trans h0.symm)
theorem IsH.unique (hC : Chi S t lt) {D H H' : List Nat} (h : IsH t lt D H) (h' : IsH t lt D H') : H = H' := by
  have hl : H.length = H'.length := by
    have h1 := (h.same hC h' (H.length - 1) (by have := h.pos; omega)).1
    have h2 := (h'.same hC h (H'.length - 1) (by have := h'.pos; omega)).1
    omega
  refine List.ext_getElem hl fun i hi hi' => ?_
  have := (h.same hC h' i hi).2
  rwa [natAt_eq hi, natAt_eq hi'] at this
end

/-- a polygon: its own hull -/
structure IsPoly (l : List Pt) (H : List Nat) : Prop where
  len : 3 ≤ H.length
  nd : H.Nodup
  lt : ∀ k ∈ H, k < l.length
  hull : IsH (tur l) (befI l) H H

/-! ### four points round a fifth one -/
theorem det_p2 (f a b c d : Pt) : det a b d * det f b c = det b c d * det f a b + det a b c * det f b d := by unfold det; grind
theorem det_p3 (f a b c d : Pt) : det a c d * det f b c = det b c d * det f a c + det a b c * det f c d := by unfold det; grind
theorem pos_of {p q : Int} (h : 0 < p * q) (hq : 0 < q) : 0 < p := by
  rcases Int.lt_or_le 0 p with c | c
  · exact c
  · have := Int.mul_nonneg (a := -p) (by omega) (Int.le_of_lt hq)
    rw [Int.neg_mul] at this
    omega
theorem ang2 {l : List Pt} {f a b c d : Nat} (h1 : 0 < tur l f a b) (h2 : 0 < tur l f b c) (h3 : 0 < tur l f b d) (h4 : 0 < tur l a b c) (h5 : 0 < tur l b c d) : 0 < tur l a b d := by
  unfold tur at *
  rw [trn_pos] at *
  refine pos_of ?_ h2
  rw [det_p2]
  have := Int.mul_pos h5 h1
  have := Int.mul_pos h4 h3
  omega
theorem ang3 {l : List Pt} {f a b c d : Nat} (h1 : 0 < tur l f a c) (h2 : 0 < tur l f b c) (h3 : 0 < tur l f c d) (h4 : 0 < tur l a b c) (h5 : 0 < tur l b c d) : 0 < tur l a c d := by
  unfold tur at *
  rw [trn_pos] at *
  refine pos_of ?_ h2
  rw [det_p3]
  have := Int.mul_pos h5 h1
  have := Int.mul_pos h4 h3
  omega
/-- three that follow one another, so any three -/
theorem all3 {l : List Pt} {f : Nat} {r : List Nat} (hr : ∀ i j, i < j → j < r.length → 0 < tur l f (natAt r i) (natAt r j)) (hc : ∀ i, i + 2 < r.length → 0 < tur l (natAt r i) (natAt r (i + 1)) (natAt r (i + 2))) :
    ∀ (k i j : Nat), i < j → j < k → k < r.length → 0 < tur l (natAt r i) (natAt r j) (natAt r k) := by
  intro k
  induction k with
  | zero => intro i j _ h; omega
  | succ k ih =>
    have q : ∀ i, i < k → k + 1 < r.length → 0 < tur l (natAt r i) (natAt r k) (natAt r (k + 1)) := fun i hi hk => by
      obtain ⟨m, rfl⟩ : ∃ m, k = m + 1 := ⟨k - 1, by omega⟩
      by_cases e : i = m
      · subst e; exact hc i hk
      · exact ang3 (hr i (m + 1) (by omega) (by omega)) (hr m (m + 1) (by omega) (by omega)) (hr (m + 1) (m + 2) (by omega) hk) (ih i m (by omega) (by omega) (by omega)) (hc m hk)
    intro i j hij hj hk
    by_cases e : j = k
    · subst e; exact q i hij hk
    · exact ang2 (hr i j hij (by omega)) (hr j k (by omega) (by omega)) (hr j (k + 1) (by omega) hk) (ih i j hij (by omega) (by omega)) (q j (by omega) hk)

/-! ### the chain's conditions, place by place -/
section
variable {t : Nat → Nat → Nat → Int} {iE : Nat → Nat → Nat → Bool} {E : Bool} {f : Nat}
theorem ext_iff : ∀ (r xs : List Nat), Ext t iE E f xs r ↔ ∀ i, i < r.length → addOk t iE E f (xs ++ r.take i) (natAt r i) = true
  | [], xs => ⟨fun _ i hi => by simp at hi, fun _ => trivial⟩
  | x :: r, xs => by
    show addOk t iE E f xs x = true ∧ Ext t iE E f (xs ++ [x]) r ↔ _
    rw [ext_iff r (xs ++ [x])]
    constructor
    · rintro ⟨h1, h2⟩ i hi
      rcases i with _ | i
      · simpa [natAt] using h1
      · have := h2 i (by simpa using hi)
        simpa [natAt] using this
    · intro h
      refine ⟨by simpa [natAt] using h 0 (by simp), fun i hi => ?_⟩
      have := h (i + 1) (by simpa using hi)
      simpa [natAt] using this
theorem natAt_ft (r : List Nat) {i j : Nat} (h : j < i) (hi : i ≤ r.length) : natAt ([f] ++ r.take i) (j + 1) = natAt r j := by
  rw [natAt_eq (by simp; omega), natAt_eq (by omega)]
  simp
/-- the conditions of a chain behind f -/
theorem ext_f (r : List Nat) : Ext t iE E f [f] r ↔ (∀ i, i + 2 < r.length → 0 < t (natAt r i) (natAt r (i + 1)) (natAt r (i + 2))) ∧ (1 < r.length → 0 < t f (natAt r 0) (natAt r 1)) ∧ ∀ i, i + 1 < r.length → E = true → iE f (natAt r i) (natAt r (i + 1)) = true := by
  rw [ext_iff]
  have hl : ∀ i, i ≤ r.length → ([f] ++ r.take i).length = i + 1 := fun i hi => by simp; omega
  constructor
  · intro h
    refine ⟨fun i hi => ?_, fun hi => ?_, fun i hi hE => ?_⟩
    · have := h (i + 2) hi
      unfold addOk at this
      rw [hl _ (by omega), decide_eq_false (by omega), Bool.false_or, Bool.and_eq_true, decide_eq_true_eq, show i + 2 + 1 - 2 = i + 1 by omega, show i + 2 + 1 - 1 = i + 1 + 1 by omega, natAt_ft r (by omega) (by omega), natAt_ft r (by omega) (by omega)] at this
      exact this.1
    · have := h 1 hi
      unfold addOk at this
      rw [hl _ (by omega), decide_eq_false (by omega), Bool.false_or, Bool.and_eq_true, decide_eq_true_eq, show 1 + 1 - 1 = 0 + 1 by omega, natAt_ft r (by omega) (by omega)] at this
      simpa [natAt] using this.1
    · have := h (i + 1) hi
      unfold addOk at this
      rw [hl _ (by omega), decide_eq_false (by omega), Bool.false_or, Bool.and_eq_true, show i + 1 + 1 - 1 = i + 1 by omega, natAt_ft r (by omega) (by omega), hE] at this
      simpa using this.2
  · rintro ⟨h1, h2, h3⟩ i hi
    unfold addOk
    rw [hl _ (by omega)]
    rcases i with _ | _ | i
    · rfl
    · rw [decide_eq_false (by omega), Bool.false_or, Bool.and_eq_true, decide_eq_true_eq, show 0 + 1 + 1 - 1 = 0 + 1 by omega, natAt_ft r (by omega) (by omega)]
      refine ⟨by simpa [natAt] using h2 hi, ?_⟩
      have := h3 0 hi
      cases E
      · rfl
      · simpa using this rfl
    · rw [decide_eq_false (by omega), Bool.false_or, Bool.and_eq_true, decide_eq_true_eq, show i + 1 + 1 + 1 - 2 = i + 1 by omega, show i + 1 + 1 + 1 - 1 = i + 1 + 1 by omega, natAt_ft r (by omega) (by omega), natAt_ft r (by omega) (by omega)]
      refine ⟨h1 i hi, ?_⟩
      have := h3 (i + 1) hi
      cases E
      · rfl
      · simpa using this rfl
end
theorem natAt_cons (f : Nat) (r : List Nat) (i : Nat) : natAt (f :: r) (i + 1) = natAt r i := by unfold natAt; simp
theorem natAt_head (f : Nat) (r : List Nat) : natAt (f :: r) 0 = f := rfl

section
variable {l : List Pt} {os : List Nat} {iE : Nat → Nat → Nat → Bool} {E : Bool} {f : Nat} {r : List Nat}
theorem GoodP.rnd {t : Nat → Nat → Nat → Int} {lt : Nat → Nat → Prop} (h : GoodP t lt iE E os f r) : ∀ i j, i < j → j < r.length → 0 < t f (natAt r i) (natAt r j) := fun i j hij hj => by
  rw [natAt_eq (by omega), natAt_eq hj]
  exact List.pairwise_iff_getElem.1 h.round i j (by omega) hj hij
theorem GoodP.len {t : Nat → Nat → Nat → Int} {lt : Nat → Nat → Prop} (h : GoodP t lt iE E os f r) : 2 ≤ r.length := by
  have := h.closed
  unfold closedB at this
  simp at this
  omega
theorem GoodP.poly (hg : Gen l) (ho : Ordd l os) (h : GoodP (tur l) (befI l) iE E os f r) : IsPoly l (f :: r) := by
  have hC := chi_of hg
  have h2 := h.len
  have hr := h.rnd
  have h3 := all3 hr ((ext_f r).1 h.ext).1
  have hmem : ∀ i, i < r.length → natAt r i ∈ r := fun i hi => by rw [natAt_eq hi]; exact List.getElem_mem _
  have hfr : f ∉ r := fun hf => hC.irr f (h.mem f hf).2
  have hne : ∀ i, i < r.length → natAt r i ≠ f := fun i hi e => hfr (e ▸ hmem i hi)
  have hnd : r.Nodup := h.round.imp fun {a b} hp e => by subst e; rw [hC.same] at hp; omega
  have hidx : ∀ y ∈ r, ∃ j, j < r.length ∧ y = natAt r j := fun y hy => by
    obtain ⟨j, hj, e⟩ := List.getElem_of_mem hy
    exact ⟨j, hj, by rw [natAt_eq hj, e]⟩
  have hdf : ∀ i j, i < r.length → j < r.length → i ≠ j → natAt r i ≠ natAt r j := fun i j hi hj hij e => by
    rw [natAt_eq hi, natAt_eq hj] at e
    exact hij ((List.getElem_inj hnd).1 e)
  refine ⟨by simp; omega, List.nodup_cons.2 ⟨hfr, hnd⟩, fun k hk => ?_, ⟨by simp, by simp [natAt], fun p hp hn => ?_, fun i hi => ?_, .inr ⟨by simp; omega, ?_⟩, fun i h0 hi => ?_⟩⟩
  · rcases List.mem_cons.1 hk with rfl | hk
    · exact ord_lt ho _ h.first
    · exact ord_lt ho _ (h.mem k hk).1
  · rw [natAt_head] at hn ⊢
    rcases List.mem_cons.1 hp with e | e
    · exact absurd e hn
    · exact (h.mem p e).2
  · simp only [List.length_cons] at hi
    rcases i with _ | i
    · rw [natAt_head, natAt_cons]
      refine ⟨List.mem_cons_of_mem _ (hmem 0 (by omega)), hne 0 (by omega), fun y hy n1 n2 => ?_⟩
      rcases List.mem_cons.1 hy with e | e
      · exact absurd e n1
      · obtain ⟨j, hj, rfl⟩ := hidx y e
        exact hr 0 j (by rcases Nat.eq_zero_or_pos j with c | c; subst c; exact absurd rfl n2; exact c) hj
    · rw [natAt_cons, natAt_cons]
      refine ⟨List.mem_cons_of_mem _ (hmem (i + 1) (by omega)), hdf _ _ (by omega) (by omega) (by omega), fun y hy n1 n2 => ?_⟩
      rcases List.mem_cons.1 hy with e | e
      · subst e
        rw [← hC.cyc]
        exact hr i (i + 1) (by omega) (by omega)
      · obtain ⟨j, hj, rfl⟩ := hidx y e
        rcases Nat.lt_trichotomy j i with c | c | c
        · rw [← hC.cyc]; exact h3 (i + 1) j i c (by omega) (by omega)
        · subst c; exact absurd rfl n1
        · by_cases e : j = i + 1
          · subst e; exact absurd rfl n2
          · exact h3 j i (i + 1) (by omega) (by omega) hj
  · obtain ⟨m, hm⟩ : ∃ m, r.length = m + 1 := ⟨r.length - 1, by omega⟩
    rw [show (f :: r).length - 1 = m + 1 by simp; omega, natAt_cons, natAt_head]
    refine ⟨by simp, fun e => hne m (by omega) e.symm, fun y hy n1 n2 => ?_⟩
    rcases List.mem_cons.1 hy with e | e
    · exact absurd e n2
    · obtain ⟨j, hj, rfl⟩ := hidx y e
      have hjm : j < m := by
        rcases Nat.lt_or_ge j m with c | c
        · exact c
        · exact absurd (by rw [show j = m by omega]) n1
      rw [hC.cyc]
      exact hr j m hjm (by omega)
  · obtain ⟨i, rfl⟩ : ∃ k, i = k + 1 := ⟨i - 1, by omega⟩
    simp only [List.length_cons] at hi
    rw [natAt_cons, natAt_head]
    exact hne i (by omega)
end
end
section
section
variable {t : Nat → Nat → Nat → Int}
theorem insUpto_iff (ns : List Nat) (p : Nat) : ∀ k, insUpto t ns p k = true ↔ ∀ i, i < k → 0 < t (natAt ns i) (natAt ns ((i + 1) % ns.length)) p
  | 0 => by simp [insUpto]
  | k + 1 => by
    simp only [insUpto, Bool.and_eq_true, decide_eq_true_eq]
    rw [insUpto_iff ns p k]
    constructor
    · rintro ⟨h1, h2⟩ i hi
      by_cases e : i = k
      · subst e; exact h2
      · exact h1 i (by omega)
    · intro h
      exact ⟨fun i hi => h i (by omega), h k (by omega)⟩
theorem insB_iff (ns : List Nat) (p : Nat) : insB t ns p = true ↔ ∀ i, i < ns.length → 0 < t (natAt ns i) (natAt ns ((i + 1) % ns.length)) p := insUpto_iff ns p _
theorem insB3 (f a b p : Nat) : insB t [f, a, b] p = true ↔ 0 < t f a p ∧ 0 < t a b p ∧ 0 < t b f p := by
  rw [insB_iff]
  constructor
  · intro h
    exact ⟨by simpa [natAt] using h 0 (by simp), by simpa [natAt] using h 1 (by simp), by simpa [natAt] using h 2 (by simp)⟩
  · rintro ⟨h1, h2, h3⟩ i hi
    rcases (show i = 0 ∨ i = 1 ∨ i = 2 by simp at hi; omega) with rfl | rfl | rfl
    · simpa [natAt] using h1
    · simpa [natAt] using h2
    · simpa [natAt] using h3
theorem iEO_iff (os : List Nat) (f a b : Nat) : iEO t os f a b = true ↔ ∀ p ∈ os, ¬ (0 < t f a p ∧ 0 < t a b p ∧ 0 < t b f p) := by
  unfold iEO
  rw [Bool.not_eq_true', Bool.eq_false_iff, ne_eq, List.any_eq_true]
  constructor
  · intro h p hp hc
    exact h ⟨p, hp, (insB3 f a b p).2 hc⟩
  · rintro h ⟨p, hp, hc⟩
    exact h p hp ((insB3 f a b p).1 hc)
end

section
variable {l : List Pt} {os : List Nat} {E : Bool} {f : Nat} {r : List Nat}
/-- in a polygon f, r: each edge has all others on its left -/
theorem IsPoly.edge (h : IsPoly l (f :: r)) : (∀ i, i + 1 < r.length → nxt (tur l) (f :: r) (natAt r i) (natAt r (i + 1))) ∧ nxt (tur l) (f :: r) f (natAt r 0) ∧ nxt (tur l) (f :: r) (natAt r (r.length - 1)) f := by
  have hl := h.len
  simp only [List.length_cons] at hl
  refine ⟨fun i hi => ?_, ?_, ?_⟩
  · have := h.hull.step (i + 1) (by simp; omega)
    rwa [natAt_cons, natAt_cons] at this
  · have := h.hull.step 0 (by simp; omega)
    rwa [natAt_cons, natAt_head] at this
  · obtain ⟨_, this⟩ := h.hull.two h.nd (by simp; omega)
    obtain ⟨m, hm⟩ : ∃ m, r.length = m + 1 := ⟨r.length - 1, by omega⟩
    rw [show (f :: r).length - 1 = m + 1 by simp; omega, natAt_cons, natAt_head] at this
    rw [hm]; exact this
theorem IsPoly.facts (h : IsPoly l (f :: r)) : 2 ≤ r.length ∧ f ∉ r ∧ r.Nodup ∧ (∀ i, i < r.length → natAt r i ∈ r) ∧ (∀ i, i < r.length → natAt r i ≠ f) ∧ ∀ i j, i < r.length → j < r.length → i ≠ j → natAt r i ≠ natAt r j := by
  have hl := h.len
  simp only [List.length_cons] at hl
  obtain ⟨h1, h2⟩ := List.nodup_cons.1 h.nd
  have hm : ∀ i, i < r.length → natAt r i ∈ r := fun i hi => by rw [natAt_eq hi]; exact List.getElem_mem _
  refine ⟨by omega, h1, h2, hm, fun i hi e => h1 (e ▸ hm i hi), fun i j hi hj hij e => ?_⟩
  rw [natAt_eq hi, natAt_eq hj] at e
  exact hij ((List.getElem_inj h2).1 e)
/-- the corners go round the first one -/
theorem IsPoly.rnd (hg : Gen l) (h : IsPoly l (f :: r)) : ∀ i j, i < j → j < r.length → 0 < tur l f (natAt r i) (natAt r j) := by
  have hC := chi_of hg
  obtain ⟨hl, hfr, hnd, hm, hnf, hdf⟩ := h.facts
  obtain ⟨e1, e2, e3⟩ := h.edge
  have hlow : ∀ i, i < r.length → befI l f (natAt r i) := fun i hi => by
    have := h.hull.low (natAt r i) (List.mem_cons_of_mem _ (hm i hi)) (by rw [natAt_head]; exact hnf i hi)
    rwa [natAt_head] at this
  have hone : ∀ i, i + 1 < r.length → 0 < tur l f (natAt r i) (natAt r (i + 1)) := fun i hi => by
    have := (e1 i hi).2.2 f (by simp) (fun e => hnf i (by omega) e.symm) (fun e => hnf (i + 1) hi e.symm)
    rwa [hC.cyc, hC.cyc] at this
  intro i j
  induction j with
  | zero => intro h; omega
  | succ j ih =>
    intro hij hj
    by_cases e : i = j
    · subst e; exact hone i hj
    · have h1 := ih (by omega) (by omega)
      have h2 := hone j hj
      have b1 := hlow i (by omega); have b2 := hlow j (by omega); have b3 := hlow (j + 1) hj
      unfold tur at *
      unfold befI at b1 b2 b3
      rw [trn_pos, ← crs_det] at *
      exact vec_pos (vpos_sub b1) (vpos_sub b2) (vpos_sub b3) h1 h2
theorem IsPoly.good (hg : Gen l) (ho : Ordd l os) (h : IsPoly l (f :: r)) (iE : Nat → Nat → Nat → Bool) (hE : E = true → ∀ i, i + 1 < r.length → iE f (natAt r i) (natAt r (i + 1)) = true) : GoodP (tur l) (befI l) iE E os f r := by
  have hC := chi_of hg
  obtain ⟨hl, hfr, hnd, hm, hnf, hdf⟩ := h.facts
  obtain ⟨e1, e2, e3⟩ := h.edge
  have hrd := h.rnd hg
  have hos : ∀ x ∈ f :: r, x ∈ os := fun x hx => ho.1.mem_iff.2 (List.mem_range.2 (h.lt x hx))
  refine ⟨hos f (by simp), fun x hx => ⟨hos x (List.mem_cons_of_mem _ hx), ?_⟩, ?_, ?_, ?_⟩
  · have := h.hull.low x (List.mem_cons_of_mem _ hx) (by rw [natAt_head]; exact fun e => hfr (e ▸ hx))
    rwa [natAt_head] at this
  · rw [List.pairwise_iff_getElem]
    intro i j hi hj hij
    rw [← natAt_eq hi, ← natAt_eq hj]
    exact hrd i j hij hj
  · rw [ext_f]
    exact ⟨fun i hi => (e1 i (by omega)).2.2 _ (List.mem_cons_of_mem _ (hm _ hi)) (hdf _ _ (by omega) (by omega) (by omega)) (hdf _ _ (by omega) (by omega) (by omega)), fun hi => hrd 0 1 (by omega) hi, fun i hi he => hE he i hi⟩
  · obtain ⟨m, hm2⟩ : ∃ m, r.length = m + 2 := ⟨r.length - 2, by omega⟩
    unfold closedB
    rw [show (f :: r).length = m + 3 by simp; omega, show m + 3 - 2 = m + 1 by omega, show m + 3 - 1 = m + 1 + 1 by omega, natAt_cons, natAt_cons, show natAt (f :: r) 1 = natAt r 0 from natAt_cons f r 0]
    have a1 := hrd m (m + 1) (by omega) (by omega)
    have a2 := hrd 0 (m + 1) (by omega) (by omega)
    rw [hC.cyc] at a1
    rw [hC.cyc, hC.cyc] at a2
    simp [a1, a2]

/-! ### points inside -/
theorem det_in (f a b d e p : Pt) : det f a b * det d e p = det p a b * det d e f + det f p b * det d e a + det f a p * det d e b := by unfold det; grind
theorem tri_in {l : List Pt} {f a b d e p : Nat} (h0 : 0 < tur l f a b) (h1 : 0 < tur l f a p) (h2 : 0 < tur l a b p) (h3 : 0 < tur l b f p) (g1 : 0 ≤ tur l d e f) (g2 : 0 ≤ tur l d e a) (g3 : 0 ≤ tur l d e b) (g : 0 < tur l d e f ∨ 0 < tur l d e a ∨ 0 < tur l d e b) : 0 < tur l d e p := by
  have nn : ∀ a b c, 0 ≤ tur l a b c → 0 ≤ det (ptA l a) (ptA l b) (ptA l c) := fun a b c h => by
    rcases Int.lt_or_le (det (ptA l a) (ptA l b) (ptA l c)) 0 with c | c
    · have := trn_neg.2 c
      unfold tur at h; omega
    · exact c
  have g1' := nn _ _ _ g1; have g2' := nn _ _ _ g2; have g3' := nn _ _ _ g3
  have h1' : 0 < det (ptA l f) (ptA l a) (ptA l p) := trn_pos.1 h1
  have h2' : 0 < det (ptA l p) (ptA l a) (ptA l b) := by rw [det_cyc]; exact trn_pos.1 h2
  have h3' : 0 < det (ptA l f) (ptA l p) (ptA l b) := by rw [← det_cyc]; exact trn_pos.1 h3
  have h0' : 0 < det (ptA l f) (ptA l a) (ptA l b) := trn_pos.1 h0
  have g' : 0 < det (ptA l d) (ptA l e) (ptA l f) ∨ 0 < det (ptA l d) (ptA l e) (ptA l a) ∨ 0 < det (ptA l d) (ptA l e) (ptA l b) := by
    rcases g with g | g | g
    · exact .inl (trn_pos.1 g)
    · exact .inr (.inl (trn_pos.1 g))
    · exact .inr (.inr (trn_pos.1 g))
  show 0 < trn _ _ _
  rw [trn_pos]
  have m1 := Int.mul_nonneg (Int.le_of_lt h2') g1'
  have m2 := Int.mul_nonneg (Int.le_of_lt h3') g2'
  have m3 := Int.mul_nonneg (Int.le_of_lt h1') g3'
  refine pos_of (q := det (ptA l f) (ptA l a) (ptA l b)) ?_ h0'
  rw [Int.mul_comm, det_in]
  rcases g' with g | g | g
  · have := Int.mul_pos h2' g; omega
  · have := Int.mul_pos h3' g; omega
  · have := Int.mul_pos h1' g; omega
/-- no point is inside just if none is in a triangle of the fan -/
theorem IsPoly.free_iff (hg : Gen l) (ho : Ordd l os) (h : IsPoly l (f :: r)) : (∀ p ∈ os, insB (tur l) (f :: r) p = false) ↔ ∀ i, i + 1 < r.length → iEO (tur l) os f (natAt r i) (natAt r (i + 1)) = true := by
  have hC := chi_of hg
  obtain ⟨hl, hfr, hnd, hm, hnf, hdf⟩ := h.facts
  obtain ⟨e1, e2, e3⟩ := h.edge
  have hrd := h.rnd hg
  have hlt : ∀ i, i < r.length → natAt r i < l.length := fun i hi => h.lt _ (List.mem_cons_of_mem _ (hm i hi))
  have hlf := h.lt f (by simp)
  obtain ⟨m, hm2⟩ : ∃ m, r.length = m + 2 := ⟨r.length - 2, by omega⟩
  have hin : ∀ p, insB (tur l) (f :: r) p = true ↔ 0 < tur l f (natAt r 0) p ∧ (∀ i, i + 1 < r.length → 0 < tur l (natAt r i) (natAt r (i + 1)) p) ∧ 0 < tur l (natAt r (m + 1)) f p := fun p => by
    rw [insB_iff]
    have hL : (f :: r).length = m + 3 := by simp; omega
    rw [hL]
    constructor
    · intro h
      refine ⟨?_, fun i hi => ?_, ?_⟩
      · have := h 0 (by omega)
        rwa [Nat.mod_eq_of_lt (by omega), natAt_cons, natAt_head] at this
      · have := h (i + 1) (by omega)
        rwa [Nat.mod_eq_of_lt (by omega), natAt_cons, natAt_cons] at this
      · have := h (m + 2) (by omega)
        rwa [show (m + 2 + 1) % (m + 3) = 0 from Nat.mod_self _, natAt_cons, natAt_head] at this
    · rintro ⟨h1, h2, h3⟩ i hi
      rcases i with _ | i
      · rw [Nat.mod_eq_of_lt (by omega), natAt_cons, natAt_head]; exact h1
      · by_cases e : i = m + 1
        · subst e; rw [show (m + 1 + 1 + 1) % (m + 3) = 0 from Nat.mod_self _, natAt_cons, natAt_head]; exact h3
        · rw [Nat.mod_eq_of_lt (by omega), natAt_cons, natAt_cons]; exact h2 i (by omega)
  constructor
  · intro hfree i hi
    rw [iEO_iff]
    rintro p hp ⟨p1, p2, p3⟩
    have hno := hfree p hp
    rw [Bool.eq_false_iff] at hno
    refine hno ((hin p).2 ?_)
    have hed : ∀ d e, nxt (tur l) (f :: r) d e → d ∈ f :: r → 0 < tur l d e p := fun d e hn hd => by
      have nn : ∀ x, x ∈ f :: r → 0 ≤ tur l d e x := fun x hx => by
        by_cases c1 : x = d
        · subst c1; rw [tur_self1]; omega
        by_cases c2 : x = e
        · subst c2; rw [tur_self2]; omega
        exact Int.le_of_lt (hn.2.2 x hx c1 c2)
      have hn1 := hnf i (by omega)
      have hn2 := hnf (i + 1) hi
      have hn3 := hdf i (i + 1) (by omega) hi (by omega)
      refine tri_in (hrd i (i + 1) (by omega) hi) p1 p2 p3 (nn f (by simp)) (nn _ (List.mem_cons_of_mem _ (hm i (by omega)))) (nn _ (List.mem_cons_of_mem _ (hm (i + 1) hi))) ?_
      by_cases c1 : f ≠ d ∧ f ≠ e
      · exact .inl (hn.2.2 f (by simp) c1.1 c1.2)
      by_cases c2 : natAt r i ≠ d ∧ natAt r i ≠ e
      · exact .inr (.inl (hn.2.2 _ (List.mem_cons_of_mem _ (hm i (by omega))) c2.1 c2.2))
      refine .inr (.inr (hn.2.2 _ (List.mem_cons_of_mem _ (hm (i + 1) hi)) (fun e => ?_) (fun e => ?_)))
      · omega
      · omega
    exact ⟨hed _ _ e2 (by simp), fun j hj => hed _ _ (e1 j hj) (List.mem_cons_of_mem _ (hm j (by omega))), by rw [hm2] at e3; exact hed _ _ e3 (List.mem_cons_of_mem _ (hm (m + 1) (by omega)))⟩
  · intro htri p hp
    rw [Bool.eq_false_iff]
    intro hc
    obtain ⟨q1, q2, q3⟩ := (hin p).1 hc
    have hlp : p < l.length := ord_lt ho p hp
    have hlast : ¬ 0 < tur l f (natAt r (m + 1)) p := by rw [hC.anti] at q3; omega
    have hex : ∀ k, 0 < tur l f (natAt r k) p ∨ ∃ i, i < k ∧ 0 < tur l f (natAt r i) p ∧ ¬ 0 < tur l f (natAt r (i + 1)) p := fun k => by
      induction k with
      | zero => exact .inl q1
      | succ k ih =>
        rcases ih with ih | ⟨i, h1, h2⟩
        · by_cases c : 0 < tur l f (natAt r (k + 1)) p
          · exact .inl c
          · exact .inr ⟨k, by omega, ih, c⟩
        · exact .inr ⟨i, by omega, h2⟩
    rcases hex (m + 1) with h | ⟨i, hi, h1, h2⟩
    · exact hlast h
    · have h3 := q2 i (by omega)
      have hpf : f ≠ p := fun e => by subst e; rw [tur_self1] at q1; omega
      have hpi : natAt r (i + 1) ≠ p := fun e => by rw [← e, tur_self2] at h3; omega
      have h4 := hC.gen hlf (hlt (i + 1) (by omega)) hlp (fun e => hnf (i + 1) (by omega) e.symm) hpi hpf
      exact (iEO_iff os f _ _).1 (htri i (by omega)) p hp ⟨h1, h3, by rw [hC.anti]; omega⟩
end
end
section
/-- an empty triangle -/
theorem tri_free {l : List Pt} {os : List Nat} (hg : Gen l) (ho : Ordd l os) (h3 : 3 ≤ l.length) : ∃ f r, GoodP (tur l) (befI l) (iEO (tur l) os) true os f r := by
  have hC := chi_of hg
  have hlen : os.length = l.length := by rw [ho.1.length_eq, List.length_range]
  have hnd : os.Nodup := ho.1.nodup_iff.2 List.nodup_range
  have hH := rest_isH hg ho (List.Sublist.refl _) (fun e => by rw [e] at hlen; simp at hlen; omega)
  have h3H := hH.three hC hnd (by omega)
  have n1 := hH.step 0 (by omega)
  obtain ⟨f, hf⟩ : ∃ f, natAt (hullL (tur l) os) 0 = f := ⟨_, rfl⟩
  obtain ⟨b1, hb1⟩ : ∃ b1, natAt (hullL (tur l) os) 1 = b1 := ⟨_, rfl⟩
  have hfm := hH.mem
  have hlow := hH.low
  rw [hf] at hfm hlow
  simp only [Nat.zero_add] at n1
  rw [hf, hb1] at n1
  have hsub : (os.filter fun i => decide (i ≠ b1)).Sublist os := List.filter_sublist
  have hm : ∀ x, x ∈ (os.filter fun i => decide (i ≠ b1)) ↔ x ∈ os ∧ x ≠ b1 := fun x => by rw [List.mem_filter, decide_eq_true_eq]
  have hfb : f ≠ b1 := fun e => n1.2.1 e.symm
  have hf2 : f ∈ (os.filter fun i => decide (i ≠ b1)) := (hm f).2 ⟨hfm, hfb⟩
  have hH2 := rest_isH hg ho hsub (List.ne_nil_of_mem hf2)
  have hnd2 := hnd.sublist hsub
  have hl2 : 2 ≤ (os.filter fun i => decide (i ≠ b1)).length := by
    obtain ⟨y, hy, y1, y2⟩ := third hnd (by omega) f b1
    have hyD := (hm y).2 ⟨hy, y2⟩
    match hD : (os.filter fun i => decide (i ≠ b1)) with
    | [] => rw [hD] at hyD; cases hyD
    | [a] => rw [hD] at hyD hf2; exact absurd ((List.mem_singleton.1 hyD).trans (List.mem_singleton.1 hf2).symm) y1
    | _ :: _ :: _ => simp
  obtain ⟨hl3, _⟩ := hH2.two hnd2 hl2
  have n2 := hH2.step 0 (by omega)
  have e0 : natAt (hullL (tur l) (os.filter fun i => decide (i ≠ b1))) 0 = f := by
    rcases Decidable.em (natAt (hullL (tur l) (os.filter fun i => decide (i ≠ b1))) 0 = f) with e | e
    · exact e
    · have a1 := hH2.low f hf2 (fun e' => e e'.symm)
      have a2 := hlow _ ((hm _).1 hH2.mem).1 e
      exact absurd a1 (hC.asym a2)
  simp only [Nat.zero_add] at n2
  rw [e0] at n2
  generalize natAt (hullL (tur l) (os.filter fun i => decide (i ≠ b1))) 1 = b2 at *
  obtain ⟨hb2o, hb21⟩ := (hm b2).1 n2.1
  have hpos : 0 < tur l f b1 b2 := n1.2.2 b2 hb2o n2.2.1 hb21
  refine ⟨f, [b1, b2], ⟨hfm, fun x hx => ?_, ?_, ?_, ?_⟩⟩
  · simp only [List.mem_cons, List.not_mem_nil, or_false] at hx
    rcases hx with rfl | rfl
    · exact ⟨n1.1, hlow _ n1.1 n1.2.1⟩
    · exact ⟨hb2o, hlow _ hb2o n2.2.1⟩
  · simp [hpos]
  · rw [ext_f]
    refine ⟨fun i hi => by simp only [List.length_cons, List.length_nil] at hi; omega, fun _ => by simpa [natAt] using hpos, fun i hi _ => ?_⟩
    obtain rfl : i = 0 := by simp at hi; omega
    show iEO (tur l) os f b1 b2 = true
    rw [iEO_iff]
    rintro p hp ⟨p1, p2, p3⟩
    have q1 : p ≠ f := fun e => by subst e; rw [tur_self1] at p1; omega
    have q2 : p ≠ b1 := fun e => by subst e; rw [tur_self2] at p1; omega
    have q3 : p ≠ b2 := fun e => by subst e; rw [tur_self2] at p2; omega
    have := n2.2.2 p ((hm p).2 ⟨hp, q2⟩) q1 q3
    rw [hC.anti] at p3
    omega
  · have a1 : 0 < tur l b1 b2 f := by rw [← hC.cyc]; exact hpos
    have a2 : 0 < tur l b2 f b1 := by rw [hC.cyc]; exact hpos
    simp [closedB, natAt, a1, a2]

section
variable {l : List Pt} {os ys : List Nat}
/-- the longest -/
theorem best_poly (hg : Gen l) (ho : Ordd l os) (h3 : 3 ≤ l.length) (h : BestP (tur l) (befI l) (iEO (tur l) os) false os ys) : IsPoly l ys ∧ ∀ H, IsPoly l H → H.length ≤ ys.length := by
  obtain ⟨f0, r0, h0⟩ := tri_free hg ho h3
  have hmax : ∀ H, IsPoly l H → H.length ≤ ys.length := fun H hH => by
    match H, hH with
    | [], hH => simp
    | f :: r, hH => exact h.max f r (hH.good hg ho (E := false) _ fun e => by cases e)
  refine ⟨?_, hmax⟩
  rcases h.val with e | ⟨f, r, hG, e⟩
  · have := hmax _ (h0.poly hg ho)
    rw [e] at this
    simp at this
  · rw [e]; exact hG.poly hg ho
/-- the longest empty one -/
theorem best_free (hg : Gen l) (ho : Ordd l os) (h3 : 3 ≤ l.length) (h : BestP (tur l) (befI l) (iEO (tur l) os) true os ys) :
    (IsPoly l ys ∧ ∀ p ∈ os, insB (tur l) ys p = false) ∧ ∀ H, IsPoly l H → (∀ p ∈ os, insB (tur l) H p = false) → H.length ≤ ys.length := by
  obtain ⟨f0, r0, h0⟩ := tri_free hg ho h3
  have hmax : ∀ H, IsPoly l H → (∀ p ∈ os, insB (tur l) H p = false) → H.length ≤ ys.length := fun H hH hF => by
    match H, hH, hF with
    | [], hH, _ => simp
    | f :: r, hH, hF => exact h.max f r (hH.good hg ho (E := true) _ fun _ => (hH.free_iff hg ho).1 hF)
  have hfr : ∀ f r, GoodP (tur l) (befI l) (iEO (tur l) os) true os f r → IsPoly l (f :: r) ∧ ∀ p ∈ os, insB (tur l) (f :: r) p = false := fun f r hG =>
    ⟨hG.poly hg ho, ((hG.poly hg ho).free_iff hg ho).2 fun i hi => ((ext_f r).1 hG.ext).2.2 i hi rfl⟩
  refine ⟨?_, hmax⟩
  rcases h.val with e | ⟨f, r, hG, e⟩
  · have := hmax _ (hfr _ _ h0).1 (hfr _ _ h0).2
    rw [e] at this
    simp at this
  · rw [e]; exact hfr _ _ hG
end

theorem toNat_nats (H : List Nat) : (nats H).map Int.toNat = H := by
  unfold nats; rw [List.map_map]
  conv => rhs; rw [← List.map_id H]
  exact List.map_congr_left fun x _ => by simp
theorem idx_of {n : Nat} {H : List Nat} (hnd : H.Nodup) (hlt : ∀ k ∈ H, k < n) : idxB n (nats H) = true := by
  unfold idxB
  rw [List.all_eq_true]
  intro k hk
  rw [List.mem_range, nats_length] at hk
  unfold idxOk
  rw [at0_nats, natAt_eq hk]
  have h1 := hlt H[k] (List.getElem_mem _)
  have h2 : memB ((nats H).take k) ((H[k] : Nat) : Int) = false := by
    rw [Bool.eq_false_iff]
    intro hc
    unfold memB at hc
    obtain ⟨y, hy, e⟩ := List.any_eq_true.1 hc
    obtain ⟨i, hi, e2⟩ := List.mem_take_iff_getElem.1 hy
    have e3 : y = ((H[k] : Nat) : Int) := by simpa using e
    have hi' : i < H.length := by rw [nats_length] at hi; omega
    have e4 : (nats H)[i]'(by rw [nats_length]; exact hi') = ((H[i] : Nat) : Int) := by simp [nats]
    have e5 : H[i] = H[k] := by omega
    have := (List.getElem_inj hnd).1 e5
    omega
  simp [h1, h2]
theorem polyB_iff {l : List Pt} (hg : Gen l) (hd : ∀ i j, i < l.length → j < l.length → i ≠ j → ptA l i ≠ ptA l j) (H : List Nat) : polyB l (nats H) = true ↔ IsPoly l H := by
  have ho := ordR_ord hd
  unfold polyB hullB
  rw [Bool.and_eq_true, Bool.and_eq_true, decide_eq_true_eq, decide_eq_true_eq, nats_length]
  constructor
  · rintro ⟨h1, h2, h3⟩
    obtain ⟨_, i2, i3⟩ := idx_nats h1
    rw [toNat_nats] at i2 i3
    have hs := sel_isH ho hg h1 (by rw [nats_length]; omega)
    rw [toNat_nats] at hs
    have e : hullL (tur l) (selX (ordR l l.length) (nats H)) = H := by
      have := congrArg (List.map Int.toNat) h3
      rwa [toNat_nats, toNat_nats] at this
    rw [e] at hs
    exact ⟨h2, i2, i3, hs⟩
  · intro h
    have h1 := idx_of h.nd h.lt
    have hs := sel_isH ho hg h1 (by rw [nats_length]; have := h.len; omega)
    rw [toNat_nats] at hs
    exact ⟨h1, h.len, by rw [hs.unique (chi_of hg) h.hull]⟩
theorem freeB_iff {l : List Pt} (hg : Gen l) (hd : ∀ i j, i < l.length → j < l.length → i ≠ j → ptA l i ≠ ptA l j) (H : List Nat) : freeB l (nats H) = true ↔ IsPoly l H ∧ ∀ p ∈ ordR l l.length, insB (tur l) H p = false := by
  unfold freeB
  rw [Bool.and_eq_true, polyB_iff hg hd, toNat_nats, Bool.not_eq_true', Bool.eq_false_iff, ne_eq, List.any_eq_true]
  constructor
  · rintro ⟨h1, h2⟩
    exact ⟨h1, fun p hp => by rw [Bool.eq_false_iff]; exact fun hc => h2 ⟨p, hp, hc⟩⟩
  · rintro ⟨h1, h2⟩
    exact ⟨h1, fun ⟨p, hp, hc⟩ => by rw [h2 p hp] at hc; cases hc⟩

/-! ### all sets -/
def hOf (l : List Pt) (os : List Nat) (k : Nat) : List Nat := hullL (tur l) (subL os k)
def hullOk (l : List Pt) (os : List Nat) (k : Nat) : Bool := decide ((hOf l os k).length = (subL (List.range l.length) k).length)
def gB (l : List Pt) (os : List Nat) : Nat → Nat
  | 0 => 0
  | k + 1 => if 3 ≤ (subL (List.range l.length) k).length ∧ hullOk l os k = true then max (gB l os k) (subL (List.range l.length) k).length else gB l os k
def gF (l : List Pt) (os : List Nat) : Nat → Nat
  | 0 => 0
  | k + 1 => if 3 ≤ (subL (List.range l.length) k).length ∧ hullOk l os k = true ∧ freeB l (nats (hOf l os k)) = true then max (gF l os k) (subL (List.range l.length) k).length else gF l os k
theorem bits_of (H : List Nat) : ∀ n, ∃ k, k < 2 ^ n ∧ ∀ i, k.testBit i = (decide (i < n) && decide (i ∈ H))
  | 0 => ⟨0, by simp, fun i => by simp⟩
  | n + 1 => by
    obtain ⟨k, hk, hb⟩ := bits_of H n
    by_cases h : n ∈ H
    · refine ⟨k ||| 2 ^ n, Nat.or_lt_two_pow (by omega) (by rw [Nat.pow_succ]; have := Nat.two_pow_pos n; omega), fun i => ?_⟩
      rw [Nat.testBit_or, hb, Nat.testBit_two_pow]
      by_cases e : n = i
      · subst e; simp [h]
      · by_cases e2 : i < n
        · simp [e, e2, show i < n + 1 by omega]
        · simp [e, e2, show ¬ i < n + 1 by omega]
    · refine ⟨k, by rw [Nat.pow_succ]; omega, fun i => ?_⟩
      rw [hb]
      by_cases e : n = i
      · subst e; simp [h]
      · by_cases e2 : i < n
        · simp [e2, show i < n + 1 by omega]
        · simp [e2, show ¬ i < n + 1 by omega]
section
variable {l : List Pt} {os : List Nat}
theorem subL_mem (os : List Nat) (k x : Nat) : x ∈ subL os k ↔ x ∈ os ∧ k.testBit x = true := by unfold subL; rw [List.mem_filter]
theorem hOf_isH (hg : Gen l) (ho : Ordd l os) {k : Nat} (h3 : 3 ≤ (subL (List.range l.length) k).length) : IsH (tur l) (befI l) (subL (List.range l.length) k) (hOf l os k) := by
  have hl := sub_len ho.1 k
  have hne : subL os k ≠ [] := fun e => by rw [e] at hl; simp at hl; omega
  refine (rest_isH hg ho (by unfold subL; exact List.filter_sublist) hne).congr fun x => ?_
  rw [subL_mem, subL_mem, ho.1.mem_iff]
theorem hOf_poly (hg : Gen l) (ho : Ordd l os) {k : Nat} (h3 : 3 ≤ (subL (List.range l.length) k).length) (he : hullOk l os k = true) : IsPoly l (hOf l os k) := by
  have hH := hOf_isH hg ho h3
  have hl : (hOf l os k).length = (subL (List.range l.length) k).length := by unfold hullOk at he; simpa using he
  have hnd := hH.nodup (chi_of hg)
  have hmem : ∀ x, x ∈ subL (List.range l.length) k ↔ x ∈ hOf l os k := fun x => by
    have hxn : (subL (List.range l.length) k).Nodup := by unfold subL; exact List.nodup_range.sublist List.filter_sublist
    have hc := restL_count hxn hnd hH.sub
    have h0 : (restL (hOf l os k) (subL (List.range l.length) k)) = [] := List.eq_nil_of_length_eq_zero (by omega)
    refine ⟨fun hx => ?_, hH.sub x⟩
    rcases Decidable.em (x ∈ hOf l os k) with c | c
    · exact c
    · have := (mem_restL (hOf l os k) (subL (List.range l.length) k) x).2 ⟨hx, c⟩
      rw [h0] at this
      cases this
  refine ⟨by omega, hnd, fun x hx => ?_, hH.congr hmem⟩
  have := (subL_mem _ _ _).1 (hH.sub x hx)
  simpa using this.1
theorem set_of (hg : Gen l) (ho : Ordd l os) {H : List Nat} (h : IsPoly l H) : ∃ k, k < 2 ^ l.length ∧ (subL (List.range l.length) k).length = H.length ∧ hOf l os k = H := by
  obtain ⟨k, hk, hb⟩ := bits_of H l.length
  have hmem : ∀ x, x ∈ subL (List.range l.length) k ↔ x ∈ H := fun x => by
    rw [subL_mem, hb, List.mem_range, Bool.and_eq_true, decide_eq_true_eq, decide_eq_true_eq]
    exact ⟨fun h => h.2.2, fun hx => ⟨h.lt x hx, h.lt x hx, hx⟩⟩
  have hxn : (subL (List.range l.length) k).Nodup := by unfold subL; exact List.nodup_range.sublist List.filter_sublist
  have hl := ((List.perm_ext_iff_of_nodup hxn h.nd).2 hmem).length_eq
  refine ⟨k, hk, hl, ?_⟩
  exact ((hOf_isH hg ho (by rw [hl]; exact h.len)).congr hmem).unique (chi_of hg) h.hull
theorem gB_mono (l : List Pt) (os : List Nat) : ∀ d k, gB l os k ≤ gB l os (k + d)
  | 0, k => Nat.le_refl _
  | d + 1, k => by
    refine Nat.le_trans (gB_mono l os d k) ?_
    show _ ≤ gB l os (k + d + 1)
    simp only [gB]; split <;> omega
theorem gF_mono (l : List Pt) (os : List Nat) : ∀ d k, gF l os k ≤ gF l os (k + d)
  | 0, k => Nat.le_refl _
  | d + 1, k => by
    refine Nat.le_trans (gF_mono l os d k) ?_
    show _ ≤ gF l os (k + d + 1)
    simp only [gF]; split <;> omega
theorem gB_le (hg : Gen l) (ho : Ordd l os) {m : Nat} (hm : ∀ H, IsPoly l H → H.length ≤ m) : ∀ k, gB l os k ≤ m
  | 0 => Nat.zero_le _
  | k + 1 => by
    have ih := gB_le hg ho hm k
    simp only [gB]
    split
    · rename_i h
      have := hm _ (hOf_poly hg ho h.1 h.2)
      have hl : (hOf l os k).length = (subL (List.range l.length) k).length := by have := h.2; unfold hullOk at this; simpa using this
      omega
    · exact ih
theorem greatest_eq (hg : Gen l) (ho : Ordd l os) {ys : List Nat} (h : IsPoly l ys) (hm : ∀ H, IsPoly l H → H.length ≤ ys.length) : gB l os (2 ^ l.length) = ys.length := by
  refine Nat.le_antisymm (gB_le hg ho hm _) ?_
  obtain ⟨k, hk, hl, he⟩ := set_of hg ho h
  have h1 := gB_mono l os (2 ^ l.length - (k + 1)) (k + 1)
  rw [show k + 1 + (2 ^ l.length - (k + 1)) = 2 ^ l.length by omega] at h1
  refine Nat.le_trans ?_ h1
  simp only [gB]
  rw [if_pos ⟨by rw [hl]; exact h.len, by unfold hullOk; rw [he, hl]; simp⟩]
  omega
theorem gF_le (hg : Gen l) (hd : ∀ i j, i < l.length → j < l.length → i ≠ j → ptA l i ≠ ptA l j) {m : Nat} (hm : ∀ H, IsPoly l H → (∀ p ∈ ordR l l.length, insB (tur l) H p = false) → H.length ≤ m) : ∀ k, gF l (ordR l l.length) k ≤ m
  | 0 => Nat.zero_le _
  | k + 1 => by
    have ih := gF_le hg hd hm k
    simp only [gF]
    split
    · rename_i h
      have h2 := (freeB_iff hg hd _).1 h.2.2
      have := hm _ h2.1 h2.2
      have hl : (hOf l (ordR l l.length) k).length = (subL (List.range l.length) k).length := by have := h.2.1; unfold hullOk at this; simpa using this
      omega
    · exact ih
theorem free_eq (hg : Gen l) (hd : ∀ i j, i < l.length → j < l.length → i ≠ j → ptA l i ≠ ptA l j) {ys : List Nat} (h : IsPoly l ys) (hf : ∀ p ∈ ordR l l.length, insB (tur l) ys p = false)
    (hm : ∀ H, IsPoly l H → (∀ p ∈ ordR l l.length, insB (tur l) H p = false) → H.length ≤ ys.length) : gF l (ordR l l.length) (2 ^ l.length) = ys.length := by
  refine Nat.le_antisymm (gF_le hg hd hm _) ?_
  obtain ⟨k, hk, hl, he⟩ := set_of hg (ordR_ord hd) h
  have h1 := gF_mono l (ordR l l.length) (2 ^ l.length - (k + 1)) (k + 1)
  rw [show k + 1 + (2 ^ l.length - (k + 1)) = 2 ^ l.length by omega] at h1
  refine Nat.le_trans ?_ h1
  simp only [gF]
  rw [if_pos ⟨by rw [hl]; exact h.len, by unfold hullOk; rw [he, hl]; simp, by rw [he]; exact (freeB_iff hg hd _).2 ⟨h, hf⟩⟩]
  omega
end
end
end Go.Proofs.Ythnabheibacbcaa
