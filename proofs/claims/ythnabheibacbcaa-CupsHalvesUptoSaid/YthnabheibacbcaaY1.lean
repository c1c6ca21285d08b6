/- Plain: a line through a point of each of two lists that halves both (the orders on the way round). No program, no condition. -/
import Derived.Test.YthnabheibacbcaaG1
namespace Go.Proofs.Ythnabheibacbcaa

/-! ### the order of points across a direction, ahead of it (false) and behind it (true) -/
def acr (v : Pt) (k : Bool) (p q : Pt) : Prop := 0 < crs v (vsub q p) ∨ (crs v (vsub q p) = 0 ∧ if k then bef q p else bef p q)
theorem crs_add (v p q r : Pt) : crs v (vsub r p) = crs v (vsub q p) + crs v (vsub r q) := by unfold crs vsub; grind
theorem crs_neg (v p q : Pt) : crs v (vsub p q) = - crs v (vsub q p) := by unfold crs vsub; grind
theorem crs_same (v p : Pt) : crs v (vsub p p) = 0 := by unfold crs vsub; grind
theorem acr_irr (v : Pt) (k : Bool) (p : Pt) : ¬ acr v k p p := by
  unfold acr
  rw [crs_same]
  rintro (h | ⟨_, h⟩)
  · omega
  · cases k <;> exact bef_irrefl _ h
theorem acr_trans {v : Pt} {k : Bool} {p q r : Pt} (h1 : acr v k p q) (h2 : acr v k q r) : acr v k p r := by
  unfold acr at *
  rw [crs_add v p q r]
  rcases h1 with h1 | ⟨h1, g1⟩ <;> rcases h2 with h2 | ⟨h2, g2⟩
  · exact .inl (by omega)
  · exact .inl (by omega)
  · exact .inl (by omega)
  · refine .inr ⟨by omega, ?_⟩
    cases k
    · exact bef_trans g1 g2
    · exact bef_trans g2 g1
theorem acr_total {v : Pt} {k : Bool} {p q : Pt} (h : p ≠ q) : acr v k p q ∨ acr v k q p := by
  unfold acr
  rw [crs_neg v p q]
  rcases Int.lt_trichotomy (crs v (vsub q p)) 0 with c | c | c
  · exact .inr (.inl (by omega))
  · rcases bef_total h with b | b
    · cases k
      · exact .inl (.inr ⟨c, b⟩)
      · exact .inr (.inr ⟨by omega, b⟩)
    · cases k
      · exact .inr (.inr ⟨by omega, b⟩)
      · exact .inl (.inr ⟨c, b⟩)
  · exact .inl (.inl c)
theorem acr_asym {v : Pt} {k : Bool} {p q : Pt} (h : acr v k p q) : ¬ acr v k q p := fun h' => acr_irr v k p (acr_trans h h')
/-- what is off the direction stands as before -/
theorem acr_off {v : Pt} {k : Bool} {p q : Pt} (h : crs v (vsub q p) ≠ 0) : acr v k p q ↔ 0 < crs v (vsub q p) := by
  unfold acr
  constructor
  · rintro (h1 | ⟨h1, _⟩)
    · exact h1
    · exact absurd h1 h
  · exact .inl
theorem acr_on {v : Pt} {k : Bool} {p q : Pt} (h : crs v (vsub q p) = 0) : acr v k p q ↔ if k then bef q p else bef p q := by
  unfold acr
  rw [h]
  constructor
  · rintro (h1 | ⟨_, h1⟩)
    · omega
    · exact h1
  · exact fun h1 => .inr ⟨rfl, h1⟩

/-! ### ranks -/
section
open Classical
variable {R : Pt → Pt → Prop}
noncomputable def rk (R : Pt → Pt → Prop) (S : List Pt) (a : Pt) : Nat := S.countP fun c => decide (R c a)
theorem ins_rel (htot : ∀ p q, p ≠ q → R p q ∨ R q p) (htr : ∀ p q r, R p q → R q r → R p r) {x : Pt} : ∀ B : List Pt, B.Pairwise R → x ∉ B → ∃ B' : List Pt, B'.Perm (x :: B) ∧ B'.Pairwise R
  | [], _, _ => ⟨[x], List.Perm.refl _, by simp⟩
  | b :: B, hB, hm => by
    obtain ⟨h1, h2⟩ := List.pairwise_cons.1 hB
    have hbx : x ≠ b := fun e => hm (by rw [e]; simp)
    rcases htot x b hbx with c | c
    · refine ⟨x :: b :: B, List.Perm.refl _, List.pairwise_cons.2 ⟨fun y hy => ?_, hB⟩⟩
      rcases List.mem_cons.1 hy with rfl | hy
      · exact c
      · exact htr _ _ _ c (h1 y hy)
    · obtain ⟨B', p1, p2⟩ := ins_rel htot htr B h2 fun hy => hm (List.mem_cons_of_mem _ hy)
      refine ⟨b :: B', (p1.cons b).trans (List.Perm.swap _ _ _), List.pairwise_cons.2 ⟨fun y hy => ?_, p2⟩⟩
      rcases List.mem_cons.1 (p1.mem_iff.1 hy) with rfl | hy
      · exact c
      · exact h1 y hy
theorem sort_rel (htot : ∀ p q, p ≠ q → R p q ∨ R q p) (htr : ∀ p q r, R p q → R q r → R p r) : ∀ X : List Pt, X.Nodup → ∃ B : List Pt, B.Perm X ∧ B.Pairwise R
  | [], _ => ⟨[], List.Perm.refl _, List.Pairwise.nil⟩
  | x :: X, hnd => by
    obtain ⟨h1, h2⟩ := List.nodup_cons.1 hnd
    obtain ⟨B, p1, p2⟩ := sort_rel htot htr X h2
    obtain ⟨B', p3, p4⟩ := ins_rel htot htr (x := x) B p2 fun hx => h1 (p1.mem_iff.1 hx)
    exact ⟨B', p3.trans (p1.cons x), p4⟩
theorem rk_mid (hirr : ∀ p, ¬ R p p) (htot : ∀ p q, p ≠ q → R p q ∨ R q p) (htr : ∀ p q r, R p q → R q r → R p r) {S : List Pt} (hnd : S.Nodup) {k : Nat} (hk : k < S.length) : ∃ a ∈ S, rk R S a = k := by
  obtain ⟨B, hp, hs⟩ := sort_rel htot htr S hnd
  have hkB : k < B.length := by rw [hp.length_eq]; exact hk
  refine ⟨B[k], hp.mem_iff.1 (List.getElem_mem _), ?_⟩
  unfold rk
  rw [← hp.countP_eq]
  have e : B = B.take k ++ B[k] :: B.drop (k + 1) := by rw [← List.drop_eq_getElem_cons hkB, List.take_append_drop]
  have hpw := List.pairwise_iff_getElem.1 hs
  have h1 : (B.take k).countP (fun c => decide (R c B[k])) = k := by
    rw [List.countP_eq_length.2 fun c hc => ?_, List.length_take]
    · omega
    · obtain ⟨i, hi, rfl⟩ := List.getElem_of_mem hc
      rw [List.length_take] at hi
      rw [List.getElem_take]
      exact decide_eq_true (hpw i k (by omega) hkB (by omega))
  have h2 : (B.drop (k + 1)).countP (fun c => decide (R c B[k])) = 0 := by
    rw [List.countP_eq_zero]
    intro c hc
    obtain ⟨i, hi, rfl⟩ := List.getElem_of_mem hc
    rw [List.length_drop] at hi
    rw [List.getElem_drop]
    intro h
    have h3 := of_decide_eq_true h
    exact hirr _ (htr _ _ _ h3 (hpw k (k + 1 + i) hkB (by omega) (by omega)))
  have h3 : B.countP (fun c => decide (R c B[k])) = (B.take k ++ B[k] :: B.drop (k + 1)).countP (fun c => decide (R c B[k])) := by rw [← e]
  rw [h3, List.countP_append, List.countP_cons, h1, h2]
  simp [hirr]
theorem rk_lt (hirr : ∀ p, ¬ R p p) (htr : ∀ p q r, R p q → R q r → R p r) {a b : Pt} (h : R a b) : ∀ S : List Pt, a ∈ S → rk R S a < rk R S b := by
  have hle : ∀ S : List Pt, rk R S a ≤ rk R S b := fun S => by
    unfold rk
    refine List.countP_mono_left fun c _ hc => ?_
    exact decide_eq_true (htr _ _ _ (of_decide_eq_true hc) h)
  intro S
  induction S with
  | nil => intro h; cases h
  | cons x S ih =>
    intro hm
    have e : ∀ y, rk R (x :: S) y = rk R S y + if R x y then 1 else 0 := fun y => by
      unfold rk; rw [List.countP_cons]; congr 1; by_cases c : R x y <;> simp [c]
    rw [e, e]
    by_cases c : a = x
    · subst c
      rw [if_neg (hirr _), if_pos h]
      have := hle S
      omega
    · have := ih ((List.mem_cons.1 hm).resolve_left c)
      by_cases c2 : R x a
      · rw [if_pos c2, if_pos (htr _ _ _ c2 h)]; omega
      · rw [if_neg c2]; split <;> omega
theorem rk_inj (hirr : ∀ p, ¬ R p p) (htot : ∀ p q, p ≠ q → R p q ∨ R q p) (htr : ∀ p q r, R p q → R q r → R p r) {S : List Pt} {a b : Pt} (ha : a ∈ S) (hb : b ∈ S) (h : rk R S a = rk R S b) : a = b := by
  rcases Classical.em (a = b) with e | e
  · exact e
  · rcases htot a b e with c | c
    · have := rk_lt hirr htr c S ha; omega
    · have := rk_lt hirr htr c S hb; omega
/-- how many lie above more than below -/
noncomputable def bal (R : Pt → Pt → Prop) (m : List Pt) (a : Pt) : Int := (m.map fun b => (if R a b then 1 else -1 : Int)).sum
theorem bal_odd (R : Pt → Pt → Prop) (a : Pt) : ∀ m : List Pt, bal R m a % 2 = (m.length : Int) % 2
  | [] => rfl
  | b :: m => by
    have := bal_odd R a m
    unfold bal at *
    rw [List.map_cons, List.sum_cons, List.length_cons]
    by_cases c : R a b
    · rw [if_pos c]; omega
    · rw [if_neg c]; omega
theorem bal_congr {R R' : Pt → Pt → Prop} {a a' : Pt} {m : List Pt} (h : ∀ b ∈ m, R a b ↔ R' a' b) : bal R m a = bal R' m a' := by
  unfold bal
  congr 1
  refine List.map_congr_left fun b hb => ?_
  by_cases c : R a b
  · rw [if_pos c, if_pos ((h b hb).1 c)]
  · rw [if_neg c, if_neg fun h' => c ((h b hb).2 h')]
theorem rk_congr {R R' : Pt → Pt → Prop} {a : Pt} {S : List Pt} (h : ∀ c ∈ S, R c a ↔ R' c a) : rk R S a = rk R' S a := by
  unfold rk
  refine List.countP_congr fun c hc => ?_
  rw [decide_eq_true_eq, decide_eq_true_eq]
  exact h c hc
end
end Go.Proofs.Ythnabheibacbcaa
