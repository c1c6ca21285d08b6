/- Plain: a line through a point of each of two lists that halves both. No program, no condition. -/
import Derived.Test.YthnabheibacbcaaY1
namespace Go.Proofs.Ythnabheibacbcaa

theorem zero_of {v u : Pt} (hv1 : v.1 = 0) (hv2 : 0 < v.2) (h : crs v u = 0) : u.1 = 0 := by
  unfold crs at h
  rw [hv1, Int.zero_mul, Int.zero_sub] at h
  have h' : v.2 * u.1 = 0 := by omega
  rcases Int.mul_eq_zero.1 h' with e | e
  · omega
  · exact e
theorem par_zero {v u w : Pt} (hv : vpos v) (h1 : crs v u = 0) (h2 : crs v w = 0) : crs u w = 0 := by
  have e := crs_id u v w
  have e2 : crs u v = 0 := by rw [crs_swap]; omega
  rw [e2, h2, Int.zero_mul, Int.zero_mul, Int.add_zero] at e
  rcases Int.mul_eq_zero.1 e with e | e
  · exact e
  · have hv2 : 0 < v.2 := by unfold vpos at hv; omega
    have a1 := zero_of e hv2 h1
    have a2 := zero_of e hv2 h2
    unfold crs
    rw [a1, a2, Int.zero_mul, Int.mul_zero]; rfl
/-- two that point the same way see the others alike -/
theorem par_pos {u v w : Pt} (hu : vpos u) (hv : vpos v) (h : crs u v = 0) (hw : 0 < crs u w) : 0 < crs v w := by
  rcases Int.lt_trichotomy (crs v w) 0 with c | c | c
  · exfalso
    have e := crs_id u v w
    rw [h, Int.zero_mul, Int.zero_add] at e
    by_cases hv1 : 0 < v.1
    · have a1 := Int.mul_pos hw hv1
      have hu1 : 0 ≤ u.1 := by unfold vpos at hu; omega
      have a2 := Int.mul_nonneg (a := - crs v w) (by omega) hu1
      rw [Int.neg_mul] at a2
      omega
    · have hv0 : v.1 = 0 := by unfold vpos at hv; omega
      have hv2 : 0 < v.2 := by unfold vpos at hv; omega
      have hu0 : u.1 = 0 := zero_of hv0 hv2 (by rw [crs_swap]; omega)
      have hu2 : 0 < u.2 := by unfold vpos at hu; omega
      unfold crs at hw c
      rw [hu0, Int.zero_mul] at hw
      rw [hv0, Int.zero_mul] at c
      have a3 : w.1 < 0 := by
        rcases Int.lt_or_le w.1 0 with c2 | c2
        · exact c2
        · have := Int.mul_nonneg (Int.le_of_lt hu2) c2; omega
      have := Int.mul_nonneg (Int.le_of_lt hv2) (show 0 ≤ - w.1 by omega)
      rw [Int.mul_neg] at this
      omega
  · exfalso
    have : crs u w = 0 := par_zero hv (by rw [crs_swap]; omega) c
    omega
  · exact c

def trnS (S : List Pt) (a b : Pt) : Int := (S.map fun c => trn a b c).sum
/-- all points together are general -/
structure Gens (A : List Pt) : Prop where
  nd : A.Nodup
  gen : ∀ a b c, a ∈ A → b ∈ A → c ∈ A → a ≠ b → b ≠ c → a ≠ c → det a b c ≠ 0
/-- the side of c, seen from a along v -/
def sd (v a c : Pt) : Int := if 0 < crs v (vsub c a) then 1 else if crs v (vsub c a) < 0 then -1 else 0
theorem sd_self (v a : Pt) : sd v a a = 0 := by unfold sd; rw [crs_same]; rfl
/-- the turn at a, b is the side along v, where a, b lies along v -/
theorem trn_sd {v a b : Pt} (hv : vpos v) (hab : a ≠ b) (h : crs v (vsub b a) = 0) : ∃ e : Int, (e = 1 ∨ e = -1) ∧ ∀ c, trn a b c = e * sd v a c := by
  rcases bef_total hab with hb | hb
  · refine ⟨1, .inl rfl, fun c => ?_⟩
    have hu := vpos_sub hb
    have h0 : crs (vsub b a) v = 0 := by rw [crs_swap]; omega
    have p1 : 0 < crs (vsub b a) (vsub c a) → 0 < crs v (vsub c a) := par_pos hu hv h0
    have p2 : 0 < crs v (vsub c a) → 0 < crs (vsub b a) (vsub c a) := par_pos hv hu h
    have n1 : crs (vsub b a) (vsub c a) = 0 → crs v (vsub c a) = 0 := fun e => par_zero hu h0 e
    unfold trn sd
    rw [← crs_det, Int.one_mul]
    by_cases c1 : 0 < crs v (vsub c a)
    · rw [if_pos c1, if_pos (p2 c1)]
    · rw [if_neg c1, if_neg (fun h => c1 (p1 h))]
      by_cases c2 : crs v (vsub c a) < 0
      · rw [if_pos c2, if_pos]
        rcases Int.lt_trichotomy (crs (vsub b a) (vsub c a)) 0 with d | d | d
        · exact d
        · have := n1 d; omega
        · exact absurd (p1 d) c1
      · have hz : crs v (vsub c a) = 0 := by omega
        have : crs (vsub b a) (vsub c a) = 0 := par_zero hv h hz
        rw [if_neg c2, if_neg (by omega)]
  · refine ⟨-1, .inr rfl, fun c => ?_⟩
    have hu := vpos_sub hb
    have hneg : ∀ x, crs (vsub b a) x = - crs (vsub a b) x := fun x => by unfold crs vsub; grind
    have h' : crs v (vsub a b) = 0 := by rw [crs_neg]; omega
    have h0 : crs (vsub a b) v = 0 := by rw [crs_swap]; omega
    have p1 : 0 < crs (vsub a b) (vsub c a) → 0 < crs v (vsub c a) := par_pos hu hv h0
    have p2 : 0 < crs v (vsub c a) → 0 < crs (vsub a b) (vsub c a) := par_pos hv hu h'
    have n1 : crs (vsub a b) (vsub c a) = 0 → crs v (vsub c a) = 0 := fun e => par_zero hu h0 e
    have n2 : crs v (vsub c a) = 0 → crs (vsub a b) (vsub c a) = 0 := fun e => par_zero hv h' e
    unfold trn sd
    rw [← crs_det, hneg]
    by_cases c1 : 0 < crs v (vsub c a)
    · have := p2 c1
      rw [if_pos c1, if_neg (by omega), if_pos (by omega)]; rfl
    · by_cases c2 : crs v (vsub c a) < 0
      · have : crs (vsub a b) (vsub c a) < 0 := by
          rcases Int.lt_trichotomy (crs (vsub a b) (vsub c a)) 0 with d | d | d
          · exact d
          · have := n1 d; omega
          · exact absurd (p1 d) c1
        rw [if_neg c1, if_pos c2, if_pos (by omega)]; rfl
      · have := n2 (by omega)
        rw [if_neg c1, if_neg c2, if_neg (by omega), if_neg (by omega)]; rfl
theorem trnS_sd {v a b : Pt} {e : Int} (h : ∀ c, trn a b c = e * sd v a c) : ∀ S : List Pt, trnS S a b = e * (S.map (sd v a)).sum
  | [] => by simp [trnS]
  | x :: S => by
    have := trnS_sd h S
    unfold trnS at *
    rw [List.map_cons, List.sum_cons, List.map_cons, List.sum_cons, this, h, Int.mul_add]

section
open Classical
variable {A l m : List Pt} {v : Pt}
/-- one alone lies along v from a -/
theorem tie_one (hA : Gens A) (hv : vpos v) {a b c : Pt} (ha : a ∈ A) (hb : b ∈ A) (hc : c ∈ A) (h1 : a ≠ b) (h2 : a ≠ c) (h3 : b ≠ c) (t1 : crs v (vsub b a) = 0) (t2 : crs v (vsub c a) = 0) : False := by
  have := hA.gen a b c ha hb hc h1 h3 h2
  rw [← crs_det] at this
  exact this (par_zero hv t1 t2)
theorem rk_sd (k : Bool) (a : Pt) : ∀ S : List Pt, (∀ c ∈ S, c ≠ a → crs v (vsub c a) ≠ 0) → (S.map (sd v a)).sum + 2 * (rk (acr v k) S a : Int) + (S.countP (fun c => decide (c = a)) : Int) = S.length
  | [], _ => rfl
  | c :: S, h => by
    have ih := rk_sd k a S fun d hd => h d (List.mem_cons_of_mem _ hd)
    have e : rk (acr v k) (c :: S) a = rk (acr v k) S a + if acr v k c a then 1 else 0 := by
      unfold rk; rw [List.countP_cons]; congr 1; by_cases x : acr v k c a <;> simp [x]
    rw [List.map_cons, List.sum_cons, e, List.countP_cons, List.length_cons]
    by_cases c1 : c = a
    · subst c1
      rw [if_neg (acr_irr v k c), sd_self]
      simp
      omega
    · have hne := h c (by simp) c1
      have hoff : crs v (vsub a c) ≠ 0 := by rw [crs_neg]; omega
      by_cases c2 : 0 < crs v (vsub c a)
      · have : ¬ acr v k c a := by rw [acr_off hoff, crs_neg]; omega
        have hs : sd v a c = 1 := by unfold sd; rw [if_pos c2]
        rw [if_neg this, hs, if_neg (by simpa using c1)]
        omega
      · have : acr v k c a := by rw [acr_off hoff, crs_neg]; omega
        have hs : sd v a c = -1 := by unfold sd; rw [if_neg c2, if_pos (by omega)]
        rw [if_pos this, hs, if_neg (by simpa using c1)]
        omega
theorem count_one {a : Pt} : ∀ {S : List Pt}, S.Nodup → a ∈ S → S.countP (fun c => decide (c = a)) = 1
  | x :: S, hnd, ha => by
    obtain ⟨h1, h2⟩ := List.nodup_cons.1 hnd
    rw [List.countP_cons]
    by_cases e : x = a
    · subst e
      have : S.countP (fun c => decide (c = x)) = 0 := by
        rw [List.countP_eq_zero]; intro c hc h
        have := of_decide_eq_true h
        exact h1 (this ▸ hc)
      rw [this]; simp
    · rw [count_one h2 ((List.mem_cons.1 ha).resolve_left fun h => e h.symm)]; simp [e]
/-- above less below, apart from one that lies along v -/
theorem bal_sd (k : Bool) {a b : Pt} : ∀ m : List Pt, m.Nodup → b ∈ m → (∀ c ∈ m, c ≠ b → crs v (vsub c a) ≠ 0) → crs v (vsub b a) = 0 → bal (acr v k) m a = (m.map (sd v a)).sum + if acr v k a b then 1 else -1
  | c :: m, hnd, hb, h, h0 => by
    obtain ⟨h1, h2⟩ := List.nodup_cons.1 hnd
    have hc : ∀ S : List Pt, (∀ d ∈ S, crs v (vsub d a) ≠ 0) → bal (acr v k) S a = (S.map (sd v a)).sum := fun S => by
      induction S with
      | nil => exact fun _ => rfl
      | cons d S ih =>
        intro hS
        have ih := ih fun x hx => hS x (List.mem_cons_of_mem _ hx)
        have hd := hS d (by simp)
        unfold bal at *
        rw [List.map_cons, List.sum_cons, List.map_cons, List.sum_cons, ih]
        congr 1
        unfold sd
        by_cases x : 0 < crs v (vsub d a)
        · rw [if_pos ((acr_off hd).2 x), if_pos x]
        · rw [if_neg fun y => x ((acr_off hd).1 y), if_neg x, if_pos (by omega)]
    by_cases e : c = b
    · subst e
      have ht := hc m fun d hd => h d (List.mem_cons_of_mem _ hd) fun e => h1 (e ▸ hd)
      have hs : sd v a c = 0 := by unfold sd; rw [h0]; rfl
      unfold bal at *
      rw [List.map_cons, List.sum_cons, List.map_cons, List.sum_cons, ht, hs]
      omega
    · have ih := bal_sd k m h2 ((List.mem_cons.1 hb).resolve_left fun x => e x.symm) (fun d hd => h d (List.mem_cons_of_mem _ hd)) h0
      have hd := h c (by simp) e
      unfold bal at *
      rw [List.map_cons, List.sum_cons, List.map_cons, List.sum_cons, ih]
      have : (if acr v k a c then 1 else -1 : Int) = sd v a c := by
        unfold sd
        by_cases x : 0 < crs v (vsub c a)
        · rw [if_pos ((acr_off hd).2 x), if_pos x]
        · rw [if_neg fun y => x ((acr_off hd).1 y), if_neg x, if_pos (by omega)]
      rw [this]
      omega
theorem flip_of {p q : Pt} (h : crs v (vsub q p) = 0) (hpq : p ≠ q) : acr v true p q ↔ ¬ acr v false p q := by
  rw [acr_on h, acr_on h]
  simp only [if_true, Bool.false_eq_true, if_false]
  constructor
  · exact fun h1 h2 => bef_irrefl _ (bef_trans h1 h2)
  · intro h1
    rcases bef_total hpq with c | c
    · exact absurd c h1
    · exact c
/-- one step of the way round -/
theorem flip_step (hA : Gens (l ++ m)) (hv : vpos v) {p : Nat} (hl : l.length = 2 * p + 1) (hm : m.length % 2 = 1) {a a' : Pt} (ha : a ∈ l) (ha' : a' ∈ l) (h1 : rk (acr v false) l a = p) (h2 : rk (acr v true) l a' = p)
    (hno : ∀ x ∈ l, ∀ y ∈ m, ¬ (trnS l x y = 0 ∧ trnS m x y = 0)) : 0 < bal (acr v false) m a ↔ 0 < bal (acr v true) m a' := by
  have hnl : l.Nodup := (List.nodup_append.1 hA.nd).1
  have hnm : m.Nodup := (List.nodup_append.1 hA.nd).2.1
  have hdis : ∀ x ∈ l, ∀ y ∈ m, x ≠ y := (List.nodup_append.1 hA.nd).2.2
  have hL : ∀ x ∈ l, x ∈ l ++ m := fun x hx => List.mem_append.2 (.inl hx)
  have hM : ∀ x ∈ m, x ∈ l ++ m := fun x hx => List.mem_append.2 (.inr hx)
  have hinj := fun (k : Bool) {x y : Pt} (hx : x ∈ l) (hy : y ∈ l) (e : rk (acr v k) l x = rk (acr v k) l y) => rk_inj (R := acr v k) (acr_irr v k) (fun _ _ h => acr_total h) (fun _ _ _ h1 h2 => acr_trans h1 h2) hx hy e
  have hneg0 : ∀ x y, crs v (vsub y x) = 0 → crs v (vsub x y) = 0 := fun x y h => by rw [crs_neg]; omega
  rcases em (∃ c ∈ l, c ≠ a ∧ crs v (vsub c a) = 0) with ⟨c, hc, hca, ht⟩ | htl
  · -- the middle one changes places with c
    have hoff : ∀ e, e ∈ l ++ m → e ≠ a → e ≠ c → crs v (vsub e a) ≠ 0 := fun e he e1 e2 h0 => tie_one hA hv (hL a ha) (hL c hc) he (fun h => hca h.symm) (fun h => e1 h.symm) (fun h => e2 h.symm) ht h0
    have hsame : ∀ e, crs v (vsub e c) = crs v (vsub e a) := fun e => by have := crs_add v a c e; omega
    have hrk : rk (acr v true) l c = rk (acr v false) l a := by
      have hp1 : l.Perm (a :: l.erase a) := List.perm_cons_erase ha
      have hca2 : c ∈ l.erase a := (hnl.mem_erase_iff).2 ⟨hca, hc⟩
      have hp2 : l.Perm (a :: c :: (l.erase a).erase c) := hp1.trans ((List.perm_cons_erase hca2).cons a)
      have hne2 : (a :: c :: (l.erase a).erase c).Nodup := hp2.nodup_iff.1 hnl
      obtain ⟨n1, n2⟩ := List.nodup_cons.1 hne2
      obtain ⟨n3, n4⟩ := List.nodup_cons.1 n2
      unfold rk
      rw [hp2.countP_eq, hp2.countP_eq, List.countP_cons, List.countP_cons, List.countP_cons, List.countP_cons]
      have e1 : ((l.erase a).erase c).countP (fun e => decide (acr v true e c)) = ((l.erase a).erase c).countP (fun e => decide (acr v false e a)) := by
        refine List.countP_congr fun e he => ?_
        have hel : e ∈ l := List.mem_of_mem_erase (List.mem_of_mem_erase he)
        have ea : e ≠ a := fun h => by
          have h2 := he
          rw [h] at h2
          exact n1 (List.mem_cons_of_mem _ h2)
        have ec : e ≠ c := fun h => by
          have h2 := he
          rw [h] at h2
          exact n3 h2
        have o1 := hoff e (hL e hel) ea ec
        have o2 : crs v (vsub a e) ≠ 0 := by rw [crs_neg]; omega
        have o3 : crs v (vsub c e) ≠ 0 := by rw [crs_neg, hsame]; omega
        rw [decide_eq_true_eq, decide_eq_true_eq, acr_off o3, acr_off o2, crs_neg v c e, hsame, ← crs_neg v a e]
      have f1 : decide (acr v true a c) = decide (acr v false c a) := by
        have g1 := acr_on (k := true) ht
        have g2 := acr_on (k := false) (hneg0 a c ht)
        simp only [if_true, Bool.false_eq_true, if_false] at g1 g2
        rw [decide_eq_decide, g1, g2]
      have f2 : decide (acr v true c c) = false := decide_eq_false (acr_irr v true c)
      have f3 : decide (acr v false a a) = false := decide_eq_false (acr_irr v false a)
      rw [e1, f1, f2, f3]
      simp
    have hca' : a' = c := hinj true ha' hc (by rw [h2, hrk, h1])
    subst hca'
    have hb : bal (acr v false) m a = bal (acr v true) m a' := bal_congr fun b hb => by
      have o1 := hoff b (hM b hb) (fun h => hdis a ha b hb h.symm) (fun h => hdis a' hc b hb h.symm)
      rw [acr_off o1, acr_off (by rw [hsame]; exact o1), hsame]
    rw [hb]
  · -- the middle one stays
    have htl' : ∀ c ∈ l, c ≠ a → crs v (vsub c a) ≠ 0 := fun c hc hca h0 => htl ⟨c, hc, hca, h0⟩
    have hrk : rk (acr v true) l a = rk (acr v false) l a := rk_congr fun c hc => by
      by_cases e : c = a
      · subst e; exact ⟨fun h => absurd h (acr_irr _ _ _), fun h => absurd h (acr_irr _ _ _)⟩
      · have o : crs v (vsub a c) ≠ 0 := by have := htl' c hc e; rw [crs_neg]; omega
        rw [acr_off o, acr_off o]
    have haa : a' = a := hinj true ha' ha (by rw [h2, hrk, h1])
    subst haa
    rcases em (∃ b ∈ m, crs v (vsub b a') = 0) with ⟨b, hb, ht⟩ | htm
    · have hab : a' ≠ b := hdis a' ha b hb
      have hoff : ∀ c ∈ m, c ≠ b → crs v (vsub c a') ≠ 0 := fun c hc hcb h0 => tie_one hA hv (hL a' ha) (hM b hb) (hM c hc) hab (hdis a' ha c hc) (fun h => hcb h.symm) ht h0
      obtain ⟨e, he, htr⟩ := trn_sd hv hab ht
      have s1 := rk_sd (v := v) false a' l htl'
      rw [count_one hnl ha, h1, hl] at s1
      have hS : (l.map (sd v a')).sum = 0 := by omega
      have b1 := bal_sd (v := v) false m hnm hb hoff ht
      have b2 := bal_sd (v := v) true m hnm hb hoff ht
      have hf := flip_of ht hab
      have hodd := bal_odd (acr v false) a' m
      have hx := hno a' ha b hb
      rw [trnS_sd htr, trnS_sd htr, hS] at hx
      generalize (m.map (sd v a')).sum = s at *
      by_cases c : acr v false a' b
      · have c2 : ¬ acr v true a' b := fun h => hf.1 h c
        rw [if_pos c] at b1
        rw [if_neg c2] at b2
        have hs0 : s ≠ 0 := fun h => hx ⟨by simp, by rw [h]; simp⟩
        omega
      · have c2 := hf.2 c
        rw [if_neg c] at b1
        rw [if_pos c2] at b2
        have hs0 : s ≠ 0 := fun h => hx ⟨by simp, by rw [h]; simp⟩
        omega
    · have hb : bal (acr v false) m a' = bal (acr v true) m a' := bal_congr fun b hb => by
        have o : crs v (vsub b a') ≠ 0 := fun h => htm ⟨b, hb, h⟩
        rw [acr_off o, acr_off o]
      rw [hb]
end
end Go.Proofs.Ythnabheibacbcaa
