/- Points in general position, by the signs of their triples: what three turns of four points say of the fourth. No condition. -/
namespace Go.Proofs.Ythnabheibacbcaa

abbrev Pt := Int × Int
def det (a b c : Pt) : Int := (b.1 - a.1) * (c.2 - a.2) - (b.2 - a.2) * (c.1 - a.1)
/-- the turn of three points -/
def trn (a b c : Pt) : Int := if 0 < det a b c then 1 else if det a b c < 0 then -1 else 0
/-- a comes before b -/
def bef (a b : Pt) : Prop := a.1 < b.1 ∨ a.1 = b.1 ∧ a.2 < b.2
instance (a b : Pt) : Decidable (bef a b) := by unfold bef; infer_instance

theorem det_cyc (a b c : Pt) : det a b c = det b c a := by
  unfold det
  simp only [Int.sub_mul, Int.mul_sub]
  simp only [Int.mul_comm]
  omega
theorem det_anti (a b c : Pt) : det b a c = - det a b c := by
  unfold det
  simp only [Int.sub_mul, Int.mul_sub]
  simp only [Int.mul_comm]
  omega
theorem trn_cyc (a b c : Pt) : trn a b c = trn b c a := by unfold trn; rw [det_cyc]
theorem trn_anti (a b c : Pt) : trn b a c = - trn a b c := by
  unfold trn; rw [det_anti]; split <;> split <;> (first | omega | (split <;> omega))
theorem trn_pos {a b c : Pt} : 0 < trn a b c ↔ 0 < det a b c := by unfold trn; split <;> (first | omega | (split <;> omega))
theorem trn_neg {a b c : Pt} : trn a b c < 0 ↔ det a b c < 0 := by unfold trn; split <;> (first | omega | (split <;> omega))
theorem trn_zero {a b c : Pt} : trn a b c = 0 ↔ det a b c = 0 := by unfold trn; split <;> (first | omega | (split <;> omega))
theorem trn_cases (a b c : Pt) : trn a b c = 1 ∨ trn a b c = -1 ∨ trn a b c = 0 := by unfold trn; split <;> (try split) <;> omega

theorem bef_trans {a b c : Pt} (h1 : bef a b) (h2 : bef b c) : bef a c := by unfold bef at *; omega
theorem bef_irrefl (a : Pt) : ¬ bef a a := by unfold bef; omega
theorem bef_total {a b : Pt} (h : a ≠ b) : bef a b ∨ bef b a := by
  unfold bef
  have : a.1 ≠ b.1 ∨ a.2 ≠ b.2 := by
    by_cases h1 : a.1 = b.1
    · by_cases h2 : a.2 = b.2
      · exact absurd (Prod.ext h1 h2) h
      · exact .inr h2
    · exact .inl h1
  omega

/-! ### three vectors of one half plane -/
def vpos (u : Pt) : Prop := 0 < u.1 ∨ u.1 = 0 ∧ 0 < u.2
def crs (u v : Pt) : Int := u.1 * v.2 - u.2 * v.1

theorem crs_id (u v w : Pt) : crs u w * v.1 = crs u v * w.1 + crs v w * u.1 := by
  unfold crs
  simp only [Int.sub_mul]
  have e1 : u.2 * w.1 * v.1 = u.2 * v.1 * w.1 := by rw [Int.mul_assoc, Int.mul_comm w.1, ← Int.mul_assoc]
  have e2 : u.1 * w.2 * v.1 = v.1 * w.2 * u.1 := by rw [Int.mul_comm u.1, Int.mul_assoc, Int.mul_comm u.1, ← Int.mul_assoc, Int.mul_comm w.2]
  have e3 : u.1 * v.2 * w.1 = v.2 * w.1 * u.1 := by rw [Int.mul_assoc, Int.mul_comm]
  rw [e1, e2, e3]; omega

theorem vec_pos {u v w : Pt} (hu : vpos u) (hv : vpos v) (hw : vpos w) (h1 : 0 < crs u v) (h2 : 0 < crs v w) : 0 < crs u w := by
  have e := crs_id u v w
  have hu0 : 0 ≤ u.1 := by unfold vpos at hu; omega
  have hv0 : 0 ≤ v.1 := by unfold vpos at hv; omega
  have hw0 : 0 ≤ w.1 := by unfold vpos at hw; omega
  have p1 : 0 ≤ crs u v * w.1 := Int.mul_nonneg (by omega) hw0
  have p2 : 0 ≤ crs v w * u.1 := Int.mul_nonneg (by omega) hu0
  by_cases hx : 0 < w.1 ∨ 0 < u.1
  · have : 0 < crs u w * v.1 := by
      rcases hx with hx | hx
      · have := Int.mul_pos h1 hx; omega
      · have := Int.mul_pos h2 hx; omega
    rcases Int.lt_or_le 0 (crs u w) with h | h
    · exact h
    · have := Int.mul_nonneg (show 0 ≤ - crs u w by omega) hv0
      rw [Int.neg_mul] at this
      omega
  · have hu1 : u.1 = 0 := by omega
    have hu2 : 0 < u.2 := by unfold vpos at hu; omega
    have := Int.mul_nonneg (show 0 ≤ u.2 by omega) hv0
    unfold crs at h1
    rw [hu1] at h1
    omega
theorem crs_swap (u v : Pt) : crs v u = - crs u v := by
  unfold crs; rw [Int.mul_comm v.1, Int.mul_comm v.2]; omega
theorem vec_neg {u v w : Pt} (hu : vpos u) (hv : vpos v) (hw : vpos w) (h1 : crs u v < 0) (h2 : crs v w < 0) : crs u w < 0 := by
  have := vec_pos hw hv hu (by rw [crs_swap]; omega) (by rw [crs_swap]; omega)
  rw [crs_swap] at this
  omega

def vsub (b a : Pt) : Pt := (b.1 - a.1, b.2 - a.2)
theorem vpos_sub {a b : Pt} (h : bef a b) : vpos (vsub b a) := by unfold bef at h; unfold vpos vsub; simp only; omega
theorem crs_det (a b c : Pt) : crs (vsub b a) (vsub c a) = det a b c := by unfold crs vsub det; rfl
theorem crs_det2 (a b c : Pt) : crs (vsub b a) (vsub c b) = det a b c := by
  unfold crs vsub det
  simp only [Int.sub_mul, Int.mul_sub]
  simp only [Int.mul_comm]
  omega
theorem crs_det3 (a b c : Pt) : crs (vsub c a) (vsub c b) = det a b c := by
  unfold crs vsub det
  simp only [Int.sub_mul, Int.mul_sub]
  simp only [Int.mul_comm]
  omega

/-- signs of triples, and an order: what is used of points in general position -/
structure Chi (S : Nat → Prop) (t : Nat → Nat → Nat → Int) (lt : Nat → Nat → Prop) : Prop where
  cyc : ∀ a b c, t a b c = t b c a
  anti : ∀ a b c, t b a c = - t a b c
  gen : ∀ {a b c}, S a → S b → S c → a ≠ b → b ≠ c → a ≠ c → t a b c ≠ 0
  irr : ∀ a, ¬ lt a a
  trans : ∀ {a b c}, lt a b → lt b c → lt a c
  total : ∀ {a b}, S a → S b → a ≠ b → lt a b ∨ lt b a
  p1 : ∀ {a b c d}, lt a b → lt b c → lt c d → 0 < t a b c → 0 < t a c d → 0 < t a b d
  p2 : ∀ {a b c d}, lt a b → lt b c → lt c d → 0 < t a b c → 0 < t b c d → 0 < t a b d
  p3 : ∀ {a b c d}, lt a b → lt b c → lt c d → 0 < t a b c → 0 < t b c d → 0 < t a c d
  p4 : ∀ {a b c d}, lt a b → lt b c → lt c d → 0 < t a b d → 0 < t b c d → 0 < t a c d
  n1 : ∀ {a b c d}, lt a b → lt b c → lt c d → t a b c < 0 → t a c d < 0 → t a b d < 0
  n2 : ∀ {a b c d}, lt a b → lt b c → lt c d → t a b c < 0 → t b c d < 0 → t a b d < 0
  n3 : ∀ {a b c d}, lt a b → lt b c → lt c d → t a b c < 0 → t b c d < 0 → t a c d < 0
  n4 : ∀ {a b c d}, lt a b → lt b c → lt c d → t a b d < 0 → t b c d < 0 → t a c d < 0

/-- the points of a list -/
def ptA (l : List Pt) (i : Nat) : Pt := l.getD i (0, 0)
def tur (l : List Pt) (i j k : Nat) : Int := trn (ptA l i) (ptA l j) (ptA l k)
def befI (l : List Pt) (i j : Nat) : Prop := bef (ptA l i) (ptA l j)
/-- all points are different, and no three are on a line -/
def Gen (l : List Pt) : Prop := (∀ i j, i < l.length → j < l.length → i ≠ j → ptA l i ≠ ptA l j) ∧ ∀ i j k, i < l.length → j < l.length → k < l.length → i ≠ j → j ≠ k → i ≠ k → tur l i j k ≠ 0

theorem chi_of {l : List Pt} (h : Gen l) : Chi (· < l.length) (tur l) (befI l) where
  cyc a b c := trn_cyc _ _ _
  anti a b c := trn_anti _ _ _
  gen ha hb hc h1 h2 h3 := h.2 _ _ _ ha hb hc h1 h2 h3
  irr a := bef_irrefl _
  trans h1 h2 := bef_trans h1 h2
  total ha hb hn := bef_total (h.1 _ _ ha hb hn)
  p1 {a b c d} h1 h2 h3 := by
    unfold tur; rw [trn_pos, trn_pos, trn_pos, ← crs_det, ← crs_det, ← crs_det]
    exact vec_pos (vpos_sub h1) (vpos_sub (bef_trans h1 h2)) (vpos_sub (bef_trans (bef_trans h1 h2) h3))
  p2 {a b c d} h1 h2 h3 := by
    unfold tur; rw [trn_pos, trn_pos, trn_pos, ← crs_det2 (ptA l a), ← crs_det (ptA l b), ← crs_det2 (ptA l a) (ptA l b) (ptA l d)]
    exact vec_pos (vpos_sub h1) (vpos_sub h2) (vpos_sub (bef_trans h2 h3))
  p3 {a b c d} h1 h2 h3 := by
    unfold tur; rw [trn_pos, trn_pos, trn_pos, ← crs_det3 (ptA l a), ← crs_det2 (ptA l b), ← crs_det2 (ptA l a) (ptA l c)]
    exact vec_pos (vpos_sub (bef_trans h1 h2)) (vpos_sub h2) (vpos_sub h3)
  p4 {a b c d} h1 h2 h3 := by
    unfold tur; rw [trn_pos, trn_pos, trn_pos, ← crs_det3 (ptA l a), ← crs_det3 (ptA l b), ← crs_det3 (ptA l a) (ptA l c)]
    exact vec_pos (vpos_sub (bef_trans (bef_trans h1 h2) h3)) (vpos_sub (bef_trans h2 h3)) (vpos_sub h3)
  n1 {a b c d} h1 h2 h3 := by
    unfold tur; rw [trn_neg, trn_neg, trn_neg, ← crs_det, ← crs_det, ← crs_det]
    exact vec_neg (vpos_sub h1) (vpos_sub (bef_trans h1 h2)) (vpos_sub (bef_trans (bef_trans h1 h2) h3))
  n2 {a b c d} h1 h2 h3 := by
    unfold tur; rw [trn_neg, trn_neg, trn_neg, ← crs_det2 (ptA l a), ← crs_det (ptA l b), ← crs_det2 (ptA l a) (ptA l b) (ptA l d)]
    exact vec_neg (vpos_sub h1) (vpos_sub h2) (vpos_sub (bef_trans h2 h3))
  n3 {a b c d} h1 h2 h3 := by
    unfold tur; rw [trn_neg, trn_neg, trn_neg, ← crs_det3 (ptA l a), ← crs_det2 (ptA l b), ← crs_det2 (ptA l a) (ptA l c)]
    exact vec_neg (vpos_sub (bef_trans h1 h2)) (vpos_sub h2) (vpos_sub h3)
  n4 {a b c d} h1 h2 h3 := by
    unfold tur; rw [trn_neg, trn_neg, trn_neg, ← crs_det3 (ptA l a), ← crs_det3 (ptA l b), ← crs_det3 (ptA l a) (ptA l c)]
    exact vec_neg (vpos_sub (bef_trans (bef_trans h1 h2) h3)) (vpos_sub (bef_trans h2 h3)) (vpos_sub h3)

theorem Chi.rev {S : Nat → Prop} {t : Nat → Nat → Nat → Int} {lt : Nat → Nat → Prop} (h : Chi S t lt) (a b c : Nat) : t c b a = - t a b c := by rw [h.cyc, h.anti]
/-- the order turned round -/
theorem Chi.back {S : Nat → Prop} {t : Nat → Nat → Nat → Int} {lt : Nat → Nat → Prop} (h : Chi S t lt) : Chi S t (fun a b => lt b a) where
  cyc := h.cyc
  anti := h.anti
  gen := h.gen
  irr := h.irr
  trans h1 h2 := h.trans h2 h1
  total ha hb hn := (h.total ha hb hn).symm
  p1 h1 h2 h3 x y := by
    have := h.n4 h3 h2 h1 (by rw [h.rev]; omega) (by rw [h.rev]; omega)
    rw [h.rev] at this; omega
  p2 h1 h2 h3 x y := by
    have := h.n3 h3 h2 h1 (by rw [h.rev]; omega) (by rw [h.rev]; omega)
    rw [h.rev] at this; omega
  p3 h1 h2 h3 x y := by
    have := h.n2 h3 h2 h1 (by rw [h.rev]; omega) (by rw [h.rev]; omega)
    rw [h.rev] at this; omega
  p4 h1 h2 h3 x y := by
    have := h.n1 h3 h2 h1 (by rw [h.rev]; omega) (by rw [h.rev]; omega)
    rw [h.rev] at this; omega
  n1 h1 h2 h3 x y := by
    have := h.p4 h3 h2 h1 (by rw [h.rev]; omega) (by rw [h.rev]; omega)
    rw [h.rev] at this; omega
  n2 h1 h2 h3 x y := by
    have := h.p3 h3 h2 h1 (by rw [h.rev]; omega) (by rw [h.rev]; omega)
    rw [h.rev] at this; omega
  n3 h1 h2 h3 x y := by
    have := h.p2 h3 h2 h1 (by rw [h.rev]; omega) (by rw [h.rev]; omega)
    rw [h.rev] at this; omega
  n4 h1 h2 h3 x y := by
    have := h.p1 h3 h2 h1 (by rw [h.rev]; omega) (by rw [h.rev]; omega)
    rw [h.rev] at this; omega
end Go.Proofs.Ythnabheibacbcaa
