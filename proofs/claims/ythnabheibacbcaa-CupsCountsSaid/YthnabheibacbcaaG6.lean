/- Plain: the number of crossings is the same for the pairs of the order and for those of the numbers. No condition. -/
import Derived.Test.YthnabheibacbcaaG5
import Derived.Test.YthnabheibacbcaaC10
namespace Go.Proofs.Ythnabheibacbcaa

/-- whether two pairs cross, without regard to their order -/
def crX (l : List Pt) (p q : Nat × Nat) : Bool :=
  decide (p.1 ≠ q.1) && decide (q.1 ≠ p.2) && decide (q.2 ≠ p.1) && decide (q.2 ≠ p.2) && decide (tur l p.1 p.2 q.1 ≠ tur l p.1 p.2 q.2) && decide (tur l q.1 q.2 p.1 ≠ tur l q.1 q.2 p.2)
def cr1 (l : List Pt) (p q : Nat × Nat) : Nat := if crX l p q = true then 1 else 0
def cb1 (l : List Pt) (p q : Nat × Nat) : Nat := if crossB l p q = true then 1 else 0
theorem crX_iff (l : List Pt) (p q : Nat × Nat) : crX l p q = true ↔ p.1 ≠ q.1 ∧ q.1 ≠ p.2 ∧ q.2 ≠ p.1 ∧ q.2 ≠ p.2 ∧ tur l p.1 p.2 q.1 ≠ tur l p.1 p.2 q.2 ∧ tur l q.1 q.2 p.1 ≠ tur l q.1 q.2 p.2 := by
  unfold crX; simp only [Bool.and_eq_true, decide_eq_true_eq, and_assoc]
theorem crossB_iff (l : List Pt) (p q : Nat × Nat) : crossB l p q = true ↔ p.1 < q.1 ∧ q.1 ≠ p.2 ∧ q.2 ≠ p.1 ∧ q.2 ≠ p.2 ∧ tur l p.1 p.2 q.1 ≠ tur l p.1 p.2 q.2 ∧ tur l q.1 q.2 p.1 ≠ tur l q.1 q.2 p.2 := by
  unfold crossB; simp only [Bool.and_eq_true, decide_eq_true_eq, and_assoc]
theorem cr_split (l : List Pt) (p q : Nat × Nat) : cb1 l p q + cb1 l q p = cr1 l p q := by
  unfold cb1 cr1
  by_cases hx : crX l p q = true
  · obtain ⟨h1, h2, h3, h4, h5, h6⟩ := (crX_iff l p q).1 hx
    rw [if_pos hx]
    by_cases hlt : p.1 < q.1
    · rw [if_pos ((crossB_iff l p q).2 ⟨hlt, h2, h3, h4, h5, h6⟩), if_neg (fun h => by have := ((crossB_iff l q p).1 h).1; omega)]
    · rw [if_neg (fun h => hlt ((crossB_iff l p q).1 h).1), if_pos ((crossB_iff l q p).2 ⟨by omega, fun e => h3 e.symm, fun e => h2 e.symm, fun e => h4 e.symm, h6, h5⟩)]
  · rw [if_neg hx, if_neg (fun h => by
      obtain ⟨h1, h2, h3, h4, h5, h6⟩ := (crossB_iff l p q).1 h
      exact hx ((crX_iff l p q).2 ⟨by omega, h2, h3, h4, h5, h6⟩)), if_neg (fun h => by
      obtain ⟨h1, h2, h3, h4, h5, h6⟩ := (crossB_iff l q p).1 h
      exact hx ((crX_iff l p q).2 ⟨by omega, fun e => h3 e.symm, fun e => h2 e.symm, fun e => h4 e.symm, h6, h5⟩))]
theorem cr_swap2 {l : List Pt} (hg : Gen l) (p : Nat × Nat) (x y : Nat) : cr1 l p (x, y) = cr1 l p (y, x) := by
  have ha := fun k => (chi_of hg).anti x y k
  have : crX l p (x, y) = true ↔ crX l p (y, x) = true := by
    rw [crX_iff, crX_iff]
    dsimp only
    rw [ha p.1, ha p.2]
    constructor
    · rintro ⟨h1, h2, h3, h4, h5, h6⟩; exact ⟨fun e => h3 e.symm, h4, fun e => h1 e.symm, h2, fun e => h5 e.symm, fun e => h6 (by omega)⟩
    · rintro ⟨h1, h2, h3, h4, h5, h6⟩; exact ⟨fun e => h3 e.symm, h4, fun e => h1 e.symm, h2, fun e => h5 e.symm, fun e => h6 (by omega)⟩
  unfold cr1
  by_cases h : crX l p (x, y) = true
  · rw [if_pos h, if_pos (this.1 h)]
  · rw [if_neg h, if_neg (fun h' => h (this.2 h'))]
theorem cr_symm (l : List Pt) (p q : Nat × Nat) : cr1 l p q = cr1 l q p := by rw [← cr_split, ← cr_split, Nat.add_comm]
theorem sumP_congr {f g : Nat × Nat → Nat} (h : ∀ p, f p = g p) (ps : List (Nat × Nat)) : sumP f ps = sumP g ps := by rw [show f = g from funext h]
theorem sumP_add (f g : Nat × Nat → Nat) : ∀ ps, sumP (fun p => f p + g p) ps = sumP f ps + sumP g ps
  | [] => rfl
  | p :: ps => by have := sumP_add f g ps; simp only [sumP, List.map_cons, List.sum_cons] at *; omega
theorem sumP_zero : ∀ ps, sumP (fun _ => 0) ps = 0
  | [] => rfl
  | p :: ps => by have := sumP_zero ps; simp only [sumP, List.map_cons, List.sum_cons] at *; omega
theorem sumP_swap (F : Nat × Nat → Nat × Nat → Nat) (qs : List (Nat × Nat)) : ∀ ps, sumP (fun p => sumP (F p) qs) ps = sumP (fun q => sumP (fun p => F p q) ps) qs
  | [] => (sumP_zero qs).symm
  | p :: ps => by
    have ih := sumP_swap F qs ps
    have h1 := sumP_add (F p) (fun q => sumP (fun p => F p q) ps) qs
    simp only [sumP, List.map_cons, List.sum_cons] at *
    omega
theorem crossN_sum (l : List Pt) (qs ps : List (Nat × Nat)) : crossN l ps qs = sumP (fun p => sumP (cb1 l p) qs) ps := by
  unfold crossN
  show sumP (fun p => crossC l p qs) ps = _
  refine sumP_congr (fun p => ?_) ps
  unfold crossC
  rw [countP_sum]
  rfl
theorem cross_twice (l : List Pt) (ps : List (Nat × Nat)) : crossN l ps ps + crossN l ps ps = sumP (fun p => sumP (cr1 l p) ps) ps := by
  have h1 := crossN_sum l ps ps
  have h2 : crossN l ps ps = sumP (fun p => sumP (fun q => cb1 l q p) ps) ps := by rw [h1]; exact sumP_swap (cb1 l) ps ps
  have h3 := sumP_add (fun p => sumP (cb1 l p) ps) (fun p => sumP (fun q => cb1 l q p) ps) ps
  rw [← h1, ← h2] at h3
  rw [← h3]
  refine sumP_congr (fun p => ?_) ps
  rw [← sumP_add]
  exact sumP_congr (fun q => cr_split l p q) ps
theorem cross_perm {l : List Pt} (hg : Gen l) {os : List Nat} {n : Nat} (ho : os.Perm (List.range n)) : crossN l (linksL os) (linksL os) = crossN l (rpA n n) (rpA n n) := by
  have h1 := cross_twice l (linksL os)
  have h2 := cross_twice l (rpA n n)
  have h3 : sumP (fun p => sumP (cr1 l p) (linksL os)) (linksL os) = sumP (fun p => sumP (cr1 l p) (rpA n n)) (rpA n n) := by
    rw [sumP_congr (fun p => (sumP_perm (cr_swap2 hg p) ho).trans (sumP_range _ n).symm) (linksL os)]
    rw [sumP_perm (fun x y => sumP_congr (fun q => by rw [cr_symm l (x, y) q, cr_swap2 hg q x y, cr_symm l q (y, x)]) _) ho, ← sumP_range]
  omega
theorem crossC_app (l : List Pt) (p : Nat × Nat) (a b : List (Nat × Nat)) : crossC l p (a ++ b) = crossC l p a + crossC l p b := by unfold crossC; rw [List.countP_append]
theorem crossN_app (l : List Pt) (qs a b : List (Nat × Nat)) : crossN l (a ++ b) qs = crossN l a qs + crossN l b qs := by unfold crossN; rw [List.map_append, List.sum_append]
theorem crsP_iff (l : List Pt) (a b c d : Nat) : crsP (ptA l a) (ptA l b) (ptA l c) (ptA l d) = true ↔ tur l a b c ≠ tur l a b d ∧ tur l c d a ≠ tur l c d b := by
  unfold crsP tur; simp
theorem cD_eq (l : List Pt) {a c : Nat} (b : Nat) (h : a < c) : ∀ d, cD l a b c d = crossC l (a, b) (rpB c d)
  | 0 => rfl
  | d + 1 => by
    simp only [cD, rpB]
    rw [crossC_app, cD_eq l b h d]
    congr 1
    by_cases hcd : c < d
    · rw [if_pos hcd]
      have : crossC l (a, b) [(c, d)] = cb1 l (a, b) (c, d) := by unfold crossC cb1; simp [List.countP_cons]
      rw [this]
      unfold cb1
      have hi : crossB l (a, b) (c, d) = true ↔ (c < d ∧ c ≠ b ∧ d ≠ b ∧ crsP (ptA l a) (ptA l b) (ptA l c) (ptA l d) = true) := by
        rw [crossB_iff, crsP_iff]
        exact ⟨fun ⟨h1, h2, h3, h4, h5, h6⟩ => ⟨hcd, h2, h4, h5, h6⟩, fun ⟨h1, h2, h4, h5, h6⟩ => ⟨h, h2, by dsimp only; omega, h4, h5, h6⟩⟩
      by_cases hb : crossB l (a, b) (c, d) = true
      · rw [if_pos hb, if_pos (hi.1 hb)]
      · rw [if_neg hb, if_neg (fun h => hb (hi.2 h))]
    · rw [if_neg hcd, if_neg (fun h => hcd h.1)]
      rfl
theorem cC_eq (l : List Pt) (n a b : Nat) : ∀ c, cC l n a b c = crossC l (a, b) (rpA n c)
  | 0 => rfl
  | c + 1 => by
    simp only [cC, rpA]
    rw [crossC_app, cC_eq l n a b c]
    congr 1
    by_cases h : a < c
    · rw [if_pos h, cD_eq l b h]
    · rw [if_neg h]
      symm
      unfold crossC
      rw [List.countP_eq_zero]
      intro p hp hb
      have h1 := (mem_rpB c n p hp).1
      have h2 := ((crossB_iff l _ _).1 hb).1
      dsimp only at h2
      omega
theorem cB_eq (l : List Pt) (n a : Nat) : ∀ b, cB l n a b = crossN l (rpB a b) (rpA n n)
  | 0 => rfl
  | b + 1 => by
    simp only [cB, rpB]
    rw [crossN_app, cB_eq l n a b]
    congr 1
    by_cases h : a < b
    · rw [if_pos h, if_pos h, cC_eq]; simp [crossN]
    · rw [if_neg h, if_neg h]; rfl
theorem cA_eq (l : List Pt) (n : Nat) : ∀ a, cA l n a = crossN l (rpA n a) (rpA n n)
  | 0 => rfl
  | a + 1 => by
    simp only [cA, rpA]
    rw [crossN_app, cA_eq l n a, cB_eq]
/-- the program's number of crossings is the reference's -/
theorem crossings_eq {l : List Pt} (hg : Gen l) {os : List Nat} (ho : os.Perm (List.range l.length)) : crossN l (linksL os) (linksL os) = cA l l.length l.length := by
  rw [cA_eq, cross_perm hg ho]
end Go.Proofs.Ythnabheibacbcaa
