/- Plain: sums over the pairs of a list stay the same when the list is put in another order. No condition. Plain: the numbers of k-edges are the same for the pairs of the order and for those of the numbers. No condition. Plain: the number of crossings is the same for the pairs of the order and for those of the numbers. No condition. -/
import Derived.Test.YthnabheibacbcaaFA
import Derived.Test.YthnabheibacbcaaP1
import Derived.Test.YthnabheibacbcaaC10
namespace Go.Proofs.Ythnabheibacbcaa
section
/-- the sum of a function over the pairs -/
def sumP (f : Nat × Nat → Nat) (ps : List (Nat × Nat)) : Nat := (ps.map f).sum
theorem sumP_app (f : Nat × Nat → Nat) (a b : List (Nat × Nat)) : sumP f (a ++ b) = sumP f a + sumP f b := by unfold sumP; rw [List.map_append, List.sum_append]
theorem linksTo_app (x : Nat) (os : List Nat) : ∀ k, k ≤ os.length → linksTo (os ++ [x]) k = linksTo os k
  | 0, _ => rfl
  | k + 1, h => by
    simp only [linksTo]
    rw [linksTo_app x os k (by omega), List.take_append_of_le_length (by omega)]
    have : natAt (os ++ [x]) k = natAt os k := by rw [natAt_eq (by simp; omega), natAt_eq (by omega), List.getElem_append_left (by omega)]
    rw [this]
theorem linksL_app (x : Nat) (os : List Nat) : linksL (os ++ [x]) = linksL os ++ os.map fun i => (i, x) := by
  unfold linksL
  rw [List.length_append]
  simp only [List.length_cons, List.length_nil, Nat.zero_add, linksTo]
  rw [linksTo_app x os _ (Nat.le_refl _), List.take_left]
  have : natAt (os ++ [x]) os.length = x := by rw [natAt_eq (by simp)]; simp
  rw [this]
theorem sumP_cons (f : Nat × Nat → Nat) (x : Nat) : ∀ (n : Nat) (os : List Nat), os.length = n → sumP f (linksL (x :: os)) = (os.map fun y => f (x, y)).sum + sumP f (linksL os)
  | 0, os, h => by
    obtain rfl := List.eq_nil_of_length_eq_zero h
    simp [linksL, linksTo, sumP]
  | n + 1, os, h => by
    have hne : os ≠ [] := by intro e; rw [e] at h; simp at h
    obtain ⟨pre, y, rfl⟩ : ∃ pre y, os = pre ++ [y] := ⟨_, _, (List.dropLast_concat_getLast hne).symm⟩
    have hl : pre.length = n := by simp at h; exact h
    rw [← List.cons_append, linksL_app, linksL_app, sumP_app, sumP_app, sumP_cons f x n pre hl, List.map_append, List.sum_append]
    simp only [sumP, List.map_cons, List.map_nil, List.sum_cons, List.sum_nil, List.map_map]
    omega
theorem sumP_perm {f : Nat × Nat → Nat} (hf : ∀ x y, f (x, y) = f (y, x)) {os os' : List Nat} (h : os.Perm os') : sumP f (linksL os) = sumP f (linksL os') := by
  induction h with
  | nil => rfl
  | cons x h ih => rw [sumP_cons f x _ _ rfl, sumP_cons f x _ _ rfl, ih, (h.map fun y => f (x, y)).sum_nat]
  | swap x y l =>
    rw [sumP_cons f y _ _ rfl, sumP_cons f x _ _ rfl, sumP_cons f x _ _ rfl, sumP_cons f y _ _ rfl]
    simp only [List.map_cons, List.sum_cons]
    have := hf x y
    omega
  | trans _ _ h1 h2 => exact h1.trans h2
theorem rpA_snoc (f : Nat × Nat → Nat) (n : Nat) : ∀ a, a ≤ n → sumP f (rpA (n + 1) a) = sumP f (rpA n a) + ((List.range a).map fun i => f (i, n)).sum
  | 0, _ => rfl
  | a + 1, h => by
    simp only [rpA, rpB]
    rw [if_pos (show a < n by omega), sumP_app, sumP_app, sumP_app, rpA_snoc f n a (by omega), List.range_succ, List.map_append, List.sum_append]
    simp only [sumP, List.map_cons, List.map_nil, List.sum_cons, List.sum_nil]
    omega
theorem sumP_range (f : Nat × Nat → Nat) : ∀ n, sumP f (rpA n n) = sumP f (linksL (List.range n))
  | 0 => rfl
  | n + 1 => by
    have h0 : rpB n (n + 1) = [] := rpB_zero n (n + 1) (Nat.le_refl _)
    rw [List.range_succ, linksL_app, sumP_app, ← sumP_range f n]
    show sumP f (rpA (n + 1) n ++ rpB n (n + 1)) = _
    rw [h0, List.append_nil, rpA_snoc f n n (Nat.le_refl _)]
    simp only [sumP, List.map_map]
    rfl
theorem countP_sum (p : Nat × Nat → Bool) : ∀ ps : List (Nat × Nat), ps.countP p = sumP (fun x => if p x = true then 1 else 0) ps
  | [] => rfl
  | x :: ps => by
    rw [List.countP_cons, countP_sum p ps]
    simp only [sumP, List.map_cons, List.sum_cons]
    omega
/-- each other point is on one side -/
theorem leftN_both {l : List Pt} {i j : Nat} (hij : i ≠ j) (hs : ∀ k, k < l.length → k ≠ i → k ≠ j → tur l i j k ≠ 0) (hsw : ∀ k, tur l j i k = - tur l i j k) : ∀ k, k ≤ l.length →
    leftN l i j k + leftN l j i k + (if i < k then 1 else 0) + (if j < k then 1 else 0) = k
  | 0, _ => by simp [leftN]
  | k + 1, h => by
    have ih := leftN_both hij hs hsw k (by omega)
    simp only [leftN]
    have h3 := hsw k
    by_cases e1 : i = k
    · subst e1
      have h4 := tur_self1 l i j
      rw [h4] at h3
      rw [h4, h3, if_neg (by omega), if_neg (by omega), if_pos (show i < i + 1 by omega)]
      rw [if_neg (Nat.lt_irrefl i)] at ih
      by_cases e2 : j < i
      · rw [if_pos e2] at ih; rw [if_pos (by omega)]; omega
      · rw [if_neg e2] at ih; rw [if_neg (by omega)]; omega
    by_cases e2 : j = k
    · subst e2
      have h4 := tur_self2 l i j
      rw [h4] at h3
      rw [h4, h3, if_neg (by omega), if_neg (by omega), if_pos (show j < j + 1 by omega)]
      rw [if_neg (Nat.lt_irrefl j)] at ih
      by_cases e3 : i < j
      · rw [if_pos e3] at ih; rw [if_pos (by omega)]; omega
      · rw [if_neg e3] at ih; rw [if_neg (by omega)]; omega
    have h5 := hs k (by omega) (fun e => e1 e.symm) (fun e => e2 e.symm)
    rw [h3]
    split at ih <;> split at ih <;> split <;> split <;> split <;> split <;> omega
end
section
theorem mem_linksTo {os : List Nat} (hnd : os.Nodup) : ∀ k, k ≤ os.length → ∀ p ∈ linksTo os k, p.1 ∈ os ∧ p.2 ∈ os ∧ p.1 ≠ p.2
  | 0, _, p, hp => by simp [linksTo] at hp
  | k + 1, h, p, hp => by
    simp only [linksTo, List.mem_append, List.mem_map] at hp
    rcases hp with hp | ⟨i, hi, rfl⟩
    · exact mem_linksTo hnd k (by omega) p hp
    · have hk : natAt os k = os[k] := natAt_eq (by omega)
      refine ⟨List.mem_of_mem_take hi, by rw [hk]; exact List.getElem_mem _, fun e => ?_⟩
      dsimp only at e
      rw [hk] at e
      obtain ⟨j, hj, hje⟩ := List.mem_take_iff_getElem.1 hi
      have h1 : j = k := (List.getElem_inj (h₀ := by omega) (h₁ := by omega) hnd).1 (hje.trans e)
      omega
theorem mem_linksL {os : List Nat} (hnd : os.Nodup) : ∀ p ∈ linksL os, p.1 ∈ os ∧ p.2 ∈ os ∧ p.1 ≠ p.2 := mem_linksTo hnd _ (Nat.le_refl _)
/-- the same without regard to the direction -/
def edgeS (l : List Pt) (p : Nat × Nat) : Nat := min (leftAll l p.1 p.2) (leftAll l p.2 p.1)
theorem edgeK_eq {l : List Pt} (hg : Gen l) {p : Nat × Nat} (h1 : p.1 < l.length) (h2 : p.2 < l.length) (hne : p.1 ≠ p.2) : edgeK l p = edgeS l p := by
  have hchi := chi_of hg
  have h := leftN_both (l := l) hne (fun k hk e1 e2 => hchi.gen h1 h2 hk hne (fun e => e2 e.symm) (fun e => e1 e.symm)) (fun k => hchi.anti _ _ _) l.length (Nat.le_refl _)
  rw [if_pos h1, if_pos h2] at h
  unfold edgeK edgeS leftAll
  omega
theorem edge_congr {l : List Pt} (hg : Gen l) (e : Nat) {ps : List (Nat × Nat)} (h : ∀ p ∈ ps, p.1 < l.length ∧ p.2 < l.length ∧ p.1 ≠ p.2) : ps.countP (fun p => decide (edgeK l p = e)) = ps.countP fun p => decide (edgeS l p = e) := by
  refine List.countP_congr fun p hp => ?_
  obtain ⟨h1, h2, h3⟩ := h p hp
  rw [edgeK_eq hg h1 h2 h3]
theorem edge_perm (l : List Pt) {os os' : List Nat} (h : os.Perm os') (e : Nat) : (linksL os).countP (fun p => decide (edgeS l p = e)) = (linksL os').countP fun p => decide (edgeS l p = e) := by
  rw [countP_sum, countP_sum]
  refine sumP_perm (fun x y => ?_) h
  have : edgeS l (x, y) = edgeS l (y, x) := Nat.min_comm _ _
  rw [this]
theorem mem_rpB (a : Nat) : ∀ b, ∀ p ∈ rpB a b, p.1 = a ∧ p.1 < p.2 ∧ p.2 < b
  | 0, p, hp => by simp [rpB] at hp
  | b + 1, p, hp => by
    simp only [rpB, List.mem_append] at hp
    rcases hp with hp | hp
    · obtain ⟨h1, h2, h3⟩ := mem_rpB a b p hp; exact ⟨h1, h2, by omega⟩
    · split at hp
      · simp at hp; subst hp; exact ⟨rfl, by assumption, by simp⟩
      · simp at hp
theorem mem_rpA (n : Nat) : ∀ a, ∀ p ∈ rpA n a, p.1 < p.2 ∧ p.2 < n
  | 0, p, hp => by simp [rpA] at hp
  | a + 1, p, hp => by
    simp only [rpA, List.mem_append] at hp
    rcases hp with hp | hp
    · exact mem_rpA n a p hp
    · exact (mem_rpB a n p hp).2
/-- the program's numbers of k-edges are the reference's -/
theorem edges_eq {l : List Pt} (hg : Gen l) {os : List Nat} (ho : os.Perm (List.range l.length)) (e : Nat) : edgeC l (linksL os) e = edgeC l (rpA l.length l.length) e := by
  unfold edgeC
  have hnd : os.Nodup := ho.nodup_iff.2 List.nodup_range
  have hlt : ∀ x ∈ os, x < l.length := fun x hx => by simpa using ho.mem_iff.1 hx
  rw [edge_congr hg e fun p hp => let ⟨h1, h2, h3⟩ := mem_linksL hnd p hp; ⟨hlt _ h1, hlt _ h2, h3⟩, edge_perm l ho e,
    edge_congr hg e (ps := rpA l.length l.length) fun p hp => let ⟨h1, h2⟩ := mem_rpA _ _ p hp; ⟨by omega, h2, by omega⟩]
  rw [countP_sum, countP_sum, sumP_range]
end
section
/-- whether two pairs cross, without regard to their order -/
def crX (l : List Pt) (p q : Nat × Nat) : Bool :=
  decide (p.1 ≠ q.1) && decide (q.1 ≠ p.2) && decide (q.2 ≠ p.1) && decide (q.2 ≠ p.2) && decide (tur l p.1 p.2 q.1 ≠ tur l p.1 p.2 q.2) && decide (tur l q.1 q.2 p.1 ≠ tur l q.1 q.2 p.2)
def cr1 (l : List Pt) (p q : Nat × Nat) : Nat := if crX l p q = true then 1 else 0
def cb1 (l : List Pt) (p q : Nat × Nat) : Nat := if crossB l p q = true then 1 else 0
theorem crX_iff (l : List Pt) (p q : Nat × Nat) : crX l p q = true ↔ p.1 ≠ q.1 ∧ q.1 ≠ p.2 ∧ q.2 ≠ p.1 ∧ q.2 ≠ p.2 ∧ tur l p.1 p.2 q.1 ≠ tur l p.1 p.2 q.2 ∧ tur l q.1 q.2 p.1 ≠ tur l q.1 q.2 p.2 := by
  unfold crX; simp only [Bool.and_eq_true, decide_eq_true_eq, and_assoc]
theorem crossB_iff (l : List Pt) (p q : Nat × Nat) : crossB l p q = true ↔ p.1 < q.1 ∧ q.1 ≠ p.2 ∧ q.2 ≠ p.1 ∧ q.2 ≠ p.2 ∧ tur l p.1 p.2 q.1 ≠ tur l p.1 p.2 q.2 ∧ tur l q.1 q.2 p.1 ≠ tur l q.1 q.2 p.2 := by
  unfold crossB; simp only [Bool.and_eq_true, decide_eq_true_eq, and_assoc]
theorem cr_split (l : List Pt) (p q : Nat × Nat) : cb1 l p q + cb1 l q p = cr1 l p q := by
  unfold cb1 cr1
  by_cases hx : crX l p q = true
  · obtain ⟨h1, h2, h3, h4, h5, h6⟩ := (crX_iff l p q).1 hx
    rw [if_pos hx]
    by_cases hlt : p.1 < q.1
    · rw [if_pos ((crossB_iff l p q).2 ⟨hlt, h2, h3, h4, h5, h6⟩), if_neg (fun h => by have := ((crossB_iff l q p).1 h).1; omega)]
    · rw [if_neg (fun h => hlt ((crossB_iff l p q).1 h).1), if_pos ((crossB_iff l q p).2 ⟨by omega, fun e => h3 e.symm, fun e => h2 e.symm, fun e => h4 e.symm, h6, h5⟩)]
  · rw [if_neg hx, if_neg (fun h => by
      obtain ⟨h1, h2, h3, h4, h5, h6⟩ := (crossB_iff l p q).1 h
      exact hx ((crX_iff l p q).2 ⟨by omega, h2, h3, h4, h5, h6⟩)), if_neg (fun h => by
      obtain ⟨h1, h2, h3, h4, h5, h6⟩ := (crossB_iff l q p).1 h
      exact hx ((crX_iff l p q).2 ⟨by omega, fun e => h3 e.symm, fun e => h2 e.symm, fun e => h4 e.symm, h6, h5⟩))]
theorem cr_swap2 {l : List Pt} (hg : Gen l) (p : Nat × Nat) (x y : Nat) : cr1 l p (x, y) = cr1 l p (y, x) := by
  have ha := fun k => (chi_of hg).anti x y k
  have : crX l p (x, y) = true ↔ crX l p (y, x) = true := by
    rw [crX_iff, crX_iff]
    dsimp only
    rw [ha p.1, ha p.2]
    constructor
    · rintro ⟨h1, h2, h3, h4, h5, h6⟩; exact ⟨fun e => h3 e.symm, h4, fun e => h1 e.symm, h2, fun e => h5 e.symm, fun e => h6 (by omega)⟩
    · rintro ⟨h1, h2, h3, h4, h5, h6⟩; exact ⟨fun e => h3 e.symm, h4, fun e => h1 e.symm, h2, fun e => h5 e.symm, fun e => h6 (by omega)⟩
  unfold cr1
  by_cases h : crX l p (x, y) = true
  · rw [if_pos h, if_pos (this.1 h)]
  · rw [if_neg h, if_neg (fun h' => h (this.2 h'))]
theorem cr_symm (l : List Pt) (p q : Nat × Nat) : cr1 l p q = cr1 l q p := by rw [← cr_split, ← cr_split, Nat.add_comm]
theorem sumP_congr {f g : Nat × Nat → Nat} (h : ∀ p, f p = g p) (ps : List (Nat × Nat)) : sumP f ps = sumP g ps := by rw [show f = g from funext h]
theorem sumP_add (f g : Nat × Nat → Nat) : ∀ ps, sumP (fun p => f p + g p) ps = sumP f ps + sumP g ps
  | [] => rfl
  | p :: ps => by have := sumP_add f g ps; simp only [sumP, List.map_cons, List.sum_cons] at *; omega
theorem sumP_zero : ∀ ps, sumP (fun _ => 0) ps = 0
  | [] => rfl
  | p :: ps => by have := sumP_zero ps; simp only [sumP, List.map_cons, List.sum_cons] at *; omega
theorem sumP_swap (F : Nat × Nat → Nat × Nat → Nat) (qs : List (Nat × Nat)) : ∀ ps, sumP (fun p => sumP (F p) qs) ps = sumP (fun q => sumP (fun p => F p q) ps) qs
  | [] => (sumP_zero qs).symm
  | p :: ps => by
    have ih := sumP_swap F qs ps
    have h1 := sumP_add (F p) (fun q => sumP (fun p => F p q) ps) qs
    simp only [sumP, List.map_cons, List.sum_cons] at *
    omega
theorem crossN_sum (l : List Pt) (qs ps : List (Nat × Nat)) : crossN l ps qs = sumP (fun p => sumP (cb1 l p) qs) ps := by
  unfold crossN
  show sumP (fun p => crossC l p qs) ps = _
  refine sumP_congr (fun p => ?_) ps
  unfold crossC
  rw [countP_sum]
  rfl
theorem cross_twice (l : List Pt) (ps : List (Nat × Nat)) : crossN l ps ps + crossN l ps ps = sumP (fun p => sumP (cr1 l p) ps) ps := by
  have h1 := crossN_sum l ps ps
  have h2 : crossN l ps ps = sumP (fun p => sumP (fun q => cb1 l q p) ps) ps := by rw [h1]; exact sumP_swap (cb1 l) ps ps
  have h3 := sumP_add (fun p => sumP (cb1 l p) ps) (fun p => sumP (fun q => cb1 l q p) ps) ps
  rw [← h1, ← h2] at h3
  rw [← h3]
  refine sumP_congr (fun p => ?_) ps
  rw [← sumP_add]
  exact sumP_congr (fun q => cr_split l p q) ps
theorem cross_perm {l : List Pt} (hg : Gen l) {os : List Nat} {n : Nat} (ho : os.Perm (List.range n)) : crossN l (linksL os) (linksL os) = crossN l (rpA n n) (rpA n n) := by
  have h1 := cross_twice l (linksL os)
  have h2 := cross_twice l (rpA n n)
  have h3 : sumP (fun p => sumP (cr1 l p) (linksL os)) (linksL os) = sumP (fun p => sumP (cr1 l p) (rpA n n)) (rpA n n) := by
    rw [sumP_congr (fun p => (sumP_perm (cr_swap2 hg p) ho).trans (sumP_range _ n).symm) (linksL os)]
    rw [sumP_perm (fun x y => sumP_congr (fun q => by rw [cr_symm l (x, y) q, cr_swap2 hg q x y, cr_symm l q (y, x)]) _) ho, ← sumP_range]
  omega
theorem crossC_app (l : List Pt) (p : Nat × Nat) (a b : List (Nat × Nat)) : crossC l p (a ++ b) = crossC l p a + crossC l p b := by unfold crossC; rw [List.countP_append]
theorem crossN_app (l : List Pt) (qs a b : List (Nat × Nat)) : crossN l (a ++ b) qs = crossN l a qs + crossN l b qs := by unfold crossN; rw [List.map_append, List.sum_append]
theorem crsP_iff (l : List Pt) (a b c d : Nat) : crsP (ptA l a) (ptA l b) (ptA l c) (ptA l d) = true ↔ tur l a b c ≠ tur l a b d ∧ tur l c d a ≠ tur l c d b := by
  unfold crsP tur; simp
theorem cD_eq (l : List Pt) {a c : Nat} (b : Nat) (h : a < c) : ∀ d, cD l a b c d = crossC l (a, b) (rpB c d)
  | 0 => rfl
  | d + 1 => by
    simp only [cD, rpB]
    rw [crossC_app, cD_eq l b h d]
    congr 1
    by_cases hcd : c < d
    · rw [if_pos hcd]
      have : crossC l (a, b) [(c, d)] = cb1 l (a, b) (c, d) := by unfold crossC cb1; simp [List.countP_cons]
      rw [this]
      unfold cb1
      have hi : crossB l (a, b) (c, d) = true ↔ (c < d ∧ c ≠ b ∧ d ≠ b ∧ crsP (ptA l a) (ptA l b) (ptA l c) (ptA l d) = true) := by
        rw [crossB_iff, crsP_iff]
        exact ⟨fun ⟨h1, h2, h3, h4, h5, h6⟩ => ⟨hcd, h2, h4, h5, h6⟩, fun ⟨h1, h2, h4, h5, h6⟩ => ⟨h, h2, by dsimp only; omega, h4, h5, h6⟩⟩
      by_cases hb : crossB l (a, b) (c, d) = true
      · rw [if_pos hb, if_pos (hi.1 hb)]
      · rw [if_neg hb, if_neg (fun h => hb (hi.2 h))]
    · rw [if_neg hcd, if_neg (fun h => hcd h.1)]
      rfl
theorem cC_eq (l : List Pt) (n a b : Nat) : ∀ c, cC l n a b c = crossC l (a, b) (rpA n c)
  | 0 => rfl
  | c + 1 => by
    simp only [cC, rpA]
    rw [crossC_app, cC_eq l n a b c]
    congr 1
    by_cases h : a < c
    · rw [if_pos h, cD_eq l b h]
    · rw [if_neg h]
      symm
      unfold crossC
      rw [List.countP_eq_zero]
      intro p hp hb
      have h1 := (mem_rpB c n p hp).1
      have h2 := ((crossB_iff l _ _).1 hb).1
      dsimp only at h2
      omega
theorem cB_eq (l : List Pt) (n a : Nat) : ∀ b, cB l n a b = crossN l (rpB a b) (rpA n n)
  | 0 => rfl
  | b + 1 => by
    simp only [cB, rpB]
    rw [crossN_app, cB_eq l n a b]
    congr 1
    by_cases h : a < b
    · rw [if_pos h, if_pos h, cC_eq]; simp [crossN]
    · rw [if_neg h, if_neg h]; rfl
theorem cA_eq (l : List Pt) (n : Nat) : ∀ a, cA l n a = crossN l (rpA n a) (rpA n n)
  | 0 => rfl
  | a + 1 => by
    simp only [cA, rpA]
    rw [crossN_app, cA_eq l n a, cB_eq]
/-- the program's number of crossings is the reference's -/
theorem crossings_eq {l : List Pt} (hg : Gen l) {os : List Nat} (ho : os.Perm (List.range l.length)) : crossN l (linksL os) (linksL os) = cA l l.length l.length := by
  rw [cA_eq, cross_perm hg ho]
end
end Go.Proofs.Ythnabheibacbcaa
