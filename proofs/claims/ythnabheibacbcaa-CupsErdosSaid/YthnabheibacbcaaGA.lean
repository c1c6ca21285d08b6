/- Plain: sums over numbers below n, and sums over those that rise. No import, no condition. Plain: of four points in general position, the pairs that divide the other two, and the crossings, are three in all. No condition. Plain: the crossings are a sum over four numbers that rise; so are the pairs that divide. No condition. Plain: there are as many crossings as squares. No condition. Plain: the corners of a hull are different, at least three, and the layers have all points. No condition. Plain: the 0-edges are the edges of the hull; the numbers of k-edges add up, and tell the crossings. No condition. Plain: the numbers of k-edges add up to all pairs, and tell the crossings. No condition. -/
import Derived.Test.YthnabheibacbcaaGB
import Derived.Test.YthnabheibacbcaaGC
import Derived.Test.YthnabheibacbcaaG10
namespace Go.Proofs.Ythnabheibacbcaa
section
def sm (f : Nat → Nat) : Nat → Nat
  | 0 => 0
  | n + 1 => sm f n + f n
def sm2 (f : Nat → Nat → Nat) (n : Nat) : Nat := sm (fun i => sm (f i) n) n
def sm3 (f : Nat → Nat → Nat → Nat) (n : Nat) : Nat := sm (fun i => sm2 (f i) n) n
def sm4 (f : Nat → Nat → Nat → Nat → Nat) (n : Nat) : Nat := sm (fun i => sm3 (f i) n) n
def up2 (f : Nat → Nat → Nat) (n : Nat) : Nat := sm (fun j => sm (fun i => f i j) j) n
def up3 (f : Nat → Nat → Nat → Nat) (n : Nat) : Nat := sm (fun k => up2 (fun i j => f i j k) k) n
def up4 (f : Nat → Nat → Nat → Nat → Nat) (n : Nat) : Nat := sm (fun m => up3 (fun i j k => f i j k m) m) n

theorem sm_congr {f g : Nat → Nat} : ∀ {n : Nat}, (∀ i, i < n → f i = g i) → sm f n = sm g n
  | 0, _ => rfl
  | n + 1, h => by simp only [sm]; rw [sm_congr fun i hi => h i (by omega), h n (by omega)]
theorem sm_add (f g : Nat → Nat) : ∀ n, sm (fun i => f i + g i) n = sm f n + sm g n
  | 0 => rfl
  | n + 1 => by simp only [sm]; rw [sm_add f g n]; omega
theorem sm_mul (c : Nat) (f : Nat → Nat) : ∀ n, sm (fun i => c * f i) n = c * sm f n
  | 0 => rfl
  | n + 1 => by simp only [sm]; rw [sm_mul c f n, Nat.mul_add]
theorem sm_zero : ∀ n, sm (fun _ => 0) n = 0
  | 0 => rfl
  | n + 1 => by simp only [sm]; rw [sm_zero n]
theorem sm_swap (f : Nat → Nat → Nat) (m : Nat) : ∀ n, sm (fun i => sm (f i) m) n = sm (fun j => sm (fun i => f i j) n) m
  | 0 => (sm_zero m).symm
  | n + 1 => by
    simp only [sm]
    rw [sm_swap f m n, ← sm_add]
theorem sm2_swap (f : Nat → Nat → Nat) (n : Nat) : sm2 f n = sm2 (fun i j => f j i) n := sm_swap f n n
theorem sm2_congr {f g : Nat → Nat → Nat} {n : Nat} (h : ∀ i j, i < n → j < n → f i j = g i j) : sm2 f n = sm2 g n := sm_congr fun i hi => sm_congr fun j hj => h i j hi hj
theorem sm3_congr {f g : Nat → Nat → Nat → Nat} {n : Nat} (h : ∀ i j k, i < n → j < n → k < n → f i j k = g i j k) : sm3 f n = sm3 g n := sm_congr fun i hi => sm2_congr fun j k hj hk => h i j k hi hj hk
theorem sm4_congr {f g : Nat → Nat → Nat → Nat → Nat} {n : Nat} (h : ∀ i j k m, i < n → j < n → k < n → m < n → f i j k m = g i j k m) : sm4 f n = sm4 g n := sm_congr fun i hi => sm3_congr fun j k m hj hk hm => h i j k m hi hj hk hm
theorem sm2_add (f g : Nat → Nat → Nat) (n : Nat) : sm2 (fun i j => f i j + g i j) n = sm2 f n + sm2 g n := by unfold sm2; rw [← sm_add]; exact sm_congr fun i _ => sm_add _ _ n
theorem sm3_add (f g : Nat → Nat → Nat → Nat) (n : Nat) : sm3 (fun i j k => f i j k + g i j k) n = sm3 f n + sm3 g n := by unfold sm3; rw [← sm_add]; exact sm_congr fun i _ => sm2_add _ _ n
theorem sm4_add (f g : Nat → Nat → Nat → Nat → Nat) (n : Nat) : sm4 (fun i j k m => f i j k m + g i j k m) n = sm4 f n + sm4 g n := by unfold sm4; rw [← sm_add]; exact sm_congr fun i _ => sm3_add _ _ n
theorem sm2_mul (c : Nat) (f : Nat → Nat → Nat) (n : Nat) : sm2 (fun i j => c * f i j) n = c * sm2 f n := by unfold sm2; rw [← sm_mul]; exact sm_congr fun i _ => sm_mul _ _ n
theorem sm3_swap12 (f : Nat → Nat → Nat → Nat) (n : Nat) : sm3 f n = sm3 (fun i j k => f j i k) n := sm2_swap (fun i j => sm (f i j) n) n
theorem sm3_swap23 (f : Nat → Nat → Nat → Nat) (n : Nat) : sm3 f n = sm3 (fun i j k => f i k j) n := sm_congr fun i _ => sm2_swap (f i) n
theorem sm4_swap12 (f : Nat → Nat → Nat → Nat → Nat) (n : Nat) : sm4 f n = sm4 (fun i j k m => f j i k m) n := sm2_swap (fun i j => sm2 (f i j) n) n
theorem sm4_swap23 (f : Nat → Nat → Nat → Nat → Nat) (n : Nat) : sm4 f n = sm4 (fun i j k m => f i k j m) n := sm_congr fun i _ => sm3_swap12 (f i) n
theorem sm4_swap34 (f : Nat → Nat → Nat → Nat → Nat) (n : Nat) : sm4 f n = sm4 (fun i j k m => f i j m k) n := sm_congr fun i _ => sm3_swap23 (f i) n

theorem up2_congr {f g : Nat → Nat → Nat} {n : Nat} (h : ∀ i j, i < j → j < n → f i j = g i j) : up2 f n = up2 g n := sm_congr fun j hj => sm_congr fun i hi => h i j hi hj
theorem up3_congr {f g : Nat → Nat → Nat → Nat} {n : Nat} (h : ∀ i j k, i < j → j < k → k < n → f i j k = g i j k) : up3 f n = up3 g n := sm_congr fun k hk => up2_congr fun i j hi hj => h i j k hi hj hk
theorem up4_congr {f g : Nat → Nat → Nat → Nat → Nat} {n : Nat} (h : ∀ i j k m, i < j → j < k → k < m → m < n → f i j k m = g i j k m) : up4 f n = up4 g n := sm_congr fun m hm => up3_congr fun i j k hi hj hk => h i j k m hi hj hk hm
theorem up2_add (f g : Nat → Nat → Nat) (n : Nat) : up2 (fun i j => f i j + g i j) n = up2 f n + up2 g n := by unfold up2; rw [← sm_add]; exact sm_congr fun i _ => sm_add _ _ i
theorem up3_add (f g : Nat → Nat → Nat → Nat) (n : Nat) : up3 (fun i j k => f i j k + g i j k) n = up3 f n + up3 g n := by unfold up3; rw [← sm_add]; exact sm_congr fun i _ => up2_add _ _ i
theorem up4_add (f g : Nat → Nat → Nat → Nat → Nat) (n : Nat) : up4 (fun i j k m => f i j k m + g i j k m) n = up4 f n + up4 g n := by unfold up4; rw [← sm_add]; exact sm_congr fun i _ => up3_add _ _ i

theorem sm2_step {f : Nat → Nat → Nat} (hs : ∀ x y, f x y = f y x) (h0 : ∀ x, f x x = 0) (n : Nat) : sm2 f (n + 1) = sm2 f n + 2 * sm (fun i => f i n) n := by
  unfold sm2
  simp only [sm]
  rw [sm_add, h0 n, sm_congr fun i _ => hs n i]
  omega
theorem sm2_up {f : Nat → Nat → Nat} (hs : ∀ x y, f x y = f y x) (h0 : ∀ x, f x x = 0) : ∀ n, sm2 f n = 2 * up2 f n
  | 0 => rfl
  | n + 1 => by
    rw [sm2_step hs h0, sm2_up hs h0 n]
    unfold up2
    simp only [sm]
    omega
theorem sm3_step {f : Nat → Nat → Nat → Nat} (h12 : ∀ x y z, f x y z = f y x z) (h23 : ∀ x y z, f x y z = f x z y) (h0 : ∀ x y, f x x y = 0) (n : Nat) : sm3 f (n + 1) = sm3 f n + 3 * sm2 (fun i j => f i j n) n := by
  have h0' : ∀ x y, f x y y = 0 := fun x y => by rw [h12, h23, h0]
  have e : sm3 f (n + 1) = sm (fun i => sm2 (f i) (n + 1)) n + sm2 (f n) (n + 1) := rfl
  rw [e, sm2_step (h23 n) (h0' n), sm_congr fun i (_ : i < n) => sm2_step (h23 i) (h0' i) n, sm_add]
  have e1 : sm (fun i => f n i n) n = 0 := (sm_congr fun i _ => by rw [h23, h0]).trans (sm_zero n)
  have e2 : sm2 (f n) n = sm2 (fun i j => f i j n) n := sm2_congr fun i j _ _ => by rw [h12, h23]
  have e3 : sm (fun i => 2 * sm (fun j => f i j n) n) n = 2 * sm2 (fun i j => f i j n) n := sm_mul _ _ _
  have e4 : sm (fun i => sm2 (f i) n) n = sm3 f n := rfl
  omega
theorem sm3_up {f : Nat → Nat → Nat → Nat} (h12 : ∀ x y z, f x y z = f y x z) (h23 : ∀ x y z, f x y z = f x z y) (h0 : ∀ x y, f x x y = 0) : ∀ n, sm3 f n = 6 * up3 f n
  | 0 => rfl
  | n + 1 => by
    have e : up3 f (n + 1) = up3 f n + up2 (fun i j => f i j n) n := rfl
    rw [sm3_step h12 h23 h0, sm3_up h12 h23 h0 n, sm2_up (fun x y => h12 x y n) (fun x => h0 x n), e]
    omega
theorem sm4_step {f : Nat → Nat → Nat → Nat → Nat} (h12 : ∀ x y z u, f x y z u = f y x z u) (h23 : ∀ x y z u, f x y z u = f x z y u) (h34 : ∀ x y z u, f x y z u = f x y u z) (h0 : ∀ x y z, f x x y z = 0) (n : Nat) :
    sm4 f (n + 1) = sm4 f n + 4 * sm3 (fun i j k => f i j k n) n := by
  have h0' : ∀ x y z, f x y y z = 0 := fun x y z => by rw [h12, h23, h0]
  have e : sm4 f (n + 1) = sm (fun i => sm3 (f i) (n + 1)) n + sm3 (f n) (n + 1) := rfl
  rw [e, sm3_step (h23 n) (h34 n) (h0' n), sm_congr fun i (_ : i < n) => sm3_step (h23 i) (h34 i) (h0' i) n, sm_add]
  have e1 : sm2 (fun i j => f n i j n) n = 0 := (sm2_congr (g := fun _ _ => 0) fun i j _ _ => by rw [h34, h23, h0]).trans ((sm_congr fun i _ => sm_zero n).trans (sm_zero n))
  have e2 : sm3 (f n) n = sm3 (fun i j k => f i j k n) n := sm3_congr fun i j k _ _ _ => by rw [h12, h23, h34]
  have e3 : sm (fun i => 3 * sm2 (fun j k => f i j k n) n) n = 3 * sm3 (fun i j k => f i j k n) n := sm_mul _ _ _
  have e4 : sm (fun i => sm3 (f i) n) n = sm4 f n := rfl
  omega
theorem sm4_up {f : Nat → Nat → Nat → Nat → Nat} (h12 : ∀ x y z u, f x y z u = f y x z u) (h23 : ∀ x y z u, f x y z u = f x z y u) (h34 : ∀ x y z u, f x y z u = f x y u z) (h0 : ∀ x y z, f x x y z = 0) : ∀ n,
    sm4 f n = 24 * up4 f n
  | 0 => rfl
  | n + 1 => by
    have e : up4 f (n + 1) = up4 f n + up3 (fun i j k => f i j k n) n := rfl
    rw [sm4_step h12 h23 h34 h0, sm4_up h12 h23 h34 h0 n, sm3_up (fun x y z => h12 x y z n) (fun x y z => h23 x y z n) (fun x y => h0 x y n), e]
    omega
end
section
theorem det_four (a b c d : Pt) : det b c d - det a c d + det a b d - det a b c = 0 := by
  unfold det
  simp only [Int.sub_mul, Int.mul_sub]
  simp only [Int.mul_comm]
  omega
theorem tur_four (l : List Pt) (a b c d : Nat) : ¬ (0 < tur l b c d ∧ tur l a c d < 0 ∧ 0 < tur l a b d ∧ tur l a b c < 0) := by
  unfold tur
  rw [trn_pos, trn_pos, trn_neg, trn_neg]
  have := det_four (ptA l a) (ptA l b) (ptA l c) (ptA l d)
  omega
theorem tur_four' (l : List Pt) (a b c d : Nat) : ¬ (tur l b c d < 0 ∧ 0 < tur l a c d ∧ tur l a b d < 0 ∧ 0 < tur l a b c) := by
  unfold tur
  rw [trn_pos, trn_pos, trn_neg, trn_neg]
  have := det_four (ptA l a) (ptA l b) (ptA l c) (ptA l d)
  omega
theorem tur_anti (l : List Pt) (a b c : Nat) : tur l b a c = - tur l a b c := trn_anti _ _ _
theorem tur_cyc (l : List Pt) (a b c : Nat) : tur l a b c = tur l b c a := trn_cyc _ _ _
theorem tur_swap (l : List Pt) (a b c : Nat) : tur l a c b = - tur l a b c := by rw [tur_cyc, tur_anti, ← tur_cyc l a b c]
theorem tur_same (l : List Pt) (a c : Nat) : tur l a a c = 0 := by have := tur_anti l a a c; omega
theorem tur_pm {l : List Pt} (hg : Gen l) {a b c : Nat} (ha : a < l.length) (hb : b < l.length) (hc : c < l.length) (h1 : a ≠ b) (h2 : b ≠ c) (h3 : a ≠ c) : tur l a b c = 1 ∨ tur l a b c = -1 := by
  have h := hg.2 _ _ _ ha hb hc h1 h2 h3
  rcases trn_cases (ptA l a) (ptA l b) (ptA l c) with e | e | e
  · exact .inl e
  · exact .inr e
  · exact absurd e h
/-- whether z is on the left of x y -/
def pos1 (l : List Pt) (x y z : Nat) : Nat := if 0 < tur l x y z then 1 else 0
/-- whether x y divides z and u -/
def sepF (l : List Pt) (x y z u : Nat) : Nat := pos1 l x y z * pos1 l y x u + pos1 l y x z * pos1 l x y u
def sep6 (l : List Pt) (a b c d : Nat) : Nat := sepF l a b c d + sepF l a c b d + sepF l a d b c + sepF l b c a d + sepF l b d a c + sepF l c d a b
def cr3 (l : List Pt) (a b c d : Nat) : Nat := cr1 l (a, b) (c, d) + cr1 l (a, c) (b, d) + cr1 l (a, d) (b, c)
theorem pos1_cyc (l : List Pt) (x y z : Nat) : pos1 l x y z = pos1 l y z x := by unfold pos1; rw [tur_cyc]
/-- the signs of four points -/
theorem four_signs {l : List Pt} (hg : Gen l) {a b c d : Nat} (ha : a < l.length) (hb : b < l.length) (hc : c < l.length) (hd : d < l.length) (h1 : a ≠ b) (h2 : a ≠ c) (h3 : a ≠ d) (h4 : b ≠ c) (h5 : b ≠ d) (h6 : c ≠ d) :
    sep6 l a b c d + cr3 l a b c d = 3 := by
  have s1 := tur_pm hg ha hb hc h1 h4 h2
  have s2 := tur_pm hg ha hb hd h1 h5 h3
  have s3 := tur_pm hg ha hc hd h2 h6 h3
  have s4 := tur_pm hg hb hc hd h4 h6 h5
  have n1 := tur_four l a b c d
  have n2 := tur_four' l a b c d
  have a1 : tur l b a c = - tur l a b c := tur_anti _ _ _ _
  have a2 : tur l a c b = - tur l a b c := tur_swap _ _ _ _
  have a3 : tur l b c a = tur l a b c := (tur_cyc _ _ _ _).symm
  have a4 : tur l c a b = tur l a b c := tur_cyc _ _ _ _
  have a5 : tur l c b a = - tur l a b c := by rw [tur_anti, a3]
  have b1 : tur l b a d = - tur l a b d := tur_anti _ _ _ _
  have b2 : tur l a d b = - tur l a b d := tur_swap _ _ _ _
  have b3 : tur l b d a = tur l a b d := (tur_cyc _ _ _ _).symm
  have b4 : tur l d a b = tur l a b d := tur_cyc _ _ _ _
  have b5 : tur l d b a = - tur l a b d := by rw [tur_anti, b3]
  have c1 : tur l c a d = - tur l a c d := tur_anti _ _ _ _
  have c2 : tur l a d c = - tur l a c d := tur_swap _ _ _ _
  have c3 : tur l c d a = tur l a c d := (tur_cyc _ _ _ _).symm
  have c4 : tur l d a c = tur l a c d := tur_cyc _ _ _ _
  have c5 : tur l d c a = - tur l a c d := by rw [tur_anti, c3]
  have d1 : tur l c b d = - tur l b c d := tur_anti _ _ _ _
  have d2 : tur l b d c = - tur l b c d := tur_swap _ _ _ _
  have d3 : tur l c d b = tur l b c d := (tur_cyc _ _ _ _).symm
  have d4 : tur l d b c = tur l b c d := tur_cyc _ _ _ _
  have d5 : tur l d c b = - tur l b c d := by rw [tur_anti, d3]
  unfold sep6 cr3 sepF pos1 cr1 crX
  dsimp only
  rw [a1, a2, a3, a4, a5, b1, b2, b3, b4, b5, c1, c2, c3, c4, c5, d1, d2, d3, d4, d5]
  generalize tur l a b c = x1 at *
  generalize tur l a b d = x2 at *
  generalize tur l a c d = x3 at *
  generalize tur l b c d = x4 at *
  clear a1 a2 a3 a4 a5 b1 b2 b3 b4 b5 c1 c2 c3 c4 c5 d1 d2 d3 d4 d5
  have q1 := h1.symm; have q2 := h2.symm; have q3 := h3.symm; have q4 := h4.symm; have q5 := h5.symm; have q6 := h6.symm
  simp only [ne_eq, h1, h2, h3, h4, h5, h6, q1, q2, q3, q4, q5, q6, not_false_eq_true, decide_true, Bool.true_and]
  rcases s1 with rfl | rfl <;> rcases s2 with rfl | rfl <;> rcases s3 with rfl | rfl <;> rcases s4 with rfl | rfl <;> first | (exfalso; omega) | decide
end
section
theorem sm_map (f : Nat → Nat) : ∀ n, ((List.range n).map f).sum = sm f n
  | 0 => rfl
  | n + 1 => by rw [List.range_succ, List.map_append, List.sum_append, sm_map f n]; simp [sm]
theorem sumP_up (f : Nat × Nat → Nat) : ∀ n, sumP f (linksL (List.range n)) = up2 (fun i j => f (i, j)) n
  | 0 => rfl
  | n + 1 => by
    have e : up2 (fun i j => f (i, j)) (n + 1) = up2 (fun i j => f (i, j)) n + sm (fun i => f (i, n)) n := rfl
    rw [List.range_succ, linksL_app, sumP_app, sumP_up f n, e, ← sm_map]
    unfold sumP
    rw [List.map_map]
    rfl
theorem sumP_rpA (f : Nat × Nat → Nat) (n : Nat) : sumP f (rpA n n) = up2 (fun i j => f (i, j)) n := (sumP_range f n).trans (sumP_up f n)

theorem up2_zero (n : Nat) : up2 (fun _ _ => 0) n = 0 := by
  have e : up2 (fun _ _ => 0) n = sm (fun _ => 0) n := sm_congr fun j _ => sm_zero j
  rw [e, sm_zero]
theorem cr1_same (l : List Pt) (p : Nat × Nat) (x : Nat) : cr1 l p (x, x) = 0 := by
  unfold cr1; rw [if_neg]; intro h; have := (crX_iff l _ _).1 h; exact this.2.2.2.2.1 rfl
theorem cr1_meet (l : List Pt) (x a b : Nat) : cr1 l (x, a) (x, b) = 0 := by
  unfold cr1; rw [if_neg]; intro h; have := (crX_iff l _ _).1 h; exact this.1 rfl
theorem crU_up {l : List Pt} (n : Nat) : cA l n n + cA l n n = up2 (fun a b => up2 (fun c d => cr1 l (a, b) (c, d)) n) n := by
  rw [cA_eq, cross_twice, sumP_rpA]
  exact up2_congr fun i j _ _ => sumP_rpA _ n
theorem crU_in {l : List Pt} (hg : Gen l) (n a b : Nat) : sm2 (fun c d => cr1 l (a, b) (c, d)) n = 2 * up2 (fun c d => cr1 l (a, b) (c, d)) n :=
  sm2_up (f := fun c d => cr1 l (a, b) (c, d)) (fun x y => cr_swap2 hg (a, b) x y) (fun x => cr1_same l (a, b) x) n
theorem crU_sw {l : List Pt} (hg : Gen l) (n x y : Nat) : up2 (fun c d => cr1 l (x, y) (c, d)) n = up2 (fun c d => cr1 l (y, x) (c, d)) n :=
  up2_congr fun i j _ _ => by rw [cr_symm l (x, y), cr_swap2 hg, cr_symm]
theorem crU_same (l : List Pt) (n x : Nat) : up2 (fun c d => cr1 l (x, x) (c, d)) n = 0 := by
  have e : up2 (fun c d => cr1 l (x, x) (c, d)) n = up2 (fun _ _ => 0) n := up2_congr fun i j _ _ => by rw [cr_symm, cr1_same]
  rw [e, up2_zero]
/-- the crossings, as a sum over all quadruples -/
theorem cross_all {l : List Pt} (hg : Gen l) (n : Nat) : sm4 (fun a b c d => cr1 l (a, b) (c, d)) n = 8 * cA l n n := by
  have h4 : sm4 (fun a b c d => cr1 l (a, b) (c, d)) n = sm2 (fun a b => 2 * up2 (fun c d => cr1 l (a, b) (c, d)) n) n := sm2_congr fun a b _ _ => crU_in hg n a b
  have h5 : sm2 (fun a b => up2 (fun c d => cr1 l (a, b) (c, d)) n) n = 2 * up2 (fun a b => up2 (fun c d => cr1 l (a, b) (c, d)) n) n :=
    sm2_up (f := fun a b => up2 (fun c d => cr1 l (a, b) (c, d)) n) (crU_sw hg n) (crU_same l n) n
  rw [h4, sm2_mul, h5, ← crU_up]
  generalize cA l n n = k
  omega
theorem cr3_12 {l : List Pt} (hg : Gen l) (x y z u : Nat) : cr3 l x y z u = cr3 l y x z u := by
  unfold cr3
  rw [cr_symm l (x, y), cr_swap2 hg (z, u) x y, cr_symm l (z, u), cr_symm l (x, z), cr_symm l (x, u)]
  omega
theorem cr3_23 {l : List Pt} (hg : Gen l) (x y z u : Nat) : cr3 l x y z u = cr3 l x z y u := by
  unfold cr3
  rw [cr_swap2 hg (x, u) y z]
  omega
theorem cr3_34 {l : List Pt} (hg : Gen l) (x y z u : Nat) : cr3 l x y z u = cr3 l x y u z := by
  unfold cr3
  rw [cr_swap2 hg (x, y) z u]
  omega
theorem cr3_0 (l : List Pt) (x z u : Nat) : cr3 l x x z u = 0 := by
  unfold cr3
  rw [cr_symm, cr1_same, cr1_meet, cr1_meet]
/-- the number of crossings -/
theorem cross_up {l : List Pt} (hg : Gen l) (n : Nat) : cA l n n = up4 (cr3 l) n := by
  have h := cross_all hg n
  have h1 : sm4 (cr3 l) n = sm4 (fun a b c d => cr1 l (a, b) (c, d)) n + sm4 (fun a b c d => cr1 l (a, c) (b, d)) n + sm4 (fun a b c d => cr1 l (a, d) (b, c)) n := by
    rw [← sm4_add, ← sm4_add]; rfl
  have h2 : sm4 (fun a b c d => cr1 l (a, c) (b, d)) n = sm4 (fun a b c d => cr1 l (a, b) (c, d)) n := sm4_swap23 _ n
  have h3 : sm4 (fun a b c d => cr1 l (a, d) (b, c)) n = sm4 (fun a b c d => cr1 l (a, c) (b, d)) n := sm4_swap34 _ n
  have h4 := sm4_up (f := cr3 l) (cr3_12 hg) (cr3_23 hg) (cr3_34 hg) (cr3_0 l) n
  omega

theorem pos1_same (l : List Pt) (x z : Nat) : pos1 l x x z = 0 := by unfold pos1; rw [tur_same]; rfl
theorem pos1_same2 (l : List Pt) (x z : Nat) : pos1 l x z x = 0 := by rw [pos1_cyc, pos1_cyc]; exact pos1_same l x z
theorem pos1_same3 (l : List Pt) (x z : Nat) : pos1 l z x x = 0 := by rw [pos1_cyc]; exact pos1_same l x z
theorem pos1_both (l : List Pt) (x y z : Nat) : pos1 l x y z * pos1 l y x z = 0 := by
  unfold pos1; rw [tur_anti l x y z]
  by_cases h : 0 < tur l x y z
  · rw [if_neg (show ¬ 0 < - tur l x y z by omega)]; simp
  · rw [if_neg h]; simp
theorem leftN_sm (l : List Pt) (i j : Nat) : ∀ n, leftN l i j n = sm (pos1 l i j) n
  | 0 => rfl
  | n + 1 => by rw [leftN, leftN_sm l i j n]; rfl
theorem sm_prod (f g : Nat → Nat) (n m : Nat) : sm (fun i => sm (fun j => f i * g j) m) n = sm f n * sm g m := by
  have h : ∀ i, sm (fun j => f i * g j) m = sm g m * f i := fun i => by rw [sm_mul, Nat.mul_comm]
  rw [sm_congr fun i _ => h i, sm_mul, Nat.mul_comm]
/-- the products of both sides, over all pairs -/
def sepS (l : List Pt) (n : Nat) : Nat := up2 (fun i j => leftN l i j n * leftN l j i n) n
theorem sep_all (l : List Pt) (n : Nat) : sm4 (fun i j z u => pos1 l i j z * pos1 l j i u) n = 2 * sepS l n := by
  have h4 : sm4 (fun i j z u => pos1 l i j z * pos1 l j i u) n = sm2 (fun i j => sm2 (fun z u => pos1 l i j z * pos1 l j i u) n) n := rfl
  have h3 : ∀ i j, sm2 (fun z u => pos1 l i j z * pos1 l j i u) n = leftN l i j n * leftN l j i n := fun i j => by rw [leftN_sm, leftN_sm]; exact sm_prod _ _ n n
  rw [h4, sm2_congr (fun i j _ _ => h3 i j), sm2_up (fun x y => Nat.mul_comm _ _) (fun x => by rw [leftN_self, Nat.zero_mul])]
  rfl
theorem sepF_sw (l : List Pt) (x y z u : Nat) : sepF l x y z u = sepF l y x z u := by unfold sepF; omega
theorem sepF_sw2 (l : List Pt) (x y z u : Nat) : sepF l x y z u = sepF l x y u z := by
  unfold sepF; rw [Nat.mul_comm (pos1 l x y z), Nat.mul_comm (pos1 l y x z)]; omega
theorem sep6_12 (l : List Pt) (x y z u : Nat) : sep6 l x y z u = sep6 l y x z u := by
  unfold sep6; rw [sepF_sw l x y, sepF_sw2 l z u x y]; omega
theorem sep6_23 (l : List Pt) (x y z u : Nat) : sep6 l x y z u = sep6 l x z y u := by
  unfold sep6; rw [sepF_sw2 l x u y z, sepF_sw l y z]; omega
theorem sep6_34 (l : List Pt) (x y z u : Nat) : sep6 l x y z u = sep6 l x y u z := by
  unfold sep6; rw [sepF_sw2 l x y z u, sepF_sw l z u]; omega
theorem sep6_0 (l : List Pt) (x z u : Nat) : sep6 l x x z u = 0 := by
  unfold sep6 sepF; rw [pos1_both, pos1_same, pos1_same2, pos1_same2, pos1_same3, pos1_same3, Nat.mul_comm (pos1 l u z x), pos1_both]; simp
theorem sepF_all (l : List Pt) (n : Nat) : sm4 (sepF l) n = 4 * sepS l n := by
  have h := sep_all l n
  have h1 : sm4 (sepF l) n = sm4 (fun i j z u => pos1 l i j z * pos1 l j i u) n + sm4 (fun i j z u => pos1 l j i z * pos1 l i j u) n := by rw [← sm4_add]; rfl
  have h2 : sm4 (fun i j z u => pos1 l j i z * pos1 l i j u) n = sm4 (fun i j z u => pos1 l i j z * pos1 l j i u) n := sm4_swap12 _ n
  omega
theorem sep_up (l : List Pt) (n : Nat) : sepS l n = up4 (sep6 l) n := by
  have h := sepF_all l n
  have e1 : sm4 (fun a b c d => sepF l a c b d) n = sm4 (sepF l) n := sm4_swap23 _ n
  have e2 : sm4 (fun a b c d => sepF l a d b c) n = sm4 (fun a b c d => sepF l a c b d) n := sm4_swap34 _ n
  have e3 : sm4 (fun a b c d => sepF l b c a d) n = sm4 (fun a b c d => sepF l a c b d) n := sm4_swap12 _ n
  have e4 : sm4 (fun a b c d => sepF l b d a c) n = sm4 (fun a b c d => sepF l b c a d) n := sm4_swap34 _ n
  have e5 : sm4 (fun a b c d => sepF l c d a b) n = sm4 (fun a b c d => sepF l b d a c) n := sm4_swap23 _ n
  have h1 : sm4 (sep6 l) n = sm4 (fun a b c d => sepF l a b c d) n + sm4 (fun a b c d => sepF l a c b d) n + sm4 (fun a b c d => sepF l a d b c) n + sm4 (fun a b c d => sepF l b c a d) n + sm4 (fun a b c d => sepF l b d a c) n + sm4 (fun a b c d => sepF l c d a b) n := by
    rw [← sm4_add, ← sm4_add, ← sm4_add, ← sm4_add, ← sm4_add]; rfl
  have h2 : sm4 (fun a b c d => sepF l a b c d) n = sm4 (sepF l) n := rfl
  have h4 := sm4_up (f := sep6 l) (sep6_12 l) (sep6_23 l) (sep6_34 l) (sep6_0 l) n
  omega
/-- the crossings and the products of both sides are three for each four points -/
theorem cross_sep {l : List Pt} (hg : Gen l) {n : Nat} (hn : n ≤ l.length) : sepS l n + cA l n n = up4 (fun _ _ _ _ => 3) n := by
  rw [sep_up, cross_up hg, ← up4_add]
  exact up4_congr fun i j k m h1 h2 h3 h4 => four_signs hg (by omega) (by omega) (by omega) (by omega) (by omega) (by omega) (by omega) (by omega) (by omega) (by omega)
end
section
/-! ### the squares as a sum over four numbers that rise -/
def sqI (l : List Pt) (os : List Nat) (a b c d : Nat) : Nat := if sq4 l os a b c d = true then 1 else 0
theorem sm_if (p : Prop) [Decidable p] (f : Nat → Nat) (n : Nat) : (if p then sm f n else 0) = sm (fun i => if p then f i else 0) n := by
  by_cases h : p
  · rw [if_pos h]; exact sm_congr fun i _ => (if_pos h).symm
  · rw [if_neg h, sm_congr (g := fun _ => 0) fun i _ => if_neg h, sm_zero]
theorem sm_cut (f : Nat → Nat) {j : Nat} : ∀ {n : Nat}, j ≤ n → sm f j = sm (fun i => if i < j then f i else 0) n
  | 0, h => by obtain rfl : j = 0 := by omega
               rfl
  | n + 1, h => by
    by_cases e : j = n + 1
    · subst e; exact sm_congr fun i hi => (if_pos hi).symm
    · rw [sm_cut f (show j ≤ n by omega)]; simp only [sm]; rw [if_neg (show ¬ n < j by omega)]; rfl
theorem sD4_sm (l : List Pt) (os : List Nat) (a b c : Nat) : ∀ n, sD4 l os a b c n = sm (fun d => if c < d then sqI l os a b c d else 0) n
  | 0 => rfl
  | n + 1 => by
    simp only [sD4, sm]; rw [sD4_sm l os a b c n]; unfold sqI
    by_cases h : c < n
    · simp [h]
    · simp [h]
theorem sC4_sm (l : List Pt) (os : List Nat) (n a b : Nat) : ∀ m, sC4 l os n a b m = sm (fun c => if b < c then sD4 l os a b c n else 0) m
  | 0 => rfl
  | m + 1 => by simp only [sC4, sm]; rw [sC4_sm l os n a b m]
theorem sB4_sm (l : List Pt) (os : List Nat) (n a : Nat) : ∀ m, sB4 l os n a m = sm (fun b => if a < b then sC4 l os n a b n else 0) m
  | 0 => rfl
  | m + 1 => by simp only [sB4, sm]; rw [sB4_sm l os n a m]
theorem sA4_sm (l : List Pt) (os : List Nat) (n : Nat) : ∀ m, sA4 l os n m = sm (fun a => sB4 l os n a n) m
  | 0 => rfl
  | m + 1 => by simp only [sA4, sm]; rw [sA4_sm l os n m]
def cut4 (f : Nat → Nat → Nat → Nat → Nat) (a b c d : Nat) : Nat := if a < b then if b < c then if c < d then f a b c d else 0 else 0 else 0
theorem sA4_all (l : List Pt) (os : List Nat) (n : Nat) : sA4 l os n n = sm4 (cut4 (sqI l os)) n := by
  rw [sA4_sm]
  refine sm_congr fun a _ => ?_
  rw [sB4_sm]
  refine sm_congr fun b _ => ?_
  rw [sC4_sm, sm_if]
  refine sm_congr fun c _ => ?_
  rw [sD4_sm, sm_if, sm_if]
  rfl
theorem up4_all (f : Nat → Nat → Nat → Nat → Nat) (n : Nat) : up4 f n = sm4 (cut4 f) n := by
  have h : up4 f n = sm4 (fun m k j i => cut4 f i j k m) n := by
    refine sm_congr fun m hm => ?_
    rw [show up3 (fun i j k => f i j k m) m = sm (fun k => up2 (fun i j => f i j k m) k) m from rfl, sm_cut _ (Nat.le_of_lt hm)]
    refine sm_congr fun k hk => ?_
    rw [show up2 (fun i j => f i j k m) k = sm (fun j => sm (fun i => f i j k m) j) k from rfl, sm_cut _ (Nat.le_of_lt hk), sm_if]
    refine sm_congr fun j hj => ?_
    rw [sm_cut _ (Nat.le_of_lt hj), sm_if, sm_if]
    refine sm_congr fun i _ => ?_
    unfold cut4
    by_cases h1 : i < j <;> by_cases h2 : j < k <;> by_cases h3 : k < m <;> simp [h1, h2, h3]
  have e1 : sm4 (cut4 f) n = sm4 (fun a b c d => cut4 f b a c d) n := sm4_swap12 _ n
  have e2 : sm4 (fun a b c d => cut4 f b a c d) n = sm4 (fun a b c d => cut4 f c a b d) n := sm4_swap23 _ n
  have e3 : sm4 (fun a b c d => cut4 f c a b d) n = sm4 (fun a b c d => cut4 f c b a d) n := sm4_swap12 _ n
  have e4 : sm4 (fun a b c d => cut4 f c b a d) n = sm4 (fun a b c d => cut4 f d b a c) n := sm4_swap34 _ n
  have e5 : sm4 (fun a b c d => cut4 f d b a c) n = sm4 (fun a b c d => cut4 f d c a b) n := sm4_swap23 _ n
  have e6 : sm4 (fun a b c d => cut4 f d c a b) n = sm4 (fun a b c d => cut4 f d c b a) n := sm4_swap12 _ n
  rw [h, e1, e2, e3, e4, e5, e6]

/-! ### four points -/
def cr3L (l : List Pt) : List Nat → Nat
  | [a, b, c, d] => cr3 l a b c d
  | _ => 0
theorem cr3L_len (l : List Pt) : ∀ {xs : List Nat}, xs.length ≠ 4 → cr3L l xs = 0
  | [], _ => rfl
  | [_], _ => rfl
  | [_, _], _ => rfl
  | [_, _, _], _ => rfl
  | [_, _, _, _], h => absurd rfl h
  | _ :: _ :: _ :: _ :: _ :: _, _ => rfl
theorem cr3L_perm {l : List Pt} (hg : Gen l) {xs ys : List Nat} (h : xs.Perm ys) : ∀ pre, cr3L l (pre ++ xs) = cr3L l (pre ++ ys) := by
  induction h with
  | nil => exact fun _ => rfl
  | cons x _ ih => intro pre; have := ih (pre ++ [x]); simpa using this
  | swap x y t =>
    intro pre
    rcases pre with _ | ⟨a, _ | ⟨b, _ | ⟨c, pre⟩⟩⟩ <;> rcases t with _ | ⟨u, _ | ⟨v, _ | ⟨z, t⟩⟩⟩ <;> (try rfl)
    · exact cr3_12 hg _ _ _ _
    · exact cr3_23 hg _ _ _ _
    · exact cr3_34 hg _ _ _ _
    all_goals rw [cr3L_len l (by simp only [List.length_append, List.length_cons, List.length_nil]; omega), cr3L_len l (by simp only [List.length_append, List.length_cons, List.length_nil]; omega)]
  | trans _ _ i1 i2 => exact fun pre => (i1 pre).trans (i2 pre)

/-- four points in the order -/
theorem four_hull {l : List Pt} (hg : Gen l) {p q r s : Nat} (hp : p < l.length) (hq : q < l.length) (hr : r < l.length) (hs : s < l.length) (h1 : befI l p q) (h2 : befI l q r) (h3 : befI l r s) :
    cr3 l p q r s = if (hullL (tur l) [p, q, r, s]).length = 4 then 1 else 0 := by
  have hC := chi_of hg
  have hpr := hC.trans h1 h2
  have hqs := hC.trans h2 h3
  have hps := hC.trans h1 hqs
  have g1 := hC.ne h1; have g2 := hC.ne h2; have g3 := hC.ne h3; have g4 := hC.ne hpr; have g5 := hC.ne hqs; have g6 := hC.ne hps
  have s1 := tur_pm hg hp hq hr g1 g2 g4
  have s2 := tur_pm hg hp hq hs g1 g5 g6
  have s3 := tur_pm hg hp hr hs g4 g3 g6
  have s4 := tur_pm hg hq hr hs g2 g3 g5
  have m1 := hC.p1 h1 h2 h3; have m2 := hC.p2 h1 h2 h3; have m3 := hC.p3 h1 h2 h3; have m4 := hC.p4 h1 h2 h3
  have m5 := hC.n1 h1 h2 h3; have m6 := hC.n2 h1 h2 h3; have m7 := hC.n3 h1 h2 h3; have m8 := hC.n4 h1 h2 h3
  clear hC h1 h2 h3 hpr hqs hps
  have a1 : tur l r q p = - tur l p q r := by rw [tur_anti, ← tur_cyc]
  have b1 : tur l s q p = - tur l p q s := by rw [tur_anti, ← tur_cyc]
  have c1 : tur l s r p = - tur l p r s := by rw [tur_anti, ← tur_cyc]
  have d1 : tur l s r q = - tur l q r s := by rw [tur_anti, ← tur_cyc]
  have e0 : hullL (tur l) [p, q, r, s] = half (tur l) [p, q, r, s] ++ half (tur l) [s, r, q, p] := rfl
  have e1 : tur l r s p = tur l p r s := (tur_cyc _ _ _ _).symm
  have e2 : tur l r s q = tur l q r s := (tur_cyc _ _ _ _).symm
  have e3 : tur l p r q = - tur l p q r := tur_swap _ _ _ _
  have e4 : tur l q s p = tur l p q s := (tur_cyc _ _ _ _).symm
  have e5 : tur l q s r = - tur l q r s := tur_swap _ _ _ _
  have e6 : tur l p s q = - tur l p q s := tur_swap _ _ _ _
  have e7 : tur l p s r = - tur l p r s := tur_swap _ _ _ _
  have e8 : tur l q r p = tur l p q r := (tur_cyc _ _ _ _).symm
  obtain ⟨m, hm⟩ : ∃ m, m = (hullL (tur l) [p, q, r, s]).length := ⟨_, rfl⟩
  rw [← hm]
  rw [e0] at hm
  simp only [half, chain, List.foldl_cons, List.foldl_nil] at hm
  have q1 := g1.symm; have q2 := g2.symm; have q3 := g3.symm; have q4 := g4.symm; have q5 := g5.symm; have q6 := g6.symm
  unfold cr3 cr1 crX
  dsimp only
  rw [e1, e2, e3, e4, e5, e6, e7, e8]
  simp only [ne_eq, g1, g2, g3, g4, g5, q2, q3, q4, q5, q6, not_false_eq_true, decide_true, Bool.true_and]
  clear e0 e1 e2 e3 e4 e5 e6 e7 e8 q1 q2 q3 q4 q5 q6 g1 g2 g3 g4 g5 g6
  rcases s1 with s1 | s1 <;> rcases s2 with s2 | s2 <;> rcases s3 with s3 | s3 <;> rcases s4 with s4 | s4 <;> first
    | (exfalso; omega)
    | (simp [popw, a1, b1, c1, d1, s1, s2, s3, s4] at hm; subst hm; rw [s1, s2, s3, s4]; decide)
theorem quad_eq {l : List Pt} (hg : Gen l) {os : List Nat} (ho : Ordd l os) {a b c d : Nat} (h1 : a < b) (h2 : b < c) (h3 : c < d) (h4 : d < l.length) : cr3 l a b c d = sqI l os a b c d := by
  have hsub : (sel4 os a b c d).Sublist os := List.filter_sublist
  have hm : ∀ x, x ∈ sel4 os a b c d ↔ x ∈ [a, b, c, d] := fun x => by
    unfold sel4
    rw [List.mem_filter]
    simp only [decide_eq_true_eq, List.mem_cons, List.not_mem_nil, or_false]
    refine ⟨fun h => h.2, fun h => ⟨ho.1.mem_iff.2 (List.mem_range.2 ?_), h⟩⟩
    omega
  have hnd : (sel4 os a b c d).Nodup := (ho.1.nodup_iff.2 List.nodup_range).sublist hsub
  have hnd2 : [a, b, c, d].Nodup := by simp; omega
  have hp : (sel4 os a b c d).Perm [a, b, c, d] := (List.perm_ext_iff_of_nodup hnd hnd2).2 hm
  have hord := ho.2.sublist hsub
  unfold sqI sq4
  have hlt : ∀ x ∈ sel4 os a b c d, x < l.length := fun x hx => ord_lt ho x (hsub.subset hx)
  clear hm hnd hsub
  generalize sel4 os a b c d = ss at *
  have hlen := hp.length_eq
  match ss, hlen with
  | [p, q, r, s], _ =>
    have e : cr3 l p q r s = cr3 l a b c d := cr3L_perm hg hp []
    rw [← e]; simp only [decide_eq_true_eq]
    simp only [List.pairwise_cons, List.mem_cons, List.not_mem_nil, or_false] at hord
    exact four_hull hg (hlt _ (by simp)) (hlt _ (by simp)) (hlt _ (by simp)) (hlt _ (by simp)) (hord.1 _ (.inl rfl)) (hord.2.1 _ (.inl rfl)) (hord.2.2.1 _ rfl)
/-- as many crossings as squares -/
theorem cross_square {l : List Pt} (hg : Gen l) {os : List Nat} (ho : Ordd l os) : cA l l.length l.length = sA4 l os l.length l.length := by
  rw [cross_up hg, up4_all, sA4_all]
  refine sm4_congr fun a b c d ha hb hc hd => ?_
  unfold cut4
  by_cases h1 : a < b
  · by_cases h2 : b < c
    · by_cases h3 : c < d
      · simp only [h1, h2, h3, if_true]; exact quad_eq hg ho h1 h2 h3 hd
      · simp [h3]
    · simp [h2]
  · simp [h1]
end
section
section
variable {S : Nat → Prop} {t : Nat → Nat → Nat → Int} {lt : Nat → Nat → Prop}
theorem nxt_prev (h : Chi S t lt) {D : List Nat} {a b x : Nat} (ha : a ∈ D) (hb : b ∈ D) (hx : nxt t D a x) (hy : nxt t D b x) : a = b := by
  rcases Decidable.em (a = b) with e | e
  · exact e
  · have h1 := hx.2.2 b hb (fun h => e h.symm) (fun h => hy.2.1 h.symm)
    have h2 := hy.2.2 a ha e (fun h => hx.2.1 h.symm)
    rw [h.rev] at h2
    omega
theorem IsH.all {D H : List Nat} (h : IsH t lt D H) : ∀ i, i < H.length → natAt H i ∈ D
  | 0, _ => h.mem
  | i + 1, hi => (h.step i hi).1
theorem IsH.sub {D H : List Nat} (h : IsH t lt D H) : ∀ x ∈ H, x ∈ D := fun x hx => by
  obtain ⟨i, hi, rfl⟩ := List.getElem_of_mem hx
  rw [← natAt_eq hi]
  exact h.all i hi
theorem IsH.diff {D H : List Nat} (hC : Chi S t lt) (h : IsH t lt D H) : ∀ i j, i < j → j < H.length → natAt H i ≠ natAt H j
  | 0, j, hij, hj => fun e => h.nd j hij hj e.symm
  | i + 1, j, hij, hj => fun e => by
    have h1 := h.step i (by omega)
    have h2 := h.step (j - 1) (by omega)
    rw [show j - 1 + 1 = j by omega, ← e] at h2
    exact h.diff hC i (j - 1) (by omega) (by omega) (nxt_prev hC (h.all i (by omega)) (h.all (j - 1) (by omega)) h1 h2)
theorem IsH.nodup {D H : List Nat} (hC : Chi S t lt) (h : IsH t lt D H) : H.Nodup := by
  refine List.pairwise_iff_getElem.2 fun i j hi hj hij => ?_
  have := h.diff hC i j hij hj
  rwa [natAt_eq hi, natAt_eq hj] at this
theorem IsH.two {D H : List Nat} (h : IsH t lt D H) (hnd : D.Nodup) (h2 : 2 ≤ D.length) : 2 ≤ H.length ∧ nxt t D (natAt H (H.length - 1)) (natAt H 0) := by
  rcases h.last with ⟨_, e⟩ | e
  · have h0 := e D[0] (List.getElem_mem _)
    have h1 := e D[1] (List.getElem_mem _)
    exact absurd (h0.trans h1.symm) (List.pairwise_iff_getElem.1 hnd 0 1 (by omega) (by omega) (by omega))
  · exact e
/-- a third one -/
theorem third {D : List Nat} (hnd : D.Nodup) (h3 : 3 ≤ D.length) (a b : Nat) : ∃ y ∈ D, y ≠ a ∧ y ≠ b := by
  have p01 := List.pairwise_iff_getElem.1 hnd 0 1 (by omega) (by omega) (by omega)
  have p02 := List.pairwise_iff_getElem.1 hnd 0 2 (by omega) (by omega) (by omega)
  have p12 := List.pairwise_iff_getElem.1 hnd 1 2 (by omega) (by omega) (by omega)
  by_cases c0 : D[0] ≠ a ∧ D[0] ≠ b
  · exact ⟨_, List.getElem_mem _, c0⟩
  by_cases c1 : D[1] ≠ a ∧ D[1] ≠ b
  · exact ⟨_, List.getElem_mem _, c1⟩
  by_cases c2 : D[2] ≠ a ∧ D[2] ≠ b
  · exact ⟨_, List.getElem_mem _, c2⟩
  exfalso; omega
theorem IsH.three {D H : List Nat} (hC : Chi S t lt) (h : IsH t lt D H) (hnd : D.Nodup) (h3 : 3 ≤ D.length) : 3 ≤ H.length := by
  obtain ⟨h2, hl⟩ := h.two hnd (by omega)
  rcases Nat.lt_or_ge H.length 3 with e | e
  · have e2 : H.length = 2 := by omega
    rw [e2] at hl
    have h1 := h.step 0 (by omega)
    obtain ⟨y, hy, n1, n2⟩ := third hnd h3 (natAt H 0) (natAt H 1)
    have s1 := h1.2.2 y hy n1 n2
    have s2 := hl.2.2 y hy n2 n1
    rw [show 2 - 1 = 1 from rfl, hC.anti] at s2
    simp only [Nat.zero_add] at s1
    omega
  · exact e
end

theorem filter_len (p : Nat → Bool) : ∀ os : List Nat, (os.filter p).length + (os.filter fun i => !p i).length = os.length
  | [] => rfl
  | x :: os => by
    have := filter_len p os
    by_cases h : p x = true
    · simp [h]; omega
    · simp [h]; omega
theorem restL_count {H os : List Nat} (hnd : os.Nodup) (hH : H.Nodup) (hs : ∀ x ∈ H, x ∈ os) : H.length + (restL H os).length = os.length := by
  have h1 := filter_len (fun i => decide (i ∈ H)) os
  have h2 : (os.filter fun i => decide (i ∈ H)).Perm H := (List.perm_ext_iff_of_nodup (hnd.sublist List.filter_sublist) hH).2 fun x => by
    rw [List.mem_filter, decide_eq_true_eq]; exact ⟨fun h => h.2, fun h => ⟨hs x h, h⟩⟩
  rw [h2.length_eq] at h1
  unfold restL
  have h3 : (os.filter fun i => decide (i ∉ H)) = os.filter fun i => !decide (i ∈ H) := by
    congr 1; funext i; simp
  rw [h3]; exact h1
theorem hullL_small (t : Nat → Nat → Nat → Int) {os : List Nat} (h : os.length < 3) : hullL t os = os := by unfold hullL; rw [if_pos h]
theorem restL_self (os : List Nat) : restL os os = [] := by
  unfold restL
  rw [List.filter_eq_nil_iff]
  intro a ha; simpa using ha

/-- the layers have all points, and each but the last one has at least three -/
theorem lays_all {l : List Pt} {os : List Nat} (hg : Gen l) (ho : Ordd l os) : ∀ (k : Nat) (so : List Nat), so.Sublist os → so.length ≤ k →
    ((laysL (tur l) k so).map List.length).sum = so.length ∧ ∀ i, i + 1 < (laysL (tur l) k so).length → ∀ h : i < (laysL (tur l) k so).length, 3 ≤ ((laysL (tur l) k so)[i]).length
  | k, [], _, _ => by rw [laysL_stop]; exact ⟨rfl, fun i hi => by simp at hi⟩
  | 0, x :: so, _, h => by simp at h
  | k + 1, x :: so, hs, hk => by
    obtain ⟨ss, e⟩ : ∃ ss, ss = x :: so := ⟨_, rfl⟩
    rw [← e] at hs hk ⊢
    have hne : ss ≠ [] := by rw [e]; simp
    have hH := rest_isH hg ho hs hne
    have hnd : ss.Nodup := (ho.1.nodup_iff.2 List.nodup_range).sublist hs
    have hHn := hH.nodup (chi_of hg)
    have hc := restL_count hnd hHn hH.sub
    have hpos := hH.pos
    obtain ⟨i1, i2⟩ := lays_all hg ho k (restL (hullL (tur l) ss) ss) ((restL_sub _ _).trans hs) (by omega)
    rw [laysL_step (tur l) hne hk, Nat.add_sub_cancel]
    refine ⟨by rw [List.map_cons, List.sum_cons, i1]; exact hc, fun i hi h => ?_⟩
    rcases i with _ | i
    · rw [List.getElem_cons_zero]
      rcases Nat.lt_or_ge ss.length 3 with c | c
      · rw [hullL_small _ c, restL_self, laysL_stop] at hi
        simp at hi
      · exact hH.three (chi_of hg) hnd c
    · rw [List.getElem_cons_succ]
      simp only [List.length_cons] at hi
      exact i2 i (by omega) _
end
section
theorem crs_two (e u v w : Pt) : crs u w * crs e v = crs u v * crs e w + crs v w * crs e u := by unfold crs; grind
theorem tur_half {l : List Pt} {i j x y z : Nat} (hx : 0 < tur l i j x) (hy : 0 < tur l i j y) (hz : 0 < tur l i j z) (h1 : 0 < tur l i x y) (h2 : 0 < tur l i y z) : 0 < tur l i x z := by
  unfold tur at *
  rw [trn_pos, ← crs_det] at *
  have h := crs_two (vsub (ptA l j) (ptA l i)) (vsub (ptA l x) (ptA l i)) (vsub (ptA l y) (ptA l i)) (vsub (ptA l z) (ptA l i))
  have p1 := Int.mul_pos h1 hz
  have p2 := Int.mul_pos h2 hx
  rcases Int.lt_or_le 0 (crs (vsub (ptA l x) (ptA l i)) (vsub (ptA l z) (ptA l i))) with c | c
  · exact c
  · have := Int.mul_nonneg (a := - crs (vsub (ptA l x) (ptA l i)) (vsub (ptA l z) (ptA l i))) (by omega) (Int.le_of_lt hy)
    rw [Int.neg_mul] at this
    omega
/-- an edge with all points on its left begins at a corner -/
theorem nxt_corner {l : List Pt} (hg : Gen l) {D H : List Nat} (h : IsH (tur l) (befI l) D H) (hnd : D.Nodup) (h3 : 3 ≤ D.length) {i j : Nat} (hi : i ∈ D) (hn : nxt (tur l) D i j) : i ∈ H := by
  have hC := chi_of hg
  rcases Decidable.em (i ∈ H) with c | c
  · exact c
  have hH3 := h.three hC hnd h3
  obtain ⟨_, hlast⟩ := h.two hnd (by omega)
  have hne : ∀ k, k < H.length → i ≠ natAt H k := fun k hk e => c (by rw [e, natAt_eq hk]; exact List.getElem_mem _)
  exfalso
  by_cases hj : j ∈ H
  · obtain ⟨k, hk, e⟩ := List.getElem_of_mem hj
    rw [← natAt_eq hk] at e
    subst e
    rcases k with _ | k
    · exact hne _ (by omega) (nxt_prev hC hi (h.all _ (by omega)) hn hlast)
    · exact hne k (by omega) (nxt_prev hC hi (h.all _ (by omega)) hn (h.step k hk))
  · have hnj : ∀ k, k < H.length → natAt H k ≠ j := fun k hk e => hj (by rw [← e, natAt_eq hk]; exact List.getElem_mem _)
    have hl : ∀ k, k < H.length → 0 < tur l i j (natAt H k) := fun k hk => hn.2.2 _ (h.all k hk) (fun e => hne k hk e.symm) (hnj k hk)
    have hs : ∀ k, k + 1 < H.length → 0 < tur l i (natAt H k) (natAt H (k + 1)) := fun k hk => by
      have := (h.step k hk).2.2 i hi (hne k (by omega)) (hne (k + 1) hk)
      rwa [tur_cyc, tur_cyc] at this
    have hz : 0 < tur l i (natAt H (H.length - 1)) (natAt H 0) := by
      have := hlast.2.2 i hi (hne _ (by omega)) (hne 0 (by omega))
      rwa [tur_cyc, tur_cyc] at this
    have hall : ∀ k, k + 1 < H.length → 0 < tur l i (natAt H 0) (natAt H (k + 1)) := fun k => by
      induction k with
      | zero => exact fun hk => hs 0 hk
      | succ k ih => exact fun hk => tur_half (hl 0 (by omega)) (hl (k + 1) (by omega)) (hl (k + 2) hk) (ih (by omega)) (hs (k + 1) hk)
    have := hall (H.length - 2) (by omega)
    rw [show H.length - 2 + 1 = H.length - 1 by omega, tur_swap] at this
    omega

theorem leftN_zero {l : List Pt} {i j : Nat} : ∀ n, leftN l i j n = 0 ↔ ∀ k, k < n → ¬ 0 < tur l i j k
  | 0 => by simp [leftN]
  | n + 1 => by
    simp only [leftN]
    constructor
    · intro h k hk
      have h1 : leftN l i j n = 0 := by omega
      rcases Nat.lt_or_ge k n with c | c
      · exact (leftN_zero n).1 h1 k c
      · obtain rfl : k = n := by omega
        intro hp; rw [if_pos hp] at h; omega
    · intro h
      rw [(leftN_zero n).2 fun k hk => h k (by omega), if_neg (h n (by omega))]
theorem left_nxt {l : List Pt} (hg : Gen l) {os : List Nat} (ho : Ordd l os) {i j : Nat} (hi : i < l.length) (hj : j < l.length) (hij : i ≠ j) : leftAll l j i = 0 ↔ nxt (tur l) os i j := by
  have hm : ∀ x, x ∈ os ↔ x < l.length := fun x => by rw [ho.1.mem_iff, List.mem_range]
  unfold leftAll
  rw [leftN_zero]
  constructor
  · intro h
    refine ⟨(hm j).2 hj, fun e => hij e.symm, fun y hy n1 n2 => ?_⟩
    have hy' := (hm y).1 hy
    have h1 := h y hy'
    have h2 := tur_pm hg hi hj hy' hij (fun e => n2 e.symm) (fun e => n1 e.symm)
    rw [tur_anti] at h1
    omega
  · intro h k hk hp
    by_cases e1 : k = i
    · subst e1; rw [tur_self2] at hp; omega
    by_cases e2 : k = j
    · subst e2; rw [tur_self1] at hp; omega
    have := h.2.2 k ((hm k).2 hk) e1 e2
    rw [tur_anti] at hp
    omega

/-- from i to j all points are on the left -/
def nI (l : List Pt) (i j : Nat) : Nat := if i ≠ j ∧ leftAll l j i = 0 then 1 else 0
theorem sm_one {f : Nat → Nat} {j : Nat} : ∀ {n : Nat}, j < n → f j = 1 → (∀ i, i ≠ j → i < n → f i = 0) → sm f n = 1
  | 0, h, _, _ => by omega
  | n + 1, h, h1, h0 => by
    rcases Nat.lt_or_ge j n with c | c
    · simp only [sm]; rw [sm_one c h1 fun i hi hn => h0 i hi (by omega), h0 n (by omega) (by omega)]
    · obtain rfl : j = n := by omega
      simp only [sm]; rw [h1, sm_congr (g := fun _ => 0) fun i hi => h0 i (by omega) (by omega), sm_zero]
theorem sm_mem {H : List Nat} (hnd : H.Nodup) {n : Nat} (hs : ∀ x ∈ H, x < n) : sm (fun i => if i ∈ H then 1 else 0) n = H.length := by
  rw [← sm_map]
  have h2 : ((List.range n).filter fun i => decide (i ∈ H)).Perm H := (List.perm_ext_iff_of_nodup (List.nodup_range.sublist List.filter_sublist) hnd).2 fun x => by
    rw [List.mem_filter, decide_eq_true_eq, List.mem_range]; exact ⟨fun h => h.2, fun h => ⟨hs x h, h⟩⟩
  rw [← h2.length_eq]
  generalize List.range n = rs
  induction rs with
  | nil => rfl
  | cons x rs ih =>
    by_cases h : x ∈ H
    · rw [List.map_cons, List.sum_cons, ih, if_pos h, List.filter_cons_of_pos (by simpa using h), List.length_cons]; omega
    · rw [List.map_cons, List.sum_cons, ih, if_neg h, List.filter_cons_of_neg (by simpa using h)]; omega
/-- the number of 0-edges -/
theorem zero_edges {l : List Pt} (hg : Gen l) {os : List Nat} (ho : Ordd l os) (h3 : 3 ≤ l.length) : edgeC l (rpA l.length l.length) 0 = ((hullL (tur l) os).length : Int) := by
  have hC := chi_of hg
  have hlen : os.length = l.length := by rw [ho.1.length_eq, List.length_range]
  have hnd : os.Nodup := ho.1.nodup_iff.2 List.nodup_range
  have hm : ∀ x, x ∈ os ↔ x < l.length := fun x => by rw [ho.1.mem_iff, List.mem_range]
  have hH := rest_isH hg ho (List.Sublist.refl _) (fun e => by rw [e] at hlen; simp at hlen; omega)
  have hex : ∀ i j, i < l.length → j < l.length → nxt (tur l) os i j → nxt (tur l) os j i → False := fun i j hi hj a b => by
    obtain ⟨y, hy, n1, n2⟩ := third hnd (by omega) i j
    have s1 := a.2.2 y hy n1 n2
    have s2 := b.2.2 y hy n2 n1
    rw [tur_anti] at s2
    omega
  have h1 : (rpA l.length l.length).countP (fun p => decide (edgeS l p = 0)) = up2 (fun i j => nI l i j + nI l j i) l.length := by
    rw [countP_sum, sumP_rpA]
    refine up2_congr fun i j hij hj => ?_
    have hne : i ≠ j := by omega
    have q1 := left_nxt hg ho (i := i) (j := j) (by omega) hj hne
    have q2 := left_nxt hg ho (i := j) (j := i) hj (by omega) (fun e => hne e.symm)
    have q3 := hex i j (by omega) hj
    rw [← q1, ← q2] at q3
    have hne' : j ≠ i := fun e => hne e.symm
    unfold nI edgeS
    simp only [decide_eq_true_eq]
    by_cases c1 : leftAll l i j = 0 <;> by_cases c2 : leftAll l j i = 0
    · exact absurd c1 (fun e => q3 c2 e)
    · rw [if_pos (by omega), if_neg (by omega), if_pos ⟨hne', c1⟩]
    · rw [if_pos (by omega), if_pos ⟨hne, c2⟩, if_neg (by omega)]
    · rw [if_neg (by omega), if_neg (by omega), if_neg (by omega)]
  have h2 : sm2 (fun i j => nI l i j + nI l j i) l.length = 2 * up2 (fun i j => nI l i j + nI l j i) l.length := sm2_up (fun x y => Nat.add_comm _ _) (fun x => by unfold nI; simp) _
  have h4 : sm2 (fun i j => nI l i j + nI l j i) l.length = sm2 (nI l) l.length + sm2 (fun i j => nI l j i) l.length := sm2_add _ _ _
  have h5 : sm2 (fun i j => nI l j i) l.length = sm2 (nI l) l.length := sm2_swap _ _
  have h6 : sm2 (nI l) l.length = (hullL (tur l) os).length := by
    rw [← sm_mem (hH.nodup hC) (fun x hx => (hm x).1 (hH.sub x hx))]
    refine sm_congr fun i hi => ?_
    by_cases c : i ∈ hullL (tur l) os
    · rw [if_pos c]
      obtain ⟨k, hk, e⟩ := List.getElem_of_mem c
      rw [← natAt_eq hk] at e
      obtain ⟨j, hj⟩ : ∃ j, nxt (tur l) os i j := by
        rcases Nat.lt_or_ge (k + 1) (hullL (tur l) os).length with d | d
        · exact ⟨_, by have := hH.step k d; rwa [e] at this⟩
        · obtain ⟨_, b⟩ := hH.two hnd (by omega)
          rw [show (hullL (tur l) os).length - 1 = k by omega, e] at b
          exact ⟨_, b⟩
      have hjl := (hm j).1 hj.1
      have hij : i ≠ j := fun e => hj.2.1 e.symm
      refine sm_one hjl ?_ fun x hx hxl => ?_
      · unfold nI; rw [if_pos ⟨hij, (left_nxt hg ho hi hjl hij).2 hj⟩]
      · unfold nI
        rw [if_neg]
        rintro ⟨d1, d2⟩
        exact hx (nxt_unique hC ((left_nxt hg ho hi hxl d1).1 d2) hj)
    · rw [if_neg c, sm_congr (g := fun _ => 0) fun j hj => ?_, sm_zero]
      unfold nI
      rw [if_neg]
      rintro ⟨d1, d2⟩
      exact c (nxt_corner hg hH hnd (by omega) ((hm i).2 hi) ((left_nxt hg ho hi hj d1).1 d2))
  unfold edgeC
  rw [edge_congr hg 0 (fun p hp => by have := mem_rpA l.length l.length p hp; omega), h1]
  omega
end
section
def sI (f : Nat → Int) : Nat → Int
  | 0 => 0
  | n + 1 => sI f n + f n
theorem sI_congr {f g : Nat → Int} : ∀ {n : Nat}, (∀ i, i < n → f i = g i) → sI f n = sI g n
  | 0, _ => rfl
  | n + 1, h => by simp only [sI]; rw [sI_congr fun i hi => h i (by omega), h n (by omega)]
theorem sI_add (f g : Nat → Int) : ∀ n, sI (fun i => f i + g i) n = sI f n + sI g n
  | 0 => rfl
  | n + 1 => by simp only [sI]; rw [sI_add f g n]; omega
theorem sI_zero : ∀ n, sI (fun _ => 0) n = 0
  | 0 => rfl
  | n + 1 => by simp only [sI]; rw [sI_zero n]; rfl
theorem sI_one (g : Nat → Int) (a : Nat) : ∀ n, a < n → sI (fun k => if a = k then g k else 0) n = g a
  | 0, h => by omega
  | n + 1, h => by
    simp only [sI]
    by_cases e : a = n
    · subst e
      rw [if_pos rfl, sI_congr (g := fun _ => 0) fun i hi => if_neg (by omega), sI_zero]; omega
    · rw [if_neg e, sI_one g a n (by omega)]; omega
/-- a sum over the numbers of k-edges is one over the pairs -/
theorem edge_sum (l : List Pt) (g : Nat → Int) (K : Nat) : ∀ ps : List (Nat × Nat), (∀ p ∈ ps, edgeK l p < K) → sI (fun k => edgeC l ps k * g k) K = (ps.map fun p => g (edgeK l p)).sum
  | [], _ => by
    have e : sI (fun k => edgeC l [] k * g k) K = sI (fun _ => 0) K := sI_congr fun i _ => by simp [edgeC]
    rw [e, sI_zero]; rfl
  | p :: ps, h => by
    have e : sI (fun k => edgeC l (p :: ps) k * g k) K = sI (fun k => (if edgeK l p = k then g k else 0) + edgeC l ps k * g k) K := sI_congr fun k _ => by
      unfold edgeC
      rw [List.countP_cons]
      by_cases c : edgeK l p = k
      · simp [c, Int.add_mul]; omega
      · simp [c]
    rw [e, sI_add, sI_one _ _ _ (h p (by simp)), edge_sum l g K ps (fun q hq => h q (by simp [hq])), List.map_cons, List.sum_cons]
theorem rpA_edge {l : List Pt} {p : Nat × Nat} : edgeK l p < (l.length - 2) / 2 + 1 := by unfold edgeK; omega
theorem sum_ones : ∀ ps : List (Nat × Nat), (ps.map fun _ => (1 : Int)).sum = ps.length
  | [] => rfl
  | p :: ps => by rw [List.map_cons, List.sum_cons, sum_ones ps]; simp; omega
theorem rpA_count (n : Nat) : (rpA n n).length = up2 (fun _ _ => 1) n := by
  rw [← sumP_rpA (fun _ => 1)]
  unfold sumP
  generalize rpA n n = ps
  induction ps with
  | nil => rfl
  | cons p ps ih => rw [List.map_cons, List.sum_cons, ← ih, List.length_cons]; omega
theorem up2_ones : ∀ n, n < 15 → up2 (fun _ _ => 1) n = n * (n - 1) / 2 := by decide +kernel
/-- all pairs -/
theorem edges_all (l : List Pt) (h14 : l.length ≤ 14) : sI (edgeC l (rpA l.length l.length)) ((l.length - 2) / 2 + 1) = ((l.length * (l.length - 1) / 2 : Nat) : Int) := by
  have h := edge_sum l (fun _ => 1) ((l.length - 2) / 2 + 1) (rpA l.length l.length) fun _ _ => rpA_edge
  rw [sum_ones, rpA_count, up2_ones _ (by omega)] at h
  rw [← h]
  exact sI_congr fun i _ => (Int.mul_one _).symm
theorem sum_cast (f : Nat × Nat → Nat) : ∀ ps : List (Nat × Nat), (ps.map fun p => ((f p : Nat) : Int)).sum = ((sumP f ps : Nat) : Int)
  | [] => rfl
  | p :: ps => by rw [List.map_cons, List.sum_cons, sum_cast f ps]; unfold sumP; rw [List.map_cons, List.sum_cons]; omega
def choN (n : Int) : Nat → Int
  | 0 => 1
  | i + 1 => choN n i * (n - i) / (i + 1)
theorem up4_three : ∀ n, n < 15 → ((up4 (fun _ _ _ _ => 3) n : Nat) : Int) = 3 * choN n 4 := by decide +kernel
/-- the crossings -/
theorem edges_cross {l : List Pt} (hg : Gen l) (h14 : l.length ≤ 14) :
    3 * choN l.length 4 - sI (fun k => edgeC l (rpA l.length l.length) k * ((k : Int) * ((l.length : Int) - 2 - k))) ((l.length - 2) / 2 + 1) = cA l l.length l.length := by
  rw [edge_sum l _ _ _ fun _ _ => rpA_edge, ← up4_three _ (by omega), ← cross_sep hg (Nat.le_refl _)]
  have e : ((rpA l.length l.length).map fun p => (edgeK l p : Int) * ((l.length : Int) - 2 - (edgeK l p : Nat))) = (rpA l.length l.length).map fun p => ((leftAll l p.1 p.2 * leftAll l p.2 p.1 : Nat) : Int) := by
    refine List.map_congr_left fun p hp => ?_
    have hm := mem_rpA _ _ p hp
    have hchi := chi_of hg
    have h := leftN_both (l := l) (i := p.1) (j := p.2) (by omega) (fun k hk e1 e2 => hchi.gen (by omega) (by omega) hk (by omega) (fun e => e2 e.symm) (fun e => e1 e.symm)) (fun k => hchi.anti _ _ _) l.length (Nat.le_refl _)
    rw [if_pos (by omega), if_pos (by omega)] at h
    unfold edgeK leftAll
    generalize leftN l p.1 p.2 l.length = a at *
    generalize leftN l p.2 p.1 l.length = b at *
    generalize l.length = n at *
    have hb : b = n - 2 - a := by omega
    rcases Nat.le_total a b with c | c
    · rw [Nat.min_eq_left (by omega), Int.natCast_mul]; congr 1; omega
    · rw [Nat.min_eq_right (by omega), Int.natCast_mul, Int.mul_comm, ← hb]; congr 1; omega
  rw [e, sum_cast (fun p => leftAll l p.1 p.2 * leftAll l p.2 p.1), sumP_rpA]
  unfold sepS leftAll
  dsimp only
  omega
end
end Go.Proofs.Ythnabheibacbcaa
