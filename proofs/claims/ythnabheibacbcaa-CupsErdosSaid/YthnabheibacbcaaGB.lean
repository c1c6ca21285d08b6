/- Plain: the reference's nested sums over four numbers are a count over a list of quadruples. No condition. Plain: the program's number of squares is the reference's. No condition. Plain: the program's number of squares is the reference's (the end). No condition. -/
import Derived.Test.YthnabheibacbcaaF18
import Derived.Test.YthnabheibacbcaaC13
namespace Go.Proofs.Ythnabheibacbcaa
section
abbrev Quad := Nat × Nat × Nat × Nat
/-- the quadruples of numbers that rise, in their order -/
def qD (a b c : Nat) : Nat → List Quad
  | 0 => []
  | d + 1 => qD a b c d ++ if c < d then [(a, b, c, d)] else []
def qC (n a b : Nat) : Nat → List Quad
  | 0 => []
  | c + 1 => qC n a b c ++ if b < c then qD a b c n else []
def qB (n a : Nat) : Nat → List Quad
  | 0 => []
  | b + 1 => qB n a b ++ if a < b then qC n a b n else []
def qA (n : Nat) : Nat → List Quad
  | 0 => []
  | a + 1 => qA n a ++ qB n a n
def sqQ (l : List Pt) (os : List Nat) (q : Quad) : Bool := sq4 l os q.1 q.2.1 q.2.2.1 q.2.2.2
theorem qD_count (l : List Pt) (os : List Nat) (a b c : Nat) : ∀ d, sD4 l os a b c d = (qD a b c d).countP (sqQ l os)
  | 0 => rfl
  | d + 1 => by
    simp only [sD4, qD]
    rw [List.countP_append, qD_count l os a b c d]
    congr 1
    by_cases h : c < d
    · rw [if_pos h]
      by_cases h2 : sq4 l os a b c d = true
      · rw [if_pos ⟨h, h2⟩]; simp [sqQ, h2]
      · rw [if_neg (fun h' => h2 h'.2)]; simp [sqQ, h2]
    · rw [if_neg h, if_neg (fun h' => h h'.1)]; rfl
theorem qC_count (l : List Pt) (os : List Nat) (n a b : Nat) : ∀ c, sC4 l os n a b c = (qC n a b c).countP (sqQ l os)
  | 0 => rfl
  | c + 1 => by
    simp only [sC4, qC]
    rw [List.countP_append, qC_count l os n a b c]
    congr 1
    by_cases h : b < c
    · rw [if_pos h, if_pos h, qD_count]
    · rw [if_neg h, if_neg h]; rfl
theorem qB_count (l : List Pt) (os : List Nat) (n a : Nat) : ∀ b, sB4 l os n a b = (qB n a b).countP (sqQ l os)
  | 0 => rfl
  | b + 1 => by
    simp only [sB4, qB]
    rw [List.countP_append, qB_count l os n a b]
    congr 1
    by_cases h : a < b
    · rw [if_pos h, if_pos h, qC_count]
    · rw [if_neg h, if_neg h]; rfl
theorem qA_count (l : List Pt) (os : List Nat) (n : Nat) : ∀ a, sA4 l os n a = (qA n a).countP (sqQ l os)
  | 0 => rfl
  | a + 1 => by
    simp only [sA4, qA]
    rw [List.countP_append, qA_count l os n a, qB_count]
theorem mem_qD (a b c : Nat) (q : Quad) : ∀ d, q ∈ qD a b c d ↔ q.1 = a ∧ q.2.1 = b ∧ q.2.2.1 = c ∧ c < q.2.2.2 ∧ q.2.2.2 < d
  | 0 => by simp [qD]
  | d + 1 => by
    obtain ⟨x, y, z, u⟩ := q
    simp only [qD, List.mem_append]
    rw [mem_qD a b c _ d]
    dsimp only
    by_cases h : c < d
    · rw [if_pos h]; simp only [List.mem_cons, List.not_mem_nil, or_false, Prod.mk.injEq]; omega
    · rw [if_neg h]; simp only [List.not_mem_nil, or_false]; omega
theorem mem_qC (n a b : Nat) (q : Quad) : ∀ c, q ∈ qC n a b c ↔ q.1 = a ∧ q.2.1 = b ∧ b < q.2.2.1 ∧ q.2.2.1 < c ∧ q.2.2.1 < q.2.2.2 ∧ q.2.2.2 < n
  | 0 => by simp [qC]
  | c + 1 => by
    simp only [qC, List.mem_append]
    rw [mem_qC n a b q c]
    by_cases h : b < c
    · rw [if_pos h, mem_qD]; omega
    · rw [if_neg h]; simp only [List.not_mem_nil, or_false]; omega
theorem mem_qB (n a : Nat) (q : Quad) : ∀ b, q ∈ qB n a b ↔ q.1 = a ∧ a < q.2.1 ∧ q.2.1 < b ∧ q.2.1 < q.2.2.1 ∧ q.2.2.1 < n ∧ q.2.2.1 < q.2.2.2 ∧ q.2.2.2 < n
  | 0 => by simp [qB]
  | b + 1 => by
    simp only [qB, List.mem_append]
    rw [mem_qB n a q b]
    by_cases h : a < b
    · rw [if_pos h, mem_qC]; omega
    · rw [if_neg h]; simp only [List.not_mem_nil, or_false]; omega
theorem mem_qA (n : Nat) (q : Quad) : ∀ a, q ∈ qA n a ↔ q.1 < a ∧ q.1 < q.2.1 ∧ q.2.1 < q.2.2.1 ∧ q.2.2.1 < q.2.2.2 ∧ q.2.2.2 < n
  | 0 => by simp [qA]
  | a + 1 => by
    simp only [qA, List.mem_append]
    rw [mem_qA n q a, mem_qB]
    omega
theorem nodup_qD (a b c : Nat) : ∀ d, (qD a b c d).Nodup
  | 0 => List.nodup_nil
  | d + 1 => by
    simp only [qD]
    refine List.nodup_append.2 ⟨nodup_qD a b c d, by split <;> simp, fun x hx y hy e => ?_⟩
    subst e
    have h1 := ((mem_qD a b c x d).1 hx).2.2.2.2
    split at hy
    · simp at hy; subst hy; simp at h1
    · simp at hy
theorem nodup_qC (n a b : Nat) : ∀ c, (qC n a b c).Nodup
  | 0 => List.nodup_nil
  | c + 1 => by
    simp only [qC]
    refine List.nodup_append.2 ⟨nodup_qC n a b c, by split; exact nodup_qD _ _ _ _; exact List.nodup_nil, fun x hx y hy e => ?_⟩
    subst e
    have h1 := ((mem_qC n a b x c).1 hx).2.2.2.1
    split at hy
    · have := ((mem_qD _ _ _ _ _).1 hy).2.2.1; omega
    · simp at hy
theorem nodup_qB (n a : Nat) : ∀ b, (qB n a b).Nodup
  | 0 => List.nodup_nil
  | b + 1 => by
    simp only [qB]
    refine List.nodup_append.2 ⟨nodup_qB n a b, by split; exact nodup_qC _ _ _ _; exact List.nodup_nil, fun x hx y hy e => ?_⟩
    subst e
    have h1 := ((mem_qB n a x b).1 hx).2.2.1
    split at hy
    · have := ((mem_qC _ _ _ _ _).1 hy).2.1; omega
    · simp at hy
theorem nodup_qA (n : Nat) : ∀ a, (qA n a).Nodup
  | 0 => List.nodup_nil
  | a + 1 => by
    simp only [qA]
    refine List.nodup_append.2 ⟨nodup_qA n a, nodup_qB _ _ _, fun x hx y hy e => ?_⟩
    subst e
    have h1 := ((mem_qA n x a).1 hx).1
    have := ((mem_qB _ _ _ _).1 hy).1
    omega
end
section
theorem sqN_count (l : List Pt) (os : List Nat) : ∀ N, sqN l os N = (List.range N).countP (sqOne l os)
  | 0 => rfl
  | N + 1 => by
    simp only [sqN]
    rw [List.range_succ, List.countP_append, sqN_count l os N]
    congr 1
    by_cases h : sqOne l os N = true <;> simp [h]
/-- a list of four as a quadruple -/
def dec4 (xs : List Nat) : Quad := (natAt xs 0, natAt xs 1, natAt xs 2, natAt xs 3)
theorem four_of {xs : List Nat} (h : xs.length = 4) : xs = [natAt xs 0, natAt xs 1, natAt xs 2, natAt xs 3] := by
  match xs, h with
  | [a, b, c, d], _ => rfl
theorem sub_mem {n k i : Nat} : i ∈ subL (List.range n) k ↔ i < n ∧ k.testBit i = true := by unfold subL; rw [List.mem_filter, List.mem_range]
theorem sub_len {os : List Nat} {n : Nat} (ho : os.Perm (List.range n)) (k : Nat) : (subL os k).length = (subL (List.range n) k).length := (ho.filter _).length_eq
theorem sub_sel {os : List Nat} {n : Nat} (ho : os.Perm (List.range n)) {k : Nat} (h : (subL (List.range n) k).length = 4) :
    subL os k = sel4 os (dec4 (subL (List.range n) k)).1 (dec4 (subL (List.range n) k)).2.1 (dec4 (subL (List.range n) k)).2.2.1 (dec4 (subL (List.range n) k)).2.2.2 := by
  have hm : ∀ i, i < n → (k.testBit i = true ↔ i ∈ subL (List.range n) k) := fun i hi => by rw [sub_mem]; exact ⟨fun h => ⟨hi, h⟩, fun h => h.2⟩
  generalize subL (List.range n) k = xs at *
  have h4 := four_of h
  unfold subL sel4 dec4
  refine List.filter_congr fun i hi => ?_
  have hi' : i < n := by simpa using ho.mem_iff.1 hi
  have h5 := hm i hi'
  rw [h4] at h5
  simp only [List.mem_cons, List.not_mem_nil, or_false] at h5
  dsimp only
  rw [Bool.eq_iff_iff, h5, decide_eq_true_eq]
theorem sorted_sub (n k : Nat) : (subL (List.range n) k).Pairwise (· < ·) := List.pairwise_lt_range.sublist List.filter_sublist
theorem dec_mem {n k : Nat} (h : (subL (List.range n) k).length = 4) : dec4 (subL (List.range n) k) ∈ qA n n := by
  rw [mem_qA]
  have hs := sorted_sub n k
  have hm : ∀ i ∈ subL (List.range n) k, i < n := fun i hi => (sub_mem.1 hi).1
  generalize subL (List.range n) k = xs at *
  rw [four_of h] at hs hm
  unfold dec4
  simp only [List.pairwise_cons, List.mem_cons, List.not_mem_nil, or_false] at hs hm
  have a1 := hs.1 (natAt xs 1) (.inl rfl)
  have a2 := hs.2.1 (natAt xs 2) (.inl rfl)
  have a3 := hs.2.2.1 (natAt xs 3) rfl
  have a4 := hm (natAt xs 3) (.inr (.inr (.inr rfl)))
  have a5 := hm (natAt xs 0) (.inl rfl)
  dsimp only
  omega
theorem dec_inj {n k k' : Nat} (hk : k < 2 ^ n) (hk' : k' < 2 ^ n) (h : (subL (List.range n) k).length = 4) (h' : (subL (List.range n) k').length = 4) (e : dec4 (subL (List.range n) k) = dec4 (subL (List.range n) k')) : k = k' := by
  have e2 : subL (List.range n) k = subL (List.range n) k' := by
    rw [four_of h, four_of h']
    unfold dec4 at e
    simp only [Prod.mk.injEq] at e
    obtain ⟨e0, e1, e2, e3⟩ := e
    rw [e0, e1, e2, e3]
  refine Nat.eq_of_testBit_eq fun i => ?_
  by_cases hi : i < n
  · have h1 : i ∈ subL (List.range n) k ↔ i ∈ subL (List.range n) k' := by rw [e2]
    rw [sub_mem, sub_mem] at h1
    rw [Bool.eq_iff_iff]
    exact ⟨fun h => (h1.1 ⟨hi, h⟩).2, fun h => (h1.2 ⟨hi, h⟩).2⟩
  · have hp : 2 ^ n ≤ 2 ^ i := Nat.pow_le_pow_right (by omega) (by omega)
    rw [Nat.testBit_lt_two_pow (by omega), Nat.testBit_lt_two_pow (by omega)]
end
section
theorem dec_onto {n : Nat} {q : Quad} (h : q ∈ qA n n) : ∃ k, k < 2 ^ n ∧ (subL (List.range n) k).length = 4 ∧ dec4 (subL (List.range n) k) = q := by
  obtain ⟨a, b, c, d⟩ := q
  rw [mem_qA] at h
  dsimp only at h
  have hp : ∀ i, i < n → 2 ^ i < 2 ^ n := fun i hi => Nat.pow_lt_pow_right (by omega) hi
  refine ⟨2 ^ a ||| 2 ^ b ||| 2 ^ c ||| 2 ^ d, ?_, ?_⟩
  · exact Nat.or_lt_two_pow (Nat.or_lt_two_pow (Nat.or_lt_two_pow (hp _ (by omega)) (hp _ (by omega))) (hp _ (by omega))) (hp _ (by omega))
  have hm : ∀ i, i ∈ subL (List.range n) (2 ^ a ||| 2 ^ b ||| 2 ^ c ||| 2 ^ d) ↔ i ∈ [a, b, c, d] := fun i => by
    rw [sub_mem]
    simp only [Nat.testBit_or, Nat.testBit_two_pow, Bool.or_eq_true, decide_eq_true_eq, List.mem_cons, List.not_mem_nil, or_false]
    omega
  have hs := sorted_sub n (2 ^ a ||| 2 ^ b ||| 2 ^ c ||| 2 ^ d)
  generalize subL (List.range n) (2 ^ a ||| 2 ^ b ||| 2 ^ c ||| 2 ^ d) = xs at *
  have hnd : xs.Nodup := hs.imp (fun h => by omega)
  have hnd2 : [a, b, c, d].Nodup := by simp; omega
  have hl : xs.length = 4 := ((List.perm_ext_iff_of_nodup hnd hnd2).2 hm).length_eq
  refine ⟨hl, ?_⟩
  have h4 := four_of hl
  unfold dec4
  generalize natAt xs 0 = x0 at *
  generalize natAt xs 1 = x1 at *
  generalize natAt xs 2 = x2 at *
  generalize natAt xs 3 = x3 at *
  subst h4
  simp only [List.pairwise_cons, List.mem_cons, List.not_mem_nil, or_false] at hs hm
  have s1 := hs.1 x1 (.inl rfl)
  have s2 := hs.2.1 x2 (.inl rfl)
  have s3 := hs.2.2.1 x3 rfl
  have m0 := (hm x0).1 (.inl rfl)
  have m3 := (hm x3).1 (.inr (.inr (.inr rfl)))
  have m1 := (hm x1).1 (.inr (.inl rfl))
  have m2 := (hm x2).1 (.inr (.inr (.inl rfl)))
  have e0 : x0 = a := by omega
  have e3 : x3 = d := by omega
  have e1 : x1 = b := by omega
  have e2 : x2 = c := by omega
  rw [e0, e1, e2, e3]
theorem squares_eq (l : List Pt) {os : List Nat} {n : Nat} (ho : os.Perm (List.range n)) : sqN l os (2 ^ n) = sA4 l os n n := by
  rw [sqN_count, qA_count]
  have h1 : (List.range (2 ^ n)).countP (sqOne l os) = ((List.range (2 ^ n)).filter fun k => decide ((subL (List.range n) k).length = 4)).countP fun k => sqQ l os (dec4 (subL (List.range n) k)) := by
    rw [List.countP_filter]
    refine List.countP_congr fun k _ => ?_
    unfold sqOne
    rw [sub_len ho]
    by_cases h : (subL (List.range n) k).length = 4
    · rw [sub_sel ho h]; simp [h, sqQ, sq4]
    · simp [h]
  rw [h1, show (fun k => sqQ l os (dec4 (subL (List.range n) k))) = (sqQ l os ∘ fun k => dec4 (subL (List.range n) k)) from rfl, ← List.countP_map]
  refine List.Perm.countP_eq _ ((List.perm_ext_iff_of_nodup ?_ (nodup_qA n n)).2 fun q => ?_)
  · refine List.pairwise_map.2 ?_
    refine (List.Pairwise.sublist List.filter_sublist List.nodup_range).imp_of_mem fun {a b} ha hb hne e => hne ?_
    rw [List.mem_filter, List.mem_range, decide_eq_true_eq] at ha hb
    exact dec_inj ha.1 hb.1 ha.2 hb.2 e
  · rw [List.mem_map]
    constructor
    · rintro ⟨k, hk, rfl⟩
      rw [List.mem_filter, decide_eq_true_eq] at hk
      exact dec_mem hk.2
    · intro h
      obtain ⟨k, h1, h2, h3⟩ := dec_onto h
      exact ⟨k, by rw [List.mem_filter, List.mem_range, decide_eq_true_eq]; exact ⟨h1, h2⟩, h3⟩
end
end Go.Proofs.Ythnabheibacbcaa
