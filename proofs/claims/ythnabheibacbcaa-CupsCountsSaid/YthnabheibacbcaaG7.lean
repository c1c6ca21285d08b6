/- Plain: the reference's nested sums over four numbers are a count over a list of quadruples. No condition. -/
import Derived.Test.YthnabheibacbcaaF18
namespace Go.Proofs.Ythnabheibacbcaa

abbrev Quad := Nat × Nat × Nat × Nat
/-- the quadruples of numbers that rise, in their order -/
def qD (a b c : Nat) : Nat → List Quad
  | 0 => []
  | d + 1 => qD a b c d ++ if c < d then [(a, b, c, d)] else []
def qC (n a b : Nat) : Nat → List Quad
  | 0 => []
  | c + 1 => qC n a b c ++ if b < c then qD a b c n else []
def qB (n a : Nat) : Nat → List Quad
  | 0 => []
  | b + 1 => qB n a b ++ if a < b then qC n a b n else []
def qA (n : Nat) : Nat → List Quad
  | 0 => []
  | a + 1 => qA n a ++ qB n a n
def sqQ (l : List Pt) (os : List Nat) (q : Quad) : Bool := sq4 l os q.1 q.2.1 q.2.2.1 q.2.2.2
theorem qD_count (l : List Pt) (os : List Nat) (a b c : Nat) : ∀ d, sD4 l os a b c d = (qD a b c d).countP (sqQ l os)
  | 0 => rfl
  | d + 1 => by
    simp only [sD4, qD]
    rw [List.countP_append, qD_count l os a b c d]
    congr 1
    by_cases h : c < d
    · rw [if_pos h]
      by_cases h2 : sq4 l os a b c d = true
      · rw [if_pos ⟨h, h2⟩]; simp [sqQ, h2]
      · rw [if_neg (fun h' => h2 h'.2)]; simp [sqQ, h2]
    · rw [if_neg h, if_neg (fun h' => h h'.1)]; rfl
theorem qC_count (l : List Pt) (os : List Nat) (n a b : Nat) : ∀ c, sC4 l os n a b c = (qC n a b c).countP (sqQ l os)
  | 0 => rfl
  | c + 1 => by
    simp only [sC4, qC]
    rw [List.countP_append, qC_count l os n a b c]
    congr 1
    by_cases h : b < c
    · rw [if_pos h, if_pos h, qD_count]
    · rw [if_neg h, if_neg h]; rfl
theorem qB_count (l : List Pt) (os : List Nat) (n a : Nat) : ∀ b, sB4 l os n a b = (qB n a b).countP (sqQ l os)
  | 0 => rfl
  | b + 1 => by
    simp only [sB4, qB]
    rw [List.countP_append, qB_count l os n a b]
    congr 1
    by_cases h : a < b
    · rw [if_pos h, if_pos h, qC_count]
    · rw [if_neg h, if_neg h]; rfl
theorem qA_count (l : List Pt) (os : List Nat) (n : Nat) : ∀ a, sA4 l os n a = (qA n a).countP (sqQ l os)
  | 0 => rfl
  | a + 1 => by
    simp only [sA4, qA]
    rw [List.countP_append, qA_count l os n a, qB_count]
theorem mem_qD (a b c : Nat) (q : Quad) : ∀ d, q ∈ qD a b c d ↔ q.1 = a ∧ q.2.1 = b ∧ q.2.2.1 = c ∧ c < q.2.2.2 ∧ q.2.2.2 < d
  | 0 => by simp [qD]
  | d + 1 => by
    obtain ⟨x, y, z, u⟩ := q
    simp only [qD, List.mem_append]
    rw [mem_qD a b c _ d]
    dsimp only
    by_cases h : c < d
    · rw [if_pos h]; simp only [List.mem_cons, List.not_mem_nil, or_false, Prod.mk.injEq]; omega
    · rw [if_neg h]; simp only [List.not_mem_nil, or_false]; omega
theorem mem_qC (n a b : Nat) (q : Quad) : ∀ c, q ∈ qC n a b c ↔ q.1 = a ∧ q.2.1 = b ∧ b < q.2.2.1 ∧ q.2.2.1 < c ∧ q.2.2.1 < q.2.2.2 ∧ q.2.2.2 < n
  | 0 => by simp [qC]
  | c + 1 => by
    simp only [qC, List.mem_append]
    rw [mem_qC n a b q c]
    by_cases h : b < c
    · rw [if_pos h, mem_qD]; omega
    · rw [if_neg h]; simp only [List.not_mem_nil, or_false]; omega
theorem mem_qB (n a : Nat) (q : Quad) : ∀ b, q ∈ qB n a b ↔ q.1 = a ∧ a < q.2.1 ∧ q.2.1 < b ∧ q.2.1 < q.2.2.1 ∧ q.2.2.1 < n ∧ q.2.2.1 < q.2.2.2 ∧ q.2.2.2 < n
  | 0 => by simp [qB]
  | b + 1 => by
    simp only [qB, List.mem_append]
    rw [mem_qB n a q b]
    by_cases h : a < b
    · rw [if_pos h, mem_qC]; omega
    · rw [if_neg h]; simp only [List.not_mem_nil, or_false]; omega
theorem mem_qA (n : Nat) (q : Quad) : ∀ a, q ∈ qA n a ↔ q.1 < a ∧ q.1 < q.2.1 ∧ q.2.1 < q.2.2.1 ∧ q.2.2.1 < q.2.2.2 ∧ q.2.2.2 < n
  | 0 => by simp [qA]
  | a + 1 => by
    simp only [qA, List.mem_append]
    rw [mem_qA n q a, mem_qB]
    omega
theorem nodup_qD (a b c : Nat) : ∀ d, (qD a b c d).Nodup
  | 0 => List.nodup_nil
  | d + 1 => by
    simp only [qD]
    refine List.nodup_append.2 ⟨nodup_qD a b c d, by split <;> simp, fun x hx y hy e => ?_⟩
    subst e
    have h1 := ((mem_qD a b c x d).1 hx).2.2.2.2
    split at hy
    · simp at hy; subst hy; simp at h1
    · simp at hy
theorem nodup_qC (n a b : Nat) : ∀ c, (qC n a b c).Nodup
  | 0 => List.nodup_nil
  | c + 1 => by
    simp only [qC]
    refine List.nodup_append.2 ⟨nodup_qC n a b c, by split; exact nodup_qD _ _ _ _; exact List.nodup_nil, fun x hx y hy e => ?_⟩
    subst e
    have h1 := ((mem_qC n a b x c).1 hx).2.2.2.1
    split at hy
    · have := ((mem_qD _ _ _ _ _).1 hy).2.2.1; omega
    · simp at hy
theorem nodup_qB (n a : Nat) : ∀ b, (qB n a b).Nodup
  | 0 => List.nodup_nil
  | b + 1 => by
    simp only [qB]
    refine List.nodup_append.2 ⟨nodup_qB n a b, by split; exact nodup_qC _ _ _ _; exact List.nodup_nil, fun x hx y hy e => ?_⟩
    subst e
    have h1 := ((mem_qB n a x b).1 hx).2.2.1
    split at hy
    · have := ((mem_qC _ _ _ _ _).1 hy).2.1; omega
    · simp at hy
theorem nodup_qA (n : Nat) : ∀ a, (qA n a).Nodup
  | 0 => List.nodup_nil
  | a + 1 => by
    simp only [qA]
    refine List.nodup_append.2 ⟨nodup_qA n a, nodup_qB _ _ _, fun x hx y hy e => ?_⟩
    subst e
    have h1 := ((mem_qA n x a).1 hx).1
    have := ((mem_qB _ _ _ _).1 hy).1
    omega
end Go.Proofs.Ythnabheibacbcaa
