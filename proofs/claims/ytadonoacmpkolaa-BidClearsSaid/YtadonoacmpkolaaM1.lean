/- Plain: the best worths and the first best allocation. -/
import Derived.Test.YtadonoacmpkolaaW11
namespace Go.Proofs.Ytadonoacmpkolaa

def valAt (b : List Int) (R : Nat → Int) (S s : Nat) : Int := at0 b s + R (andN S s)

theorem pick_spec (b : List Int) (R : Nat → Int) (S : Nat) : ∀ (l : List Nat), (∀ s ∈ l, 0 ≤ valAt b R S s) → l ≠ [] →
    (pickF b R S l).2 ∈ l ∧ (pickF b R S l).1 = valAt b R S (pickF b R S l).2 ∧ ∀ s ∈ l, valAt b R S s ≤ (pickF b R S l).1 ∧ (valAt b R S s = (pickF b R S l).1 → (pickF b R S l).2 ≤ s) := by
  have key : ∀ (n : Nat) (l : List Nat), l.length = n → (∀ s ∈ l, 0 ≤ valAt b R S s) → l ≠ [] →
      (pickF b R S l).2 ∈ l ∧ (pickF b R S l).1 = valAt b R S (pickF b R S l).2 ∧ ∀ s ∈ l, valAt b R S s ≤ (pickF b R S l).1 ∧ (valAt b R S s = (pickF b R S l).1 → (pickF b R S l).2 ≤ s) := by
    intro n
    induction n with
    | zero => intro l hl _ hne; exact absurd (List.eq_nil_of_length_eq_zero hl) hne
    | succ n ih =>
      intro l hl h0 hne
      obtain ⟨l', x, rfl⟩ : ∃ l' x, l = l' ++ [x] := ⟨l.dropLast, l.getLast hne, (List.dropLast_concat_getLast hne).symm⟩
      have hl' : l'.length = n := by simpa using hl
      rw [pickF_snoc]
      have hx := h0 x (by simp)
      by_cases he : l' = []
      · subst he
        have : pickOne b R S (pickF b R S []) x = (valAt b R S x, x) := by
          have hb : betterB (at0 b x + R (andN S x)) (x : Int) (-1) ((0 : Nat) : Int) = true := by
            unfold betterB
            have : (-1 : Int) < at0 b x + R (andN S x) := by unfold valAt at hx; omega
            simp [this]
          show pickOne b R S (-1, 0) x = _
          unfold pickOne valAt
          rw [if_pos hb]
        rw [this]
        refine ⟨by simp, rfl, fun s hs => ?_⟩
        simp at hs
        subst hs
        exact ⟨Int.le_refl _, fun _ => Nat.le_refl _⟩
      · obtain ⟨i1, i2, i3⟩ := ih l' hl' (fun s hs => h0 s (by simp [hs])) he
        generalize pickF b R S l' = p at *
        by_cases hb : betterB (at0 b x + R (andN S x)) (x : Int) p.1 (p.2 : Int) = true
        · have : pickOne b R S p x = (valAt b R S x, x) := by unfold pickOne valAt; rw [if_pos hb]
          rw [this]
          have hb' : p.1 < valAt b R S x ∨ (valAt b R S x = p.1 ∧ x < p.2) := by
            unfold betterB at hb
            simp only [Bool.or_eq_true, Bool.and_eq_true, decide_eq_true_eq] at hb
            unfold valAt
            omega
          refine ⟨by simp, rfl, fun s hs => ?_⟩
          rcases List.mem_append.1 hs with h | h
          · have := i3 s h
            refine ⟨by dsimp only; omega, fun e => ?_⟩
            dsimp only at e ⊢
            rcases hb' with h1 | ⟨h1, h2⟩
            · omega
            · have := this.2 (by omega); omega
          · simp at h; subst h; exact ⟨Int.le_refl _, fun _ => Nat.le_refl _⟩
        · have : pickOne b R S p x = p := by unfold pickOne; rw [if_neg hb]
          rw [this]
          have hb' : valAt b R S x < p.1 ∨ (valAt b R S x = p.1 ∧ p.2 ≤ x) := by
            unfold betterB at hb
            simp only [Bool.or_eq_true, Bool.and_eq_true, decide_eq_true_eq] at hb
            unfold valAt
            omega
          refine ⟨by simp [i1], i2, fun s hs => ?_⟩
          rcases List.mem_append.1 hs with h | h
          · exact i3 s h
          · simp at h; subst h
            exact ⟨by omega, fun e => by omega⟩
  intro l
  exact key l.length l rfl

/-- rows of numbers that are not negative -/
def Pos (bs : List (List Int)) : Prop := ∀ b ∈ bs, ∀ s, 0 ≤ at0 b s
theorem Pos.tail {b : List Int} {bs : List (List Int)} (h : Pos (b :: bs)) : Pos bs := fun c hc => h c (List.mem_cons_of_mem _ hc)
theorem Pos.head {b : List Int} {bs : List (List Int)} (h : Pos (b :: bs)) : ∀ s, 0 ≤ at0 b s := h b List.mem_cons_self

/-- the first bidder's bundle -/
def pickB (b : List Int) (bs : List (List Int)) (S : Nat) : Nat := (pickF b (wts bs) S (subs S)).2
theorem wts_nonneg : ∀ (bs : List (List Int)), Pos bs → ∀ S, 0 ≤ wts bs S
  | [], _, _ => Int.le_refl _
  | b :: bs, h, S => by
    have ih := wts_nonneg bs h.tail
    have hv : ∀ s ∈ subs S, 0 ≤ valAt b (wts bs) S s := fun s _ => by
      have := h.head s; have := ih (andN S s); unfold valAt; omega
    obtain ⟨h1, h2, _⟩ := pick_spec b (wts bs) S (subs S) hv (subs_ne S)
    show 0 ≤ (pickF b (wts bs) S (subs S)).1
    rw [h2]
    exact hv _ h1
theorem wts_cons {b : List Int} {bs : List (List Int)} (h : Pos (b :: bs)) (S : Nat) :
    pickB b bs S &&& S = pickB b bs S ∧ wts (b :: bs) S = at0 b (pickB b bs S) + wts bs (andN S (pickB b bs S)) ∧
      ∀ s, s &&& S = s → at0 b s + wts bs (andN S s) ≤ wts (b :: bs) S ∧ (at0 b s + wts bs (andN S s) = wts (b :: bs) S → pickB b bs S ≤ s) := by
  have ih := wts_nonneg bs h.tail
  have hv : ∀ s ∈ subs S, 0 ≤ valAt b (wts bs) S s := fun s _ => by
    have := h.head s; have := ih (andN S s); unfold valAt; omega
  obtain ⟨h1, h2, h3⟩ := pick_spec b (wts bs) S (subs S) hv (subs_ne S)
  refine ⟨(subs_mem.1 h1).2, h2, fun s hs => ?_⟩
  have hle : s ≤ S := by rw [← hs]; exact Nat.and_le_right
  exact h3 s (subs_mem.2 ⟨hle, hs⟩)
theorem alloc_cons (b : List Int) (bs : List (List Int)) (S : Nat) : alloc (b :: bs) S = pickB b bs S :: alloc bs (andN S (pickB b bs S)) := rfl

/-! ### the tables of the reference -/
def acc (b : List Int) (g : Nat → Int) (S : Nat) (on : Bool) : Nat → Int
  | 0 => 0
  | k + 1 => if andN k S = 0 ∧ (k = 0 ∨ on = true) then (if acc b g S on k < at0 b k + g (andN S k) then at0 b k + g (andN S k) else acc b g S on k) else acc b g S on k

theorem andN_zero (s S : Nat) : andN s S = 0 ↔ s &&& S = s := by
  constructor
  · intro h
    apply Nat.eq_of_testBit_eq
    intro i
    have := testBit_andN s S i
    rw [h, Nat.zero_testBit] at this
    rw [Nat.testBit_and]
    cases hs : s.testBit i <;> cases hS : S.testBit i <;> simp [hs, hS] at this ⊢
  · intro h
    apply Nat.eq_of_testBit_eq
    intro i
    rw [testBit_andN, Nat.zero_testBit, ← h, Nat.testBit_and]
    cases hs : s.testBit i <;> cases hS : S.testBit i <;> simp
theorem andN_nothing (S : Nat) : andN S 0 = S := by unfold andN; simp

theorem acc_ge (b : List Int) (g : Nat → Int) (S : Nat) (on : Bool) : ∀ k, 0 ≤ acc b g S on k ∧ ∀ s, s < k → s &&& S = s → (s = 0 ∨ on = true) → at0 b s + g (andN S s) ≤ acc b g S on k
  | 0 => ⟨Int.le_refl _, fun s h => absurd h (by omega)⟩
  | k + 1 => by
    obtain ⟨h1, h2⟩ := acc_ge b g S on k
    rw [acc]
    split
    · rename_i hc
      split
      · refine ⟨by omega, fun s hs hs2 ho => ?_⟩
        by_cases e : s = k
        · subst e; exact Int.le_refl _
        · have := h2 s (by omega) hs2 ho; omega
      · refine ⟨h1, fun s hs hs2 ho => ?_⟩
        by_cases e : s = k
        · subst e; omega
        · exact h2 s (by omega) hs2 ho
    · rename_i hc
      refine ⟨h1, fun s hs hs2 ho => ?_⟩
      by_cases e : s = k
      · subst e; exact absurd ⟨(andN_zero _ _).2 hs2, ho⟩ hc
      · exact h2 s (by omega) hs2 ho
theorem acc_le (b : List Int) (g : Nat → Int) (S : Nat) (on : Bool) (M : Int) (h0 : 0 ≤ M) (h : ∀ s, s &&& S = s → (s = 0 ∨ on = true) → at0 b s + g (andN S s) ≤ M) : ∀ k, acc b g S on k ≤ M
  | 0 => h0
  | k + 1 => by
    have ih := acc_le b g S on M h0 h k
    rw [acc]
    split
    · rename_i hc
      have := h k ((andN_zero _ _).1 hc.1) hc.2
      split <;> omega
    · exact ih
theorem acc_on {b : List Int} {bs : List (List Int)} (h : Pos (b :: bs)) (S : Nat) : acc b (wts bs) S true (S + 1) = wts (b :: bs) S := by
  obtain ⟨h1, h2, h3⟩ := wts_cons h S
  have hle : pickB b bs S ≤ S := by rw [← h1]; exact Nat.and_le_right
  have a := (acc_ge b (wts bs) S true (S + 1)).2 _ (by omega) h1 (.inr rfl)
  have c := acc_le b (wts bs) S true (wts (b :: bs) S) (wts_nonneg _ h S) (fun s hs _ => (h3 s hs).1) (S + 1)
  omega
theorem acc_off {b : List Int} {bs : List (List Int)} (h : Pos bs) (hb : at0 b 0 = 0) (S : Nat) : acc b (wts bs) S false (S + 1) = wts bs S := by
  have a := (acc_ge b (wts bs) S false (S + 1)).2 0 (by omega) (Nat.zero_and _) (.inl rfl)
  have c := acc_le b (wts bs) S false (wts bs S) (wts_nonneg _ h S) (fun s hs ho => by
    have : s = 0 := by rcases ho with h | h; exact h; cases h
    subst this
    rw [andN_nothing, hb]; omega) (S + 1)
  rw [andN_nothing, hb] at a
  omega

/-- the bidders of a set -/
def selR (who : Nat) : Nat → List (List Int) → List (List Int)
  | _, [] => []
  | k, b :: bs => if bitOf who k = 1 then b :: selR who (k + 1) bs else selR who (k + 1) bs
theorem selR_sub (who : Nat) : ∀ (bs : List (List Int)) (k : Nat) (b : List Int), b ∈ selR who k bs → b ∈ bs
  | [], _, _, h => by cases h
  | c :: bs, k, b, h => by
    rw [selR] at h
    split at h
    · rcases List.mem_cons.1 h with h | h
      · rw [h]; exact List.mem_cons_self
      · exact List.mem_cons_of_mem _ (selR_sub who bs _ b h)
    · exact List.mem_cons_of_mem _ (selR_sub who bs _ b h)
theorem Pos.sel {who k : Nat} {bs : List (List Int)} (h : Pos bs) : Pos (selR who k bs) := fun b hb => h b (selR_sub who bs k b hb)
/-- a row of the tables -/
def tblAt (who : Nat) (xs : List (List Int)) (k : Nat) (S : Nat) : Int := wts (selR who k (xs.drop k)) S
theorem tbl_step {who : Nat} {xs : List (List Int)} {k : Nat} (hk : k < xs.length) (hp : Pos xs) (hb : at0 (rowAt xs k) 0 = 0) (S : Nat) :
    acc (rowAt xs k) (tblAt who xs (k + 1)) S (bitOf who k == 1) (S + 1) = tblAt who xs k S := by
  have hd : xs.drop k = rowAt xs k :: xs.drop (k + 1) := by rw [rowAt_eq hk]; exact List.drop_eq_getElem_cons hk
  have hp1 : Pos (xs.drop (k + 1)) := fun b hb => hp b (List.mem_of_mem_drop hb)
  have hp0 : ∀ s, 0 ≤ at0 (rowAt xs k) s := by rw [rowAt_eq hk]; exact hp _ (List.getElem_mem hk)
  have hp2 : Pos (rowAt xs k :: selR who (k + 1) (xs.drop (k + 1))) := by
    intro b hb
    rcases List.mem_cons.1 hb with h | h
    · rw [h]; exact hp0
    · exact (hp1.sel) b h
  unfold tblAt
  rw [hd, selR]
  by_cases hbit : bitOf who k = 1
  · rw [if_pos hbit, show (bitOf who k == 1) = true by simp [hbit]]
    exact acc_on hp2 S
  · rw [if_neg hbit, show (bitOf who k == 1) = false by simp [hbit]]
    exact acc_off hp1.sel hb S
end Go.Proofs.Ytadonoacmpkolaa
