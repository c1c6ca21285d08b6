/- Plain: bidders who want one item each. The best worth of some bidders and some items; what may be moved from one side to another. No condition. -/
namespace Go.Proofs.Ytadonoacmpkolaa.Asg

abbrev Items := Nat → Bool
abbrev Val := Nat → Int
def del (S : Items) (j : Nat) : Items := fun i => S i && decide (i ≠ j)
def ins (S : Items) (j : Nat) : Items := fun i => S i || decide (i = j)

def upto (v : Val) (g : Items → Int) (S : Items) : Nat → Int
  | 0 => g S
  | k + 1 => if S k = true ∧ upto v g S k < v k + g (del S k) then v k + g (del S k) else upto v g S k
/-- the best worth -/
def F (m : Nat) : List Val → Items → Int
  | [], _ => 0
  | v :: vs, S => upto v (F m vs) S m

theorem upto_ge (v : Val) (g : Items → Int) (S : Items) : ∀ m, g S ≤ upto v g S m ∧ ∀ k, k < m → S k = true → v k + g (del S k) ≤ upto v g S m
  | 0 => ⟨Int.le_refl _, fun k h => absurd h (by omega)⟩
  | m + 1 => by
    obtain ⟨h1, h2⟩ := upto_ge v g S m
    rw [upto]
    split
    · rename_i hc
      refine ⟨by omega, fun k hk hS => ?_⟩
      by_cases e : k = m
      · subst e; exact Int.le_refl _
      · have := h2 k (by omega) hS; omega
    · rename_i hc
      refine ⟨h1, fun k hk hS => ?_⟩
      by_cases e : k = m
      · subst e
        have : ¬ upto v g S k < v k + g (del S k) := fun h => hc ⟨hS, h⟩
        omega
      · exact h2 k (by omega) hS
theorem upto_mem (v : Val) (g : Items → Int) (S : Items) : ∀ m, upto v g S m = g S ∨ ∃ k, k < m ∧ S k = true ∧ upto v g S m = v k + g (del S k)
  | 0 => .inl rfl
  | m + 1 => by
    rw [upto]
    split
    · rename_i hc
      exact .inr ⟨m, by omega, hc.1, rfl⟩
    · rcases upto_mem v g S m with h | ⟨k, h1, h2, h3⟩
      · exact .inl h
      · exact .inr ⟨k, by omega, h2, h3⟩

section
variable {m : Nat}
theorem F_skip (v : Val) (vs : List Val) (S : Items) : F m vs S ≤ F m (v :: vs) S := (upto_ge v (F m vs) S m).1
theorem F_take (v : Val) (vs : List Val) (S : Items) (k : Nat) (hk : k < m) (hS : S k = true) : v k + F m vs (del S k) ≤ F m (v :: vs) S := (upto_ge v (F m vs) S m).2 k hk hS
theorem F_cases (v : Val) (vs : List Val) (S : Items) : F m (v :: vs) S = F m vs S ∨ ∃ k, k < m ∧ S k = true ∧ F m (v :: vs) S = v k + F m vs (del S k) := upto_mem v (F m vs) S m

theorem del_comm (S : Items) (j k : Nat) : del (del S j) k = del (del S k) j := by
  funext i; unfold del; cases S i <;> simp [Bool.and_comm]
theorem del_at (S : Items) (j i : Nat) : del S j i = (S i && decide (i ≠ j)) := rfl
theorem del_ne {S : Items} {j i : Nat} (h : S i = true) (hne : i ≠ j) : del S j i = true := by rw [del_at, h]; simp [hne]

theorem F_mono : ∀ (vs : List Val) (S T : Items), (∀ i, S i = true → T i = true) → F m vs S ≤ F m vs T
  | [], _, _, _ => Int.le_refl _
  | v :: vs, S, T, h => by
    rcases F_cases (m := m) v vs S with e | ⟨k, hk, hS, e⟩
    · rw [e]
      exact Int.le_trans (F_mono vs S T h) (F_skip v vs T)
    · rw [e]
      have h1 := F_mono vs (del S k) (del T k) (fun i hi => by
        rw [del_at] at hi ⊢
        simp only [Bool.and_eq_true] at hi ⊢
        exact ⟨h i hi.1, hi.2⟩)
      have h2 := F_take (m := m) v vs T k hk (h k hS)
      omega
theorem F_del (vs : List Val) (S : Items) (j : Nat) : F m vs (del S j) ≤ F m vs S := F_mono vs _ _ fun i hi => by
  rw [del_at] at hi
  simp only [Bool.and_eq_true] at hi
  exact hi.1
theorem F_ins (vs : List Val) (S : Items) (j : Nat) : F m vs S ≤ F m vs (ins S j) := F_mono vs _ _ fun i hi => by
  unfold ins; rw [hi]; rfl
theorem F_nonneg : ∀ (vs : List Val) (S : Items), 0 ≤ F m vs S
  | [], _ => Int.le_refl _
  | v :: vs, S => Int.le_trans (F_nonneg vs S) (F_skip v vs S)

theorem F_swap_le (u v : Val) (vs : List Val) (S : Items) : F m (u :: v :: vs) S ≤ F m (v :: u :: vs) S := by
  rcases F_cases (m := m) u (v :: vs) S with e | ⟨k, hk, hS, e⟩
  · rw [e]
    rcases F_cases (m := m) v vs S with e2 | ⟨l, hl, hSl, e2⟩
    · rw [e2]; exact Int.le_trans (F_skip u vs S) (F_skip v _ S)
    · rw [e2]
      have h1 := F_take (m := m) v (u :: vs) S l hl hSl
      have h2 := F_skip (m := m) u vs (del S l)
      omega
  · rw [e]
    rcases F_cases (m := m) v vs (del S k) with e2 | ⟨l, hl, hSl, e2⟩
    · rw [e2]
      have h1 := F_take (m := m) u vs S k hk hS
      have h2 := F_skip (m := m) v (u :: vs) S
      omega
    · rw [e2]
      rw [del_at] at hSl
      simp only [Bool.and_eq_true, decide_eq_true_eq] at hSl
      have h1 := F_take (m := m) v (u :: vs) S l hl hSl.1
      have h2 := F_take (m := m) u vs (del S l) k hk (del_ne hS fun h => hSl.2 h.symm)
      rw [del_comm] at h2
      omega
theorem F_perm {vs ws : List Val} (h : vs.Perm ws) : ∀ S, F m vs S = F m ws S := by
  induction h with
  | nil => intro S; rfl
  | cons x h ih =>
    intro S
    have : ∀ (as bs : List Val), (∀ S, F m as S = F m bs S) → F m (x :: as) S ≤ F m (x :: bs) S := fun as bs hh => by
      rcases F_cases (m := m) x as S with e | ⟨k, hk, hS, e⟩
      · rw [e, hh]; exact F_skip x bs S
      · rw [e, hh]; exact F_take x bs S k hk hS
    exact Int.le_antisymm (this _ _ ih) (this _ _ fun S => (ih S).symm)
  | swap x y l => intro S; exact Int.le_antisymm (F_swap_le _ _ _ _) (F_swap_le _ _ _ _)
  | trans h1 h2 ih1 ih2 => intro S; rw [ih1, ih2]

/-- who holds item j -/
theorem hold (j : Nat) (hj : j < m) : ∀ (vs : List Val) (S : Items), S j = true →
    F m vs S ≤ F m vs (del S j) ∨ ∃ v rest, vs.Perm (v :: rest) ∧ F m vs S ≤ v j + F m rest (del S j)
  | [], _, _ => .inl (Int.le_refl _)
  | u :: us, S, hS => by
    rcases F_cases (m := m) u us S with e | ⟨k, hk, hSk, e⟩
    · rcases hold j hj us S hS with h | ⟨v, rest, hp, h⟩
      · exact .inl (by rw [e]; exact Int.le_trans h (F_skip u us _))
      · refine .inr ⟨v, u :: rest, (List.Perm.cons u hp).trans (List.Perm.swap v u rest), ?_⟩
        have := F_skip (m := m) u rest (del S j)
        omega
    · by_cases hkj : k = j
      · subst hkj
        exact .inr ⟨u, us, List.Perm.refl _, by omega⟩
      · rcases hold j hj us (del S k) (del_ne hS fun h => hkj h.symm) with h | ⟨v, rest, hp, h⟩
        · have h2 := F_take (m := m) u us (del S j) k hk (del_ne hSk hkj)
          rw [del_comm] at h
          exact .inl (by omega)
        · refine .inr ⟨v, u :: rest, (List.Perm.cons u hp).trans (List.Perm.swap v u rest), ?_⟩
          have h2 := F_take (m := m) u rest (del S j) k hk (del_ne hSk hkj)
          rw [del_comm] at h
          omega

theorem ins_del {B : Items} {b : Nat} (h : B b = true) : ins (del B b) b = B := by
  funext i; unfold ins del
  by_cases e : i = b
  · subst e; simp [h]
  · simp [e]
theorem del_ins {B : Items} {b : Nat} (h : B b = false) : del (ins B b) b = B := by
  funext i; unfold ins del
  by_cases e : i = b
  · subst e; simp [h]
  · simp [e]
theorem del_ins_ne (B : Items) {b j : Nat} (h : b ≠ j) : del (ins B j) b = ins (del B b) j := by
  funext i; unfold ins del
  by_cases e : i = j
  · subst e; simp; exact fun h' => h h'.symm
  · simp [e]
theorem ins_mem (B : Items) (j : Nat) : ins B j j = true := by unfold ins; simp

/-- an item moves from one side to the other, against nothing or against another one -/
theorem exch : ∀ (n : Nat) (vs : List Val), vs.length = n → ∀ (A B : Items) (j : Nat), j < m → A j = true → B j = false →
    F m vs A + F m vs B ≤ F m vs (del A j) + F m vs (ins B j) ∨
    ∃ c, c < m ∧ B c = true ∧ A c = false ∧ F m vs A + F m vs B ≤ F m vs (ins (del A j) c) + F m vs (del (ins B j) c) := by
  intro n
  induction n with
  | zero =>
    intro vs hl A B j hj hA hB
    obtain rfl := List.eq_nil_of_length_eq_zero hl
    exact .inl (Int.le_refl _)
  | succ n ih =>
    intro vs hl A B j hj hA hB
    rcases hold j hj vs A hA with h | ⟨v, rest, hp, h⟩
    · exact .inl (Int.add_le_add h (F_ins vs B j))
    · have hlr : rest.length = n := by have := hp.length_eq; simp at this; omega
      have ev : ∀ S, F m vs S = F m (v :: rest) S := F_perm hp
      rcases F_cases (m := m) v rest B with e | ⟨b, hb, hBb, e⟩
      · refine .inl ?_
        have h1 := F_take (m := m) v rest (ins B j) j hj (ins_mem B j)
        rw [del_ins hB] at h1
        have h2 := F_skip (m := m) v rest (del A j)
        rw [ev B, e, ev (del A j), ev (ins B j)]
        omega
      · have hbj : b ≠ j := by intro h; rw [h, hB] at hBb; cases hBb
        cases hAb : A b with
        | false =>
          refine .inr ⟨b, hb, hBb, hAb, ?_⟩
          have hd : del A j b = false := by rw [del_at, hAb]; rfl
          have h1 := F_take (m := m) v rest (ins (del A j) b) b hb (ins_mem _ b)
          rw [del_ins hd] at h1
          have h2 := F_take (m := m) v rest (del (ins B j) b) j hj (del_ne (ins_mem B j) fun h => hbj h.symm)
          rw [del_comm, del_ins hB] at h2
          rw [ev B, e, ev (ins (del A j) b), ev (del (ins B j) b)]
          omega
        | true =>
          have hA' : del A j b = true := del_ne hAb hbj
          have hB' : del B b b = false := by rw [del_at]; simp
          rcases ih rest hlr (del A j) (del B b) b hb hA' hB' with h3 | ⟨c, hc, hBc, hAc, h3⟩
          · refine .inl ?_
            rw [ins_del hBb] at h3
            have h1 := F_take (m := m) v rest (del A j) b hb hA'
            have h2 := F_take (m := m) v rest (ins B j) j hj (ins_mem B j)
            rw [del_ins hB] at h2
            rw [ev B, e, ev (del A j), ev (ins B j)]
            omega
          · rw [del_at] at hBc
            simp only [Bool.and_eq_true, decide_eq_true_eq] at hBc
            have hcj : c ≠ j := by intro h; rw [h, hB] at hBc; cases hBc.1
            have hAc' : A c = false := by
              rw [del_at] at hAc
              simpa [hcj] using hAc
            refine .inr ⟨c, hc, hBc.1, hAc', ?_⟩
            rw [ins_del hBb] at h3
            have h1 := F_take (m := m) v rest (ins (del A j) c) b hb (by unfold ins; rw [hA']; rfl)
            rw [del_ins_ne _ (fun h => hBc.2 h.symm)] at h1
            have h2 := F_take (m := m) v rest (del (ins B j) c) j hj (del_ne (ins_mem B j) fun h => hcj h.symm)
            rw [del_comm, del_ins hB] at h2
            rw [ev B, e, ev (ins (del A j) c), ev (del (ins B j) c)]
            omega

theorem submod (vs : List Val) (A : Items) (j k : Nat) (hj : j < m) (hjk : j ≠ k) (hA : A j = true) : F m vs A + F m vs (del (del A j) k) ≤ F m vs (del A j) + F m vs (del A k) := by
  rcases exch (m := m) vs.length vs rfl A (del (del A j) k) j hj hA (by rw [del_at, del_at]; simp) with h | ⟨c, _, hB, hA', _⟩
  · rw [show ins (del (del A j) k) j = del A k by rw [del_comm A j k]; exact ins_del (del_ne hA hjk)] at h
    exact h
  · rw [del_at, del_at, hA'] at hB; cases hB

theorem three (vs : List Val) (S : Items) (j k l : Nat) (hj : j < m) (hk : k < m) (hjk : j ≠ k) (hjl : j ≠ l) (hkl : k ≠ l) (hSj : S j = true) (hSk : S k = true) (hSl : S l = true) :
    F m vs (del (del S j) l) + F m vs (del S k) ≤ F m vs (del (del S k) l) + F m vs (del S j) ∨ F m vs (del (del S j) l) + F m vs (del S k) ≤ F m vs (del (del S j) k) + F m vs (del S l) := by
  rcases exch (m := m) vs.length vs rfl (del (del S j) l) (del S k) k hk (del_ne (del_ne hSk fun h => hjk h.symm) hkl) (by rw [del_at]; simp) with h | ⟨c, hc, hB, hA', h⟩
  · rw [ins_del hSk] at h
    have h2 := submod (m := m) vs S j l hj hjl hSj
    rcases exch (m := m) vs.length vs rfl S (del (del (del S j) l) k) j hj hSj (by rw [del_at, del_at, del_at]; simp) with h3 | ⟨c, _, hB, hA', _⟩
    · rw [show ins (del (del (del S j) l) k) j = del (del S k) l by
        rw [show del (del (del S j) l) k = del (del (del S k) l) j by rw [del_comm (del S j) l k, del_comm S j k, del_comm (del S k) j l]]
        exact ins_del (del_ne (del_ne hSj hjk) hjl)] at h3
      exact .inl (by omega)
    · rw [del_at, del_at, del_at, hA'] at hB; cases hB
  · rw [ins_del hSk] at h
    rw [del_at] at hB
    simp only [Bool.and_eq_true, decide_eq_true_eq] at hB
    have hc2 : c = j ∨ c = l := by
      rw [del_at, del_at, hB.1] at hA'
      simp at hA'
      by_cases e : c = j
      · exact .inl e
      · exact .inr (hA' e)
    rcases hc2 with rfl | rfl
    · rw [show ins (del (del (del S c) l) k) c = del (del S k) l by
        rw [show del (del (del S c) l) k = del (del (del S k) l) c by rw [del_comm (del S c) l k, del_comm S c k, del_comm (del S k) c l]]
        exact ins_del (del_ne (del_ne hSj hjk) hjl)] at h
      exact .inl h
    · rw [show ins (del (del (del S j) c) k) c = del (del S j) k by
        rw [del_comm (del S j) c k]
        exact ins_del (del_ne (del_ne hSl fun h => hjl h.symm) fun h => hkl h.symm)] at h
      exact .inr h

/-- a bidder who holds k would not rather have j, at the prices 'what an item adds' -/
theorem price_some {vs rest : List Val} {v : Val} (hp : vs.Perm (v :: rest)) (M : Items) (j k : Nat) (hj : j < m) (hk : k < m) (hjk : j ≠ k) (hMj : M j = true) (hMk : M k = true) (hopt : F m vs M = v k + F m rest (del M k)) :
    F m vs (del M j) + v j ≤ F m vs (del M k) + v k := by
  have ev : ∀ S, F m vs S = F m (v :: rest) S := F_perm hp
  have o1 := F_take (m := m) v rest M j hj hMj
  rw [← ev, hopt] at o1
  rcases F_cases (m := m) v rest (del M j) with e | ⟨l, hl, hMl, e⟩
  · have h1 := F_skip (m := m) v rest (del M k)
    rw [ev (del M j), ev (del M k), e]
    omega
  · rw [del_at] at hMl
    simp only [Bool.and_eq_true, decide_eq_true_eq] at hMl
    obtain ⟨hMl, hlj⟩ := hMl
    by_cases hlk : l = k
    · subst hlk
      have h1 := F_take (m := m) v rest (del M l) j hj (del_ne hMj hjk)
      rw [del_comm] at h1
      rw [ev (del M j), ev (del M l), e]
      omega
    · have o2 := F_take (m := m) v rest M l hl hMl
      rw [← ev, hopt] at o2
      have a1 := F_take (m := m) v rest (del M k) l hl (del_ne hMl hlk)
      have a2 := F_take (m := m) v rest (del M k) j hj (del_ne hMj hjk)
      rcases three (m := m) rest M j k l hj hk hjk (fun h => hlj h.symm) (fun h => hlk h.symm) hMj hMk hMl with h | h
      · rw [ev (del M j), ev (del M k), e]
        omega
      · rw [ev (del M j), ev (del M k), e]
        rw [del_comm M k j] at a2
        omega
/-- .. and so one who holds nothing -/
theorem price_none {vs rest : List Val} {v : Val} (hp : vs.Perm (v :: rest)) (M : Items) (j : Nat) (hj : j < m) (hMj : M j = true) (hopt : F m vs M = F m rest M) :
    F m vs (del M j) + v j ≤ F m vs M := by
  have ev : ∀ S, F m vs S = F m (v :: rest) S := F_perm hp
  have o1 := F_take (m := m) v rest M j hj hMj
  rw [← ev] at o1
  rcases F_cases (m := m) v rest (del M j) with e | ⟨l, hl, hMl, e⟩
  · rw [ev (del M j), e]; omega
  · rw [del_at] at hMl
    simp only [Bool.and_eq_true, decide_eq_true_eq] at hMl
    have o2 := F_take (m := m) v rest M l hl hMl.1
    rw [← ev] at o2
    have h := submod (m := m) rest M j l hj (fun h => hMl.2 h.symm) hMj
    rw [ev (del M j), e]
    omega

/-! ### bidders move -/
theorem hold2 (i' : Val) (L : List Val) (A : Items) (b : Nat) (hb : b < m) (hA : A b = true) :
    F m (i' :: L) A ≤ F m (i' :: L) (del A b) ∨ F m (i' :: L) A ≤ i' b + F m L (del A b) ∨ ∃ v rest, L.Perm (v :: rest) ∧ F m (i' :: L) A ≤ v b + F m (i' :: rest) (del A b) := by
  rcases F_cases (m := m) i' L A with e | ⟨k, hk, hAk, e⟩
  · rcases hold b hb L A hA with h | ⟨v, rest, hp, h⟩
    · have := F_skip (m := m) i' L (del A b)
      exact .inl (by omega)
    · have := F_skip (m := m) i' rest (del A b)
      exact .inr (.inr ⟨v, rest, hp, by omega⟩)
  · by_cases hkb : k = b
    · subst hkb; exact .inr (.inl (by omega))
    · rcases hold b hb L (del A k) (del_ne hA fun h => hkb h.symm) with h | ⟨v, rest, hp, h⟩
      · have h2 := F_take (m := m) i' L (del A b) k hk (del_ne hAk hkb)
        rw [del_comm] at h
        exact .inl (by omega)
      · have h2 := F_take (m := m) i' rest (del A b) k hk (del_ne hAk hkb)
        rw [del_comm] at h
        exact .inr (.inr ⟨v, rest, hp, by omega⟩)

theorem move : ∀ (n : Nat) (L : List Val), L.length = n → ∀ (u i i' : Val) (A : Items) (b : Nat), b < m → A b = true →
    u b + F m (i' :: L) A + F m (i :: L) (del A b) ≤ F m (u :: i' :: L) A + F m (i :: L) A ∨
    u b + F m (i' :: L) A + F m (i :: L) (del A b) ≤ F m (u :: L) A + F m (i :: i' :: L) A := by
  intro n
  induction n with
  | zero =>
    intro L hl u i i' A b hb hA
    obtain rfl := List.eq_nil_of_length_eq_zero hl
    rcases hold2 (m := m) i' [] A b hb hA with h | h | ⟨v, rest, hp, _⟩
    · have h1 := F_take (m := m) u (i' :: []) A b hb hA
      have h2 := F_del (m := m) (i :: []) A b
      exact .inl (by omega)
    · have h1 := F_take (m := m) u [] A b hb hA
      have h2 := F_take (m := m) i' (i :: []) A b hb hA
      have h3 := F_swap_le (m := m) i' i [] A
      exact .inr (by omega)
    · have := hp.length_eq; simp at this
  | succ n ih =>
    intro L hl u i i' A b hb hA
    rcases hold2 (m := m) i' L A b hb hA with h | h | ⟨v, rest, hp, h⟩
    · have h1 := F_take (m := m) u (i' :: L) A b hb hA
      have h2 := F_del (m := m) (i :: L) A b
      exact .inl (by omega)
    · have h1 := F_take (m := m) u L A b hb hA
      have h2 := F_take (m := m) i' (i :: L) A b hb hA
      have h3 := F_swap_le (m := m) i' i L A
      exact .inr (by omega)
    · have hlr : rest.length = n := by have := hp.length_eq; simp at this; omega
      have pi : (i :: L).Perm (v :: i :: rest) := (List.Perm.cons i hp).trans (List.Perm.swap v i rest)
      have pi' : (i' :: L).Perm (v :: i' :: rest) := (List.Perm.cons i' hp).trans (List.Perm.swap v i' rest)
      have ei : ∀ S, F m (i :: L) S = F m (v :: i :: rest) S := F_perm pi
      have ei' : ∀ S, F m (i' :: L) S = F m (v :: i' :: rest) S := F_perm pi'
      have eL : ∀ S, F m L S = F m (v :: rest) S := F_perm hp
      have hu := F_take (m := m) u (i' :: L) A b hb hA
      have hv := F_take (m := m) v (i :: rest) A b hb hA
      rw [← ei] at hv
      rcases F_cases (m := m) v (i :: rest) (del A b) with e | ⟨c, hc, hAc, e⟩
      · rw [← ei] at e
        have h3 := F_skip (m := m) v (i' :: rest) (del A b)
        rw [← ei'] at h3
        exact .inl (by omega)
      · rw [← ei] at e
        rcases ih rest hlr v i i' (del A b) c hc hAc with h4 | h4
        · rw [← ei'] at h4
          exact .inl (by omega)
        · rw [← eL] at h4
          have h5 := F_take (m := m) u L A b hb hA
          have h6 := F_take (m := m) v (i :: i' :: rest) A b hb hA
          have p6 : (v :: i :: i' :: rest).Perm (i :: i' :: L) := by
            refine (List.Perm.swap i v (i' :: rest)).trans (List.Perm.cons i ?_)
            exact pi'.symm
          rw [F_perm p6] at h6
          exact .inr (by omega)

/-- bidder a would not rather have item j of bidder h, if each pays what the others lose by it -/
theorem pay_some {vs L : List Val} {a h : Val} (hp : vs.Perm (a :: h :: L)) (M : Items) (j : Nat) (hj : j < m) (hMj : M j = true) (hopt : F m vs M = h j + F m (a :: L) (del M j)) :
    a j + F m (h :: L) M ≤ F m (a :: L) M + h j := by
  have e1 := F_perm (m := m) hp M
  have e2 := F_perm (m := m) (List.Perm.swap h a L) M
  rcases move (m := m) L.length L rfl a a h M j hj hMj with h1 | h1
  · omega
  · omega
/-- .. nor an item that nobody has -/
theorem pay_none {vs L : List Val} {a : Val} (hp : vs.Perm (a :: L)) (M : Items) (j : Nat) (hj : j < m) (hMj : M j = true) (hopt : F m vs M ≤ F m vs (del M j)) :
    a j + F m L M ≤ F m vs M := by
  have e1 := F_perm (m := m) hp M
  have e2 := F_perm (m := m) hp (del M j)
  have z : ∀ (L : List Val) (S : Items), F m ((fun _ => 0) :: L) S = F m L S := fun L S => by
    rcases F_cases (m := m) (fun _ => 0) L S with e | ⟨k, _, _, e⟩
    · exact e
    · have h1 := F_skip (m := m) (fun _ => 0) L S
      have h2 := F_del (m := m) L S k
      have e' : F m ((fun _ => 0) :: L) S = 0 + F m L (del S k) := e
      omega
  rcases move (m := m) L.length L rfl a a (fun _ => 0) M j hj hMj with h1 | h1
  · have h2 := F_perm (m := m) (List.Perm.swap (fun _ => 0) a L) M
    rw [z] at h1 h2
    omega
  · have h2 := F_perm (m := m) (List.Perm.swap (fun _ => 0) a L) M
    rw [z] at h1 h2
    omega
end
end Go.Proofs.Ytadonoacmpkolaa.Asg
