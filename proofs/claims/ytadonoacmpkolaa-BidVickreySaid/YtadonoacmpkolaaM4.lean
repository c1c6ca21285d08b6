/- Plain: one item alone. -/
import Derived.Test.YtadonoacmpkolaaM3
import Derived.Test.YtadonoacmpkolaaL4
namespace Go.Proofs.Ytadonoacmpkolaa

/-- the bids for one item -/
def one (l : List Int) : List (List Int) := l.map fun x => [0, x]
theorem one_length (l : List Int) : (one l).length = l.length := by simp [one]
theorem one_row (l : List Int) (i : Nat) (hi : i < l.length) : rowAt (one l) i = [0, at0 l i] := by
  rw [rowAt_eq (by rw [one_length]; exact hi), at0_eq hi]
  simp [one]
theorem one_erase : ∀ (l : List Int) (i : Nat), (one l).eraseIdx i = one (l.eraseIdx i)
  | [], _ => rfl
  | _ :: _, 0 => rfl
  | x :: xs, i + 1 => by
    show [0, x] :: (one xs).eraseIdx i = [0, x] :: one (xs.eraseIdx i)
    rw [one_erase xs i]
theorem best_ge (l : List Int) : ∀ k i, i < k → at0 l i ≤ at0 l (bestUpto l k)
  | 0, i, hi => absurd hi (by omega)
  | k + 1, i, hi => by
    rw [bestUpto]
    by_cases e : i = k
    · subst e; split <;> omega
    · have := best_ge l k i (by omega)
      split <;> omega
def nn (l : List Int) : Prop := ∀ i, 0 ≤ at0 l i
theorem one_pos {l : List Int} (h : nn l) : Pos (one l) := by
  intro b hb s
  obtain ⟨i, hi, rfl⟩ := List.getElem_of_mem hb
  rw [one_length] at hi
  have h1 := one_row l i hi
  rw [rowAt_eq (by rw [one_length]; exact hi)] at h1
  rw [h1]
  match s with
  | 0 => exact Int.le_refl _
  | 1 => exact h i
  | s + 2 => exact Int.le_refl _
/-- the greatest, at least 0 -/
def top : List Int → Int
  | [] => 0
  | x :: xs => if x < top xs then top xs else x
theorem top_nonneg : ∀ {l : List Int}, nn l → 0 ≤ top l
  | [], _ => Int.le_refl _
  | x :: xs, h => by
    have h0 := h 0
    have ih := top_nonneg (l := xs) fun i => h (i + 1)
    have e : at0 (x :: xs) 0 = x := rfl
    rw [top]
    split <;> omega
theorem top_ge : ∀ {l : List Int} (i : Nat), nn l → at0 l i ≤ top l
  | [], i, _ => by simp [at0, top]
  | x :: xs, 0, h => by
    have e : at0 (x :: xs) 0 = x := rfl
    rw [top, e]
    split <;> omega
  | x :: xs, i + 1, h => by
    have ih := top_ge (l := xs) i fun i => h (i + 1)
    have e : at0 (x :: xs) (i + 1) = at0 xs i := rfl
    rw [top, e]
    split <;> omega
theorem top_le : ∀ {l : List Int} {M : Int}, 0 ≤ M → (∀ i, i < l.length → at0 l i ≤ M) → top l ≤ M
  | [], _, h, _ => h
  | x :: xs, M, h0, h => by
    have ih := top_le (l := xs) h0 fun i hi => h (i + 1) (by simp; omega)
    have h1 := h 0 (by simp)
    have e : at0 (x :: xs) 0 = x := rfl
    rw [top]
    split <;> omega
theorem one_sub {s : Nat} (h : s &&& 1 = s) : s = 0 ∨ s = 1 := by
  rw [Nat.and_one_is_mod] at h
  omega
theorem one_sub0 {s : Nat} (h : s &&& 0 = s) : s = 0 := by simpa using h.symm
theorem one_wts0 : ∀ {l : List Int}, nn l → wts (one l) 0 = 0
  | [], _ => rfl
  | x :: xs, h => by
    have hp := one_pos h
    obtain ⟨h1, h2, _⟩ := wts_cons (b := [0, x]) (bs := one xs) hp 0
    have := one_sub0 h1
    show wts ([0, x] :: one xs) 0 = 0
    rw [h2, this, andN_nothing, one_wts0 (l := xs) fun i => h (i + 1)]
    rfl
theorem one_wts : ∀ {l : List Int}, nn l → wts (one l) 1 = top l
  | [], _ => rfl
  | x :: xs, h => by
    have hp := one_pos h
    have hx : nn xs := fun i => h (i + 1)
    obtain ⟨h1, h2, h3⟩ := wts_cons (b := [0, x]) (bs := one xs) hp 1
    have e0 : at0 [0, x] 0 + wts (one xs) (andN 1 0) = top xs := by
      rw [andN_nothing, one_wts hx]; show 0 + top xs = _; omega
    have e1 : at0 [0, x] 1 + wts (one xs) (andN 1 1) = x := by
      rw [show andN 1 1 = 0 by decide, one_wts0 hx]; show x + 0 = _; omega
    have a0 := (h3 0 (by decide)).1
    have a1 := (h3 1 (by decide)).1
    rw [e0] at a0
    rw [e1] at a1
    show wts ([0, x] :: one xs) 1 = _
    rw [top]
    rcases one_sub h1 with e | e
    · rw [e, e0] at h2
      split <;> omega
    · rw [e, e1] at h2
      split <;> omega

theorem one_bids {l : List Int} (h1 : 1 ≤ l.length) (h6 : l.length ≤ 6) (h : ∀ i, 0 ≤ at0 l i ∧ at0 l i ≤ 1000000) : Bids 1 (one l) := by
  refine ⟨by decide, by decide, by rw [one_length]; exact h1, by rw [one_length]; exact h6, fun b hb => ?_⟩
  obtain ⟨i, hi, rfl⟩ := List.getElem_of_mem hb
  rw [one_length] at hi
  have hr := one_row l i hi
  rw [rowAt_eq (by rw [one_length]; exact hi)] at hr
  rw [hr]
  have hx := h i
  generalize at0 l i = x at *
  refine isBidB_yes rfl rfl fun s hs => ?_
  have hs : s < 2 := hs
  rcases s with _ | _ | s
  · exact offOk_yes (show (0 : Int) ≤ 0 by decide) (show (0 : Int) ≤ 1000000 by decide) fun i hi hh => by
      have : i = 0 := by omega
      subst this
      revert hh
      exact fun hh => absurd hh.1 (by decide)
  · refine offOk_yes hx.1 hx.2 fun i hi hh => ?_
    have : i = 0 := by omega
    subst this
    have e : andN 1 (p2 0) = 0 := by decide
    have h2 := hh.2
    rw [e] at h2
    have h3 : x < 0 := h2
    omega
  · omega

/-- the test of the statement, bidder by bidder: who gets the item is a greatest, and pays the second; the others pay nothing -/
theorem one_pay {l : List Int} (h1 : 1 ≤ l.length) (h6 : l.length ≤ 6) (h : ∀ i, 0 ≤ at0 l i ∧ at0 l i ≤ 1000000) (i : Nat) (hi : i < l.length) :
    (natAt (alloc (one l) (p2 1 - 1)) i = 1 ∧ at0 l i = top l ∧ payAt 1 (one l) i = top (l.eraseIdx i)) ∨ (natAt (alloc (one l) (p2 1 - 1)) i = 0 ∧ payAt 1 (one l) i = 0) := by
  have hE := one_bids h1 h6 h
  have hn : nn l := fun i => (h i).1
  have hn' : nn (l.eraseIdx i) := fun j => by
    unfold at0
    rw [List.getD_eq_getElem?_getD, List.getElem?_eraseIdx]
    have a := (h j).1
    have b := (h (j + 1)).1
    unfold at0 at a b
    rw [List.getD_eq_getElem?_getD] at a b
    split <;> assumption
  have hi' : i < (one l).length := by rw [one_length]; exact hi
  have hle := alloc_le (one l) (p2 1 - 1) i
  have hp1 : p2 1 - 1 = 1 := by decide
  have a1 := pay_le hE i
  have a2 := pay_nonneg hE i hi'
  have a3 := pay_eq hE i
  have a4 := at0_owns 1 (one l) i hi'
  rw [one_row l i hi] at a4
  rw [one_erase, hp1, one_wts hn, one_wts hn'] at a3
  rw [hp1] at hle a4 ⊢
  have hc : natAt (alloc (one l) 1) i = 0 ∨ natAt (alloc (one l) 1) i = 1 := by omega
  rcases hc with hc | hc
  · rw [hc] at a4
    have e : at0 [0, at0 l i] 0 = 0 := rfl
    exact .inr ⟨hc, by omega⟩
  · rw [hc] at a4
    have e : at0 [0, at0 l i] 1 = at0 l i := rfl
    -- the others get nothing
    have b1 := valL_erase (one l) (alloc (one l) 1) i hi' (alloc_length _ _)
    rw [alloc_val _ _ hE.pos, one_wts hn, one_row l i hi, hc, e, one_erase] at b1
    have b2 : valL (one (l.eraseIdx i)) ((alloc (one l) 1).eraseIdx i) = 0 := by
      have key : ∀ (ls : List Nat) (bs : List Int) (j S : Nat), S = 1 → Fits ls S → natAt ls j = 1 → j < ls.length → valL (one bs) (ls.eraseIdx j) = 0 := by
        have zero : ∀ (ls : List Nat) (bs : List Int), Fits ls 0 → valL (one bs) ls = 0 := by
          intro ls
          induction ls with
          | nil => intro bs _; cases bs <;> rfl
          | cons s ls ih =>
            intro bs hf
            have hs := one_sub0 hf.1
            subst hs
            have hf2 := hf.2
            rw [andN_nothing] at hf2
            cases bs with
            | nil => rfl
            | cons b bs =>
              show at0 [0, b] 0 + valL (one bs) ls = 0
              rw [ih bs hf2]; rfl
        intro ls
        induction ls with
        | nil => intro bs j S _ _ _ hj; simp at hj
        | cons s ls ih =>
          intro bs j S hS hf hj hjl
          subst hS
          cases j with
          | zero =>
            have hs : s = 1 := hj
            subst hs
            have hf2 := hf.2
            rw [show andN 1 1 = 0 by decide] at hf2
            exact zero ls bs hf2
          | succ j =>
            rcases one_sub hf.1 with hs | hs
            · subst hs
              have hf2 := hf.2
              rw [andN_nothing] at hf2
              cases bs with
              | nil => rfl
              | cons b bs =>
                show at0 [0, b] 0 + valL (one bs) (ls.eraseIdx j) = 0
                rw [ih bs j 1 rfl hf2 hj (by simpa using hjl)]; rfl
            · subst hs
              have hf2 := hf.2
              rw [show andN 1 1 = 0 by decide] at hf2
              have hz : ∀ (ls : List Nat) (j : Nat), Fits ls 0 → natAt ls j = 0 := by
                intro ls
                induction ls with
                | nil => intro j _; rfl
                | cons s ls ih =>
                  intro j hf
                  have hs := one_sub0 hf.1
                  subst hs
                  have hf2 := hf.2
                  rw [andN_nothing] at hf2
                  cases j with
                  | zero => rfl
                  | succ j => exact ih j hf2
              have : natAt ls j = 1 := hj
              rw [hz ls j hf2] at this
              cases this
      exact key _ _ i 1 rfl (alloc_fits (one l) 1 hE.pos) hc (by rw [alloc_length, one_length]; exact hi)
    exact .inl ⟨hc, by omega, by omega⟩

/-- the greatest of the others -/
theorem sec_top {l : List Int} (h1 : 1 ≤ l.length) (h : nn l) (i : Nat) (hi : i < l.length) (ht : at0 l i = top l) : secUpto l ((bestUpto l l.length : Nat) : Int) l.length = top (l.eraseIdx i) := by
  have hf := bestUpto_lt l l.length (by omega)
  have hbm := best_ge l l.length
  generalize bestUpto l l.length = f at *
  have hft : at0 l f = top l := by
    have h2 := top_ge f h
    have h3 := hbm i hi
    omega
  -- secUpto: an upper bound that is met
  have hs : ∀ k, 0 ≤ secUpto l (f : Int) k ∧ (∀ j, j < k → j ≠ f → at0 l j ≤ secUpto l (f : Int) k) ∧ (secUpto l (f : Int) k = 0 ∨ ∃ j, j < k ∧ j ≠ f ∧ secUpto l (f : Int) k = at0 l j) := by
    intro k
    induction k with
    | zero => exact ⟨Int.le_refl _, fun j hj => absurd hj (by omega), .inl rfl⟩
    | succ k ih =>
      obtain ⟨i1, i2, i3⟩ := ih
      have hsu : secUpto l (f : Int) (k + 1) = if (k : Int) = f then secUpto l f k else if secUpto l f k < at0 l k then at0 l k else secUpto l f k := rfl
      by_cases e : k = f
      · rw [if_pos (by omega)] at hsu
        rw [hsu]
        refine ⟨i1, fun j hj hne => i2 j (by omega) hne, ?_⟩
        rcases i3 with i3 | ⟨j, a, b, c⟩
        · exact .inl i3
        · exact .inr ⟨j, by omega, b, c⟩
      · rw [if_neg (by omega)] at hsu
        by_cases c : secUpto l f k < at0 l k
        · rw [if_pos c] at hsu
          rw [hsu]
          refine ⟨h k, fun j hj hne => ?_, .inr ⟨k, by omega, e, rfl⟩⟩
          by_cases ej : j = k
          · rw [ej]; exact Int.le_refl _
          · have := i2 j (by omega) hne; omega
        · rw [if_neg c] at hsu
          rw [hsu]
          refine ⟨i1, fun j hj hne => ?_, ?_⟩
          · by_cases ej : j = k
            · rw [ej]; omega
            · exact i2 j (by omega) hne
          · rcases i3 with i3 | ⟨j, a, b, c⟩
            · exact .inl i3
            · exact .inr ⟨j, by omega, b, c⟩
  obtain ⟨s1, s2, s3⟩ := hs l.length
  generalize secUpto l (f : Int) l.length = s at *
  have her : ∀ j, at0 (l.eraseIdx i) j = if j < i then at0 l j else at0 l (j + 1) := fun j => by
    unfold at0
    rw [List.getD_eq_getElem?_getD, List.getElem?_eraseIdx]
    split <;> rw [List.getD_eq_getElem?_getD]
  have hn' : nn (l.eraseIdx i) := fun j => by rw [her]; split; exact h _; exact h _
  have hmem : ∀ j, j < l.length → j ≠ i → at0 l j ≤ top (l.eraseIdx i) := fun j hj hne => by
    by_cases c : j < i
    · have := top_ge j hn'; rw [her, if_pos c] at this; exact this
    · have := top_ge (j - 1) hn'
      rw [her, if_neg (by omega), show j - 1 + 1 = j by omega] at this
      exact this
  have hlen : (l.eraseIdx i).length = l.length - 1 := List.length_eraseIdx_of_lt hi
  have hup : ∀ M, 0 ≤ M → (∀ j, j < l.length → j ≠ i → at0 l j ≤ M) → top (l.eraseIdx i) ≤ M := fun M hM hh => top_le hM fun j hj => by
    rw [her]
    split
    · exact hh j (by omega) (by omega)
    · exact hh (j + 1) (by omega) (by omega)
  have t0 := top_nonneg hn'
  by_cases e : i = f
  · subst e
    have u1 := hup s s1 s2
    rcases s3 with s3 | ⟨j, a, b, c⟩
    · omega
    · have := hmem j a b; omega
  · -- both are the top itself
    have u1 := hmem f hf (fun h => e h.symm)
    have u2 := s2 i hi e
    have u3 := hup (top l) (top_nonneg h) fun j _ _ => top_ge j h
    have u4 : s ≤ top l := by
      rcases s3 with s3 | ⟨j, a, b, c⟩
      · have := top_nonneg h; omega
      · have := top_ge j h; omega
    omega
end Go.Proofs.Ytadonoacmpkolaa
