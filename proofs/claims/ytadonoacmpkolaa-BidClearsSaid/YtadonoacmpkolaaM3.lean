/- Plain: allocations and their worth. -/
import Derived.Test.YtadonoacmpkolaaR5
import Derived.Test.YtadonoacmpkolaaW18
namespace Go.Proofs.Ytadonoacmpkolaa

/-- bundles that lie apart within S -/
def Fits : List Nat → Nat → Prop
  | [], _ => True
  | s :: ls, S => s &&& S = s ∧ Fits ls (andN S s)
def valL : List (List Int) → List Nat → Int
  | b :: bs, s :: ls => at0 b s + valL bs ls
  | _, _ => 0

theorem valL_le : ∀ (bs : List (List Int)) (ls : List Nat) (S : Nat), Pos bs → Fits ls S → ls.length = bs.length → valL bs ls ≤ wts bs S
  | [], [], _, _, _, _ => Int.le_refl _
  | b :: bs, s :: ls, S, hp, hf, hl => by
    have ih := valL_le bs ls (andN S s) hp.tail hf.2 (by simpa using hl)
    have := ((wts_cons hp S).2.2 s hf.1).1
    rw [valL]
    omega
  | [], _ :: _, _, _, _, h => by simp at h
  | _ :: _, [], _, _, _, h => by simp at h
theorem alloc_fits : ∀ (bs : List (List Int)) (S : Nat), Pos bs → Fits (alloc bs S) S
  | [], _, _ => trivial
  | b :: bs, S, hp => by
    rw [alloc_cons]
    exact ⟨(wts_cons hp S).1, alloc_fits bs _ hp.tail⟩
theorem alloc_val : ∀ (bs : List (List Int)) (S : Nat), Pos bs → valL bs (alloc bs S) = wts bs S
  | [], _, _ => rfl
  | b :: bs, S, hp => by
    rw [alloc_cons, valL, alloc_val bs _ hp.tail, (wts_cons hp S).2.1]

theorem andN_sub {S s t : Nat} (h : t &&& andN S s = t) : t &&& S = t := by
  apply Nat.eq_of_testBit_eq
  intro i
  have := congrArg (·.testBit i) h
  simp only [Nat.testBit_and, testBit_andN] at this ⊢
  cases ht : t.testBit i <;> cases hS : S.testBit i <;> simp [ht, hS] at this ⊢
theorem sub_andN {S T s : Nat} (h : ∀ t, t &&& S = t → t &&& T = t) {t : Nat} (ht : t &&& andN S s = t) : t &&& andN T s = t := by
  have h1 := h t (andN_sub ht)
  apply Nat.eq_of_testBit_eq
  intro i
  have a := congrArg (·.testBit i) ht
  have b := congrArg (·.testBit i) h1
  simp only [Nat.testBit_and, testBit_andN] at a b ⊢
  cases hti : t.testBit i <;> cases hsi : s.testBit i <;> cases hT : T.testBit i <;> simp [hti, hsi, hT] at a b ⊢
theorem Fits.mono : ∀ {ls : List Nat} {S T : Nat}, Fits ls S → (∀ t, t &&& S = t → t &&& T = t) → Fits ls T
  | [], _, _, _, _ => trivial
  | _ :: _, _, _, h, hs => ⟨hs _ h.1, Fits.mono h.2 fun _ ht => sub_andN hs ht⟩
theorem andN_self_sub (S s t : Nat) (h : t &&& andN S s = t) : t &&& S = t := andN_sub h

theorem Fits.erase : ∀ {ls : List Nat} {S : Nat} (i : Nat), Fits ls S → Fits (ls.eraseIdx i) S
  | [], _, _, _ => trivial
  | s :: ls, S, 0, h => Fits.mono h.2 fun t ht => andN_sub ht
  | s :: ls, S, i + 1, h => ⟨h.1, Fits.erase i h.2⟩
theorem valL_erase : ∀ (bs : List (List Int)) (ls : List Nat) (i : Nat), i < bs.length → ls.length = bs.length → valL (bs.eraseIdx i) (ls.eraseIdx i) = valL bs ls - at0 (rowAt bs i) (natAt ls i)
  | b :: bs, s :: ls, 0, _, _ => by
    show valL bs ls = at0 b s + valL bs ls - at0 b s
    omega
  | b :: bs, s :: ls, i + 1, hi, hl => by
    have ih := valL_erase bs ls i (by simpa using hi) (by simpa using hl)
    show at0 b s + valL (bs.eraseIdx i) (ls.eraseIdx i) = at0 b s + valL bs ls - at0 (rowAt bs i) (natAt ls i)
    rw [ih]; omega
  | [], _, _, h, _ => by simp at h
  | _ :: _, [], _, _, h => by simp at h
theorem valL_sum : ∀ (bs : List (List Int)) (ls : List Nat), ls.length = bs.length → valL bs ls = sumUpto (offersOf bs ls) bs.length := by
  intro bs ls hl
  have key : ∀ k, k ≤ bs.length → sumUpto (offersOf bs ls) k + valL (bs.drop k) (ls.drop k) = valL bs ls := by
    intro k
    induction k with
    | zero => intro _; simp [sumUpto]
    | succ k ih =>
      intro hk
      rw [← ih (by omega), sumUpto]
      have h1 : bs.drop k = rowAt bs k :: bs.drop (k + 1) := by rw [rowAt_eq (by omega)]; exact List.drop_eq_getElem_cons (by omega)
      have h2 : ls.drop k = natAt ls k :: ls.drop (k + 1) := by
        have : natAt ls k = ls[k]'(by omega) := by unfold natAt; simp [List.getD, List.getElem?_eq_getElem (show k < ls.length by omega)]
        rw [this]; exact List.drop_eq_getElem_cons (by omega)
      have h3 : at0 (offersOf bs ls) k = at0 (rowAt bs k) (natAt ls k) := by
        unfold offersOf; rw [at0_tab, if_pos (by omega)]
      rw [h1, h2, valL, h3]
      omega
  have := key bs.length (Nat.le_refl _)
  rw [List.drop_length] at this
  rw [← this]
  have e : valL [] (ls.drop bs.length) = 0 := rfl
  omega
theorem owns_sum {m : Nat} {xs : List (List Int)} (h : Bids m xs) : sumUpto (ownsOf m xs) xs.length = wts xs (p2 m - 1) := by
  rw [← alloc_val xs _ h.pos, valL_sum _ _ (alloc_length _ _)]
  rfl
/-- what a bidder gains by the truth -/
theorem pay_eq {m : Nat} {xs : List (List Int)} (h : Bids m xs) (i : Nat) : at0 (ownsOf m xs) i - payAt m xs i = wts xs (p2 m - 1) - wts (xs.eraseIdx i) (p2 m - 1) := by
  unfold payAt
  rw [owns_sum h]
  omega
theorem Pos.erase {xs : List (List Int)} (h : Pos xs) (i : Nat) : Pos (xs.eraseIdx i) := fun b hb => h b (List.mem_of_mem_eraseIdx hb)
theorem wts_erase_le : ∀ (bs : List (List Int)) (i S : Nat), Pos bs → wts (bs.eraseIdx i) S ≤ wts bs S
  | [], _, _, _ => Int.le_refl _
  | b :: bs, 0, S, hp => by
    have := ((wts_cons hp S).2.2 0 (Nat.zero_and _)).1
    rw [andN_nothing] at this
    have := hp.head 0
    show wts bs S ≤ _
    omega
  | b :: bs, i + 1, S, hp => by
    have hp' : Pos (b :: bs.eraseIdx i) := fun c hc => by
      rcases List.mem_cons.1 hc with h | h
      · rw [h]; exact hp.head
      · exact hp.tail c (List.mem_of_mem_eraseIdx h)
    obtain ⟨h1, h2, _⟩ := wts_cons hp' S
    have ih := wts_erase_le bs i (andN S (pickB b (bs.eraseIdx i) S)) hp.tail
    have := ((wts_cons hp S).2.2 _ h1).1
    show wts (b :: bs.eraseIdx i) S ≤ _
    rw [h2]
    omega
theorem pay_le {m : Nat} {xs : List (List Int)} (h : Bids m xs) (i : Nat) : payAt m xs i ≤ at0 (ownsOf m xs) i := by
  have := pay_eq h i
  have := wts_erase_le xs i (p2 m - 1) h.pos
  omega
/-- no offer gains more than the truth -/
theorem gain_le {m : Nat} {xs : List (List Int)} (h : Bids m xs) (i : Nat) (hi : i < xs.length) {of : List Int} (ho : Bids m (xs.set i of)) :
    at0 (rowAt xs i) (natAt (alloc (xs.set i of) (p2 m - 1)) i) - payAt m (xs.set i of) i ≤ wts xs (p2 m - 1) - wts (xs.eraseIdx i) (p2 m - 1) := by
  have hl : (alloc (xs.set i of) (p2 m - 1)).length = xs.length := by rw [alloc_length, List.length_set]
  have e1 : (xs.set i of).eraseIdx i = xs.eraseIdx i := List.eraseIdx_set_eq
  have h1 := pay_eq ho i
  rw [e1] at h1
  have h2 := at0_owns m (xs.set i of) i (by rw [List.length_set]; exact hi)
  have h3 := valL_erase (xs.set i of) (alloc (xs.set i of) (p2 m - 1)) i (by rw [List.length_set]; exact hi) (alloc_length _ _)
  rw [alloc_val _ _ ho.pos, e1] at h3
  have h4 := valL_erase xs (alloc (xs.set i of) (p2 m - 1)) i hi hl
  have h5 := valL_le xs _ _ h.pos (alloc_fits _ (p2 m - 1) ho.pos) hl
  rw [h2] at h1
  omega
theorem pay_nonneg {m : Nat} {xs : List (List Int)} (h : Bids m xs) (i : Nat) (hi : i < xs.length) : 0 ≤ payAt m xs i := by
  have h1 := valL_erase xs (alloc xs (p2 m - 1)) i hi (alloc_length _ _)
  rw [alloc_val _ _ h.pos] at h1
  have h2 := valL_le (xs.eraseIdx i) ((alloc xs (p2 m - 1)).eraseIdx i) _ (h.pos.erase i) (Fits.erase i (alloc_fits xs (p2 m - 1) h.pos)) (by
    rw [List.length_eraseIdx_of_lt hi, List.length_eraseIdx_of_lt (by rw [alloc_length]; exact hi), alloc_length])
  have h3 := at0_owns m xs i hi
  have h4 := pay_eq h i
  omega

/-! ### the test of an allocation -/
def tk (l : List Int) : Nat → Nat
  | 0 => 0
  | k + 1 => tk l k ||| (at0 l k).toNat
def alOne (m : Nat) (l : List Int) (k : Nat) : Bool := decide (0 ≤ at0 l k) && decide (at0 l k < ((p2 m : Nat) : Int)) && decide ((at0 l k).toNat &&& tk l k = 0)
def allocB (m n : Nat) (l : List Int) : Bool := decide (l.length = n) && (List.range l.length).all (alOne m l)
theorem tk_lt {m : Nat} {l : List Int} : ∀ k, (∀ j, j < k → alOne m l j = true) → tk l k < p2 m
  | 0, _ => p2_pos m
  | k + 1, h => by
    have h1 := tk_lt k fun j hj => h j (by omega)
    have h2 := h k (by omega)
    unfold alOne at h2
    simp only [Bool.and_eq_true, decide_eq_true_eq] at h2
    rw [tk]
    unfold p2 at *
    exact Nat.or_lt_two_pow h1 (by omega)
theorem alloc_alOne {m : Nat} {xs : List (List Int)} (h : Pos xs) (i : Nat) : alOne m (casts (alloc xs (p2 m - 1))) i = true := by
  have hle := alloc_le xs (p2 m - 1) i
  have hpp := p2_pos m
  have key : ∀ (bs : List (List Int)) (S : Nat), Pos bs → ∀ i, (∀ j b, (tk (casts (alloc bs S)) j).testBit b = true → S.testBit b = true) ∧ natAt (alloc bs S) i &&& tk (casts (alloc bs S)) i = 0 := by
    intro bs
    induction bs with
    | nil =>
      intro S _ i
      have e : ∀ j, tk (casts (alloc [] S)) j = 0 := fun j => by
        induction j with
        | zero => rfl
        | succ j ih => rw [tk, ih, at0_casts]; simp [natAt, alloc]
      exact ⟨fun j b hb => by rw [e] at hb; simp at hb, by rw [e]; simp⟩
    | cons b bs ih =>
      intro S hp i
      have hs := (wts_cons hp S).1
      have hk : ∀ j, tk (casts (alloc (b :: bs) S)) (j + 1) = pickB b bs S ||| tk (casts (alloc bs (andN S (pickB b bs S)))) j := fun j => by
        induction j with
        | zero => rw [tk, tk, tk, at0_casts, alloc_cons]; simp [natAt]
        | succ j ihj =>
          rw [tk, ihj, tk, at0_casts, at0_casts, alloc_cons, Nat.or_assoc]
          simp [natAt]
      have ihS := ih (andN S (pickB b bs S)) hp.tail
      refine ⟨fun j c hc => ?_, ?_⟩
      · cases j with
        | zero => simp [tk] at hc
        | succ j =>
          rw [hk, Nat.testBit_or] at hc
          have hsb := congrArg (·.testBit c) hs
          simp only [Nat.testBit_and] at hsb
          cases hpc : (pickB b bs S).testBit c with
          | true => rw [hpc] at hsb; simpa using hsb
          | false =>
            rw [hpc, Bool.false_or] at hc
            have := (ihS 0).1 j c hc
            rw [testBit_andN] at this
            simp only [Bool.and_eq_true] at this
            exact this.1
      · cases i with
        | zero => simp [tk]
        | succ i =>
          rw [hk, alloc_cons]
          have e : natAt (pickB b bs S :: alloc bs (andN S (pickB b bs S))) (i + 1) = natAt (alloc bs (andN S (pickB b bs S))) i := rfl
          rw [e]
          have h2 := (ihS i).2
          have h3 := (ihS i).1 (i + 1)
          apply Nat.eq_of_testBit_eq
          intro c
          have h2c := congrArg (·.testBit c) h2
          have h3c := h3 c
          rw [tk, at0_casts, Int.toNat_natCast, Nat.testBit_or, testBit_andN] at h3c
          simp only [Nat.testBit_and, Nat.zero_testBit] at h2c
          rw [Nat.testBit_and, Nat.testBit_or, Nat.zero_testBit]
          cases h4 : (natAt (alloc bs (andN S (pickB b bs S))) i).testBit c
          · rfl
          · rw [h4] at h2c h3c
            simp only [Bool.true_and] at h2c
            rw [h2c] at h3c ⊢
            simp at h3c
            simp [h3c]
  unfold alOne
  rw [at0_casts, Int.toNat_natCast]
  have := (key xs (p2 m - 1) h i).2
  simp only [Bool.and_eq_true, decide_eq_true_eq]
  exact ⟨⟨by omega, by omega⟩, this⟩
theorem allocB_alloc {m : Nat} {xs : List (List Int)} (h : Pos xs) : allocB m xs.length (casts (alloc xs (p2 m - 1))) = true := by
  unfold allocB
  rw [casts_length, alloc_length, all_yes fun i _ => alloc_alOne h i]
  simp
end Go.Proofs.Ytadonoacmpkolaa
