/- Plain: the longest cups by links. No program. -/
import Derived.Test.YthnabheibacbcaaG2
import Derived.Test.YthnabheibacbcaaC8
namespace Go.Proofs.Ythnabheibacbcaa

theorem snocInd {α : Type} {p : List α → Prop} (h0 : p []) (h1 : ∀ l a, p l → p (l ++ [a])) (l : List α) : p l := by
  have : ∀ r : List α, p r.reverse := fun r => by
    induction r with
    | nil => exact h0
    | cons a r ih => rw [List.reverse_cons]; exact h1 _ _ ih
  simpa using this l.reverse
/-- the best of the first e predecessors -/
def bfold (B : Nat → Int × Int) (ok : Nat → Bool) (h : Nat → Int) : Nat → Int × Int
  | 0 => (2, -1)
  | e + 1 => if ok e = true ∧ (bfold B ok h e).1 < (B e).1 + 1 then ((B e).1 + 1, h e) else bfold B ok h e
section
variable {B B' : Nat → Int × Int} {ok : Nat → Bool} {h : Nat → Int}
theorem bfold_ge2 : ∀ e, 2 ≤ (bfold B ok h e).1
  | 0 => by simp [bfold]
  | e + 1 => by
    have := bfold_ge2 e
    simp only [bfold]
    split
    · rename_i h1; simp only; omega
    · exact this
theorem bfold_step (e : Nat) : (bfold B ok h e).1 ≤ (bfold B ok h (e + 1)).1 := by
  simp only [bfold]
  split
  · rename_i h1; simp only; omega
  · exact Int.le_refl _
theorem bfold_mono {e e' : Nat} (he : e ≤ e') : (bfold B ok h e).1 ≤ (bfold B ok h e').1 := by
  induction he with
  | refl => exact Int.le_refl _
  | step _ ih => exact Int.le_trans ih (bfold_step _)
theorem bfold_ub {e e' : Nat} (he : e < e') (hok : ok e = true) : (B e).1 + 1 ≤ (bfold B ok h e').1 := by
  refine Int.le_trans ?_ (bfold_mono (show e + 1 ≤ e' from he))
  simp only [bfold]
  split
  · exact Int.le_refl _
  · rename_i h1
    rcases Int.lt_or_le (bfold B ok h e).1 ((B e).1 + 1) with h2 | h2
    · exact absurd ⟨hok, h2⟩ h1
    · exact h2
theorem bfold_cases : ∀ e, bfold B ok h e = (2, -1) ∨ ∃ e' < e, ok e' = true ∧ bfold B ok h e = ((B e').1 + 1, h e')
  | 0 => .inl rfl
  | e + 1 => by
    simp only [bfold]
    split
    · rename_i h1; exact .inr ⟨e, by omega, h1.1, rfl⟩
    · rcases bfold_cases e with h1 | ⟨e', h1, h2, h3⟩
      · exact .inl h1
      · exact .inr ⟨e', by omega, h2, h3⟩
theorem bfold_congr : ∀ e, (∀ e' < e, B e' = B' e') → bfold B ok h e = bfold B' ok h e
  | 0, _ => rfl
  | e + 1, hb => by
    simp only [bfold]
    rw [bfold_congr e (fun e' he => hb e' (by omega)), hb e (by omega)]
end

section
variable (T : Nat → Nat → Nat → Int) (h : Nat → Int) (s : Int)
def bst : Nat → Nat → Nat → Int × Int
  | 0, _, _ => (2, -1)
  | f + 1, c, d => bfold (fun e => bst f e c) (fun e => decide (T e c d = s)) h c
theorem bst_fuel : ∀ (f f' c d : Nat), c ≤ f → c ≤ f' → bst T h s f c d = bst T h s f' c d
  | 0, 0, _, _, _, _ => rfl
  | 0, f' + 1, c, d, h1, _ => by obtain rfl : c = 0 := by omega
                                 rfl
  | f + 1, 0, c, d, _, h2 => by obtain rfl : c = 0 := by omega
                                rfl
  | f + 1, f' + 1, c, d, h1, h2 => by
    simp only [bst]
    exact bfold_congr c fun e he => bst_fuel f f' e c (by omega) (by omega)
def Bst (c d : Nat) : Int × Int := bst T h s c c d
theorem Bst_eq (c d : Nat) : Bst T h s c d = bfold (fun e => Bst T h s e c) (fun e => decide (T e c d = s)) h c := by
  cases c with
  | zero => rfl
  | succ c =>
    show bst T h s (c + 1) (c + 1) d = _
    simp only [bst]
    exact bfold_congr _ fun e he => bst_fuel T h s _ _ _ _ (by omega) (by omega)
theorem Bst_ge2 (c d : Nat) : 2 ≤ (Bst T h s c d).1 := by rw [Bst_eq]; exact bfold_ge2 c
theorem Bst_cases (c d : Nat) : Bst T h s c d = (2, -1) ∨ ∃ e < c, T e c d = s ∧ Bst T h s c d = ((Bst T h s e c).1 + 1, h e) := by
  rw [Bst_eq]
  rcases bfold_cases (B := fun e => Bst T h s e c) (ok := fun e => decide (T e c d = s)) (h := h) c with h1 | ⟨e, h1, h2, h3⟩
  · exact .inl h1
  · exact .inr ⟨e, h1, by simpa using h2, h3⟩
theorem Bst_ub {e c d : Nat} (he : e < c) (ht : T e c d = s) : (Bst T h s e c).1 + 1 ≤ (Bst T h s c d).1 := by
  rw [Bst_eq T h s c d]
  exact bfold_ub (B := fun e => Bst T h s e c) he (by simpa using ht)

/-- a chain by places, the last one ahead -/
def RC : List Nat → Prop
  | d :: c :: e :: r => c < d ∧ T e c d = s ∧ RC (c :: e :: r)
  | [d, c] => c < d
  | _ => False
theorem RC_len : ∀ (r : List Nat) (d c : Nat), RC T s (d :: c :: r) → ((d :: c :: r).length : Int) ≤ (Bst T h s c d).1
  | [], d, c, _ => Bst_ge2 T h s c d
  | e :: r, d, c, hr => by
    obtain ⟨h1, h2, h3⟩ := hr
    have h4 : e < c := by
      cases r with
      | nil => exact h3
      | cons => exact h3.1
    have := RC_len r c e h3
    have := Bst_ub T h s h4 h2
    simp only [List.length_cons] at *
    omega
end

/-! ### what the code knows, link by link -/
def ownStp (t : Nat → Int) (s : Int) (kk : Nat → Int × Int) (own : Int × Int) (h : Nat) : Int × Int := if t h = s ∧ own.1 < (kk h).1 + 1 then ((kk h).1 + 1, (h : Int)) else own
def ownF (t : Nat → Int) (s : Int) (kk : Nat → Int × Int) (hs : List Nat) : Int × Int := hs.foldl (ownStp t s kk) (2, -1)
theorem ownF_snoc (t : Nat → Int) (s : Int) (kk : Nat → Int × Int) (hs : List Nat) (h : Nat) : ownF t s kk (hs ++ [h]) = ownStp t s kk (ownF t s kk hs) h := by simp [ownF]
abbrev KK := Nat × Nat → Int × Int
def kupd (k : KK) (p : Nat × Nat) (v : Int × Int) : KK := fun q => if q = p then v else k q
/-- what is known, and the top one -/
def lst (l : List Pt) (os : List Nat) (s : Int) (st : KK × Option (Nat × Nat)) (p : Nat × Nat) : KK × Option (Nat × Nat) :=
  let own := ownF (fun h => tur l h p.1 p.2) s (fun h => st.1 (h, p.1)) (os.takeWhile (· ≠ p.1))
  let k := kupd st.1 p own
  (k, match st.2 with
    | none => some p
    | some q => if (k q).1 < own.1 then some p else some q)
def LS (l : List Pt) (os : List Nat) (s : Int) (ps : List (Nat × Nat)) : KK × Option (Nat × Nat) := ps.foldl (lst l os s) (fun _ => (0, 0), none)
theorem LS_snoc (l : List Pt) (os : List Nat) (s : Int) (ps : List (Nat × Nat)) (p : Nat × Nat) : LS l os s (ps ++ [p]) = lst l os s (LS l os s ps) p := by simp [LS]

theorem ownF_bound (t : Nat → Int) (s : Int) (kk : Nat → Int × Int) (B : Int) (hB : 1 ≤ B) (hk : ∀ h, 0 ≤ (kk h).1 ∧ (kk h).1 ≤ B) (hs : List Nat) : 2 ≤ (ownF t s kk hs).1 ∧ (ownF t s kk hs).1 ≤ B + 1 := by
  refine snocInd (p := fun hs => 2 ≤ (ownF t s kk hs).1 ∧ (ownF t s kk hs).1 ≤ B + 1) (by simp [ownF]; omega) (fun hs h ih => ?_) hs
  rw [ownF_snoc]
  unfold ownStp
  have := hk h
  split
  · rename_i h1; simp only; omega
  · exact ih
theorem LS_bound (l : List Pt) (os : List Nat) (s : Int) (ps : List (Nat × Nat)) : ∀ q, 0 ≤ ((LS l os s ps).1 q).1 ∧ ((LS l os s ps).1 q).1 ≤ ps.length + 1 := by
  refine snocInd (p := fun ps => ∀ q, 0 ≤ ((LS l os s ps).1 q).1 ∧ ((LS l os s ps).1 q).1 ≤ ps.length + 1) (by intro q; simp [LS]) (fun ps p ih q => ?_) ps
  · rw [LS_snoc]
    unfold lst kupd
    dsimp only
    split
    · have := ownF_bound (fun h => tur l h p.1 p.2) s (fun h => (LS l os s ps).1 (h, p.1)) (ps.length + 1) (by omega) (fun h => ih _) (os.takeWhile (· ≠ p.1))
      simp only [List.length_append, List.length_cons, List.length_nil]
      omega
    · have := ih q
      simp only [List.length_append, List.length_cons, List.length_nil]
      omega

theorem takeWhile_ne : ∀ (os : List Nat) (c : Nat) (_ : os.Nodup) (hc : c < os.length), os.takeWhile (· ≠ os[c]) = os.take c
  | [], c, _, hc => by simp at hc
  | x :: os, 0, _, _ => by simp
  | x :: os, c + 1, hn, hc => by
    rw [List.nodup_cons] at hn
    have hc' : c < os.length := by simpa using hc
    have hne : x ≠ os[c] := fun e => hn.1 (by rw [e]; exact List.getElem_mem _)
    have ih := takeWhile_ne os c hn.2 hc'
    simp only [List.getElem_cons_succ, List.takeWhile_cons, List.take_succ_cons]
    rw [if_pos (by simpa using hne), ih]
theorem natAt_inj {os : List Nat} (hn : os.Nodup) {a b : Nat} (ha : a < os.length) (hb : b < os.length) (h : natAt os a = natAt os b) : a = b := by
  rw [natAt_eq ha, natAt_eq hb] at h
  exact (List.getElem_inj hn).1 h

section
variable (l : List Pt) (os : List Nat) (s : Int)
def tp (e c d : Nat) : Int := tur l (natAt os e) (natAt os c) (natAt os d)
def hp (e : Nat) : Int := (natAt os e : Nat)
abbrev BS (c d : Nat) : Int × Int := Bst (tp l os) (hp os) s c d
/-- what is known when the links that end before place b, and a more, are done -/
structure Kn (st : KK × Option (Nat × Nat)) (b a : Nat) : Prop where
  at_ : ∀ c d, c < d → (d < b ∨ d = b ∧ c < a) → st.1 (natAt os c, natAt os d) = BS l os s c d
  top : (st.2 = none ∧ ∀ c d, c < d → ¬ (d < b ∨ d = b ∧ c < a)) ∨ ∃ c d, c < d ∧ (d < b ∨ d = b ∧ c < a) ∧ st.2 = some (natAt os c, natAt os d) ∧ ∀ c' d', c' < d' → (d' < b ∨ d' = b ∧ c' < a) → (BS l os s c' d').1 ≤ (BS l os s c d).1
variable {l os s}
theorem own_bst (hn : os.Nodup) {st : KK × Option (Nat × Nat)} {b a : Nat} (hb : b < os.length) (ha : a < b) (h : Kn l os s st b a) :
    ownF (fun h => tur l h (natAt os a) (natAt os b)) s (fun h => st.1 (h, natAt os a)) (os.takeWhile (· ≠ natAt os a)) = BS l os s a b := by
  have hal : a < os.length := by omega
  rw [show (os.takeWhile (· ≠ natAt os a)) = os.take a by have := takeWhile_ne os a hn hal; rwa [← natAt_eq hal] at this]
  unfold BS
  rw [Bst_eq]
  have key : ∀ e, e ≤ a → ownF (fun h => tur l h (natAt os a) (natAt os b)) s (fun h => st.1 (h, natAt os a)) (os.take e) = bfold (fun e => Bst (tp l os) (hp os) s e a) (fun e => decide (tp l os e a b = s)) (hp os) e := by
    intro e
    induction e with
    | zero => intro _; simp [ownF, bfold]
    | succ e ih =>
      intro he
      have hel : e < os.length := by omega
      rw [List.take_succ_eq_append_getElem hel, ← natAt_eq hel, ownF_snoc, ih (by omega)]
      unfold ownStp
      simp only [bfold]
      rw [h.at_ e a (by omega) (by omega)]
      simp only [decide_eq_true_eq]
      rfl
  exact key a (Nat.le_refl _)
theorem Kn.step (hn : os.Nodup) {st : KK × Option (Nat × Nat)} {b a : Nat} (hb : b < os.length) (ha : a < b) (h : Kn l os s st b a) : Kn l os s (lst l os s st (natAt os a, natAt os b)) b (a + 1) := by
  have hown := own_bst hn hb ha h
  have hk : ∀ c d, c < d → (d < b ∨ d = b ∧ c < a + 1) → (lst l os s st (natAt os a, natAt os b)).1 (natAt os c, natAt os d) = BS l os s c d := by
    intro c d hcd hd
    unfold lst kupd
    dsimp only
    split
    · rename_i e
      rw [Prod.mk.injEq] at e
      have e1 := natAt_inj hn (by omega) (by omega) e.1
      have e2 := natAt_inj hn (by omega) (by omega) e.2
      rw [hown, e1, e2]
    · rename_i e
      refine h.at_ c d hcd ?_
      rcases hd with hd | ⟨hd, hc⟩
      · exact .inl hd
      · refine .inr ⟨hd, ?_⟩
        rcases Nat.lt_or_ge c a with h1 | h1
        · exact h1
        · exact absurd (by rw [show c = a by omega, hd]) e
  refine ⟨hk, .inr ?_⟩
  rcases h.top with ⟨h0, hno⟩ | ⟨c, d, hcd, hpd, ht, hmax⟩
  · refine ⟨a, b, ha, .inr ⟨rfl, by omega⟩, by unfold lst; rw [h0], fun c' d' h1 h2 => ?_⟩
    have := hno c' d' h1
    obtain ⟨rfl, rfl⟩ : c' = a ∧ d' = b := by omega
    exact Int.le_refl _
  · have hkq := hk c d hcd (by omega)
    unfold lst at hkq ⊢
    dsimp only at hkq ⊢
    rw [hown] at hkq ⊢
    rw [ht]
    dsimp only
    rw [hkq]
    by_cases hlt : (BS l os s c d).1 < (BS l os s a b).1
    · rw [if_pos hlt]
      refine ⟨a, b, ha, .inr ⟨rfl, by omega⟩, rfl, fun c' d' h1 h2 => ?_⟩
      by_cases e : d' = b ∧ c' = a
      · rw [e.1, e.2]; exact Int.le_refl _
      · have := hmax c' d' h1 (by omega)
        omega
    · rw [if_neg hlt]
      refine ⟨c, d, hcd, by omega, rfl, fun c' d' h1 h2 => ?_⟩
      by_cases e : d' = b ∧ c' = a
      · rw [e.1, e.2]; omega
      · exact hmax c' d' h1 (by omega)
theorem Kn.row {st : KK × Option (Nat × Nat)} {b : Nat} (h : Kn l os s st b b) : Kn l os s st (b + 1) 0 := by
  refine ⟨fun c d h1 h2 => h.at_ c d h1 (by omega), ?_⟩
  rcases h.top with ⟨h0, hno⟩ | ⟨c, d, hcd, hpd, ht, hmax⟩
  · exact .inl ⟨h0, fun c d h1 h2 => hno c d h1 (by omega)⟩
  · exact .inr ⟨c, d, hcd, by omega, ht, fun c' d' h1 h2 => hmax c' d' h1 (by omega)⟩
theorem Kn_inner (hn : os.Nodup) {st : KK × Option (Nat × Nat)} {b : Nat} (hb : b < os.length) (h : Kn l os s st b 0) : ∀ a, a ≤ b → Kn l os s (((os.take a).map fun i => (i, natAt os b)).foldl (lst l os s) st) b a
  | 0, _ => by simpa using h
  | a + 1, ha => by
    have hal : a < os.length := by omega
    have ih := Kn_inner hn hb h a (by omega)
    rw [List.take_succ_eq_append_getElem hal, ← natAt_eq hal, List.map_append, List.foldl_append]
    simp only [List.map_cons, List.map_nil, List.foldl_cons, List.foldl_nil]
    exact ih.step hn hb (by omega)
theorem Kn_links (hn : os.Nodup) : ∀ b, b ≤ os.length → Kn l os s (LS l os s (linksTo os b)) b 0
  | 0, _ => ⟨fun c d h1 h2 => by omega, .inl ⟨rfl, fun c d h1 h2 => by omega⟩⟩
  | b + 1, hb => by
    have ih := Kn_links hn b (by omega)
    simp only [linksTo]
    unfold LS
    rw [List.foldl_append]
    exact (Kn_inner hn (by omega) ih b (Nat.le_refl _)).row
end
end Go.Proofs.Ythnabheibacbcaa
