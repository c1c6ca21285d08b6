/- Plain: the least prices of single bids clear the first best allocation, no lower ones do, and they are the payments. -/
import Derived.Test.YtadonoacmpkolaaM6
import Derived.Test.YtadonoacmpkolaaW24
namespace Go.Proofs.Ytadonoacmpkolaa
set_option linter.unusedSectionVars false

theorem cost_nonneg (ps : List Int) (s : Nat) (h : ∀ j, 0 ≤ at0 ps j) : ∀ k, 0 ≤ costUpto ps s k
  | 0 => Int.le_refl _
  | k + 1 => by
    have ih := cost_nonneg ps s h k
    have := h k
    rw [costUpto]; split <;> omega
theorem cost_ge (ps : List Int) (s j : Nat) (h : ∀ j, 0 ≤ at0 ps j) (hb : bitOf s j = 1) : ∀ k, j < k → at0 ps j ≤ costUpto ps s k
  | 0, hj => absurd hj (by omega)
  | k + 1, hj => by
    have h0 := cost_nonneg ps s h k
    have := h k
    rw [costUpto]
    by_cases e : j = k
    · subst e; rw [if_pos hb]; omega
    · have ih := cost_ge ps s j h hb k (by omega)
      split <;> omega
theorem cost_none (ps : List Int) (s : Nat) : ∀ k, (∀ j, j < k → bitOf s j = 1 → at0 ps j = 0) → costUpto ps s k = 0
  | 0, _ => rfl
  | k + 1, h => by
    have ih := cost_none ps s k fun j hj hb => h j (by omega) hb
    rw [costUpto]
    split
    · rename_i hb; rw [ih, h k (by omega) hb]; rfl
    · exact ih
theorem bit_and {S s j : Nat} : bitOf (andN S s) j = 1 ↔ bitOf S j = 1 ∧ ¬ bitOf s j = 1 := by
  rw [bit_tb, bit_tb, bit_tb, testBit_andN]
  cases S.testBit j <;> cases s.testBit j <;> simp
theorem cost_split (ps : List Int) {S s : Nat} (h : s &&& S = s) : ∀ k, costUpto ps S k = costUpto ps s k + costUpto ps (andN S s) k
  | 0 => rfl
  | k + 1 => by
    have ih := cost_split ps h k
    rw [costUpto, costUpto, costUpto, ih]
    by_cases hs : bitOf s k = 1
    · have hS : bitOf S k = 1 := bit_tb.2 (sub_bit h (bit_tb.1 hs))
      rw [if_pos hs, if_pos hS, if_neg fun e => (bit_and.1 e).2 hs]; omega
    · by_cases hS : bitOf S k = 1
      · rw [if_neg hs, if_pos hS, if_pos (bit_and.2 ⟨hS, hs⟩)]; omega
      · rw [if_neg hs, if_neg hS, if_neg fun e => hS (bit_and.1 e).1]

theorem fits_sub : ∀ {ls : List Nat} {S : Nat} (i : Nat), Fits ls S → natAt ls i &&& S = natAt ls i
  | [], S, i, _ => by show 0 &&& S = 0; simp
  | s :: ls, S, 0, h => h.1
  | s :: ls, S, i + 1, h => andN_sub (fits_sub (ls := ls) i h.2)
theorem fits_disj : ∀ {ls : List Nat} {S : Nat} (i j : Nat), Fits ls S → i ≠ j → ∀ b, (natAt ls i).testBit b = true → (natAt ls j).testBit b = false
  | [], S, i, j, _, _, b, h => by simp [natAt] at h
  | s :: ls, S, 0, 0, _, hne, _, _ => absurd rfl hne
  | s :: ls, S, 0, j + 1, h, _, b, hb => by
    have h1 := fits_sub (ls := ls) j h.2
    cases hj : (natAt (s :: ls) (j + 1)).testBit b
    · rfl
    · have h2 := sub_bit h1 hj
      rw [testBit_andN] at h2
      have h3 : s.testBit b = true := hb
      rw [h3] at h2
      simp at h2
  | s :: ls, S, i + 1, 0, h, _, b, hb => by
    have h1 := fits_sub (ls := ls) i h.2
    have h2 := sub_bit h1 hb
    rw [testBit_andN] at h2
    simp only [Bool.and_eq_true, Bool.not_eq_true'] at h2
    exact h2.2
  | s :: ls, S, i + 1, j + 1, h, hne, b, hb => fits_disj (ls := ls) i j h.2 (fun e => hne (by rw [e])) b hb
theorem fits_del : ∀ {ls : List Nat} {S : Nat} (j : Nat), Fits ls S → (∀ i, (natAt ls i).testBit j = false) → Fits ls (andN S (p2 j))
  | [], _, _, _, _ => trivial
  | s :: ls, S, j, h, hn => by
    have h0 : s.testBit j = false := hn 0
    refine ⟨?_, ?_⟩
    · apply Nat.eq_of_testBit_eq
      intro b
      have a := congrArg (·.testBit b) h.1
      simp only [Nat.testBit_and] at a
      rw [Nat.testBit_and, testBit_andN, testBit_p2]
      by_cases e : j = b
      · subst e; rw [h0]; rfl
      · simp [e]; simpa using a
    · rw [andN_comm]
      exact fits_del j h.2 fun i => hn (i + 1)

section
variable {m : Nat} {xs : List (List Int)} (hE : Bids m xs) (hS : SglAll m xs)
include hE hS

theorem full_lt : p2 m - 1 < p2 m := by have := p2_pos m; omega
theorem own_cases (i : Nat) : natAt (alloc xs (p2 m - 1)) i = 0 ∨ ∃ k, k < m ∧ natAt (alloc xs (p2 m - 1)) i = p2 k := by
  rcases alloc_one xs hS _ (full_lt hE hS) i with e | ⟨k, hk, _, e⟩
  · exact .inl e
  · exact .inr ⟨k, hk, e⟩
/-- an item that nobody has adds nothing -/
theorem unsold (j : Nat) (hn : ∀ i, (natAt (alloc xs (p2 m - 1)) i).testBit j = false) : wts xs (p2 m - 1) ≤ wts xs (andN (p2 m - 1) (p2 j)) := by
  rw [← alloc_val xs _ hE.pos]
  exact valL_le xs _ _ hE.pos (fits_del j (alloc_fits xs _ hE.pos) hn) (alloc_length _ _)

variable {ps : List Int} (hC : Clr m xs (alloc xs (p2 m - 1)) ps) (hL : Low m xs (alloc xs (p2 m - 1)) ps)
include hC hL
theorem unsold_zero (j : Nat) (hj : j < m) (hn : ∀ i, (natAt (alloc xs (p2 m - 1)) i).testBit j = false) : at0 ps j = 0 := by
  have h1 := hL.2.2 _ (addOf_clr hE hS) j
  have h2 := (hC.2.1 j).1
  have h3 := unsold hE hS j hn
  unfold addOf at h1
  rw [at0_tab, if_pos hj] at h1
  omega
theorem gainOf_zero {i : Nat} (hi : i < xs.length) (e : natAt (alloc xs (p2 m - 1)) i = 0) : gainOf xs (alloc xs (p2 m - 1)) ps i = 0 := by
  unfold gainOf costOf
  rw [e, cost_zero, (hS _ (by rw [rowAt_eq hi]; exact List.getElem_mem hi)).zero]; rfl
theorem gainOf_one {i k : Nat} (hk : k < m) (e : natAt (alloc xs (p2 m - 1)) i = p2 k) : gainOf xs (alloc xs (p2 m - 1)) ps i = at0 (rowAt xs i) (p2 k) - at0 ps k := by
  unfold gainOf costOf
  rw [e, cost_p2, hC.1, if_pos hk]
theorem price_le (i k : Nat) (hi : i < xs.length) (hk : k < m) (e : natAt (alloc xs (p2 m - 1)) i = p2 k) : at0 ps k ≤ at0 (rowAt xs i) (p2 k) := by
  have h1 := hL.2.2 _ (addOf_clr hE hS) k
  unfold addOf at h1
  rw [at0_tab, if_pos hk] at h1
  have h2 := (alloc_hold xs (p2 m - 1) i hE.pos hi).1
  rw [e] at h2
  have h3 := wts_erase_le xs i (andN (p2 m - 1) (p2 k)) hE.pos
  omega
theorem gain_nn (i : Nat) (hi : i < xs.length) : 0 ≤ gainOf xs (alloc xs (p2 m - 1)) ps i := by
  rcases own_cases hE hS i with e | ⟨k, hk, e⟩
  · rw [gainOf_zero hE hS hC hL hi e]; exact Int.le_refl _
  · rw [gainOf_one hE hS hC hL hk e]
    have := price_le hE hS hC hL i k hi hk e
    omega
theorem item_le (i j : Nat) (hi : i < xs.length) (hj : j < m) : at0 (rowAt xs i) (p2 j) - at0 ps j ≤ gainOf xs (alloc xs (p2 m - 1)) ps i := by
  by_cases hb : bitOf (natAt (alloc xs (p2 m - 1)) i) j = 1
  · rcases own_cases hE hS i with e | ⟨k, hk, e⟩
    · rw [e] at hb; unfold bitOf at hb; simp at hb
    · rw [e, testBit_bitOf, testBit_p2] at hb
      have : k = j := by
        by_cases c : k = j
        · exact c
        · simp [c] at hb
      subst this
      rw [gainOf_one hE hS hC hL hk e]; exact Int.le_refl _
  · have := hC.2.2 i hi j hj
    unfold wants moreOf at this
    have h2 : ¬ 0 < at0 (rowAt xs i) (p2 j) - at0 ps j - gainOf xs (alloc xs (p2 m - 1)) ps i := fun h => this ⟨hb, h⟩
    omega
theorem bundle_le (i s : Nat) (hi : i < xs.length) (hs : s < p2 m) : at0 (rowAt xs i) s - costOf ps s ≤ gainOf xs (alloc xs (p2 m - 1)) ps i := by
  have hr := hS _ (show rowAt xs i ∈ xs by rw [rowAt_eq hi]; exact List.getElem_mem hi)
  have hnn : ∀ j, 0 ≤ at0 ps j := fun j => (hC.2.1 j).1
  unfold costOf
  rw [hC.1]
  rcases hr.mem s hs with e | ⟨j, hj, hb, e⟩
  · have h1 := gain_nn hE hS hC hL i hi
    have h2 := cost_nonneg ps s hnn m
    omega
  · have h1 := item_le hE hS hC hL i j hi hj
    have h2 := cost_ge ps s j hnn hb m hj
    omega
theorem left_bit (ls : List Nat) : ∀ k j, (leftUpto m ls k).testBit j = true → ∀ i, i < k → (natAt ls i).testBit j = false
  | 0, _, _, i, hi => absurd hi (by omega)
  | k + 1, j, h, i, hi => by
    rw [leftUpto, testBit_andN] at h
    simp only [Bool.and_eq_true, Bool.not_eq_true'] at h
    by_cases e : i = k
    · rw [e]; exact h.2
    · exact left_bit ls k j h.1 i (by omega)
/-- the least prices clear -/
theorem least_clears : clearsB m xs (alloc xs (p2 m - 1)) ps = true := by
  unfold clearsB
  rw [all_yes fun i hi => show clrRow m xs (alloc xs (p2 m - 1)) ps i = true from all_yes fun s hs => by
    have := bundle_le hE hS hC hL i s hi hs
    unfold gainOf at this
    unfold clr1
    simpa using this]
  have : costOf ps (leftUpto m (alloc xs (p2 m - 1)) xs.length) = 0 := by
    unfold costOf
    rw [hC.1]
    refine cost_none ps _ m fun j hj hb => unsold_zero hE hS hC hL j hj fun i => ?_
    by_cases hi : i < xs.length
    · exact left_bit hE hS hC hL _ _ j (bit_tb.1 hb) i hi
    · have : natAt (alloc xs (p2 m - 1)) i = 0 := by
        unfold natAt
        rw [List.getD_eq_getElem?_getD, List.getElem?_eq_none (by rw [alloc_length]; omega)]; rfl
      rw [this]; simp
  simp [this]
/-- prices that clear are not below the least ones -/
theorem clears_low {lo : List Int} (hp : priced m lo) (hc : clearsB m xs (alloc xs (p2 m - 1)) lo = true) : ∀ j, at0 ps j ≤ at0 lo j := by
  unfold clearsB at hc
  simp only [Bool.and_eq_true] at hc
  refine hL.2.2 lo ⟨hp.1, hp.2, fun i hi j hj => ?_⟩
  have h1 := List.all_eq_true.1 hc.1 i (List.mem_range.2 hi)
  unfold clrRow at h1
  have h2 := List.all_eq_true.1 h1 (p2 j) (List.mem_range.2 (p2_lt hj))
  unfold clr1 at h2
  simp only [decide_eq_true_eq] at h2
  rintro ⟨_, hw⟩
  unfold moreOf gainOf at hw
  have e : costOf lo (p2 j) = at0 lo j := by unfold costOf; rw [cost_p2, hp.1, if_pos hj]
  rw [e] at h2
  omega

/-! ### they are the payments -/
theorem pay_zero (i : Nat) (hi : i < xs.length) (e : natAt (alloc xs (p2 m - 1)) i = 0) : payAt m xs i = 0 := by
  have h1 := pay_nonneg hE i hi
  have h2 := pay_le hE i
  rw [at0_owns m xs i hi, e, (hS _ (by rw [rowAt_eq hi]; exact List.getElem_mem hi)).zero] at h2
  omega
end

def payHold (m : Nat) (xs : List (List Int)) (j : Nat) : Nat → Int
  | 0 => 0
  | i + 1 => if bitOf (natAt (alloc xs (p2 m - 1)) i) j = 1 then payAt m xs i else payHold m xs j i
theorem payHold_none {m : Nat} {xs : List (List Int)} {j : Nat} : ∀ n, (∀ i, i < n → ¬ bitOf (natAt (alloc xs (p2 m - 1)) i) j = 1) → payHold m xs j n = 0
  | 0, _ => rfl
  | n + 1, h => by rw [payHold, if_neg (h n (by omega)), payHold_none n fun i hi => h i (by omega)]
theorem payHold_some {m : Nat} {xs : List (List Int)} {j i : Nat} (hb : bitOf (natAt (alloc xs (p2 m - 1)) i) j = 1) : ∀ n, i < n → (∀ i', i' ≠ i → ¬ bitOf (natAt (alloc xs (p2 m - 1)) i') j = 1) → payHold m xs j n = payAt m xs i
  | 0, hi, _ => absurd hi (by omega)
  | n + 1, hi, h => by
    rw [payHold]
    by_cases e : i = n
    · subst e; rw [if_pos hb]
    · rw [if_neg (h n fun e2 => e e2.symm), payHold_some hb n (by omega) h]

section
variable {m : Nat} {xs : List (List Int)} (hE : Bids m xs) (hS : SglAll m xs)
include hE hS
theorem holder_one {i i' j : Nat} (hne : i' ≠ i) (hb : bitOf (natAt (alloc xs (p2 m - 1)) i) j = 1) : ¬ bitOf (natAt (alloc xs (p2 m - 1)) i') j = 1 := fun hb' => by
  have := fits_disj i i' (alloc_fits xs (p2 m - 1) hE.pos) (fun e => hne e.symm) j (bit_tb.1 hb)
  rw [bit_tb.1 hb'] at this
  cases this
theorem own_bit {i j : Nat} (hb : bitOf (natAt (alloc xs (p2 m - 1)) i) j = 1) : natAt (alloc xs (p2 m - 1)) i = p2 j ∧ j < m := by
  rcases own_cases hE hS i with e | ⟨k, hk, e⟩
  · rw [e] at hb; unfold bitOf at hb; simp at hb
  · rw [e, testBit_bitOf, testBit_p2] at hb
    have : k = j := by
      by_cases c : k = j
      · exact c
      · simp [c] at hb
    subst this
    exact ⟨e, hk⟩

theorem perm2 {a h : Nat} (ha : a < xs.length) (hh : h < xs.length) (hne : a ≠ h) : ∃ L : List Asg.Val, (xs.map valOf).Perm (valOf (rowAt xs a) :: valOf (rowAt xs h) :: L) ∧ ((xs.eraseIdx a).map valOf).Perm (valOf (rowAt xs h) :: L) ∧ ((xs.eraseIdx h).map valOf).Perm (valOf (rowAt xs a) :: L) := by
  have hl : (xs.eraseIdx a).length = xs.length - 1 := List.length_eraseIdx_of_lt ha
  obtain ⟨h', hh', e⟩ : ∃ h', h' < (xs.eraseIdx a).length ∧ rowAt (xs.eraseIdx a) h' = rowAt xs h := by
    by_cases c : h < a
    · refine ⟨h, by omega, ?_⟩
      unfold rowAt; rw [List.getD_eq_getElem?_getD, List.getElem?_eraseIdx, if_pos c, List.getD_eq_getElem?_getD]
    · refine ⟨h - 1, by omega, ?_⟩
      unfold rowAt; rw [List.getD_eq_getElem?_getD, List.getElem?_eraseIdx, if_neg (by omega), show h - 1 + 1 = h by omega, List.getD_eq_getElem?_getD]
  have p1 := perm_erase a ha
  have p2 := perm_erase (xs := xs.eraseIdx a) h' hh'
  rw [e] at p2
  have p3 := perm_erase h hh
  have p4 := p1.trans (List.Perm.cons _ p2)
  refine ⟨_, p4, p2, ?_⟩
  exact (p3.symm.trans (p4.trans (List.Perm.swap _ _ _))).cons_inv

/-- the payments as prices -/
def payQ (m : Nat) (xs : List (List Int)) : List Int := tab m fun j => payHold m xs j xs.length
omit hE hS in
theorem payQ_at (j : Nat) (hj : j < m) : at0 (payQ m xs) j = payHold m xs j xs.length := by unfold payQ; rw [at0_tab, if_pos hj]
theorem payQ_own {i k : Nat} (hi : i < xs.length) (hk : k < m) (e : natAt (alloc xs (p2 m - 1)) i = p2 k) : at0 (payQ m xs) k = payAt m xs i := by
  have hb : bitOf (natAt (alloc xs (p2 m - 1)) i) k = 1 := by rw [e, testBit_bitOf, testBit_p2]; simp
  rw [payQ_at k hk]
  exact payHold_some hb _ hi fun i' hne => holder_one hE hS hne hb
theorem payQ_clr : Clr m xs (alloc xs (p2 m - 1)) (payQ m xs) := by
  have hM := full_lt hE hS
  have hFM := wts_F xs hS _ hM
  have hbd : ∀ j n, n ≤ xs.length → 0 ≤ payHold m xs j n ∧ payHold m xs j n ≤ 1000000 := by
    intro j n
    induction n with
    | zero => intro _; exact ⟨Int.le_refl _, by show (0 : Int) ≤ _; decide⟩
    | succ n ih =>
      intro hn
      rw [payHold]
      split
      · have a := pay_nonneg hE n (by omega)
        have b := pay_le hE n
        have c := (ownsOf_bd hE n).2
        omega
      · exact ih (by omega)
  refine ⟨tab_length .., fun j => ?_, fun a ha j hj => ?_⟩
  · unfold payQ
    rw [at0_tab]
    split
    · have := hbd j xs.length (Nat.le_refl _); omega
    · exact ⟨by decide, by decide⟩
  · rintro ⟨hb, hw⟩
    -- what the bidder gains
    have hg : gainOf xs (alloc xs (p2 m - 1)) (payQ m xs) a = wts xs (p2 m - 1) - wts (xs.eraseIdx a) (p2 m - 1) := by
      rw [← pay_eq hE a, at0_owns m xs a ha]
      unfold gainOf costOf
      rw [show (payQ m xs).length = m from tab_length ..]
      rcases own_cases hE hS a with e | ⟨k, hk, e⟩
      · have h1 := pay_nonneg hE a ha
        have h2 := pay_le hE a
        rw [at0_owns m xs a ha, e, (hS _ (by rw [rowAt_eq ha]; exact List.getElem_mem ha)).zero] at h2
        rw [e, cost_zero]; omega
      · rw [e, cost_p2, if_pos hk, payQ_own hE hS ha hk e]
    unfold moreOf at hw
    rw [hg, payQ_at j hj] at hw
    have hpa := perm_erase a ha
    have hva : valOf (rowAt xs a) j = at0 (rowAt xs a) (p2 j) := rfl
    by_cases hx : ∃ h, h < xs.length ∧ bitOf (natAt (alloc xs (p2 m - 1)) h) j = 1
    · obtain ⟨h, hh, hbh⟩ := hx
      have hne : a ≠ h := fun e => hb (e ▸ hbh)
      rw [payHold_some hbh _ hh fun i' hn => holder_one hE hS hn hbh] at hw
      obtain ⟨eh, _⟩ := own_bit hE hS hbh
      obtain ⟨L, q1, q2, q3⟩ := perm2 hE hS ha hh hne
      have h1 := (alloc_hold xs (p2 m - 1) h hE.pos hh).1
      rw [eh] at h1
      have hle := andN_le (p2 m - 1) (p2 j)
      have h2 := pay_eq hE h
      rw [at0_owns m xs h hh, eh] at h2
      have hvh : valOf (rowAt xs h) j = at0 (rowAt xs h) (p2 j) := rfl
      have t := Asg.F_take (m := m) (valOf (rowAt xs h)) ((xs.eraseIdx h).map valOf) (tb (p2 m - 1)) j hj (full_bit hj)
      rw [← Asg.F_perm (perm_erase h hh)] at t
      rw [wts_F _ (sgl_erase hS h) _ (by omega), tb_del] at h1
      have hopt : Asg.F m (xs.map valOf) (tb (p2 m - 1)) = valOf (rowAt xs h) j + Asg.F m (valOf (rowAt xs a) :: L) (Asg.del (tb (p2 m - 1)) j) := by
        rw [← Asg.F_perm q3]; omega
      have r := Asg.pay_some q1 (tb (p2 m - 1)) j hj (full_bit hj) hopt
      rw [← Asg.F_perm q2, ← Asg.F_perm q3, ← wts_F _ (sgl_erase hS a) _ hM, ← wts_F _ (sgl_erase hS h) _ hM] at r
      omega
    · have hn : ∀ i, i < xs.length → ¬ bitOf (natAt (alloc xs (p2 m - 1)) i) j = 1 := fun i hi hbi => hx ⟨i, hi, hbi⟩
      rw [payHold_none _ hn] at hw
      have hu := unsold hE hS j fun i => by
        by_cases hi : i < xs.length
        · cases hc : (natAt (alloc xs (p2 m - 1)) i).testBit j
          · rfl
          · exact absurd (bit_tb.2 hc) (hn i hi)
        · have : natAt (alloc xs (p2 m - 1)) i = 0 := by
            unfold natAt
            rw [List.getD_eq_getElem?_getD, List.getElem?_eq_none (by rw [alloc_length]; omega)]; rfl
          rw [this]; simp
      have hle := andN_le (p2 m - 1) (p2 j)
      rw [hFM, wts_F _ hS _ (by omega), tb_del] at hu
      have r := Asg.pay_none hpa (tb (p2 m - 1)) j hj (full_bit hj) hu
      rw [← wts_F _ (sgl_erase hS a) _ hM, ← hFM] at r
      omega
end

/-! ### weak duality -/
def tL (ps : List Int) (m : Nat) : List Nat → Int
  | [] => 0
  | s :: ls => costUpto ps s m + tL ps m ls
def GainOk (ps : List Int) (m : Nat) : List (List Int) → List Nat → Prop
  | b :: bs, s :: ls => (0 ≤ at0 b s - costUpto ps s m ∧ ∀ j, j < m → at0 b (p2 j) - at0 ps j ≤ at0 b s - costUpto ps s m) ∧ GainOk ps m bs ls
  | _, _ => True
theorem GainOk.erase {ps : List Int} {m : Nat} : ∀ {bs : List (List Int)} {ls : List Nat} (i : Nat), GainOk ps m bs ls → GainOk ps m (bs.eraseIdx i) (ls.eraseIdx i)
  | b :: bs, s :: ls, 0, h => h.2
  | b :: bs, s :: ls, i + 1, h => ⟨h.1, GainOk.erase i h.2⟩
  | [], _, _, _ => by simp [GainOk]
  | _ :: _, [], i, _ => by simp [GainOk]
theorem GainOk.of {ps : List Int} {m : Nat} : ∀ (bs : List (List Int)) (ls : List Nat), (∀ i, i < bs.length → 0 ≤ at0 (rowAt bs i) (natAt ls i) - costUpto ps (natAt ls i) m ∧ ∀ j, j < m → at0 (rowAt bs i) (p2 j) - at0 ps j ≤ at0 (rowAt bs i) (natAt ls i) - costUpto ps (natAt ls i) m) → GainOk ps m bs ls
  | [], _, _ => by simp [GainOk]
  | _ :: _, [], _ => by simp [GainOk]
  | b :: bs, s :: ls, h => ⟨h 0 (by simp), GainOk.of bs ls fun i hi => h (i + 1) (by simp; omega)⟩
theorem tL_erase (ps : List Int) (m : Nat) : ∀ (ls : List Nat) (i : Nat), tL ps m (ls.eraseIdx i) = tL ps m ls - (if i < ls.length then costUpto ps (natAt ls i) m else 0)
  | [], i => by simp [tL]
  | s :: ls, 0 => by show tL ps m ls = costUpto ps s m + tL ps m ls - (if 0 < (s :: ls).length then costUpto ps s m else 0); simp; omega
  | s :: ls, i + 1 => by
    have ih := tL_erase ps m ls i
    show costUpto ps s m + tL ps m (ls.eraseIdx i) = costUpto ps s m + tL ps m ls - (if i + 1 < (s :: ls).length then costUpto ps (natAt ls i) m else 0)
    rw [ih]
    by_cases c : i < ls.length
    · rw [if_pos c, if_pos (by simp; omega)]; omega
    · rw [if_neg c, if_neg (by simp; omega)]; omega
theorem dual {ps : List Int} {m : Nat} : ∀ (bs : List (List Int)) (ls : List Nat) (S : Nat), SglAll m bs → S < p2 m → ls.length = bs.length → (∀ j, 0 ≤ at0 ps j) → GainOk ps m bs ls → wts bs S ≤ valL bs ls - tL ps m ls + costUpto ps S m
  | [], [], S, _, _, _, hp, _ => by
    have := cost_nonneg ps S hp m
    show (0 : Int) ≤ 0 - 0 + _
    omega
  | b :: bs, s :: ls, S, hS, hlt, hl, hp, hg => by
    obtain ⟨h1, h2, _⟩ := wts_cons hS.pos S
    have hle := andN_le S (pickB b bs S)
    have ih := dual bs ls (andN S (pickB b bs S)) hS.tail (by omega) (by simpa using hl) hp hg.2
    have hc := cost_split ps h1 m
    rw [h2, valL, tL]
    have hg1 := hg.1
    rcases pick_one hS hlt with e | ⟨k, hk, _, e⟩
    · rw [e] at ih hc ⊢
      rw [cost_zero] at hc
      rw [(hS b List.mem_cons_self).zero]
      omega
    · have := hg1.2 k hk
      rw [e] at ih hc ⊢
      rw [cost_p2, if_pos hk] at hc
      omega
  | [], _ :: _, _, _, _, h, _, _ => by simp at h
  | _ :: _, [], _, _, _, h, _, _ => by simp at h
def leftF : List Nat → Nat → Nat
  | [], S => S
  | s :: ls, S => leftF ls (andN S s)
theorem leftF_bit : ∀ (ls : List Nat) (S j : Nat), (leftF ls S).testBit j = true → ∀ i, (natAt ls i).testBit j = false
  | [], _, _, _, i => by simp [natAt]
  | s :: ls, S, j, h, 0 => by
    have sub : ∀ (ls : List Nat) (S : Nat), (leftF ls S).testBit j = true → S.testBit j = true := by
      intro ls
      induction ls with
      | nil => intro S h; exact h
      | cons s ls ih => intro S h; have := ih _ h; rw [testBit_andN] at this; simp only [Bool.and_eq_true] at this; exact this.1
    have := sub ls _ h
    rw [testBit_andN] at this
    simp only [Bool.and_eq_true, Bool.not_eq_true'] at this
    exact this.2
  | s :: ls, S, j, h, i + 1 => leftF_bit ls (andN S s) j h i
theorem tL_left (ps : List Int) (m : Nat) : ∀ (ls : List Nat) (S : Nat), Fits ls S → tL ps m ls + costUpto ps (leftF ls S) m = costUpto ps S m
  | [], S, _ => by show 0 + _ = _; rw [leftF]; omega
  | s :: ls, S, h => by
    have ih := tL_left ps m ls (andN S s) h.2
    have hc := cost_split ps h.1 m
    rw [tL, leftF]
    omega

/-- the least prices of what a bidder has are its payment -/
theorem least_pay {m : Nat} {xs : List (List Int)} (hE : Bids m xs) (hS : SglAll m xs) {ps : List Int} (hC : Clr m xs (alloc xs (p2 m - 1)) ps) (hL : Low m xs (alloc xs (p2 m - 1)) ps) (i : Nat) (hi : i < xs.length) :
    costUpto ps (natAt (alloc xs (p2 m - 1)) i) m = payAt m xs i := by
  rcases own_cases hE hS i with e | ⟨k, hk, e⟩
  · rw [e, cost_zero, pay_zero hE hS hC hL i hi e]
  · have h1 := hL.2.2 _ (payQ_clr hE hS) k
    rw [payQ_own hE hS hi hk e] at h1
    have hgo : GainOk ps m xs (alloc xs (p2 m - 1)) := GainOk.of _ _ fun i hi => by
      have a := gain_nn hE hS hC hL i hi
      have b := fun j hj => item_le hE hS hC hL i j hi hj
      unfold gainOf costOf at a b
      rw [hC.1] at a b
      exact ⟨a, b⟩
    have hd := dual (xs.eraseIdx i) ((alloc xs (p2 m - 1)).eraseIdx i) (p2 m - 1) (sgl_erase hS i) (full_lt hE hS) (by
      rw [List.length_eraseIdx_of_lt hi, List.length_eraseIdx_of_lt (by rw [alloc_length]; exact hi), alloc_length]) (fun j => (hC.2.1 j).1) (hgo.erase i)
    rw [valL_erase xs _ i hi (alloc_length _ _), alloc_val _ _ hE.pos, tL_erase, if_pos (by rw [alloc_length]; exact hi)] at hd
    have hl := tL_left ps m (alloc xs (p2 m - 1)) (p2 m - 1) (alloc_fits _ _ hE.pos)
    have hz : costUpto ps (leftF (alloc xs (p2 m - 1)) (p2 m - 1)) m = 0 := cost_none ps _ m fun j hj hb => unsold_zero hE hS hC hL j hj fun i => leftF_bit _ _ j (bit_tb.1 hb) i
    have hpe := pay_eq hE i
    rw [at0_owns m xs i hi] at hpe
    rw [e, cost_p2, if_pos hk] at *
    omega
end Go.Proofs.Ytadonoacmpkolaa
