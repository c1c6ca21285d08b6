/- Plain: single bids are an assignment game; prices that clear their first best allocation. -/
import Derived.Test.YtadonoacmpkolaaM2
import Derived.Test.YtadonoacmpkolaaM3
import Derived.Test.YtadonoacmpkolaaW16
namespace Go.Proofs.Ytadonoacmpkolaa

/-- what a single bid says -/
structure Sgl (m : Nat) (b : List Int) : Prop where
  zero : at0 b 0 = 0
  nn : ∀ s, 0 ≤ at0 b s
  ge : ∀ s, s < p2 m → ∀ i, i < m → bitOf s i = 1 → at0 b (p2 i) ≤ at0 b s
  mem : ∀ s, s < p2 m → at0 b s = 0 ∨ ∃ i, i < m ∧ bitOf s i = 1 ∧ at0 b s = at0 b (p2 i)

theorem sgl_spec (l : List Int) (s : Nat) (h : ∀ i, 0 ≤ at0 l i) : ∀ k, 0 ≤ sglUpto l s k ∧ (∀ i, i < k → bitOf s i = 1 → at0 l i ≤ sglUpto l s k) ∧ (sglUpto l s k = 0 ∨ ∃ i, i < k ∧ bitOf s i = 1 ∧ sglUpto l s k = at0 l i)
  | 0 => ⟨Int.le_refl _, fun i hi => absurd hi (by omega), .inl rfl⟩
  | k + 1 => by
    obtain ⟨h1, h2, h3⟩ := sgl_spec l s h k
    rw [sglUpto]
    by_cases hb : bitOf s k = 1
    · rw [if_pos hb]
      by_cases hc : sglUpto l s k < at0 l k
      · rw [if_pos hc]
        refine ⟨h k, fun i hi hbi => ?_, .inr ⟨k, by omega, hb, rfl⟩⟩
        by_cases e : i = k
        · subst e; exact Int.le_refl _
        · have := h2 i (by omega) hbi; omega
      · rw [if_neg hc]
        refine ⟨h1, fun i hi hbi => ?_, ?_⟩
        · by_cases e : i = k
          · subst e; omega
          · exact h2 i (by omega) hbi
        · rcases h3 with h3 | ⟨i, a, b, c⟩
          · exact .inl h3
          · exact .inr ⟨i, by omega, b, c⟩
    · rw [if_neg hb]
      refine ⟨h1, fun i hi hbi => ?_, ?_⟩
      · by_cases e : i = k
        · subst e; exact absurd hbi hb
        · exact h2 i (by omega) hbi
      · rcases h3 with h3 | ⟨i, a, b, c⟩
        · exact .inl h3
        · exact .inr ⟨i, by omega, b, c⟩
theorem sgl_of {m : Nat} {b : List Int} (h1 : singleB m b = true) (h2 : isBidB m b = true) : Sgl m b := by
  have hok := isBidB_ok h2
  have h0 : at0 b 0 = 0 := by
    have := h2
    unfold isBidB at this
    simp only [Bool.and_eq_true, decide_eq_true_eq] at this
    exact this.1.2
  unfold singleB at h1
  have he : singleOf (itemsOf m b) = b := by simpa using h1
  have hil : (itemsOf m b).length = m := tab_length ..
  have hit : ∀ i, i < m → at0 (itemsOf m b) i = at0 b (p2 i) := fun i hi => by unfold itemsOf; rw [at0_tab, if_pos hi]
  have hinn : ∀ i, 0 ≤ at0 (itemsOf m b) i := fun i => by
    unfold itemsOf; rw [at0_tab]; split
    · exact (hok.2 _).1
    · exact Int.le_refl _
  have hs : ∀ s, s < p2 m → at0 b s = sglUpto (itemsOf m b) s m := fun s hs => by
    have := congrArg (at0 · s) he
    unfold singleOf at this
    rw [hil] at this
    rw [at0_tab, if_pos hs] at this
    exact this.symm
  refine ⟨h0, fun s => (hok.2 s).1, fun s hlt i hi hb => ?_, fun s hlt => ?_⟩
  · have := (sgl_spec (itemsOf m b) s hinn m).2.1 i hi hb
    rw [hit i hi, ← hs s hlt] at this
    exact this
  · rcases (sgl_spec (itemsOf m b) s hinn m).2.2 with h | ⟨i, a, c, d⟩
    · exact .inl (by rw [hs s hlt, h])
    · exact .inr ⟨i, a, c, by rw [hs s hlt, d, hit i a]⟩

def SglAll (m : Nat) (xs : List (List Int)) : Prop := ∀ b ∈ xs, Sgl m b
theorem SglAll.pos {m : Nat} {xs : List (List Int)} (h : SglAll m xs) : Pos xs := fun b hb => (h b hb).nn
theorem SglAll.tail {m : Nat} {b : List Int} {bs : List (List Int)} (h : SglAll m (b :: bs)) : SglAll m bs := fun c hc => h c (List.mem_cons_of_mem _ hc)

def tb (S : Nat) : Asg.Items := fun i => S.testBit i
def valOf (b : List Int) : Asg.Val := fun j => at0 b (p2 j)
theorem tb_del (S k : Nat) : tb (andN S (p2 k)) = Asg.del (tb S) k := by
  funext i
  unfold tb Asg.del
  rw [testBit_andN, testBit_p2]
  by_cases e : i = k
  · subst e; simp
  · have h2 : ¬ k = i := fun h => e h.symm
    simp [e, h2]
theorem bit_tb {S i : Nat} : bitOf S i = 1 ↔ S.testBit i = true := by
  rw [testBit_bitOf]; cases S.testBit i <;> simp
theorem p2_sub {S k : Nat} (h : S.testBit k = true) : p2 k &&& S = p2 k := by
  apply Nat.eq_of_testBit_eq
  intro i
  rw [Nat.testBit_and, testBit_p2]
  by_cases e : k = i
  · subst e; simp [h]
  · simp [e]
theorem sub_bit {s S i : Nat} (h : s &&& S = s) (hi : s.testBit i = true) : S.testBit i = true := by
  have := congrArg (·.testBit i) h
  simp only [Nat.testBit_and, hi, Bool.true_and] at this
  exact this
theorem sub_lt {s S : Nat} (h : s &&& S = s) {N : Nat} (hS : S < N) : s < N := by
  have : s ≤ S := by rw [← h]; exact Nat.and_le_right
  omega

theorem wts_F {m : Nat} : ∀ (xs : List (List Int)), SglAll m xs → ∀ S, S < p2 m → wts xs S = Asg.F m (xs.map valOf) (tb S)
  | [], _, _, _ => rfl
  | b :: bs, h, S, hS => by
    have hb := h b List.mem_cons_self
    have ih := wts_F bs h.tail
    obtain ⟨h1, h2, h3⟩ := wts_cons h.pos S
    have hle := andN_le S (pickB b bs S)
    apply Int.le_antisymm
    · rw [h2, ih _ (by omega)]
      rcases hb.mem (pickB b bs S) (sub_lt h1 hS) with e | ⟨i, hi, hbit, e⟩
      · have a := Asg.F_mono (m := m) (bs.map valOf) (tb (andN S (pickB b bs S))) (tb S) (fun i hi => by
          unfold tb at hi ⊢; rw [testBit_andN] at hi; simp only [Bool.and_eq_true] at hi; exact hi.1)
        have c := Asg.F_skip (m := m) (valOf b) (bs.map valOf) (tb S)
        show _ ≤ Asg.F m (valOf b :: bs.map valOf) (tb S)
        omega
      · have hpi := bit_tb.1 hbit
        have a := Asg.F_mono (m := m) (bs.map valOf) (tb (andN S (pickB b bs S))) (Asg.del (tb S) i) (fun j hj => by
          unfold tb at hj; rw [testBit_andN] at hj; simp only [Bool.and_eq_true] at hj
          refine Asg.del_ne hj.1 fun e => ?_
          subst e
          rw [hpi] at hj
          simp at hj)
        have c := Asg.F_take (m := m) (valOf b) (bs.map valOf) (tb S) i hi (sub_bit h1 hpi)
        have d : valOf b i = at0 b (p2 i) := rfl
        show _ ≤ Asg.F m (valOf b :: bs.map valOf) (tb S)
        omega
    · show Asg.F m (valOf b :: bs.map valOf) (tb S) ≤ _
      rcases Asg.F_cases (m := m) (valOf b) (bs.map valOf) (tb S) with e | ⟨k, hk, hSk, e⟩
      · rw [e, ← ih S hS]
        have := (h3 0 (Nat.zero_and _)).1
        rw [andN_nothing, hb.zero] at this
        omega
      · have hle2 := andN_le S (p2 k)
        rw [e, ← tb_del, ← ih _ (by omega)]
        exact (h3 (p2 k) (p2_sub hSk)).1

theorem wts_mono {m : Nat} {xs : List (List Int)} (h : SglAll m xs) {S T : Nat} (hT : T < p2 m) (hST : S &&& T = S) : wts xs S ≤ wts xs T := by
  rw [wts_F xs h S (sub_lt hST hT), wts_F xs h T hT]
  exact Asg.F_mono _ _ _ fun i hi => sub_bit hST hi
theorem pick_one {m : Nat} {b : List Int} {bs : List (List Int)} (h : SglAll m (b :: bs)) {S : Nat} (hS : S < p2 m) : pickB b bs S = 0 ∨ ∃ k, k < m ∧ S.testBit k = true ∧ pickB b bs S = p2 k := by
  have hb := h b List.mem_cons_self
  obtain ⟨h1, h2, h3⟩ := wts_cons h.pos S
  rcases hb.mem (pickB b bs S) (sub_lt h1 hS) with e | ⟨i, hi, hbit, e⟩
  · left
    have a := h3 0 (Nat.zero_and _)
    rw [andN_nothing, hb.zero] at a
    have c := wts_mono h.tail hS (andN_sub (S := S) (s := pickB b bs S) (t := andN S (pickB b bs S)) (Nat.and_self _))
    have := a.2 (by omega)
    omega
  · right
    have hpi := bit_tb.1 hbit
    have hSi := sub_bit h1 hpi
    refine ⟨i, hi, hSi, ?_⟩
    have a := h3 (p2 i) (p2_sub hSi)
    have hle2 := andN_le S (p2 i)
    have c := wts_mono h.tail (T := andN S (p2 i)) (S := andN S (pickB b bs S)) (by omega) (by
      apply Nat.eq_of_testBit_eq
      intro j
      rw [Nat.testBit_and, testBit_andN, testBit_andN, testBit_p2]
      by_cases ej : i = j
      · subst ej; simp [hpi]
      · simp [ej]; cases S.testBit j <;> simp)
    have d := a.2 (by omega)
    have f : p2 i ≤ pickB b bs S := by
      rcases Nat.lt_or_ge (pickB b bs S) (p2 i) with g | g
      · have := Nat.testBit_lt_two_pow (i := i) g
        rw [this] at hpi
        cases hpi
      · exact g
    omega
theorem alloc_one {m : Nat} : ∀ (xs : List (List Int)), SglAll m xs → ∀ S, S < p2 m → ∀ i, natAt (alloc xs S) i = 0 ∨ ∃ k, k < m ∧ S.testBit k = true ∧ natAt (alloc xs S) i = p2 k
  | [], _, _, _, _ => .inl rfl
  | b :: bs, h, S, hS, 0 => pick_one h hS
  | b :: bs, h, S, hS, i + 1 => by
    have hle := andN_le S (pickB b bs S)
    rcases alloc_one bs h.tail (andN S (pickB b bs S)) (by omega) i with e | ⟨k, a, c, d⟩
    · exact .inl e
    · rw [testBit_andN] at c
      simp only [Bool.and_eq_true] at c
      exact .inr ⟨k, a, c.1, d⟩

theorem andN_comm (S s t : Nat) : andN (andN S s) t = andN (andN S t) s := by
  apply Nat.eq_of_testBit_eq
  intro i
  simp only [testBit_andN]
  cases S.testBit i <;> cases s.testBit i <;> simp
/-- s within S but apart from t -/
theorem sub_apart {S s t : Nat} (h : s &&& andN S t = s) (ht : t &&& S = t) : t &&& andN S s = t := by
  apply Nat.eq_of_testBit_eq
  intro i
  have a := congrArg (·.testBit i) h
  have b := congrArg (·.testBit i) ht
  simp only [Nat.testBit_and, testBit_andN] at a b ⊢
  cases hs : s.testBit i <;> cases htt : t.testBit i <;> cases hS : S.testBit i <;> simp [hs, htt, hS] at a b ⊢
theorem Pos.cons_erase {b : List Int} {bs : List (List Int)} (h : Pos (b :: bs)) (i : Nat) : Pos (b :: bs.eraseIdx i) := fun c hc => by
  rcases List.mem_cons.1 hc with h1 | h1
  · rw [h1]; exact h.head
  · exact h.tail c (List.mem_of_mem_eraseIdx h1)
/-- what a bidder has in the first best allocation, the others having the best of the rest -/
theorem alloc_hold : ∀ (xs : List (List Int)) (S i : Nat), Pos xs → i < xs.length → wts xs S ≤ at0 (rowAt xs i) (natAt (alloc xs S) i) + wts (xs.eraseIdx i) (andN S (natAt (alloc xs S) i)) ∧ natAt (alloc xs S) i &&& S = natAt (alloc xs S) i
  | [], _, _, _, h => by simp at h
  | b :: bs, S, 0, hp, _ => by
    obtain ⟨h1, h2, _⟩ := wts_cons hp S
    exact ⟨Int.le_of_eq h2, h1⟩
  | b :: bs, S, i + 1, hp, hi => by
    obtain ⟨h1, h2, _⟩ := wts_cons hp S
    obtain ⟨ih, ihs⟩ := alloc_hold bs (andN S (pickB b bs S)) i hp.tail (by simpa using hi)
    have e1 : natAt (alloc (b :: bs) S) (i + 1) = natAt (alloc bs (andN S (pickB b bs S))) i := rfl
    have e2 : rowAt (b :: bs) (i + 1) = rowAt bs i := rfl
    have e3 : (b :: bs).eraseIdx (i + 1) = b :: bs.eraseIdx i := rfl
    rw [e1, e2, e3]
    generalize natAt (alloc bs (andN S (pickB b bs S))) i = s at *
    have h3 := ((wts_cons (hp.cons_erase i) (andN S s)).2.2 (pickB b bs S) (sub_apart ihs h1)).1
    rw [andN_comm] at h3
    exact ⟨by omega, andN_sub ihs⟩

theorem perm_erase : ∀ {xs : List (List Int)} (i : Nat), i < xs.length → (xs.map valOf).Perm (valOf (rowAt xs i) :: (xs.eraseIdx i).map valOf)
  | [], i, h => by simp at h
  | b :: bs, 0, _ => List.Perm.refl _
  | b :: bs, i + 1, h => by
    have ih := perm_erase (xs := bs) i (by simpa using h)
    exact (List.Perm.cons (valOf b) ih).trans (List.Perm.swap _ _ _)
theorem sgl_erase {m : Nat} {xs : List (List Int)} (h : SglAll m xs) (i : Nat) : SglAll m (xs.eraseIdx i) := fun b hb => h b (List.mem_of_mem_eraseIdx hb)

/-- what each item adds -/
def addOf (m : Nat) (xs : List (List Int)) : List Int := tab m fun j => wts xs (p2 m - 1) - wts xs (andN (p2 m - 1) (p2 j))

theorem cost_zero (ps : List Int) : ∀ k, costUpto ps 0 k = 0
  | 0 => rfl
  | k + 1 => by
    rw [costUpto, cost_zero ps k, if_neg]
    unfold bitOf; simp
theorem cost_p2 (ps : List Int) (i : Nat) : ∀ k, costUpto ps (p2 i) k = if i < k then at0 ps i else 0
  | 0 => by simp [costUpto]
  | k + 1 => by
    have hb : bitOf (p2 i) k = if i = k then 1 else 0 := by
      rw [testBit_bitOf, testBit_p2]; by_cases e : i = k <;> simp [e]
    rw [costUpto, cost_p2 ps i k, hb]
    by_cases e : i = k
    · subst e; simp
    · rw [if_neg e]
      by_cases c : i < k
      · simp [c, show i < k + 1 by omega]
      · simp [c, show ¬ i < k + 1 by omega]
theorem full_bit {m j : Nat} (hj : j < m) : (p2 m - 1).testBit j = true := bit_tb.1 (bitOf_all hj)

/-- these prices clear the first best allocation, as far as it is asked -/
theorem addOf_clr {m : Nat} {xs : List (List Int)} (hE : Bids m xs) (h : SglAll m xs) : Clr m xs (alloc xs (p2 m - 1)) (addOf m xs) := by
  have hp := p2_pos m
  have hM : p2 m - 1 < p2 m := by omega
  have hFM := wts_F xs h _ hM
  have hFj : ∀ j, wts xs (andN (p2 m - 1) (p2 j)) = Asg.F m (xs.map valOf) (Asg.del (tb (p2 m - 1)) j) := fun j => by
    have := andN_le (p2 m - 1) (p2 j)
    rw [wts_F xs h _ (by omega), tb_del]
  have hat : ∀ j, at0 (addOf m xs) j = if j < m then wts xs (p2 m - 1) - wts xs (andN (p2 m - 1) (p2 j)) else 0 := fun j => by unfold addOf; rw [at0_tab]
  have hlen : (addOf m xs).length = m := tab_length ..
  refine ⟨hlen, fun j => ?_, fun i hi j hj => ?_⟩
  · rw [hat]
    split
    · have a := Asg.F_del (m := m) (xs.map valOf) (tb (p2 m - 1)) j
      have b := wts_bounds xs (fun b hb s => (hE.ok b hb).2 s) (p2 m - 1)
      have c := wts_nonneg xs hE.pos (andN (p2 m - 1) (p2 j))
      have d : (xs.length : Int) ≤ 6 := by have := hE.l6; omega
      rw [hFM, hFj] at *
      omega
    · exact ⟨by decide, by decide⟩
  · rintro ⟨hw1, hw2⟩
    have hperm := perm_erase i hi
    obtain ⟨ho1, _⟩ := alloc_hold xs (p2 m - 1) i hE.pos hi
    have hrow0 : at0 (rowAt xs i) 0 = 0 := (h _ (by rw [rowAt_eq hi]; exact List.getElem_mem hi)).zero
    unfold moreOf gainOf costOf at hw2
    rw [hlen] at hw2
    have hvj : valOf (rowAt xs i) j = at0 (rowAt xs i) (p2 j) := rfl
    rcases alloc_one xs h _ hM i with e | ⟨k, hk, _, e⟩
    · rw [e] at hw2 ho1
      rw [cost_zero, hrow0, hat, if_pos hj] at hw2
      rw [hrow0, andN_nothing] at ho1
      have a := Asg.price_none hperm (tb (p2 m - 1)) j hj (full_bit hj) (by
        have b := Asg.F_skip (m := m) (valOf (rowAt xs i)) ((xs.eraseIdx i).map valOf) (tb (p2 m - 1))
        rw [← Asg.F_perm hperm] at b
        rw [wts_F _ (sgl_erase h i) _ hM, hFM] at ho1
        omega)
      rw [hFM, hFj] at hw2
      omega
    · have hjk : j ≠ k := by
        intro e2
        rw [e, e2] at hw1
        apply hw1
        rw [testBit_bitOf, testBit_p2]; simp
      rw [e] at hw2 ho1
      rw [cost_p2, if_pos hk, hat, if_pos hj, hat, if_pos hk] at hw2
      have hle := andN_le (p2 m - 1) (p2 k)
      have a := Asg.price_some hperm (tb (p2 m - 1)) j k hj hk hjk (full_bit hj) (full_bit hk) (by
        have b := Asg.F_take (m := m) (valOf (rowAt xs i)) ((xs.eraseIdx i).map valOf) (tb (p2 m - 1)) k hk (full_bit hk)
        rw [← Asg.F_perm hperm] at b
        rw [wts_F _ (sgl_erase h i) _ (by omega), tb_del, hFM] at ho1
        have c : valOf (rowAt xs i) k = at0 (rowAt xs i) (p2 k) := rfl
        omega)
      have c : valOf (rowAt xs i) k = at0 (rowAt xs i) (p2 k) := rfl
      rw [hFM, hFj, hFj] at hw2
      omega
end Go.Proofs.Ytadonoacmpkolaa
