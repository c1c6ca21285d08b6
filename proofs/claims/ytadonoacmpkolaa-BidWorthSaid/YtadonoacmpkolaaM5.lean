/- Plain: more bidders, higher offers; what all offer is a core payment list. -/
import Derived.Test.YtadonoacmpkolaaM3
import Derived.Test.YtadonoacmpkolaaW19
import Derived.Test.YtadonoacmpkolaaW21
namespace Go.Proofs.Ytadonoacmpkolaa

theorem in_out (os : List Int) (s : Nat) : ∀ k, inUpto os s k + outUpto os s k = sumUpto os k
  | 0 => rfl
  | k + 1 => by
    have ih := in_out os s k
    rw [inUpto, outUpto, sumUpto]
    split <;> omega
theorem wts_sel_le (who : Nat) : ∀ (bs : List (List Int)) (k S : Nat), Pos bs → wts (selR who k bs) S ≤ wts bs S
  | [], _, _, _ => Int.le_refl _
  | b :: bs, k, S, hp => by
    rw [selR]
    split
    · have hp' : Pos (b :: selR who (k + 1) bs) := fun c hc => by
        rcases List.mem_cons.1 hc with h | h
        · rw [h]; exact hp.head
        · exact hp.tail.sel c h
      obtain ⟨h1, h2, _⟩ := wts_cons hp' S
      have ih := wts_sel_le who bs (k + 1) (andN S (pickB b (selR who (k + 1) bs) S)) hp.tail
      have := ((wts_cons hp S).2.2 _ h1).1
      rw [h2]
      omega
    · have ih := wts_sel_le who bs (k + 1) S hp.tail
      have := ((wts_cons hp S).2.2 0 (Nat.zero_and _)).1
      rw [andN_nothing] at this
      have := hp.head 0
      omega
theorem core_owns {m : Nat} {xs : List (List Int)} (h : Bids m xs) : coreB m xs (ownsOf m xs) = true := by
  refine coreB_yes (fun i _ => ?_) fun s _ => ?_
  · have := ownsOf_bd h i
    unfold paysOk
    simp
    omega
  · have h1 := in_out (ownsOf m xs) s xs.length
    rw [owns_sum h] at h1
    have h2 := wts_sel_le s xs 0 (p2 m - 1) h.pos
    unfold setOk
    simp
    omega
theorem wts_snoc : ∀ (bs : List (List Int)) (o : List Int) (S : Nat), Pos bs → (∀ s, 0 ≤ at0 o s) → wts bs S ≤ wts (bs ++ [o]) S
  | [], o, S, _, ho => wts_nonneg [o] (fun b hb => by rw [List.mem_singleton.1 hb]; exact ho) S
  | b :: bs, o, S, hp, ho => by
    have hp' : Pos (b :: (bs ++ [o])) := fun c hc => by
      rcases List.mem_cons.1 hc with h | h
      · rw [h]; exact hp.head
      · rcases List.mem_append.1 h with h | h
        · exact hp.tail c h
        · rw [List.mem_singleton.1 h]; exact ho
    obtain ⟨h1, h2, _⟩ := wts_cons hp S
    have ih := wts_snoc bs o (andN S (pickB b bs S)) hp.tail ho
    have := ((wts_cons hp' S).2.2 _ h1).1
    show _ ≤ wts (b :: (bs ++ [o])) S
    rw [h2]
    omega
theorem wts_high {b hi : List Int} {bs : List (List Int)} (hp : Pos (b :: bs)) (h : ∀ s, at0 b s ≤ at0 hi s ∧ at0 hi s ≤ at0 b s + 3) (S : Nat) : wts (b :: bs) S ≤ wts (hi :: bs) S ∧ wts (hi :: bs) S ≤ wts (b :: bs) S + 3 := by
  have hp' : Pos (hi :: bs) := fun c hc => by
    rcases List.mem_cons.1 hc with h1 | h1
    · rw [h1]; intro s; have := hp.head s; have := h s; omega
    · exact hp.tail c h1
  obtain ⟨a1, a2, a3⟩ := wts_cons hp S
  obtain ⟨b1, b2, b3⟩ := wts_cons hp' S
  have c1 := (b3 _ a1).1
  have c2 := (a3 _ b1).1
  have d1 := h (pickB b bs S)
  have d2 := h (pickB hi bs S)
  omega

/-- a bidder's offer, 3 higher -/
def hiF (b : List Int) (t j : Nat) : Int := if j = 0 then at0 b 0 else if j < t then at0 b j + 3 else at0 b j
def hiRow (m : Nat) (b : List Int) : List Int := tab (p2 m) (hiF b (p2 m))
theorem hiRow_at {m : Nat} {b : List Int} (hb : b.length = p2 m) (s : Nat) : at0 b s ≤ at0 (hiRow m b) s ∧ at0 (hiRow m b) s ≤ at0 b s + 3 := by
  unfold hiRow
  rw [at0_tab]
  by_cases h : s < p2 m
  · rw [if_pos h]
    unfold hiF
    by_cases h0 : s = 0
    · rw [if_pos h0, h0]; omega
    · rw [if_neg h0, if_pos h]; omega
  · rw [if_neg h]
    have : at0 b s = 0 := by unfold at0; simp [List.getD, List.getElem?_eq_none (show b.length ≤ s by omega)]
    rw [this]; omega
theorem hiRow_bid {m : Nat} {b : List Int} (hb : offd m b) : isBidB m (hiRow m b) = true := by
  have hok := isBidB_ok hb.1
  have h0 : at0 b 0 = 0 := by
    have := hb.1
    unfold isBidB at this
    simp only [Bool.and_eq_true, decide_eq_true_eq] at this
    exact this.1.2
  have hmono : ∀ s, s < p2 m → ∀ i, i < m → bitOf s i = 1 → at0 b (andN s (p2 i)) ≤ at0 b s := by
    intro s hs i hi hbit
    have h1 := hb.1
    unfold isBidB at h1
    simp only [Bool.and_eq_true, decide_eq_true_eq] at h1
    have h2 := List.all_eq_true.1 h1.2 s (List.mem_range.2 (by rw [h1.1.1]; exact hs))
    unfold offOk at h2
    simp only [Bool.and_eq_true] at h2
    have h3 := List.all_eq_true.1 h2.2 i (List.mem_range.2 hi)
    rw [hbit] at h3
    simp at h3
    exact h3
  have hp := p2_pos m
  have hat : ∀ s, s < p2 m → at0 (hiRow m b) s = if s = 0 then 0 else at0 b s + 3 := fun s hs => by
    unfold hiRow
    rw [at0_tab, if_pos hs]
    unfold hiF
    by_cases e : s = 0
    · rw [if_pos e, if_pos e, h0]
    · rw [if_neg e, if_neg e, if_pos hs]
  have hlen : (hiRow m b).length = p2 m := tab_length ..
  refine isBidB_yes hlen (by rw [hat 0 hp, if_pos rfl]) fun s hs => ?_
  rw [hlen] at hs
  have hbs := hok.2 s
  have hb39 := hb.2 s
  refine offOk_yes (by rw [hat s hs]; split <;> omega) (by rw [hat s hs]; split <;> omega) fun i hi hh => ?_
  have hlt := andN_lt hh.1
  have h2 := hh.2
  rw [hat s hs, hat _ (by omega), if_neg (by omega)] at h2
  have h3 := hmono s hs i hi hh.1
  split at h2 <;> omega
end Go.Proofs.Ytadonoacmpkolaa
