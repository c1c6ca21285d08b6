/- The specification's table of what is gone: a pass over the rules, in plain words. No condition. -/
import Derived.Test.YtaapnflhjbdmlaaDoorB2
namespace Go.Proofs.YtaapnflhjbdmlaaDoor
open Go.RowKit Go.Shelf

/-- the row of a head, with what is found below Q -/
def rowN (T : Nat → Nat → Nat → Bool) (p c : Nat) (now : Nat → Bool) (Q : Nat) : Nat → Nat → Nat → Bool := updT T p c fun x => T p c x || (decide (x < Q) && now x)
def newN (T : Nat → Nat → Nat → Bool) (p c : Nat) (now : Nat → Bool) (Q : Nat) : Bool := (List.range Q).any fun x => now x && !T p c x
theorem rowN_zero (T : Nat → Nat → Nat → Bool) (p c : Nat) (now : Nat → Bool) : rowN T p c now 0 = T := by
  funext p' c' q
  unfold rowN updT
  by_cases h : p' = p ∧ c' = c
  · obtain ⟨rfl, rfl⟩ := h; simp
  · rw [if_neg h]
theorem newN_zero (T : Nat → Nat → Nat → Bool) (p c : Nat) (now : Nat → Bool) : newN T p c now 0 = false := rfl
theorem rowN_at (T : Nat → Nat → Nat → Bool) (p c : Nat) (now : Nat → Bool) (Q : Nat) : rowN T p c now Q p c Q = T p c Q := by simp [rowN, updT]
theorem rowN_new {T : Nat → Nat → Nat → Bool} {p c : Nat} {now : Nat → Bool} {Q : Nat} (h : now Q = true) : updT (rowN T p c now Q) p c (fun j => if j = Q then true else rowN T p c now Q p c j) = rowN T p c now (Q + 1) := by
  funext p' c' q
  unfold rowN updT
  by_cases he : p' = p ∧ c' = c
  · obtain ⟨rfl, rfl⟩ := he
    by_cases hq : q = Q
    · subst hq; simp [h]
    · have : decide (q < Q + 1) = decide (q < Q) := by
        by_cases h1 : q < Q
        · simp [h1, show q < Q + 1 by omega]
        · simp [h1, show ¬ q < Q + 1 by omega]
      simp [hq, this]
  · simp [he]
theorem rowN_old {T : Nat → Nat → Nat → Bool} {p c : Nat} {now : Nat → Bool} {Q : Nat} (h : now Q = false ∨ T p c Q = true) : rowN T p c now (Q + 1) = rowN T p c now Q := by
  funext p' c' q
  unfold rowN updT
  by_cases he : p' = p ∧ c' = c
  · obtain ⟨rfl, rfl⟩ := he
    by_cases hq : q = Q
    · subst hq
      rcases h with h | h <;> simp [h]
    · have : decide (q < Q + 1) = decide (q < Q) := by
        by_cases h1 : q < Q
        · simp [h1, show q < Q + 1 by omega]
        · simp [h1, show ¬ q < Q + 1 by omega]
      simp [this]
  · rw [if_neg he, if_neg he]
theorem newN_succ (T : Nat → Nat → Nat → Bool) (p c : Nat) (now : Nat → Bool) (Q : Nat) : newN T p c now (Q + 1) = (newN T p c now Q || (now Q && !T p c Q)) := by
  unfold newN
  rw [List.range_succ, List.any_append]
  simp

/-- what holds in a pass, behind i rules -/
structure PPass (R : List Rule) (C : Nat) (T0 T : Nat → Nat → Nat → Bool) (a : Bool) (i : Nat) : Prop where
  sound : ∀ p c q : Nat, p < C → c < 5 → T p c q = true → Pops R p (97 + c) q
  mono : ∀ p c q, T0 p c q = true → T p c q = true
  quiet : a = false → T = T0 ∧ ∀ (j : Nat) r, j < i → R[j]? = some r → PClosedAt C T r
  less : a = true → cntT C T < cntT C T0
theorem PPass.begin {R : List Rule} {C : Nat} {T : Nat → Nat → Nat → Bool} (h : ∀ p c q : Nat, p < C → c < 5 → T p c q = true → Pops R p (97 + c) q) : PPass R C T T false 0 :=
  ⟨h, fun _ _ _ h => h, fun _ => ⟨rfl, fun j r hj => absurd hj (by omega)⟩, fun h => by cases h⟩
theorem PPass.rule {R : List Rule} {C : Nat} {T0 T : Nat → Nat → Nat → Bool} {a : Bool} {i : Nat} (h : PPass R C T0 T a i) (hl : RulesOk C R) (hi : RulesIn C R) {r : Rule} (hr : R[i]? = some r) {p c t : Nat} (hp : r.fr = p) (hc : r.top = 97 + c) (ht : r.to = t)
    {now : Nat → Bool} (hnow : now = ppw C T r.put (at1 t)) (hw : Word r.put) (hpC : p < C) (hc5 : c < 5) (htC : t < C) : PPass R C T0 (rowN T p c now C) (a || newN T p c now C) (i + 1) := by
  have hmono : ∀ p' c' q, T p' c' q = true → rowN T p c now C p' c' q = true := by
    intro p' c' q hT
    unfold rowN updT
    by_cases he : p' = p ∧ c' = c
    · obtain ⟨rfl, rfl⟩ := he; simp [hT]
    · rw [if_neg he]; exact hT
  have hfix : newN T p c now C = false → rowN T p c now C = T := by
    intro hf
    have hall : ∀ x, x < C → now x = true → T p c x = true := by
      intro x hx hn
      unfold newN at hf
      rw [List.any_eq_false] at hf
      have := hf x (List.mem_range.2 hx)
      simpa [hn] using this
    funext p' c' q
    unfold rowN updT
    by_cases he : p' = p ∧ c' = c
    · obtain ⟨rfl, rfl⟩ := he
      rw [if_pos ⟨rfl, rfl⟩]
      by_cases hq : q < C
      · cases hn : now q
        · simp [hn]
        · simp [hall q hq hn]
      · simp [hq]
    · rw [if_neg he]
  refine ⟨fun p' c' q hp' hc' hT => ?_, fun p' c' q hT => hmono _ _ _ (h.mono _ _ _ hT), fun ha => ?_, fun ha => ?_⟩
  · by_cases he : p' = p ∧ c' = c
    · obtain ⟨rfl, rfl⟩ := he
      have hT' : T p' c' q = true ∨ (q < C ∧ now q = true) := by simpa [rowN, updT] using hT
      rcases hT' with hT' | ⟨hq, hn⟩
      · exact h.sound _ _ _ hp' hc' hT'
      · rw [hnow] at hn
        obtain ⟨p0, hp0, h0, hpop⟩ := ppw_sound (fun p c q hp hc => h.sound p c q hp hc) r.put (at1 t) q hw hq hn
        have : p0 = t := by simpa [at1] using h0
        subst this
        exact (pops_iff hl).2 ⟨i, r, hr, hp, hc, by rw [ht]; exact hpop⟩
    · rw [show rowN T p c now C p' c' q = T p' c' q by unfold rowN updT; rw [if_neg he]] at hT
      exact h.sound _ _ _ hp' hc' hT
  · simp only [Bool.or_eq_false_iff] at ha
    obtain ⟨ha, hn⟩ := ha
    obtain ⟨h1, h2⟩ := h.quiet ha
    rw [hfix hn]
    refine ⟨h1, fun j r' hj hr' => ?_⟩
    by_cases hji : j < i
    · exact h2 j r' hji hr'
    · obtain rfl : j = i := by omega
      rw [hr] at hr'
      cases hr'
      intro q hq hpw
      rw [ht] at hpw
      rw [hp, hc]
      have e1 : ((p : Int)).toNat = p := by omega
      have e2 : ((97 + (c : Int)) - 97).toNat = c := by omega
      have e3 : ((t : Int)).toNat = t := by omega
      rw [e3] at hpw
      rw [e1, e2]
      rw [← hnow] at hpw
      have : rowN T p c now C p c q = T p c q := by rw [hfix hn]
      rw [← this]
      simp [rowN, updT, hq, hpw]
  · by_cases hn : newN T p c now C = true
    · unfold newN at hn
      rw [List.any_eq_true] at hn
      obtain ⟨x, hx, hx2⟩ := hn
      rw [List.mem_range] at hx
      simp only [Bool.and_eq_true, Bool.not_eq_true'] at hx2
      have hlt : cntT C (rowN T p c now C) < cntT C T := cntT_lt hmono hpC hc5 hx hx2.2 (by simp [rowN, updT, hx, hx2.1])
      cases ha' : a
      · obtain ⟨h1, _⟩ := h.quiet ha'
        rw [← h1]; exact hlt
      · exact Nat.lt_trans hlt (h.less ha')
    · have hn' : newN T p c now C = false := by simpa using hn
      rw [hfix hn']
      exact h.less (by simpa [hn'] using ha)
/-- a pass in which nothing was found: the table tells what is gone -/
theorem PPass.tab {R : List Rule} {C : Nat} {T0 T : Nat → Nat → Nat → Bool} (h : PPass R C T0 T false R.length) (hl : RulesOk C R) (hi : RulesIn C R) : PTab R C T := by
  intro p c q hp hc hq
  refine ⟨h.sound p c q hp hc, fun hpop => ?_⟩
  obtain ⟨_, _, _, _, h5⟩ := pops_complete hi hl (fun i r hr => (h.quiet rfl).2 i r ((List.getElem?_eq_some_iff.1 hr).1) hr) hpop
  have e1 : ((p : Int)).toNat = p := by omega
  have e2 : ((97 + (c : Int)) - 97).toNat = c := by omega
  have e3 : ((q : Int)).toNat = q := by omega
  rwa [e1, e2, e3] at h5
end Go.Proofs.YtaapnflhjbdmlaaDoor
