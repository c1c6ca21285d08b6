/- What a step of saturate does to the table, in plain words. No condition. -/
import Derived.Test.YtaapnflhjbdmlaaDoorM3
namespace Go.Proofs.YtaapnflhjbdmlaaDoor

theorem cget_lessL (L : List (Key × Cost)) (k : Key) (c : Cost) (h : isLess L k c = true) : cget (lessL L k c) = fun k' => if k' = k then some ⟨min c.steps far, c.rule, c.middle⟩ else cget L k' := by
  funext k'
  unfold lessL
  rw [if_pos h, cget_cput]
theorem lessL_not (L : List (Key × Cost)) (k : Key) (c : Cost) (h : isLess L k c = false) : lessL L k c = L := by unfold lessL; rw [h]; rfl
theorem isLess_false {L : List (Key × Cost)} {k : Key} {c : Cost} (h : isLess L k c = false) : ∃ d, cget L k = some d ∧ d.steps ≤ c.steps := by
  unfold isLess at h
  cases e : cget L k with
  | none => rw [e] at h; cases h
  | some d => rw [e] at h; simp at h; exact ⟨d, rfl, h⟩
theorem isLess_true {L : List (Key × Cost)} {k : Key} {c : Cost} (h : isLess L k c = true) : ∀ d, cget L k = some d → c.steps < d.steps := by
  intro d e
  unfold isLess at h
  rw [e] at h
  simpa using h

section
variable {R : List Rule} {B : Int → Int → Int → Prop}
theorem Inv.less {L : List (Key × Cost)} (h : Inv R B (cget L)) {k : Key} {c : Cost} (hc0 : 0 ≤ c.steps) (hs : ∃ l, D R B k.1 k.2.1 k.2.2 l ∧ ((l.length : Int) ≤ c.steps ∨ far ≤ c.steps)) (hw : Why R (cget L) k ⟨min c.steps far, c.rule, c.middle⟩) :
    Inv R B (cget (lessL L k c)) := by
  cases e : isLess L k c
  · rw [lessL_not L k c e]; exact h
  · rw [cget_lessL L k c e]
    have hf : (0 : Int) ≤ far := by decide
    refine h.set (c := ⟨min c.steps far, c.rule, c.middle⟩) (by dsimp only; omega) (by dsimp only; omega) ?_ hw (fun c0 h0 => by have := isLess_true e c0 h0; dsimp only; omega)
    obtain ⟨l, h1, h2⟩ := hs
    exact ⟨l, h1, by dsimp only; omega⟩

theorem Inv.less0 {L : List (Key × Cost)} (h : Inv R B (cget L)) {i : Nat} {r : Rule} (hr : R[i]? = some r) (hp : r.put = []) : Inv R B (cget (lessL L (r.fr, r.top, r.to) ⟨1, i, -1⟩)) := by
  have hf : (1 : Int) ≤ far := by decide
  exact h.less (by dsimp only; omega) ⟨[i], .pop hr hp, .inl (by simp)⟩ ⟨i, r, hr, rfl, rfl, rfl, .inl ⟨hp, rfl, by dsimp only; omega⟩⟩
theorem Inv.less1 {L : List (Key × Cost)} (h : Inv R B (cget L)) {i : Nat} {r : Rule} {b q : Int} {c1 : Cost} (hr : R[i]? = some r) (hp : r.put = [b]) (h1 : cget L (r.to, b, q) = some c1) : Inv R B (cget (lessL L (r.fr, r.top, q) ⟨1 + c1.steps, i, -1⟩)) := by
  obtain ⟨g1, g2⟩ := h.cost _ _ h1
  obtain ⟨l, g3, g4⟩ := h.sound _ _ h1
  have hf : (1 : Int) ≤ far := by decide
  exact h.less (by dsimp only; omega) ⟨i :: l, .one hr hp g3, by rw [List.length_cons]; dsimp only; omega⟩ ⟨i, r, hr, rfl, rfl, rfl, .inr (.inl ⟨b, c1, hp, h1, by dsimp only; omega⟩)⟩
theorem Inv.less2 {L : List (Key × Cost)} (h : Inv R B (cget L)) {i : Nat} {r : Rule} {b x m q : Int} {c1 c2 : Cost} (hr : R[i]? = some r) (hp : r.put = [b, x]) (h1 : cget L (r.to, b, m) = some c1) (h2 : cget L (m, x, q) = some c2) : Inv R B (cget (lessL L (r.fr, r.top, q) ⟨1 + c1.steps + c2.steps, i, m⟩)) := by
  obtain ⟨g1, g2⟩ := h.cost _ _ h1
  obtain ⟨l, g3, g4⟩ := h.sound _ _ h1
  obtain ⟨k1, k2⟩ := h.cost _ _ h2
  obtain ⟨l2, k3, k4⟩ := h.sound _ _ h2
  have hf : (1 : Int) ≤ far := by decide
  exact h.less (by dsimp only; omega) ⟨i :: (l ++ l2), .two hr hp g3 k3, by rw [List.length_cons, List.length_append]; dsimp only; omega⟩
    ⟨i, r, hr, rfl, rfl, rfl, .inr (.inr ⟨b, x, c1, c2, hp, h1, h2, by dsimp only; omega⟩)⟩
end

/-! ### the number that falls -/
def potAt (L : List (Key × Cost)) (k : Key) : Nat := match cget L k with
  | none => 1099511627777
  | some c => c.steps.toNat
def pot (U : List Key) (L : List (Key × Cost)) : Nat := (U.map (potAt L)).sum
theorem potAt_lessL {L : List (Key × Cost)} {k : Key} {c : Cost} (hc0 : 0 ≤ c.steps) (h : isLess L k c = true) (hcost : ∀ k d, cget L k = some d → 0 ≤ d.steps) (k' : Key) : potAt (lessL L k c) k' ≤ potAt L k' ∧ (k' = k → potAt (lessL L k c) k' < potAt L k') := by
  have e := congrFun (cget_lessL L k c h) k'
  unfold potAt
  rw [e]
  by_cases hk : k' = k
  · rw [if_pos hk, hk]
    have h2 := isLess_true h
    have hf : far = 1099511627776 := rfl
    cases hg : cget L k with
    | none => dsimp only; omega
    | some d => have := h2 d hg; have := hcost k d hg; dsimp only; omega
  · rw [if_neg hk]
    exact ⟨Nat.le_refl _, fun e => absurd e hk⟩
theorem pot_lessL {U : List Key} {L : List (Key × Cost)} {k : Key} {c : Cost} (hc0 : 0 ≤ c.steps) (hcost : ∀ k d, cget L k = some d → 0 ≤ d.steps) (hk : k ∈ U) : pot U (lessL L k c) ≤ pot U L ∧ (isLess L k c = true → pot U (lessL L k c) < pot U L) := by
  cases e : isLess L k c
  · rw [lessL_not L k c e]; exact ⟨Nat.le_refl _, fun h => by cases h⟩
  · have key : ∀ V : List Key, (V.map (potAt (lessL L k c))).sum ≤ (V.map (potAt L)).sum ∧ (k ∈ V → (V.map (potAt (lessL L k c))).sum < (V.map (potAt L)).sum) := by
      intro V
      induction V with
      | nil => simp
      | cons x V ih =>
        have h1 := potAt_lessL hc0 e hcost x
        simp only [List.map_cons, List.sum_cons, List.mem_cons]
        refine ⟨by omega, ?_⟩
        rintro (rfl | hx)
        · have := h1.2 rfl; omega
        · have := ih.2 hx; omega
    exact ⟨(key U).1, fun _ => (key U).2 hk⟩
theorem keys_lessL {L : List (Key × Cost)} {k : Key} {c : Cost} : (∀ k', (∃ d, cget L k' = some d) → ∃ d, cget (lessL L k c) k' = some d) ∧ (∀ k', (∃ d, cget (lessL L k c) k' = some d) → k' = k ∨ ∃ d, cget L k' = some d) := by
  cases e : isLess L k c
  · rw [lessL_not L k c e]; exact ⟨fun _ h => h, fun _ h => .inr h⟩
  · rw [cget_lessL L k c e]
    constructor
    · intro k' h
      dsimp only
      by_cases hk : k' = k
      · exact ⟨_, if_pos hk⟩
      · rw [if_neg hk]; exact h
    · intro k' h
      dsimp only at h
      by_cases hk : k' = k
      · exact .inl hk
      · rw [if_neg hk] at h; exact .inr h
theorem nodup_len {α : Type} [DecidableEq α] : ∀ {l m : List α}, l.Nodup → (∀ x ∈ l, x ∈ m) → l.length ≤ m.length
  | [], _, _, _ => by simp
  | a :: l, m, h, hs => by
    rw [List.nodup_cons] at h
    have ha := hs a (by simp)
    have := nodup_len (l := l) (m := m.erase a) h.2 (fun x hx => (List.mem_erase_of_ne (fun e => h.1 (by rw [← e]; exact hx))).2 (hs x (by simp [hx])))
    rw [List.length_erase_of_mem ha] at this
    have : 0 < m.length := List.length_pos_of_mem ha
    simp only [List.length_cons]
    omega
end Go.Proofs.YtaapnflhjbdmlaaDoor
