/- One configuration's acceptor, and who is accepted: plain, and the law's only, the specification's Accepts. No condition. -/
import Derived.Test.YtaapnflhjbdmlaaGreatDoorZT
import Derived.Test.YtaapnflhjbdmlaaGreatDoorLC
namespace Go.Proofs.YtaapnflhjbdmlaaGreatDoor
open Go.RowKit Go.Shelf
attribute [local go_sem] Oper.semAt_some

/-! ### costs and words -/
theorem bestN_lt {n : Nat} {F : Nat → Bool} {v : Nat → Int} : ∀ m, m ≤ n → (bestN m F v < 1073741824 ↔ ∃ i, i < m ∧ F i = true ∧ v i < 1073741824)
  | 0, _ => by rw [bestN_zero]; exact ⟨fun h => by omega, fun ⟨i, h, _⟩ => by omega⟩
  | m + 1, hm => by
    rw [bestN_succ]
    have ih := bestN_lt (n := n) (F := F) (v := v) m (by omega)
    cases hF : F m with
    | false =>
      simp only [Bool.false_eq_true, if_false]
      rw [ih]
      refine ⟨fun ⟨i, a, b, c⟩ => ⟨i, by omega, b, c⟩, fun ⟨i, a, b, c⟩ => ?_⟩
      have hne : i ≠ m := fun e => by rw [e, hF] at b; cases b
      exact ⟨i, by omega, b, c⟩
    | true =>
      simp only [if_true]
      constructor
      · intro h
        by_cases hv : v m < 1073741824
        · exact ⟨m, by omega, hF, hv⟩
        · obtain ⟨i, a, b, c⟩ := ih.1 (by omega)
          exact ⟨i, by omega, b, c⟩
      · rintro ⟨i, a, b, c⟩
        rcases Nat.lt_succ_iff_lt_or_eq.1 a with h | h
        · have := ih.2 ⟨i, h, b, c⟩; omega
        · subst h; omega
theorem acc_costs {n : Nat} {X : Nat → Nat → Nat → Int} {F : Nat → Bool} (h5 : ∀ i k, i < n → k < n → ¬ X i 5 k < 1073741824) (hX : ∀ p c q, p < n → c < 5 → q < n → X p c q = 0 ∨ X p c q = 1073741824) :
    ∀ (w : List Nat) (now : Nat → Int), (∀ c ∈ w, c < 5) → (∀ i, i < n → 0 ≤ now i) → (∀ i, i < n → now i < 1073741824 → now i ≤ 0) → (bestN n F (costs n X (wrdL w) now) < 1073741824 ↔ AccN n (posT X) F w (posS n now))
  | [], now, _, _, _ => by
    rw [show costs n X (wrdL []) now = now from rfl, bestN_lt n (Nat.le_refl _)]
    exact ⟨fun ⟨i, a, b, c⟩ => ⟨i, a, ⟨a, c⟩, b⟩, fun ⟨i, a, b, c⟩ => ⟨i, a, c, b.2⟩⟩
  | c :: w, now, hw, h0, hB => by
    have hc := hw c (List.mem_cons_self ..)
    have hXB : ∀ i k, i < n → k < n → X i c k < 1073741824 → X i c k ≤ 0 := fun i k hi hk hx => by rcases hX i c k hi hc hk with e | e <;> omega
    have hX0 : ∀ i k, i < n → k < n → 0 ≤ X i c k := fun i k hi hk => by rcases hX i c k hi hc hk with e | e <;> omega
    have e : costs n X (wrdL (c :: w)) now = costs n X (wrdL w) (fun k => rd n (fun i k => X i c k) now k) := by
      show costs n X ((97 + (c : Int)) :: wrdL w) now = _
      rw [costs, show ((97 : Int) + (c : Int) - 97).toNat = c by omega]
    rw [e, acc_costs h5 hX w _ (fun d hd => hw d (List.mem_cons_of_mem _ hd)) (fun k hk => rd_ge h0 fun i hi => hX0 i k hi hk) (fun k hk hx => Int.le_trans (rd_bd hXB hB h0 k hk hx) (by omega))]
    show _ ↔ AccN n (posT X) F w (silS n (fun i k => posT X i 5 k) (rdS n (posT X) (posS n now) c))
    exact AccN.congr (fun _ _ _ _ _ _ => Iff.rfl) (fun _ _ => rfl) (fun d hd => hw d (List.mem_cons_of_mem _ hd)) fun k hk => by
      rw [silS_none (E := fun i k => posT X i 5 k) h5]
      have := rd_set hXB hB (by omega) h0 k
      exact ⟨fun h => ⟨this.1 h, hk⟩, fun h => this.2 h.1⟩
/-- a stack's letters, as a table's -/
theorem wrd_of {w : List Int} (h : Word w) : ∃ u : List Nat, wrdL u = w ∧ ∀ c ∈ u, c < 5 := by
  refine ⟨w.map fun a => (a - 97).toNat, ?_, fun c hc => ?_⟩
  · unfold wrdL
    rw [List.map_map]
    conv => rhs; rw [← List.map_id w]
    exact List.map_congr_left fun a ha => by have := h a ha; simp; omega
  · obtain ⟨a, ha, rfl⟩ := List.mem_map.1 hc
    have := h a ha
    omega
/-! ### one configuration -/
end Go.Proofs.YtaapnflhjbdmlaaGreatDoor
