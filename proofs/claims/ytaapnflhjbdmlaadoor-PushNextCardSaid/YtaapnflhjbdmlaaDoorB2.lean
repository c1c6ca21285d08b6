/- The specification's table of what is gone: in memory, and in plain words. No condition. -/
import Derived.Test.YtaapnflhjbdmlaaDoorB1
import Derived.Test.YtaapnflhjbdmlaaDoorM4
namespace Go.Proofs.YtaapnflhjbdmlaaDoor
open Go.RowKit Go.Shelf

/-- what of the table stays: the slices -/
def PStat (w : World) (C b off : Nat) (r o k : Nat → Nat) (h : Nat → Nat → Nat) : Prop :=
  (∀ p, p < C → 5 ≤ k p ∧ k p ≤ maxLen ∧ w.cell? ⟨b, off + p, none⟩ = some (.slice (some ⟨r p, o p, none⟩) 5 (k p))) ∧
  ∀ p c, p < C → c < 5 → w.cell? ⟨r p, o p + c, none⟩ = some (.slice (some ⟨h p c, 0, none⟩) C C)
/-- what of it changes -/
def PRow (w : World) (C : Nat) (h : Nat → Nat → Nat) (T : Nat → Nat → Nat → Bool) : Prop := ∀ p c, p < C → c < 5 → Bl w (h p c) C (T p c)
/-- the rows lie apart -/
def PSep (C b : Nat) (r : Nat → Nat) (h : Nat → Nat → Nat) : Prop :=
  (∀ p c, p < C → c < 5 → b ≠ h p c ∧ ∀ p', p' < C → r p' ≠ h p c) ∧ ∀ p c p' c', p < C → c < 5 → p' < C → c' < 5 → h p c = h p' c' → p = p' ∧ c = c'
theorem cub_of {w : World} {C b off cap : Nat} {r o k : Nat → Nat} {h : Nat → Nat → Nat} {T : Nat → Nat → Nat → Bool} (hc : C ≤ cap) (hm : cap ≤ maxLen) (h1 : PStat w C b off r o k h) (h2 : PRow w C h T) : Cub w (.slice (some ⟨b, off, none⟩) C cap) C T :=
  ⟨b, off, cap, rfl, hc, hm, r, o, k, h, h1.1, h1.2, fun p c q hp hc hq => (h2 p c hp hc).cell hq⟩
theorem PStat.bx {w w' : World} {C b off : Nat} {r o k : Nat → Nat} {h : Nat → Nat → Nat} {xs : List Nat} (h1 : PStat w C b off r o k h) (hb : BX xs w w') (hx : b ∉ xs) (hr : ∀ p, p < C → r p ∉ xs) : PStat w' C b off r o k h :=
  ⟨fun p hp => ⟨(h1.1 p hp).1, (h1.1 p hp).2.1, hb.cell (h1.1 p hp).2.2 hx⟩, fun p c hp hc => hb.cell (h1.2 p c hp hc) (hr p hp)⟩
theorem PRow.bx {w w' : World} {C : Nat} {h : Nat → Nat → Nat} {T : Nat → Nat → Nat → Bool} {xs : List Nat} (h1 : PRow w C h T) (hb : BX xs w w') (hx : ∀ p c, p < C → c < 5 → h p c ∉ xs) : PRow w' C h T :=
  fun p c hp hc => (h1 p c hp hc).bx hb (hx p c hp hc)
def updT (T : Nat → Nat → Nat → Bool) (p c : Nat) (f : Nat → Bool) : Nat → Nat → Nat → Bool := fun p' c' q => if p' = p ∧ c' = c then f q else T p' c' q
theorem PRow.set {w : World} {C b : Nat} {r : Nat → Nat} {h : Nat → Nat → Nat} {T : Nat → Nat → Nat → Bool} (h1 : PRow w C h T) (hs : PSep C b r h) {p c : Nat} (hp : p < C) (hc : c < 5) (q : Nat) (u : Bool) :
    PRow (w.setCell ⟨h p c, q, none⟩ (.bool u)) C h (updT T p c fun j => if j = q then u else T p c j) := by
  intro p' c' hp' hc'
  by_cases he : p' = p ∧ c' = c
  · obtain ⟨rfl, rfl⟩ := he
    have : updT T p' c' (fun j => if j = q then u else T p' c' j) p' c' = fun j => if j = q then u else T p' c' j := by funext j; simp [updT]
    rw [this]
    exact (h1 p' c' hp hc).set u
  · have : updT T p c (fun j => if j = q then u else T p c j) p' c' = T p' c' := by funext j; simp [updT, he]
    rw [this]
    exact (h1 p' c' hp' hc').far (fun e => he (hs.2 p' c' p c hp' hc' hp hc e)) _
theorem PStat.set {w : World} {C b off : Nat} {r o k : Nat → Nat} {h : Nat → Nat → Nat} (h1 : PStat w C b off r o k h) (hs : PSep C b r h) {p c : Nat} (hp : p < C) (hc : c < 5) (q : Nat) (u : Value) : PStat (w.setCell ⟨h p c, q, none⟩ u) C b off r o k h :=
  h1.bx (xs := [h p c]) ((BX.refl _ w).set (by simp) u) (by simpa using (hs.1 p c hp hc).1) (fun p' hp' => by simpa using (hs.1 p c hp hc).2 p' hp')

/-! ### the count of what is not yet in the table -/
def cntT (C : Nat) (T : Nat → Nat → Nat → Bool) : Nat := ((List.range (C * 5 * C)).filter fun i => !T (i / C / 5) (i / C % 5) (i % C)).length
theorem cnt_lt {α : Type} {l : List α} {f g : α → Bool} (h : ∀ x, x ∈ l → g x = true → f x = true) {x : α} (hx : x ∈ l) (h1 : f x = true) (h2 : g x = false) : (l.filter g).length < (l.filter f).length := by
  induction l with
  | nil => cases hx
  | cons y l ih =>
    have hle : (l.filter g).length ≤ (l.filter f).length := by
      clear ih hx
      have h' : ∀ x, x ∈ l → g x = true → f x = true := fun x hx => h x (List.mem_cons_of_mem _ hx)
      clear h
      induction l with
      | nil => simp
      | cons z l ih2 =>
        have := ih2 (fun x hx => h' x (List.mem_cons_of_mem _ hx))
        have hz := h' z (List.mem_cons_self ..)
        rw [List.filter_cons, List.filter_cons]
        cases hg : g z
        · cases hf : f z <;> simp <;> omega
        · simp [hz hg]; omega
    rw [List.filter_cons, List.filter_cons]
    rcases List.mem_cons.1 hx with rfl | hx
    · simp [h1, h2]; omega
    · have := ih (fun x hx => h x (List.mem_cons_of_mem _ hx)) hx
      have hy := h y (List.mem_cons_self ..)
      cases hg : g y
      · cases hf : f y <;> simp <;> omega
      · simp [hy hg]; omega
theorem cntT_lt {C : Nat} {T T' : Nat → Nat → Nat → Bool} (h : ∀ p c q, T p c q = true → T' p c q = true) {p c q : Nat} (hp : p < C) (hc : c < 5) (hq : q < C) (h1 : T p c q = false) (h2 : T' p c q = true) : cntT C T' < cntT C T := by
  have e1 : ((p * 5 + c) * C + q) / C = p * 5 + c := by
    rw [Nat.mul_comm, Nat.mul_add_div (by omega), Nat.div_eq_of_lt hq]; omega
  have e2 : ((p * 5 + c) * C + q) % C = q := by
    rw [Nat.mul_comm, Nat.mul_add_mod, Nat.mod_eq_of_lt hq]
  have e3 : (p * 5 + c) / 5 = p := by omega
  have e4 : (p * 5 + c) % 5 = c := by omega
  refine cnt_lt (x := (p * 5 + c) * C + q) (fun x _ hx => ?_) ?_ ?_ ?_
  · cases hT : T (x / C / 5) (x / C % 5) (x % C)
    · rfl
    · rw [h _ _ _ hT] at hx; cases hx
  · rw [List.mem_range]
    have : (p * 5 + c) + 1 ≤ C * 5 := by omega
    calc (p * 5 + c) * C + q < (p * 5 + c) * C + C := by omega
      _ = (p * 5 + c + 1) * C := by rw [Nat.add_mul (p * 5 + c)]; omega
      _ ≤ C * 5 * C := Nat.mul_le_mul_right _ this
  · simp only [e1, e2, e3, e4, h1]; rfl
  · simp only [e1, e2, e3, e4, h2]; rfl
end Go.Proofs.YtaapnflhjbdmlaaDoor
