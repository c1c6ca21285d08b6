/- The specification's popped. No condition. The specification's table of what is gone: in memory, and in plain words. No condition. The specification's table of what is gone: a pass over the rules, in plain words. No condition. -/
import Derived.Test.YtaapnflhjbdmlaaGreatDoorW2
import Derived.Test.YtaapnflhjbdmlaaGreatDoorMM
import Derived.Test.YtaapnflhjbdmlaaGreatDoorM4
namespace Go.Proofs.YtaapnflhjbdmlaaGreatDoor
section
open Go.RowKit Go.Shelf
attribute [local go_sem] Oper.semAt_some

/-- a row of answers -/
def bls (n : Nat) (f : Nat → Bool) : Array Value := ((List.range n).map fun i => Value.bool (f i)).toArray
abbrev Bl (w : World) (g n : Nat) (f : Nat → Bool) : Prop := Blk w g 4 (bls n f)
theorem Bl.cell {w : World} {g n : Nat} {f : Nat → Bool} (h : Bl w g n f) {i : Nat} (hi : i < n) : w.cell? ⟨g, i, none⟩ = some (.bool (f i)) := by
  rw [Blk.cell h i]
  unfold bls
  simp [hi]
theorem Bl.set {w : World} {g n : Nat} {f : Nat → Bool} (h : Bl w g n f) {i : Nat} (b : Bool) : Bl (w.setCell ⟨g, i, none⟩ (.bool b)) g n (fun j => if j = i then b else f j) := by
  have := Blk.set h i (.bool b)
  have e : (bls n f).setIfInBounds i (.bool b) = bls n (fun j => if j = i then b else f j) := by
    apply Array.ext_getElem?
    intro k
    rw [Array.getElem?_setIfInBounds]
    unfold bls
    simp only [List.size_toArray, List.length_map, List.length_range, List.getElem?_toArray, List.getElem?_map]
    by_cases hk : k < n
    · by_cases hki : i = k
      · subst hki
        simp [hk]
      · have : ¬ k = i := fun h => hki h.symm
        simp [hki, this, List.getElem?_range hk]
    · by_cases hki : i = k
      · subst hki
        simp [hk]
      · simp [hki, hk]
  rwa [e] at this
theorem Bl.congr {w : World} {g n : Nat} {f f' : Nat → Bool} (h : Bl w g n f) (hf : ∀ i, i < n → f i = f' i) : Bl w g n f' := by
  have : bls n f = bls n f' := by
    unfold bls
    congr 1
    apply List.map_congr_left
    intro i hi
    rw [hf i (List.mem_range.1 hi)]
  unfold Bl
  rw [← this]
  exact h
theorem bls_false (n : Nat) : bls n (fun _ => false) = Array.replicate n (.bool false) := by
  apply Array.ext_getElem?
  intro k
  unfold bls
  simp only [List.getElem?_toArray, List.getElem?_map, Array.getElem?_replicate]
  by_cases hk : k < n
  · simp [hk]
  · simp [hk]

/-- 'make([]bool, n)' -/
theorem wpList_make_bools {P : Program} {w : World} {ops : Array Oper} {rest : List Oper} {o : Oper} {a : Act} {Q : Exit → Act → World → Prop}
    (hg : o.guard = none) (l c : Operand) (t : TypeId) (hop : o.op = Op.makeSlice t l c) (ht : P.underlying t = some (.slice 4))
    (hinfo : (P.info? 4).map (fun i => (i.zero, i.size, i.bytes)) = some (some (.bool false), 1, 1)) (n : Nat) (hl : a.eval l = .int .i64 (n : Int)) (hc : a.eval c = .int .i64 (n : Int))
    (h1 : 1 ≤ n) (hn : n ≤ 1000000) (hK : ∀ w', Bl w' w.heap.size n (fun _ => false) → Below w.heap.size w w' → wpList P ops Q rest (a.put o.dst (.slice (some ⟨w.heap.size, 0, none⟩) n n)) w') :
    wpList P ops Q (o :: rest) a w := by
  obtain ⟨i, hi, hz0, hz1, hz2⟩ := info_parts hinfo
  refine wpList_make_full w hg l c t hop w.heap.size 4 i (.bool false) 1 ht hi hz0 hz1 .i64 .i64 _ _ n hl hc rfl rfl (by rw [hz2]; omega) (by simp only [maxLen]; omega) (Nat.le_refl _) fun w' ho hgr => hK w' ?_ (below_of_grown hgr (Nat.le_refl _) (fun k hk => by cases hk))
  obtain ⟨_, h2 | ⟨g, cap, cur, h2, _, h3, _, _, h4, h5⟩⟩ := ho
  · exact absurd h2.2 (by omega)
  · injection h2 with e1 e2 e3
    injection e1 with e1
    injection e1 with e1
    subst e1
    subst e3
    rw [Nat.mul_one] at h4 h5
    unfold Bl Blk
    rw [h3]
    congr 2
    rw [bls_false]
    apply Array.toList_inj.1
    rw [List.take_of_length_le (by simp [h4])] at h5
    rw [h5]
    show (madeCells #[Value.bool false] n).toList = _
    rw [toList_madeCells_one, Array.toList_replicate]

/-- a table of answers that may be read: control, letter, control -/
def Cub (w : World) (v : Value) (n : Nat) (T : Nat → Nat → Nat → Bool) : Prop :=
  ∃ b off cap, v = .slice (some ⟨b, off, none⟩) n cap ∧ n ≤ cap ∧ cap ≤ maxLen ∧ ∃ (r o k : Nat → Nat) (h : Nat → Nat → Nat),
    (∀ p, p < n → 5 ≤ k p ∧ k p ≤ maxLen ∧ w.cell? ⟨b, off + p, none⟩ = some (.slice (some ⟨r p, o p, none⟩) 5 (k p))) ∧
    (∀ p c, p < n → c < 5 → w.cell? ⟨r p, o p + c, none⟩ = some (.slice (some ⟨h p c, 0, none⟩) n n)) ∧
    ∀ p c q, p < n → c < 5 → q < n → w.cell? ⟨h p c, q, none⟩ = some (.bool (T p c q))
theorem Cub.below {w w' : World} {v : Value} {n : Nat} {T : Nat → Nat → Nat → Bool} (h : Cub w v n T) (hb : Below w.heap.size w w') : Cub w' v n T := by
  obtain ⟨b, off, cap, rfl, h1, h2, r, o, k, g, h3, h4, h5⟩ := h
  refine ⟨b, off, cap, rfl, h1, h2, r, o, k, g, fun p hp => ?_, fun p c hp hc => cell_below (h4 p c hp hc) hb, fun p c q hp hc hq => cell_below (h5 p c q hp hc hq) hb⟩
  obtain ⟨h6, h7, h8⟩ := h3 p hp
  exact ⟨h6, h7, cell_below h8 hb⟩
/-- what is found before the place (P, Q) -/
def ppK (T : Nat → Nat → Nat → Bool) (now : Nat → Bool) (c P Q q : Nat) : Bool := ((List.range P).any fun p => now p && T p c q) || (decide (q < Q) && now P && T P c q)

theorem ppK_zero (T : Nat → Nat → Nat → Bool) (now : Nat → Bool) (c j : Nat) : ppK T now c 0 0 j = false := by simp [ppK]
theorem ppK_step {T : Nat → Nat → Nat → Bool} {now : Nat → Bool} {c P Q : Nat} (h : now P = true) (j : Nat) : (if j = Q then (ppK T now c P Q Q || T P c Q) else ppK T now c P Q j) = ppK T now c P (Q + 1) j := by
  unfold ppK
  by_cases hj : j = Q
  · subst hj
    simp [h]
  · rw [if_neg hj]
    have : decide (j < Q) = decide (j < Q + 1) := by
      by_cases h1 : j < Q
      · simp [h1, show j < Q + 1 by omega]
      · simp [h1, show ¬ j < Q + 1 by omega]
    rw [this]
theorem ppK_done {T : Nat → Nat → Nat → Bool} {now : Nat → Bool} {c P Q n : Nat} (h : now P = false ∧ Q = 0 ∨ now P = false ∨ n ≤ Q) {j : Nat} (hj : j < n) : ppK T now c P Q j = ppK T now c (P + 1) 0 j := by
  unfold ppK
  rw [List.range_succ, List.any_append]
  rcases h with ⟨h, _⟩ | h | h
  · simp [h]
  · simp [h]
  · simp [show j < Q by omega]
theorem ppK_pp {T : Nat → Nat → Nat → Bool} {now : Nat → Bool} {c n : Nat} (j : Nat) : ppK T now c n 0 j = pp n T now c j := by simp [ppK, pp]

end
section
open Go.RowKit Go.Shelf

/-- what of the table stays: the slices -/
def PStat (w : World) (C b off : Nat) (r o k : Nat → Nat) (h : Nat → Nat → Nat) : Prop :=
  (∀ p, p < C → 5 ≤ k p ∧ k p ≤ maxLen ∧ w.cell? ⟨b, off + p, none⟩ = some (.slice (some ⟨r p, o p, none⟩) 5 (k p))) ∧
  ∀ p c, p < C → c < 5 → w.cell? ⟨r p, o p + c, none⟩ = some (.slice (some ⟨h p c, 0, none⟩) C C)
/-- what of it changes -/
def PRow (w : World) (C : Nat) (h : Nat → Nat → Nat) (T : Nat → Nat → Nat → Bool) : Prop := ∀ p c, p < C → c < 5 → Bl w (h p c) C (T p c)
/-- the rows lie apart -/
def PSep (C b : Nat) (r : Nat → Nat) (h : Nat → Nat → Nat) : Prop :=
  (∀ p c, p < C → c < 5 → b ≠ h p c ∧ ∀ p', p' < C → r p' ≠ h p c) ∧ ∀ p c p' c', p < C → c < 5 → p' < C → c' < 5 → h p c = h p' c' → p = p' ∧ c = c'
theorem cub_of {w : World} {C b off cap : Nat} {r o k : Nat → Nat} {h : Nat → Nat → Nat} {T : Nat → Nat → Nat → Bool} (hc : C ≤ cap) (hm : cap ≤ maxLen) (h1 : PStat w C b off r o k h) (h2 : PRow w C h T) : Cub w (.slice (some ⟨b, off, none⟩) C cap) C T :=
  ⟨b, off, cap, rfl, hc, hm, r, o, k, h, h1.1, h1.2, fun p c _q hp hc hq => (h2 p c hp hc).cell hq⟩
theorem PStat.bx {w w' : World} {C b off : Nat} {r o k : Nat → Nat} {h : Nat → Nat → Nat} {xs : List Nat} (h1 : PStat w C b off r o k h) (hb : BX xs w w') (hx : b ∉ xs) (hr : ∀ p, p < C → r p ∉ xs) : PStat w' C b off r o k h :=
  ⟨fun p hp => ⟨(h1.1 p hp).1, (h1.1 p hp).2.1, hb.cell (h1.1 p hp).2.2 hx⟩, fun p c hp hc => hb.cell (h1.2 p c hp hc) (hr p hp)⟩
theorem PRow.bx {w w' : World} {C : Nat} {h : Nat → Nat → Nat} {T : Nat → Nat → Nat → Bool} {xs : List Nat} (h1 : PRow w C h T) (hb : BX xs w w') (hx : ∀ p c, p < C → c < 5 → h p c ∉ xs) : PRow w' C h T :=
  fun p c hp hc => (h1 p c hp hc).bx hb (hx p c hp hc)
def updT (T : Nat → Nat → Nat → Bool) (p c : Nat) (f : Nat → Bool) : Nat → Nat → Nat → Bool := fun p' c' q => if p' = p ∧ c' = c then f q else T p' c' q
theorem PRow.set {w : World} {C b : Nat} {r : Nat → Nat} {h : Nat → Nat → Nat} {T : Nat → Nat → Nat → Bool} (h1 : PRow w C h T) (hs : PSep C b r h) {p c : Nat} (hp : p < C) (hc : c < 5) (q : Nat) (u : Bool) :
    PRow (w.setCell ⟨h p c, q, none⟩ (.bool u)) C h (updT T p c fun j => if j = q then u else T p c j) := by
  intro p' c' hp' hc'
  by_cases he : p' = p ∧ c' = c
  · obtain ⟨rfl, rfl⟩ := he
    have : updT T p' c' (fun j => if j = q then u else T p' c' j) p' c' = fun j => if j = q then u else T p' c' j := by funext j; simp [updT]
    rw [this]
    exact (h1 p' c' hp hc).set u
  · have : updT T p c (fun j => if j = q then u else T p c j) p' c' = T p' c' := by funext j; simp [updT, he]
    rw [this]
    exact (h1 p' c' hp' hc').far (fun e => he (hs.2 p' c' p c hp' hc' hp hc e)) _
theorem PStat.set {w : World} {C b off : Nat} {r o k : Nat → Nat} {h : Nat → Nat → Nat} (h1 : PStat w C b off r o k h) (hs : PSep C b r h) {p c : Nat} (hp : p < C) (hc : c < 5) (q : Nat) (u : Value) : PStat (w.setCell ⟨h p c, q, none⟩ u) C b off r o k h :=
  h1.bx (xs := [h p c]) ((BX.refl _ w).set (by simp) u) (by simpa using (hs.1 p c hp hc).1) (fun p' hp' => by simpa using (hs.1 p c hp hc).2 p' hp')

/-! ### the count of what is not yet in the table -/
def cntT (C : Nat) (T : Nat → Nat → Nat → Bool) : Nat := ((List.range (C * 5 * C)).filter fun i => !T (i / C / 5) (i / C % 5) (i % C)).length
theorem cnt_lt {α : Type} {l : List α} {f g : α → Bool} (h : ∀ x, x ∈ l → g x = true → f x = true) {x : α} (hx : x ∈ l) (h1 : f x = true) (h2 : g x = false) : (l.filter g).length < (l.filter f).length := by
  induction l with
  | nil => cases hx
  | cons y l ih =>
    have hle : (l.filter g).length ≤ (l.filter f).length := by
      clear ih hx
      have h' : ∀ x, x ∈ l → g x = true → f x = true := fun x hx => h x (List.mem_cons_of_mem _ hx)
      clear h
      induction l with
      | nil => simp
      | cons z l ih2 =>
        have := ih2 (fun x hx => h' x (List.mem_cons_of_mem _ hx))
        have hz := h' z (List.mem_cons_self ..)
        rw [List.filter_cons, List.filter_cons]
        cases hg : g z
        · cases hf : f z <;> simp <;> omega
        · simp [hz hg]; omega
    rw [List.filter_cons, List.filter_cons]
    rcases List.mem_cons.1 hx with rfl | hx
    · simp [h1, h2]; omega
    · have := ih (fun x hx => h x (List.mem_cons_of_mem _ hx)) hx
      have hy := h y (List.mem_cons_self ..)
      cases hg : g y
      · cases hf : f y <;> simp <;> omega
      · simp [hy hg]; omega
theorem cntT_lt {C : Nat} {T T' : Nat → Nat → Nat → Bool} (h : ∀ p c q, T p c q = true → T' p c q = true) {p c q : Nat} (hp : p < C) (hc : c < 5) (hq : q < C) (h1 : T p c q = false) (h2 : T' p c q = true) : cntT C T' < cntT C T := by
  have e1 : ((p * 5 + c) * C + q) / C = p * 5 + c := by
    rw [Nat.mul_comm, Nat.mul_add_div (by omega), Nat.div_eq_of_lt hq]; omega
  have e2 : ((p * 5 + c) * C + q) % C = q := by
    rw [Nat.mul_comm, Nat.mul_add_mod, Nat.mod_eq_of_lt hq]
  have e3 : (p * 5 + c) / 5 = p := by omega
  have e4 : (p * 5 + c) % 5 = c := by omega
  refine cnt_lt (x := (p * 5 + c) * C + q) (fun x _ hx => ?_) ?_ ?_ ?_
  · cases hT : T (x / C / 5) (x / C % 5) (x % C)
    · rfl
    · rw [h _ _ _ hT] at hx; cases hx
  · rw [List.mem_range]
    have : (p * 5 + c) + 1 ≤ C * 5 := by omega
    calc (p * 5 + c) * C + q < (p * 5 + c) * C + C := by omega
      _ = (p * 5 + c + 1) * C := by rw [Nat.add_mul (p * 5 + c)]; omega
      _ ≤ C * 5 * C := Nat.mul_le_mul_right _ this
  · simp only [e1, e2, e3, e4, h1]; rfl
  · simp only [e1, e2, e3, e4, h2]; rfl
end
section
open Go.RowKit Go.Shelf

/-- the row of a head, with what is found below Q -/
def rowN (T : Nat → Nat → Nat → Bool) (p c : Nat) (now : Nat → Bool) (Q : Nat) : Nat → Nat → Nat → Bool := updT T p c fun x => T p c x || (decide (x < Q) && now x)
def newN (T : Nat → Nat → Nat → Bool) (p c : Nat) (now : Nat → Bool) (Q : Nat) : Bool := (List.range Q).any fun x => now x && !T p c x
theorem rowN_zero (T : Nat → Nat → Nat → Bool) (p c : Nat) (now : Nat → Bool) : rowN T p c now 0 = T := by
  funext p' c' q
  unfold rowN updT
  by_cases h : p' = p ∧ c' = c
  · obtain ⟨rfl, rfl⟩ := h; simp
  · rw [if_neg h]
theorem newN_zero (T : Nat → Nat → Nat → Bool) (p c : Nat) (now : Nat → Bool) : newN T p c now 0 = false := rfl
theorem rowN_at (T : Nat → Nat → Nat → Bool) (p c : Nat) (now : Nat → Bool) (Q : Nat) : rowN T p c now Q p c Q = T p c Q := by simp [rowN, updT]
theorem rowN_new {T : Nat → Nat → Nat → Bool} {p c : Nat} {now : Nat → Bool} {Q : Nat} (h : now Q = true) : updT (rowN T p c now Q) p c (fun j => if j = Q then true else rowN T p c now Q p c j) = rowN T p c now (Q + 1) := by
  funext p' c' q
  unfold rowN updT
  by_cases he : p' = p ∧ c' = c
  · obtain ⟨rfl, rfl⟩ := he
    by_cases hq : q = Q
    · subst hq; simp [h]
    · have : decide (q < Q + 1) = decide (q < Q) := by
        by_cases h1 : q < Q
        · simp [h1, show q < Q + 1 by omega]
        · simp [h1, show ¬ q < Q + 1 by omega]
      simp [hq, this]
  · simp [he]
theorem rowN_old {T : Nat → Nat → Nat → Bool} {p c : Nat} {now : Nat → Bool} {Q : Nat} (h : now Q = false ∨ T p c Q = true) : rowN T p c now (Q + 1) = rowN T p c now Q := by
  funext p' c' q
  unfold rowN updT
  by_cases he : p' = p ∧ c' = c
  · obtain ⟨rfl, rfl⟩ := he
    by_cases hq : q = Q
    · subst hq
      rcases h with h | h <;> simp [h]
    · have : decide (q < Q + 1) = decide (q < Q) := by
        by_cases h1 : q < Q
        · simp [h1, show q < Q + 1 by omega]
        · simp [h1, show ¬ q < Q + 1 by omega]
      simp [this]
  · rw [if_neg he, if_neg he]
theorem newN_succ (T : Nat → Nat → Nat → Bool) (p c : Nat) (now : Nat → Bool) (Q : Nat) : newN T p c now (Q + 1) = (newN T p c now Q || (now Q && !T p c Q)) := by
  unfold newN
  rw [List.range_succ, List.any_append]
  simp

/-- what holds in a pass, behind i rules -/
structure PPass (R : List Rule) (C : Nat) (T0 T : Nat → Nat → Nat → Bool) (a : Bool) (i : Nat) : Prop where
  sound : ∀ p c q : Nat, p < C → c < 5 → T p c q = true → Pops R p (97 + c) q
  mono : ∀ p c q, T0 p c q = true → T p c q = true
  quiet : a = false → T = T0 ∧ ∀ (j : Nat) r, j < i → R[j]? = some r → PClosedAt C T r
  less : a = true → cntT C T < cntT C T0
theorem PPass.begin {R : List Rule} {C : Nat} {T : Nat → Nat → Nat → Bool} (h : ∀ p c q : Nat, p < C → c < 5 → T p c q = true → Pops R p (97 + c) q) : PPass R C T T false 0 :=
  ⟨h, fun _ _ _ h => h, fun _ => ⟨rfl, fun j r hj => absurd hj (by omega)⟩, fun h => by cases h⟩
theorem PPass.rule {R : List Rule} {C : Nat} {T0 T : Nat → Nat → Nat → Bool} {a : Bool} {i : Nat} (h : PPass R C T0 T a i) (hl : RulesOk C R) (_hi : RulesIn C R) {r : Rule} (hr : R[i]? = some r) {p c t : Nat} (hp : r.fr = p) (hc : r.top = 97 + c) (ht : r.to = t)
    {now : Nat → Bool} (hnow : now = ppw C T r.put (at1 t)) (hw : Word r.put) (hpC : p < C) (hc5 : c < 5) (htC : t < C) : PPass R C T0 (rowN T p c now C) (a || newN T p c now C) (i + 1) := by
  have hmono : ∀ p' c' q, T p' c' q = true → rowN T p c now C p' c' q = true := by
    intro p' c' q hT
    unfold rowN updT
    by_cases he : p' = p ∧ c' = c
    · obtain ⟨rfl, rfl⟩ := he; simp [hT]
    · rw [if_neg he]; exact hT
  have hfix : newN T p c now C = false → rowN T p c now C = T := by
    intro hf
    have hall : ∀ x, x < C → now x = true → T p c x = true := by
      intro x hx hn
      unfold newN at hf
      rw [List.any_eq_false] at hf
      have := hf x (List.mem_range.2 hx)
      simpa [hn] using this
    funext p' c' q
    unfold rowN updT
    by_cases he : p' = p ∧ c' = c
    · obtain ⟨rfl, rfl⟩ := he
      rw [if_pos ⟨rfl, rfl⟩]
      by_cases hq : q < C
      · cases hn : now q
        · simp [hn]
        · simp [hall q hq hn]
      · simp [hq]
    · rw [if_neg he]
  refine ⟨fun p' c' q hp' hc' hT => ?_, fun p' c' q hT => hmono _ _ _ (h.mono _ _ _ hT), fun ha => ?_, fun ha => ?_⟩
  · by_cases he : p' = p ∧ c' = c
    · obtain ⟨rfl, rfl⟩ := he
      have hT' : T p' c' q = true ∨ (q < C ∧ now q = true) := by simpa [rowN, updT] using hT
      rcases hT' with hT' | ⟨hq, hn⟩
      · exact h.sound _ _ _ hp' hc' hT'
      · rw [hnow] at hn
        obtain ⟨p0, hp0, h0, hpop⟩ := ppw_sound (fun p c q hp hc => h.sound p c q hp hc) r.put (at1 t) q hw hq hn
        have : p0 = t := by simpa [at1] using h0
        subst this
        exact (pops_iff hl).2 ⟨i, r, hr, hp, hc, by rw [ht]; exact hpop⟩
    · rw [show rowN T p c now C p' c' q = T p' c' q by unfold rowN updT; rw [if_neg he]] at hT
      exact h.sound _ _ _ hp' hc' hT
  · simp only [Bool.or_eq_false_iff] at ha
    obtain ⟨ha, hn⟩ := ha
    obtain ⟨h1, h2⟩ := h.quiet ha
    rw [hfix hn]
    refine ⟨h1, fun j r' hj hr' => ?_⟩
    by_cases hji : j < i
    · exact h2 j r' hji hr'
    · obtain rfl : j = i := by omega
      rw [hr] at hr'
      cases hr'
      intro q hq hpw
      rw [ht] at hpw
      rw [hp, hc]
      have e1 : ((p : Int)).toNat = p := by omega
      have e2 : ((97 + (c : Int)) - 97).toNat = c := by omega
      have e3 : ((t : Int)).toNat = t := by omega
      rw [e3] at hpw
      rw [e1, e2]
      rw [← hnow] at hpw
      have : rowN T p c now C p c q = T p c q := by rw [hfix hn]
      rw [← this]
      simp [rowN, updT, hq, hpw]
  · by_cases hn : newN T p c now C = true
    · unfold newN at hn
      rw [List.any_eq_true] at hn
      obtain ⟨x, hx, hx2⟩ := hn
      rw [List.mem_range] at hx
      simp only [Bool.and_eq_true, Bool.not_eq_true'] at hx2
      have hlt : cntT C (rowN T p c now C) < cntT C T := cntT_lt hmono hpC hc5 hx hx2.2 (by simp [rowN, updT, hx, hx2.1])
      cases ha' : a
      · obtain ⟨h1, _⟩ := h.quiet ha'
        rw [← h1]; exact hlt
      · exact Nat.lt_trans hlt (h.less ha')
    · have hn' : newN T p c now C = false := by simpa using hn
      rw [hfix hn']
      exact h.less (by simpa [hn'] using ha)
/-- a pass in which nothing was found: the table tells what is gone -/
theorem PPass.tab {R : List Rule} {C : Nat} {T0 T : Nat → Nat → Nat → Bool} (h : PPass R C T0 T false R.length) (hl : RulesOk C R) (hi : RulesIn C R) : PTab R C T := by
  intro p c q hp hc hq
  refine ⟨h.sound p c q hp hc, fun hpop => ?_⟩
  obtain ⟨_, _, _, _, h5⟩ := pops_complete hi hl (fun i r hr => (h.quiet rfl).2 i r ((List.getElem?_eq_some_iff.1 hr).1) hr) hpop
  have e1 : ((p : Int)).toNat = p := by omega
  have e2 : ((97 + (c : Int)) - 97).toNat = c := by omega
  have e3 : ((q : Int)).toNat = q := by omega
  rwa [e1, e2, e3] at h5
end
end Go.Proofs.YtaapnflhjbdmlaaGreatDoor
