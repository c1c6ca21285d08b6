/- Pushdown systems in plain words: steps with the rules that do them, derived moves with the rules for which they stand, and that a path to a configuration is a run to it. No condition. Steps that never end, in plain words: heads, what follows them, and what a step does to this. No condition. The closure of a relation on numbers, row by row. No condition. The table of costs of the specification, in plain words. No condition. The specification's table of what is gone, and its answer whether steps may never end, in plain words. No condition. -/
namespace Go.Proofs.YtaapnflhjbdmlaaGreatDoor
section
/-- a rule -/
structure Rule where
  fr : Int
  top : Int
  to : Int
  put : List Int

section
variable (R : List Rule)

/-- rules, one by one, from a configuration to another one -/
inductive Steps : Int → List Int → List Nat → Int → List Int → Prop
  | refl (p w) : Steps p w [] p w
  | step {i : Nat} {r : Rule} {w l q u} (h : R[i]? = some r) : Steps r.to (r.put ++ w) l q u → Steps r.fr (r.top :: w) (i :: l) q u

/-- the moves that follow from some moves, with the rules for which each stands -/
inductive D (B : Int → Int → Int → Prop) : Int → Int → Int → List Nat → Prop
  | base {p a q} : B p a q → D B p a q []
  | pop {i : Nat} {r : Rule} (h : R[i]? = some r) : r.put = [] → D B r.fr r.top r.to [i]
  | one {i : Nat} {r : Rule} {b q l} (h : R[i]? = some r) : r.put = [b] → D B r.to b q l → D B r.fr r.top q (i :: l)
  | two {i : Nat} {r : Rule} {b c m q l k} (h : R[i]? = some r) : r.put = [b, c] → D B r.to b m l → D B m c q k → D B r.fr r.top q (i :: (l ++ k))

/-- a path of moves -/
inductive Path (B : Int → Int → Int → Prop) : Int → List Int → Int → List Nat → Prop
  | nil (p) : Path B p [] p []
  | cons {p a m w q l k} : D R B p a m l → Path B m w q k → Path B p (a :: w) q (l ++ k)
end

section
variable {R : List Rule} {B : Int → Int → Int → Prop}

theorem Steps.trans {p : Int} {w : List Int} {n q u} (h : Steps R p w n q u) {k s v} (h2 : Steps R q u k s v) : Steps R p w (n ++ k) s v := by
  induction h with
  | refl => exact h2
  | step hr _ ih => exact .step hr (ih h2)

theorem Steps.under {p : Int} {w : List Int} {n q u} (h : Steps R p w n q u) (v : List Int) : Steps R p (w ++ v) n q (u ++ v) := by
  induction h with
  | refl => exact .refl _ _
  | step hr _ ih => rw [List.cons_append]; exact .step hr (by rw [← List.append_assoc]; exact ih)

theorem Path.split {q : Int} {v : List Int} : ∀ {u : List Int} {p : Int} {n : List Nat}, Path R B p (u ++ v) q n → ∃ m a b, Path R B p u m a ∧ Path R B m v q b ∧ n = a ++ b
  | [], p, n, h => ⟨p, [], n, .nil _, h, rfl⟩
  | x :: u, p, n, h => by
    cases h with
    | cons hd hp =>
      obtain ⟨m, a, b, h1, h2, rfl⟩ := Path.split hp
      exact ⟨m, _, b, .cons hd h1, h2, by rw [List.append_assoc]⟩

theorem Path.join {u v : List Int} {p m q : Int} {a b : List Nat} (h : Path R B p u m a) (h2 : Path R B m v q b) : Path R B p (u ++ v) q (a ++ b) := by
  induction h with
  | nil => exact h2
  | cons hd _ ih => rw [List.cons_append, List.append_assoc]; exact .cons hd (ih h2)

theorem Path.nil_iff {p q : Int} {n : List Nat} : Path R B p [] q n ↔ q = p ∧ n = [] := by
  constructor
  · intro h; cases h; exact ⟨rfl, rfl⟩
  · rintro ⟨rfl, rfl⟩; exact .nil _
theorem Path.one_iff {p a q : Int} {n : List Nat} : Path R B p [a] q n ↔ D R B p a q n := by
  constructor
  · intro h
    cases h with
    | cons hd hp => obtain ⟨rfl, rfl⟩ := Path.nil_iff.1 hp; rw [List.append_nil]; exact hd
  · intro h; have := Path.cons h (.nil q); rwa [List.append_nil] at this

/-- a rule's move, by a path of what it puts -/
theorem D.of_path {i : Nat} {r : Rule} {q : Int} {n : List Nat} (hr : R[i]? = some r) (hl : r.put.length ≤ 2) (h : Path R B r.to r.put q n) : D R B r.fr r.top q (i :: n) := by
  match hp : r.put, hl with
  | [], _ => rw [hp] at h; obtain ⟨rfl, rfl⟩ := Path.nil_iff.1 h; exact .pop hr hp
  | [b], _ => rw [hp] at h; exact .one hr hp (Path.one_iff.1 h)
  | [b, c], _ =>
    rw [hp] at h
    cases h with
    | cons hd h2 => exact .two hr hp hd (Path.one_iff.1 h2)

/-- every move is a base move or a rule's, by a path of what it puts -/
theorem D.cases' {p a q : Int} {n : List Nat} (h : D R B p a q n) : (B p a q ∧ n = []) ∨ ∃ i r, R[i]? = some r ∧ ∃ k, r.fr = p ∧ r.top = a ∧ Path R B r.to r.put q k ∧ n = i :: k := by
  cases h with
  | base h => exact .inl ⟨h, rfl⟩
  | pop hr hp => exact .inr ⟨_, _, hr, [], rfl, rfl, by rw [hp]; exact .nil _, rfl⟩
  | one hr hp hd => exact .inr ⟨_, _, hr, _, rfl, rfl, by rw [hp]; exact Path.one_iff.2 hd, rfl⟩
  | two hr hp h1 h2 => exact .inr ⟨_, _, hr, _, rfl, rfl, by rw [hp]; exact .cons h1 (Path.one_iff.2 h2), rfl⟩

/-! ### one configuration -/
/-- the moves of one configuration: its letters, one by one -/
def Just (C : Int) (p0 : Int) (w0 : List Int) (p a q : Int) : Prop := ∃ i : Nat, w0[i]? = some a ∧ q = C + i ∧ p = if i = 0 then p0 else C + i - 1
/-- the state behind the letters -/
def lastS (C : Int) (p0 : Int) (w0 : List Int) : Int := if w0.length = 0 then p0 else C + w0.length - 1

/-- what a state stands for -/
def Sem (R : List Rule) (C p0 : Int) (w0 : List Int) (s : Int) (w : List Int) (n : List Nat) : Prop :=
  if s < C then Steps R s w n p0 w0 else n = [] ∧ w = w0.drop ((s - C).toNat + 1)

/-- the controls of the rules are controls, and at most two letters are put -/
def RulesOk (C : Int) (R : List Rule) : Prop := ∀ (i : Nat) r, R[i]? = some r → 0 ≤ r.fr ∧ r.fr < C ∧ 0 ≤ r.to ∧ r.to < C ∧ r.put.length ≤ 2

theorem D.sem {C p0 : Int} {w0 : List Int} (hp0 : p0 < C) (hR : RulesOk C R) {p a q : Int} {n : List Nat} (h : D R (Just C p0 w0) p a q n) :
    ∀ {w : List Int} {k : List Nat}, Sem R C p0 w0 q w k → Sem R C p0 w0 p (a :: w) (n ++ k) := by
  induction h with
  | @base p a q hb =>
    intro w k hs
    obtain ⟨i, hi, rfl, rfl⟩ := hb
    unfold Sem at hs ⊢
    rw [if_neg (by omega)] at hs
    obtain ⟨rfl, rfl⟩ := hs
    have e : (C + (i : Int) - C).toNat = i := by omega
    rw [e]
    obtain ⟨hil, hia⟩ := List.getElem?_eq_some_iff.1 hi
    have ed : a :: w0.drop (i + 1) = w0.drop i := by rw [← hia, List.getElem_cons_drop]
    by_cases h0 : i = 0
    · subst h0
      rw [if_pos (by simpa using hp0), if_pos rfl, ed]
      exact .refl _ _
    · rw [if_neg h0, if_neg (by omega)]
      refine ⟨rfl, ?_⟩
      rw [ed]
      congr 1
      omega
  | @pop i r hr hp =>
    intro w k hs
    unfold Sem at hs ⊢
    have ho := hR i r hr
    rw [if_pos ho.2.2.2.1] at hs
    rw [if_pos ho.2.1]
    exact .step hr (by rw [hp]; exact hs)
  | @one i r b q n hr hp _ ih =>
    intro w k hs
    have := ih hs
    unfold Sem at this ⊢
    have ho := hR i r hr
    rw [if_pos ho.2.2.2.1] at this
    rw [if_pos ho.2.1]
    exact .step hr (by rw [hp]; exact this)
  | @two i r b c m q n j hr hp _ _ ih1 ih2 =>
    intro w k hs
    have := ih1 (ih2 hs)
    unfold Sem at this ⊢
    have ho := hR i r hr
    rw [if_pos ho.2.2.2.1] at this
    rw [if_pos ho.2.1, List.cons_append, List.append_assoc]
    exact .step hr (by rw [hp]; exact this)

theorem Path.sem {C p0 : Int} {w0 : List Int} (hp0 : p0 < C) (hR : RulesOk C R) {p q : Int} {u : List Int} {n : List Nat} (h : Path R (Just C p0 w0) p u q n) {w : List Int} {k : List Nat} (hs : Sem R C p0 w0 q w k) :
    Sem R C p0 w0 p (u ++ w) (n ++ k) := by
  induction h with
  | nil => exact hs
  | cons hd _ ih => rw [List.cons_append, List.append_assoc]; exact hd.sem hp0 hR (ih hs)

theorem Sem.last {C p0 : Int} {w0 : List Int} (hp0 : p0 < C) : Sem R C p0 w0 (lastS C p0 w0) [] [] := by
  unfold Sem lastS
  by_cases h : w0.length = 0
  · rw [if_pos h, if_pos hp0, List.length_eq_zero_iff.1 h]; exact .refl _ _
  · rw [if_neg h, if_neg (by omega)]
    refine ⟨rfl, ?_⟩
    rw [List.drop_eq_nil_of_le (by omega)]

theorem Path.just {C p0 : Int} {w0 : List Int} : Path R (Just C p0 w0) p0 w0 (lastS C p0 w0) [] := by
  have key : ∀ (k i : Nat), i + k = w0.length → Path R (Just C p0 w0) (if i = 0 then p0 else C + i - 1) (w0.drop i) (lastS C p0 w0) [] := by
    intro k
    induction k with
    | zero =>
      intro i hi
      rw [List.drop_eq_nil_of_le (by omega), Path.nil_iff]
      refine ⟨?_, rfl⟩
      unfold lastS
      by_cases h : i = 0
      · rw [if_pos h, if_pos (by omega)]
      · rw [if_neg h, if_neg (by omega)]; omega
    | succ k ih =>
      intro i hi
      have h1 := ih (i + 1) (by omega)
      rw [if_neg (by omega)] at h1
      rw [← List.getElem_cons_drop (show i < w0.length by omega)]
      refine Path.cons (l := []) (k := []) (m := C + i) (.base ⟨i, by rw [List.getElem?_eq_getElem (by omega)], rfl, rfl⟩) ?_
      have : C + ((i + 1 : Nat) : Int) - 1 = C + i := by omega
      rwa [this] at h1
  have := key w0.length 0 (by omega)
  simpa using this

/-- THE LAW: a path to the end is a run -/
theorem run_of_path {C p0 : Int} {w0 : List Int} (hp0 : p0 < C) (hR : RulesOk C R) {p : Int} (hp : p < C) {w : List Int} {n : List Nat}
    (h : Path R (Just C p0 w0) p w (lastS C p0 w0) n) : Steps R p w n p0 w0 := by
  have := h.sem hp0 hR (Sem.last hp0)
  unfold Sem at this
  rw [if_pos hp] at this
  simpa using this
theorem path_of_run {C p0 : Int} {w0 : List Int} (hR : RulesOk C R) {p : Int} {w : List Int} {n : List Nat} (h : Steps R p w n p0 w0) :
    Path R (Just C p0 w0) p w (lastS C p0 w0) n := by
  induction h with
  | refl => exact Path.just
  | @step i r w n q u hr _ ih =>
    obtain ⟨m, a, b, h1, h2, rfl⟩ := Path.split ih
    rw [← List.cons_append]
    exact .cons (D.of_path hr (hR i r hr).2.2.2.2 h1) h2

/-! ### the table of moves -/
abbrev Key := Int × Int × Int
structure Cost where
  steps : Int
  rule : Int
  middle : Int

def far : Int := 1099511627776

/-- why a move is in the table with such a cost -/
def Why (R : List Rule) (M : Key → Option Cost) (k : Key) (c : Cost) : Prop :=
  ∃ (i : Nat) (r : Rule), R[i]? = some r ∧ c.rule = i ∧ r.fr = k.1 ∧ r.top = k.2.1 ∧
    ((r.put = [] ∧ k.2.2 = r.to ∧ 1 ≤ c.steps) ∨
     (∃ b c1, r.put = [b] ∧ M (r.to, b, k.2.2) = some c1 ∧ (1 + c1.steps ≤ c.steps ∨ far ≤ c.steps)) ∨
     (∃ b x c1 c2, r.put = [b, x] ∧ M (r.to, b, c.middle) = some c1 ∧ M (c.middle, x, k.2.2) = some c2 ∧ (1 + c1.steps + c2.steps ≤ c.steps ∨ far ≤ c.steps)))

/-- what holds of the table at every time -/
structure Inv (R : List Rule) (B : Int → Int → Int → Prop) (M : Key → Option Cost) : Prop where
  cost : ∀ k c, M k = some c → 0 ≤ c.steps ∧ c.steps ≤ far
  sound : ∀ k c, M k = some c → ∃ l, D R B k.1 k.2.1 k.2.2 l ∧ ((l.length : Int) ≤ c.steps ∨ far ≤ c.steps)
  why : ∀ k c, M k = some c → (c.rule = -1 ∧ B k.1 k.2.1 k.2.2 ∧ c.steps = 0) ∨ Why R M k c
  base : ∀ p a q, B p a q → ∃ c, M (p, a, q) = some c ∧ c.steps = 0

/-- nothing is left to be done for a rule -/
def ClosedAt (M : Key → Option Cost) (r : Rule) : Prop :=
  (r.put = [] → ∃ c, M (r.fr, r.top, r.to) = some c ∧ c.steps ≤ 1) ∧
  (∀ b q c1, r.put = [b] → M (r.to, b, q) = some c1 → ∃ c, M (r.fr, r.top, q) = some c ∧ c.steps ≤ 1 + c1.steps) ∧
  (∀ b x m q c1 c2, r.put = [b, x] → M (r.to, b, m) = some c1 → M (m, x, q) = some c2 → ∃ c, M (r.fr, r.top, q) = some c ∧ c.steps ≤ 1 + c1.steps + c2.steps)

theorem Inv.complete {M : Key → Option Cost} (h : Inv R B M) (hc : ∀ (i : Nat) r, R[i]? = some r → ClosedAt M r) {p a q : Int} {l : List Nat} (hd : D R B p a q l) : ∃ c, M (p, a, q) = some c ∧ c.steps ≤ l.length := by
  induction hd with
  | base hb => obtain ⟨c, h1, h2⟩ := h.base _ _ _ hb; exact ⟨c, h1, by simp [h2]⟩
  | @pop i r hr hp => obtain ⟨c, h1, h2⟩ := (hc i r hr).1 hp; exact ⟨c, h1, by simpa using h2⟩
  | @one i r b q l hr hp _ ih =>
    obtain ⟨c1, h1, h2⟩ := ih
    obtain ⟨c, h3, h4⟩ := (hc i r hr).2.1 _ _ _ hp h1
    exact ⟨c, h3, by rw [List.length_cons]; omega⟩
  | @two i r b x m q l k hr hp _ _ ih1 ih2 =>
    obtain ⟨c1, h1, h2⟩ := ih1
    obtain ⟨c2, h3, h4⟩ := ih2
    obtain ⟨c, h5, h6⟩ := (hc i r hr).2.2 _ _ _ _ _ _ hp h1 h3
    exact ⟨c, h5, by rw [List.length_cons, List.length_append]; omega⟩

/-- a change: a smaller cost, with its reason -/
theorem Inv.set {M : Key → Option Cost} (h : Inv R B M) {k : Key} {c : Cost} (hc0 : 0 ≤ c.steps) (hcf : c.steps ≤ far) (hs : ∃ l, D R B k.1 k.2.1 k.2.2 l ∧ ((l.length : Int) ≤ c.steps ∨ far ≤ c.steps)) (hw : Why R M k c)
    (hless : ∀ c0, M k = some c0 → c.steps < c0.steps) : Inv R B (fun k' => if k' = k then some c else M k') := by
  have mono : ∀ k' c', M k' = some c' → ∃ c'', (if k' = k then some c else M k') = some c'' ∧ c''.steps ≤ c'.steps := by
    intro k' c' hk
    by_cases e : k' = k
    · subst e; exact ⟨c, if_pos rfl, Int.le_of_lt (hless c' hk)⟩
    · exact ⟨c', by rw [if_neg e]; exact hk, Int.le_refl _⟩
  have wmono : ∀ k' c', Why R M k' c' → Why R (fun k' => if k' = k then some c else M k') k' c' := by
    rintro k' c' ⟨i, r, h1, h2, h3, h4, h5⟩
    refine ⟨i, r, h1, h2, h3, h4, ?_⟩
    rcases h5 with h5 | ⟨b, c1, h6, h7, h8⟩ | ⟨b, x, c1, c2, h6, h7, h8, h9⟩
    · exact .inl h5
    · obtain ⟨d1, e1, e2⟩ := mono _ _ h7
      exact .inr (.inl ⟨b, d1, h6, e1, by omega⟩)
    · obtain ⟨d1, e1, e2⟩ := mono _ _ h7
      obtain ⟨d2, e3, e4⟩ := mono _ _ h8
      exact .inr (.inr ⟨b, x, d1, d2, h6, e1, e3, by omega⟩)
  refine ⟨?_, ?_, ?_, ?_⟩
  · intro k' c' hk
    by_cases e : k' = k
    · rw [if_pos e] at hk; cases hk; exact ⟨hc0, hcf⟩
    · rw [if_neg e] at hk; exact h.cost _ _ hk
  · intro k' c' hk
    by_cases e : k' = k
    · rw [if_pos e] at hk; cases hk; rw [e]; exact hs
    · rw [if_neg e] at hk; exact h.sound _ _ hk
  · intro k' c' hk
    by_cases e : k' = k
    · rw [if_pos e] at hk; cases hk; rw [e]; exact .inr (wmono _ _ hw)
    · rw [if_neg e] at hk
      rcases h.why _ _ hk with h1 | h1
      · exact .inl h1
      · exact .inr (wmono _ _ h1)
  · intro p a q hb
    obtain ⟨c1, h1, h2⟩ := h.base p a q hb
    obtain ⟨c2, h3, h4⟩ := mono _ _ h1
    refine ⟨c2, h3, ?_⟩
    by_cases e : (p, a, q) = k
    · rw [if_pos e] at h3; cases h3; omega
    · rw [if_neg e] at h3; rw [h1] at h3; cases h3; exact h2
end
end
section
def NoB : Int → Int → Int → Prop := fun _ _ _ => False

abbrev Head := Int × Int

section
variable (R : List Rule)
/-- a letter is gone -/
def Pops (p a q : Int) : Prop := ∃ l, D R NoB p a q l
/-- letters are gone -/
def Popped (p : Int) (w : List Int) (q : Int) : Prop := ∃ l, Path R NoB p w q l
/-- what follows a head, on a stack that does not become lower -/
def Follows (h h' : Head) : Prop := ∃ (i : Nat) (r : Rule), R[i]? = some r ∧ r.fr = h.1 ∧ r.top = h.2 ∧
  ((∃ b t, r.put = b :: t ∧ h' = (r.to, b)) ∨ (∃ b x q, r.put = [b, x] ∧ Pops R r.to b q ∧ h' = (q, x)))
inductive Star : Head → Head → Prop
  | refl (h) : Star h h
  | step {h h' h''} : Follows R h h' → Star h' h'' → Star h h''
def Plus (h h'' : Head) : Prop := ∃ h', Follows R h h' ∧ Star R h' h''
/-- the heads that come up on a stack -/
def Heads (p : Int) (w : List Int) (h : Head) : Prop := ∃ u x v q, w = u ++ x :: v ∧ Popped R p u q ∧ h = (q, x)
def EndlessP (p : Int) (w : List Int) : Prop := ∃ h0 h1, Heads R p w h0 ∧ Star R h0 h1 ∧ Plus R h1 h1
end

section
variable {R : List Rule}
theorem Star.trans {a b c : Head} (h : Star R a b) (h2 : Star R b c) : Star R a c := by
  induction h with
  | refl => exact h2
  | step hf _ ih => exact .step hf (ih h2)
theorem Plus.star {a b : Head} (h : Plus R a b) : Star R a b := by obtain ⟨c, h1, h2⟩ := h; exact .step h1 h2
theorem Plus.of_star {a b c : Head} (h : Star R a b) (h2 : Plus R b c) : Plus R a c := by
  cases h with
  | refl => exact h2
  | step hf hs => exact ⟨_, hf, hs.trans h2.star⟩
theorem Plus.snoc {a b c : Head} (h : Star R a b) (h2 : Follows R b c) : Plus R a c := Plus.of_star h ⟨_, h2, .refl _⟩

theorem popped_nil {p q : Int} : Popped R p [] q ↔ q = p := by
  constructor
  · rintro ⟨l, h⟩; exact (Path.nil_iff.1 h).1
  · rintro rfl; exact ⟨[], .nil _⟩
theorem popped_cons {p a q : Int} {w : List Int} : Popped R p (a :: w) q ↔ ∃ m, Pops R p a m ∧ Popped R m w q := by
  constructor
  · rintro ⟨l, h⟩
    cases h with
    | cons hd hp => exact ⟨_, ⟨_, hd⟩, _, hp⟩
  · rintro ⟨m, ⟨l, h1⟩, k, h2⟩; exact ⟨_, .cons h1 h2⟩
theorem popped_snoc {p a q : Int} {w : List Int} : Popped R p (w ++ [a]) q ↔ ∃ m, Popped R p w m ∧ Pops R m a q := by
  constructor
  · rintro ⟨l, h⟩
    obtain ⟨m, x, y, h1, h2, rfl⟩ := Path.split h
    exact ⟨m, ⟨x, h1⟩, y, Path.one_iff.1 h2⟩
  · rintro ⟨m, ⟨l, h1⟩, k, h2⟩; exact ⟨_, h1.join (Path.one_iff.2 h2)⟩
theorem pops_iff {C : Int} (hR : RulesOk C R) {p a q : Int} : Pops R p a q ↔ ∃ (i : Nat) (r : Rule), R[i]? = some r ∧ r.fr = p ∧ r.top = a ∧ Popped R r.to r.put q := by
  constructor
  · rintro ⟨l, h⟩
    rcases h.cases' with ⟨h, _⟩ | ⟨i, r, hr, k, h1, h2, h3, _⟩
    · exact h.elim
    · exact ⟨i, r, hr, h1, h2, k, h3⟩
  · rintro ⟨i, r, hr, rfl, rfl, k, h⟩
    exact ⟨_, D.of_path hr (hR i r hr).2.2.2.2 h⟩
theorem pops_lt {C : Int} (hR : RulesOk C R) {p a q : Int} (h : Pops R p a q) : (0 ≤ p ∧ p < C) ∧ 0 ≤ q ∧ q < C := by
  obtain ⟨l, h⟩ := h
  induction h with
  | base h => exact h.elim
  | pop hr _ => have := hR _ _ hr; omega
  | one hr _ _ ih => have := hR _ _ hr; omega
  | two hr _ _ _ ih1 ih2 => have := hR _ _ hr; omega

theorem heads_cons {p a : Int} {w : List Int} {h : Head} : Heads R p (a :: w) h ↔ h = (p, a) ∨ ∃ m, Pops R p a m ∧ Heads R m w h := by
  constructor
  · rintro ⟨u, x, v, q, e, hp, rfl⟩
    cases u with
    | nil =>
      simp only [List.nil_append, List.cons.injEq] at e
      rw [popped_nil.1 hp, e.1]
      exact .inl rfl
    | cons y u =>
      simp only [List.cons_append, List.cons.injEq] at e
      obtain ⟨rfl, rfl⟩ := e
      obtain ⟨m, h1, h2⟩ := popped_cons.1 hp
      exact .inr ⟨m, h1, u, x, v, q, rfl, h2, rfl⟩
  · rintro (rfl | ⟨m, h1, u, x, v, q, rfl, h2, rfl⟩)
    · exact ⟨[], a, w, p, rfl, popped_nil.2 rfl, rfl⟩
    · exact ⟨a :: u, x, v, q, rfl, popped_cons.2 ⟨m, h1, h2⟩, rfl⟩
theorem heads_nil {p : Int} {h : Head} : ¬ Heads R p [] h := by
  rintro ⟨u, x, v, q, e, _⟩
  simp at e
theorem heads_append {p : Int} {u w : List Int} {h : Head} : Heads R p (u ++ w) h ↔ Heads R p u h ∨ ∃ m, Popped R p u m ∧ Heads R m w h := by
  induction u generalizing p with
  | nil =>
    constructor
    · intro h; exact .inr ⟨p, popped_nil.2 rfl, h⟩
    · rintro (h | ⟨m, h1, h2⟩)
      · exact (heads_nil h).elim
      · rw [popped_nil.1 h1] at h2; exact h2
  | cons a u ih =>
    rw [List.cons_append, heads_cons, heads_cons]
    constructor
    · rintro (h | ⟨m, h1, h2⟩)
      · exact .inl (.inl h)
      · rcases ih.1 h2 with h3 | ⟨k, h3, h4⟩
        · exact .inl (.inr ⟨m, h1, h3⟩)
        · exact .inr ⟨k, popped_cons.2 ⟨m, h1, h3⟩, h4⟩
    · rintro ((h | ⟨m, h1, h2⟩) | ⟨k, h3, h4⟩)
      · exact .inl h
      · exact .inr ⟨m, h1, ih.2 (.inl h2)⟩
      · obtain ⟨m, h1, h2⟩ := popped_cons.1 h3
        exact .inr ⟨m, h1, ih.2 (.inr ⟨k, h2, h4⟩)⟩

/-- what follows a head are the heads of what its rules put -/
theorem follows_iff {C : Int} (hR : RulesOk C R) {h h' : Head} : Follows R h h' ↔ ∃ (i : Nat) (r : Rule), R[i]? = some r ∧ r.fr = h.1 ∧ r.top = h.2 ∧ Heads R r.to r.put h' := by
  constructor
  · rintro ⟨i, r, hr, h1, h2, h3⟩
    refine ⟨i, r, hr, h1, h2, ?_⟩
    rcases h3 with ⟨b, t, e, rfl⟩ | ⟨b, x, q, e, h4, rfl⟩
    · rw [e]; exact heads_cons.2 (.inl rfl)
    · rw [e]; exact heads_cons.2 (.inr ⟨q, h4, heads_cons.2 (.inl rfl)⟩)
  · rintro ⟨i, r, hr, h1, h2, h3⟩
    refine ⟨i, r, hr, h1, h2, ?_⟩
    have hl := (hR i r hr).2.2.2.2
    match e : r.put, hl with
    | [], _ => rw [e] at h3; exact (heads_nil h3).elim
    | [b], _ =>
      rw [e] at h3
      rcases heads_cons.1 h3 with h4 | ⟨_, _, h4⟩
      · exact .inl ⟨b, [], rfl, h4⟩
      · exact (heads_nil h4).elim
    | [b, x], _ =>
      rw [e] at h3
      rcases heads_cons.1 h3 with h4 | ⟨q, h5, h4⟩
      · exact .inl ⟨b, _, rfl, h4⟩
      · rcases heads_cons.1 h4 with h6 | ⟨_, _, h6⟩
        · exact .inr ⟨b, x, q, rfl, h5, h6⟩
        · exact (heads_nil h6).elim

/-- THE LAW: steps may never end just if they may from a configuration to which a step leads -/
theorem endless_step {C : Int} (hR : RulesOk C R) {p : Int} {w : List Int} : EndlessP R p w ↔ ∃ (i : Nat) (r : Rule) (v : List Int), R[i]? = some r ∧ r.fr = p ∧ w = r.top :: v ∧ EndlessP R r.to (r.put ++ v) := by
  constructor
  · rintro ⟨h0, h1, hh, hs, hp⟩
    cases w with
    | nil => exact (heads_nil hh).elim
    | cons a v =>
      rcases heads_cons.1 hh with rfl | ⟨m, hm, hv⟩
      · obtain ⟨h', hf, hs'⟩ : ∃ h', Follows R (p, a) h' ∧ Star R h' h1 := by
          cases hs with
          | refl => exact hp
          | step hf hs => exact ⟨_, hf, hs⟩
        obtain ⟨i, r, hr, e1, e2, h3⟩ := (follows_iff hR).1 hf
        exact ⟨i, r, v, hr, e1, by rw [e2], h', h1, heads_append.2 (.inl h3), hs', hp⟩
      · obtain ⟨i, r, hr, e1, e2, h3⟩ := (pops_iff hR).1 hm
        exact ⟨i, r, v, hr, e1, by rw [e2], h0, h1, heads_append.2 (.inr ⟨m, h3, hv⟩), hs, hp⟩
  · rintro ⟨i, r, v, hr, rfl, rfl, h0, h1, hh, hs, hp⟩
    rcases heads_append.1 hh with h | ⟨m, h3, h4⟩
    · exact ⟨(r.fr, r.top), h1, heads_cons.2 (.inl rfl), .step ((follows_iff hR).2 ⟨i, r, hr, rfl, rfl, h⟩) hs, hp⟩
    · exact ⟨h0, h1, heads_cons.2 (.inr ⟨m, (pops_iff hR).2 ⟨i, r, hr, rfl, rfl, h3⟩, h4⟩), hs, hp⟩
end
end
section
/-- at least one step, all numbers below n -/
inductive TrN (n : Nat) (E : Nat → Nat → Prop) : Nat → Nat → Prop
  | one {a b} : a < n → b < n → E a b → TrN n E a b
  | step {a b c} : a < n → b < n → E a b → TrN n E b c → TrN n E a c

theorem TrN.trans {n : Nat} {E : Nat → Nat → Prop} {a b c : Nat} (h : TrN n E a b) (h2 : TrN n E b c) : TrN n E a c := by
  induction h with
  | one ha hb e => exact .step ha hb e h2
  | step ha hb e _ ih => exact .step ha hb e (ih h2)
theorem TrN.lt {n : Nat} {E : Nat → Nat → Prop} {a b : Nat} (h : TrN n E a b) : a < n ∧ b < n := by
  induction h with
  | one ha hb _ => exact ⟨ha, hb⟩
  | step ha _ _ _ ih => exact ⟨ha, ih.2⟩

/-- the rows below I are done for the pivot K -/
def pv (L : Nat → Nat → Bool) (K I : Nat) : Nat → Nat → Bool := fun i j => if i < I then L i j || (L i K && L K j) else L i j
def war (n : Nat) (L : Nat → Nat → Bool) : Nat → Nat → Nat → Bool
  | 0 => L
  | K + 1 => pv (war n L K) K n

theorem pv_zero (L : Nat → Nat → Bool) (K : Nat) : pv L K 0 = L := by funext i j; simp [pv]
/-- the pivot's own row stays -/
theorem pv_pivot (L : Nat → Nat → Bool) (K I j : Nat) : pv L K I K j = L K j := by
  unfold pv
  split
  · cases h : L K j <;> simp
  · rfl
theorem pv_col (L : Nat → Nat → Bool) (K I i : Nat) : pv L K I i K = L i K := by
  unfold pv
  split
  · cases h : L i K <;> simp
  · rfl

structure WInv (n : Nat) (E : Nat → Nat → Prop) (L : Nat → Nat → Bool) (K : Nat) : Prop where
  sub : ∀ i j, i < n → j < n → E i j → L i j = true
  sound : ∀ i j, i < n → j < n → L i j = true → TrN n E i j
  closed : ∀ m i j, m < K → m < n → i < n → j < n → L i m = true → L m j = true → L i j = true

theorem WInv.next {n : Nat} {E : Nat → Nat → Prop} {L : Nat → Nat → Bool} {K : Nat} (h : WInv n E L K) (hK : K < n) : WInv n E (pv L K n) (K + 1) := by
  have e : ∀ i j, i < n → (pv L K n i j = true ↔ (L i j = true ∨ (L i K = true ∧ L K j = true))) := fun i j hi => by unfold pv; rw [if_pos hi]; simp
  refine ⟨?_, ?_, ?_⟩
  · intro i j hi hj he; exact (e i j hi).2 (.inl (h.sub i j hi hj he))
  · intro i j hi hj hl
    rcases (e i j hi).1 hl with h1 | ⟨h1, h2⟩
    · exact h.sound i j hi hj h1
    · exact (h.sound i K hi hK h1).trans (h.sound K j hK hj h2)
  · intro m i j hm hmn hi hj h1 h2
    rw [e _ _ hi] at h1
    rw [e _ _ hmn] at h2
    rw [e _ _ hi]
    by_cases hmK : m = K
    · subst hmK
      have h1' : L i m = true := by rcases h1 with h | h; exact h; exact h.1
      have h2' : L m j = true := by rcases h2 with h | h; exact h; exact h.2
      exact .inr ⟨h1', h2'⟩
    · have hm' : m < K := by omega
      rcases h1 with h1 | ⟨h1, h1'⟩ <;> rcases h2 with h2 | ⟨h2, h2'⟩
      · exact .inl (h.closed m i j hm' hmn hi hj h1 h2)
      · exact .inr ⟨h.closed m i K hm' hmn hi hK h1 h2, h2'⟩
      · exact .inr ⟨h1, h.closed m K j hm' hmn hK hj h1' h2⟩
      · exact .inr ⟨h1, h2'⟩

/-- THE LAW: behind all pivots the table is the closure -/
theorem war_iff {n : Nat} {L : Nat → Nat → Bool} {i j : Nat} (hi : i < n) (hj : j < n) : war n L n i j = true ↔ TrN n (fun a b => L a b = true) i j := by
  have key : ∀ K, K ≤ n → WInv n (fun a b => L a b = true) (war n L K) K := by
    intro K
    induction K with
    | zero => intro _; exact ⟨fun _ _ _ _ h => h, fun i j hi hj h => .one hi hj h, fun _ _ _ h => absurd h (Nat.not_lt_zero _)⟩
    | succ K ih => intro hK; exact (ih (by omega)).next (by omega)
  have h := key n (Nat.le_refl _)
  constructor
  · exact h.sound i j hi hj
  · intro ht
    clear hi hj
    induction ht with
    | one ha hb e => exact h.sub _ _ ha hb e
    | step ha hb e ht ih => exact h.closed _ _ _ hb hb ha ht.lt.2 (h.sub _ _ ha hb e) ih
end
section
def farR : Int := 1073741824
/-- a row behind a letter: what the specification's 'read' computes -/
def rd (n : Nat) (row : Nat → Nat → Int) (now : Nat → Int) (k : Nat) : Int := (List.range n).foldl (fun m i => if farR ≤ now i then m else min m (now i + row i k)) farR

theorem rd_gen (row : Nat → Nat → Int) (now : Nat → Int) (k : Nat) : ∀ n, rd n row now k ≤ farR ∧ (∀ i, i < n → now i < farR → rd n row now k ≤ now i + row i k) ∧ (rd n row now k < farR → ∃ i, i < n ∧ now i < farR ∧ rd n row now k = now i + row i k)
  | 0 => by simp [rd]
  | n + 1 => by
    obtain ⟨h1, h2, h3⟩ := rd_gen row now k n
    have e : rd (n + 1) row now k = if farR ≤ now n then rd n row now k else min (rd n row now k) (now n + row n k) := by unfold rd; rw [List.range_succ, List.foldl_append]; rfl
    rw [e]
    by_cases hf : farR ≤ now n
    · rw [if_pos hf]
      refine ⟨h1, fun i hi hn => ?_, fun h => ?_⟩
      · by_cases e : i = n
        · subst e; omega
        · exact h2 i (by omega) hn
      · obtain ⟨i, hi, ha, hb⟩ := h3 h; exact ⟨i, by omega, ha, hb⟩
    · rw [if_neg hf]
      refine ⟨by omega, fun i hi hn => ?_, fun h => ?_⟩
      · by_cases e : i = n
        · subst e; omega
        · have := h2 i (by omega) hn; omega
      · by_cases hm : rd n row now k ≤ now n + row n k
        · obtain ⟨i, hi, ha, hb⟩ := h3 (by omega); exact ⟨i, by omega, ha, by omega⟩
        · exact ⟨n, by omega, by omega, by omega⟩

theorem rd_congr {n : Nat} {row row' : Nat → Nat → Int} {now now' : Nat → Int} {k : Nat} (h1 : ∀ i, i < n → now i = now' i) (h2 : ∀ i, i < n → row i k = row' i k) : rd n row now k = rd n row' now' k := by
  induction n with
  | zero => rfl
  | succ n ih =>
    have e : ∀ (row : Nat → Nat → Int) now, rd (n + 1) row now k = if farR ≤ now n then rd n row now k else min (rd n row now k) (now n + row n k) := fun row now => by unfold rd; rw [List.range_succ, List.foldl_append]; rfl
    rw [e, e, ih (fun i hi => h1 i (by omega)) (fun i hi => h2 i (by omega)), h1 n (by omega), h2 n (by omega)]

/-- one state alone -/
def only1 (p : Nat) : Nat → Int := fun i => if i = p then 0 else farR
theorem only1_self (p : Nat) : only1 p p = 0 := by simp [only1]
/-- the costs behind a word -/
def costs (n : Nat) (x : Nat → Nat → Nat → Int) : List Int → (Nat → Int) → (Nat → Int)
  | [], now => now
  | a :: w, now => costs n x w (fun k => rd n (fun i k => x i (a - 97).toNat k) now k)

theorem costs_append {n : Nat} {x : Nat → Nat → Nat → Int} (u v : List Int) (now : Nat → Int) : costs n x (u ++ v) now = costs n x v (costs n x u now) := by
  induction u generalizing now with
  | nil => rfl
  | cons a u ih => exact ih _

section
variable {R : List Rule} {B : Int → Int → Int → Prop}

/-- what holds of the table at every time -/
structure RInv (R : List Rule) (B : Int → Int → Int → Prop) (n : Nat) (x : Nat → Nat → Nat → Int) : Prop where
  range : ∀ p c q, p < n → c < 5 → q < n → 0 ≤ x p c q ∧ (x p c q ≤ 1001 ∨ x p c q = farR)
  sound : ∀ p c q : Nat, p < n → c < 5 → q < n → x p c q < farR → ∃ l, D R B p (97 + c) q l ∧ ((l.length : Int) ≤ x p c q ∨ 1001 ≤ x p c q)
  base : ∀ p c q : Nat, p < n → c < 5 → q < n → B p (97 + c) q → x p c q = 0

/-- letters are letters -/
def Word (w : List Int) : Prop := ∀ a ∈ w, 97 ≤ a ∧ a ≤ 101
theorem Word.cons {a : Int} {w : List Int} (h : Word (a :: w)) : (97 ≤ a ∧ a ≤ 101) ∧ Word w := ⟨h a (by simp), fun b hb => h b (by simp [hb])⟩

/-- costs below far are those of a path -/
theorem costs_sound {n : Nat} {x : Nat → Nat → Nat → Int} (h : RInv R B n x) : ∀ (w : List Int) (now : Nat → Int) (k : Nat), Word w → (∀ i, i < n → 0 ≤ now i) → k < n → costs n x w now k < farR →
    ∃ i l, i < n ∧ now i < farR ∧ Path R B i w k l ∧ 0 ≤ costs n x w now k ∧ ((now i + l.length ≤ costs n x w now k) ∨ 1001 ≤ costs n x w now k)
  | [], now, k, _, h0, hk, hf => ⟨k, [], hk, hf, .nil _, h0 k hk, .inl (by simp [costs])⟩
  | a :: w, now, k, hw, h0, hk, hf => by
    obtain ⟨ha, hw'⟩ := hw.cons
    have g := fun j => rd_gen (fun i k => x i (a - 97).toNat k) now j n
    have h0' : ∀ j, j < n → 0 ≤ rd n (fun i k => x i (a - 97).toNat k) now j := by
      intro j hj
      rcases Int.lt_or_le (rd n (fun i k => x i (a - 97).toNat k) now j) farR with hl | hl
      · obtain ⟨i, hi, _, e⟩ := (g j).2.2 hl
        rw [e]
        have := h0 i hi
        have := (h.range i (a - 97).toNat j hi (by omega) hj).1
        omega
      · unfold farR at hl; omega
    obtain ⟨m, l, hm, hmf, hp, hz, hc⟩ := costs_sound h w (rd n (fun i k => x i (a - 97).toNat k) now) k hw' h0' hk hf
    obtain ⟨i, hi, hif, e⟩ := (g m).2.2 hmf
    have hx := h.range i (a - 97).toNat m hi (by omega) hm
    have hnow := h0 i hi
    obtain ⟨l1, hd, hl1⟩ := h.sound i (a - 97).toNat m hi (by omega) hm (by omega)
    have ea : (97 : Int) + ((a - 97).toNat : Int) = a := by omega
    rw [ea] at hd
    refine ⟨i, l1 ++ l, hi, hif, .cons hd hp, hz, ?_⟩
    rw [List.length_append]
    have ec : costs n x (a :: w) now k = costs n x w (rd n (fun i k => x i (a - 97).toNat k) now) k := rfl
    rw [ec] at hf
    rw [ec]
    have ec2 : costs n x w (fun k => rd n (fun i k => x i (a - 97).toNat k) now k) k = costs n x w (rd n (fun i k => x i (a - 97).toNat k) now) k := rfl
    omega

/-- nothing is left to be done for a rule -/
def RClosedAt (n : Nat) (x : Nat → Nat → Nat → Int) (r : Rule) : Prop :=
  ∀ k, k < n → costs n x r.put (only1 r.to.toNat) k < farR → x r.fr.toNat (r.top - 97).toNat k ≤ min (costs n x r.put (only1 r.to.toNat) k + 1) 1001

/-- the rules fit a table -/
def RulesIn (n : Nat) (R : List Rule) : Prop := ∀ (i : Nat) r, R[i]? = some r → 0 ≤ r.fr ∧ r.fr < n ∧ 0 ≤ r.to ∧ r.to < n ∧ 97 ≤ r.top ∧ r.top ≤ 101 ∧ Word r.put

theorem RInv.complete {n : Nat} {x : Nat → Nat → Nat → Int} (h : RInv R B n x) (hR : RulesIn n R) (hB : ∀ p a q, B p a q → 0 ≤ p ∧ p < n ∧ 97 ≤ a ∧ a ≤ 101 ∧ 0 ≤ q ∧ q < n) (hc : ∀ (i : Nat) r, R[i]? = some r → RClosedAt n x r)
    {p a q : Int} {l : List Nat} (hd : D R B p a q l) : (0 ≤ p ∧ p < n ∧ 97 ≤ a ∧ a ≤ 101 ∧ 0 ≤ q ∧ q < n) ∧ x p.toNat (a - 97).toNat q.toNat ≤ l.length ∧ x p.toNat (a - 97).toNat q.toNat ≤ 1001 := by
  induction hd with
  | @base p a q hb =>
    obtain ⟨h1, h2, h3, h4, h5, h6⟩ := hB _ _ _ hb
    have := h.base p.toNat (a - 97).toNat q.toNat (by omega) (by omega) (by omega) (by
      rw [show ((p.toNat : Nat) : Int) = p by omega, show (97 : Int) + ((a - 97).toNat : Int) = a by omega, show ((q.toNat : Nat) : Int) = q by omega]; exact hb)
    rw [this]
    exact ⟨⟨h1, h2, h3, h4, h5, h6⟩, by simp, by omega⟩
  | @pop i r hr hp =>
    obtain ⟨h1, h2, h3, h4, h5, h6, _⟩ := hR i r hr
    have := hc i r hr r.to.toNat (by omega)
    rw [hp] at this
    simp only [costs, only1_self] at this
    have := this (by unfold farR; omega)
    refine ⟨⟨h1, h2, h5, h6, h3, h4⟩, ?_⟩
    simp
    omega
  | @one i r b q l hr hp _ ih =>
    obtain ⟨h1, h2, h3, h4, h5, h6, _⟩ := hR i r hr
    obtain ⟨⟨i1, i2, i3, i4, i5, i6⟩, i7, i8⟩ := ih
    have hcl := hc i r hr q.toNat (by omega)
    rw [hp] at hcl
    simp only [costs] at hcl
    have g := (rd_gen (fun i k => x i (b - 97).toNat k) (only1 r.to.toNat) q.toNat n).2.1 r.to.toNat (by omega) (by rw [only1_self]; decide)
    rw [only1_self] at g
    have := hcl (by unfold farR; omega)
    refine ⟨⟨h1, h2, h5, h6, i5, i6⟩, ?_⟩
    rw [List.length_cons]
    omega
  | @two i r b c m q l k hr hp _ _ ih1 ih2 =>
    obtain ⟨h1, h2, h3, h4, h5, h6, _⟩ := hR i r hr
    obtain ⟨⟨i1, i2, i3, i4, i5, i6⟩, i7, i8⟩ := ih1
    obtain ⟨⟨j1, j2, j3, j4, j5, j6⟩, j7, j8⟩ := ih2
    have hcl := hc i r hr q.toNat (by omega)
    rw [hp] at hcl
    simp only [costs] at hcl
    have g := (rd_gen (fun i k => x i (b - 97).toNat k) (only1 r.to.toNat) m.toNat n).2.1 r.to.toNat (by omega) (by rw [only1_self]; decide)
    have g2 := (rd_gen (fun i k => x i (c - 97).toNat k) (fun k => rd n (fun i k => x i (b - 97).toNat k) (only1 r.to.toNat) k) q.toNat n).2.1 m.toNat (by omega)
    rw [only1_self] at g
    have g2 := g2 (by unfold farR; omega)
    have := hcl (by unfold farR; omega)
    refine ⟨⟨h1, h2, h5, h6, j5, j6⟩, ?_⟩
    rw [List.length_cons, List.length_append]
    omega

/-- a path's costs are at most its steps -/
theorem costs_complete {n : Nat} {x : Nat → Nat → Nat → Int} (hall : ∀ p a q l, D R B p a q l → (0 ≤ p ∧ p < n ∧ 97 ≤ a ∧ a ≤ 101 ∧ 0 ≤ q ∧ q < n) ∧ x p.toNat (a - 97).toNat q.toNat ≤ l.length ∧ x p.toNat (a - 97).toNat q.toNat ≤ 1001)
    {p q : Int} {w : List Int} {l : List Nat} (hp : Path R B p w q l) : ∀ (now : Nat → Int) (b : Int), now p.toNat ≤ b → b + 1001 * w.length < farR → costs n x w now q.toNat ≤ b + l.length ∧ costs n x w now q.toNat ≤ b + 1001 * w.length := by
  induction hp with
  | nil => intro now b hb _; simp [costs]; exact hb
  | @cons p a m w q l k hd _ ih =>
    intro now b hb hf
    obtain ⟨⟨i1, i2, i3, i4, i5, i6⟩, i7, i8⟩ := hall _ _ _ _ hd
    rw [List.length_cons] at hf
    have g := (rd_gen (fun i k => x i (a - 97).toNat k) now m.toNat n).2.1 p.toNat (by omega) (by omega)
    have A := (ih (fun k => rd n (fun i k => x i (a - 97).toNat k) now k) (b + min (l.length : Int) 1001) (by omega) (by omega))
    simp only [costs, List.length_append, List.length_cons]
    omega
end
end
section
/-- the controls at which a letter is gone -/
def pp (n : Nat) (t : Nat → Nat → Nat → Bool) (now : Nat → Bool) (c q : Nat) : Bool := (List.range n).any fun p => now p && t p c q
theorem pp_iff {n : Nat} {t : Nat → Nat → Nat → Bool} {now : Nat → Bool} {c q : Nat} : pp n t now c q = true ↔ ∃ p, p < n ∧ now p = true ∧ t p c q = true := by
  simp [pp, List.any_eq_true]
/-- and letters -/
def ppw (n : Nat) (t : Nat → Nat → Nat → Bool) : List Int → (Nat → Bool) → (Nat → Bool)
  | [], now => now
  | a :: w, now => ppw n t w (pp n t now (a - 97).toNat)
def at1 (p : Nat) : Nat → Bool := fun i => decide (i = p)

theorem ppw_append {n : Nat} {t : Nat → Nat → Nat → Bool} (u v : List Int) (now : Nat → Bool) : ppw n t (u ++ v) now = ppw n t v (ppw n t u now) := by
  induction u generalizing now with
  | nil => rfl
  | cons a u ih => exact ih _

section
variable {R : List Rule}

theorem ppw_sound {n : Nat} {t : Nat → Nat → Nat → Bool} (h : ∀ p c q : Nat, p < n → c < 5 → t p c q = true → Pops R p (97 + c) q) : ∀ (w : List Int) (now : Nat → Bool) (q : Nat), Word w → q < n → ppw n t w now q = true → ∃ p, p < n ∧ now p = true ∧ Popped R p w q
  | [], now, q, _, hq, hf => ⟨q, hq, hf, popped_nil.2 rfl⟩
  | a :: w, now, q, hw, hq, hf => by
    obtain ⟨ha, hw'⟩ := hw.cons
    obtain ⟨m, hm, h1, h2⟩ := ppw_sound h w _ q hw' hq hf
    obtain ⟨p, hp, h3, h4⟩ := pp_iff.1 h1
    have := h p _ m hp (by omega) h4
    rw [show (97 : Int) + ((a - 97).toNat : Int) = a by omega] at this
    exact ⟨p, hp, h3, popped_cons.2 ⟨m, this, h2⟩⟩

theorem ppw_complete {n : Nat} {t : Nat → Nat → Nat → Bool} (h : ∀ p a q, Pops R p a q → 0 ≤ p ∧ p < n ∧ 0 ≤ q ∧ q < n ∧ t p.toNat (a - 97).toNat q.toNat = true) {w : List Int} : ∀ {p q : Int} {now : Nat → Bool}, 0 ≤ p → now p.toNat = true → Popped R p w q → 0 ≤ q ∧ ppw n t w now q.toNat = true := by
  induction w with
  | nil => intro p q now hp hn hq; rw [popped_nil.1 hq]; exact ⟨hp, hn⟩
  | cons a w ih =>
    intro p q now hp hn hq
    obtain ⟨m, h1, h2⟩ := popped_cons.1 hq
    obtain ⟨i1, i2, i3, i4, i5⟩ := h _ _ _ h1
    exact ih i3 (pp_iff.2 ⟨p.toNat, by omega, hn, i5⟩) h2

/-- nothing is left to be done for a rule -/
def PClosedAt (n : Nat) (t : Nat → Nat → Nat → Bool) (r : Rule) : Prop := ∀ q, q < n → ppw n t r.put (at1 r.to.toNat) q = true → t r.fr.toNat (r.top - 97).toNat q = true

theorem pops_complete {n : Nat} {t : Nat → Nat → Nat → Bool} (hR : RulesIn n R) (_ : RulesOk n R) (hc : ∀ (i : Nat) r, R[i]? = some r → PClosedAt n t r) {p a q : Int} (h : Pops R p a q) : 0 ≤ p ∧ p < n ∧ 0 ≤ q ∧ q < n ∧ t p.toNat (a - 97).toNat q.toNat = true := by
  obtain ⟨l, h⟩ := h
  induction h with
  | base h => exact h.elim
  | @pop i r hr hp =>
    obtain ⟨h1, h2, h3, h4, h5, h6, _⟩ := hR i r hr
    refine ⟨h1, h2, h3, h4, hc i r hr _ (by omega) ?_⟩
    rw [hp]; simp [ppw, at1]
  | @one i r b q l hr hp _ ih =>
    obtain ⟨h1, h2, h3, h4, h5, h6, _⟩ := hR i r hr
    obtain ⟨i1, i2, i3, i4, i5⟩ := ih
    refine ⟨h1, h2, i3, i4, hc i r hr _ (by omega) ?_⟩
    rw [hp]
    exact pp_iff.2 ⟨r.to.toNat, by omega, by simp [at1], i5⟩
  | @two i r b c m q l k hr hp _ _ ih1 ih2 =>
    obtain ⟨h1, h2, h3, h4, h5, h6, _⟩ := hR i r hr
    obtain ⟨i1, i2, i3, i4, i5⟩ := ih1
    obtain ⟨j1, j2, j3, j4, j5⟩ := ih2
    refine ⟨h1, h2, j3, j4, hc i r hr _ (by omega) ?_⟩
    rw [hp]
    exact pp_iff.2 ⟨m.toNat, by omega, pp_iff.2 ⟨r.to.toNat, by omega, by simp [at1], i5⟩, j5⟩

/-- the table tells what is gone -/
def PTab (R : List Rule) (n : Nat) (t : Nat → Nat → Nat → Bool) : Prop := ∀ p c q : Nat, p < n → c < 5 → q < n → (t p c q = true ↔ Pops R p (97 + c) q)

/-- the heads of a stack, told by the table: at place k, control q -/
def headB (n : Nat) (t : Nat → Nat → Nat → Bool) (p : Nat) (w : List Int) (k q : Nat) : Bool := ppw n t (w.take k) (at1 p) q

theorem word_take {w : List Int} (h : Word w) (k : Nat) : Word (w.take k) := fun a ha => h a (List.mem_of_mem_take ha)

theorem popped_tab {C : Nat} {t : Nat → Nat → Nat → Bool} (hl : RulesOk C R) (hi : RulesIn C R) (ht : PTab R C t) {w : List Int} (hw : Word w) {p q : Nat} (hp : p < C) (hq : q < C) : ppw C t w (at1 p) q = true ↔ Popped R p w q := by
  constructor
  · intro h
    obtain ⟨p', h1, h2, h3⟩ := ppw_sound (R := R) (n := C) (t := fun p c q => t p c q && decide (q < C)) (fun p c q hp hc h => by
      simp only [Bool.and_eq_true, decide_eq_true_eq] at h
      exact (ht p c q hp hc h.2).1 h.1) w (at1 p) q hw hq (by
        have : ∀ (w : List Int) (now now' : Nat → Bool), (∀ i, i < C → now i = now' i) → ∀ q, q < C → ppw C (fun p c q => t p c q && decide (q < C)) w now q = ppw C t w now' q := by
          intro w
          induction w with
          | nil => intro now now' hn q hq; exact hn q hq
          | cons a w ih =>
            intro now now' hn q hq
            refine ih _ _ (fun i hi => ?_) q hq
            rw [Bool.eq_iff_iff, pp_iff, pp_iff]
            constructor
            · rintro ⟨p, h1, h2, h3⟩; exact ⟨p, h1, by rw [← hn p h1]; exact h2, by simpa [hi] using h3⟩
            · rintro ⟨p, h1, h2, h3⟩; exact ⟨p, h1, by rw [hn p h1]; exact h2, by simpa [hi] using h3⟩
        rw [this w _ _ (fun _ _ => rfl) q hq]; exact h)
    have : p' = p := by simpa [at1] using h2
    rw [this] at h3; exact h3
  · intro h
    have := (ppw_complete (R := R) (n := C) (t := t) (fun p a q hpq => by
      have hlt := pops_lt hl hpq
      have hab : 97 ≤ a ∧ a ≤ 101 := by
        obtain ⟨i, r, hr, rfl, rfl, _⟩ := (pops_iff hl).1 hpq
        have := hi i r hr
        omega
      refine ⟨hlt.1.1, hlt.1.2, hlt.2.1, hlt.2.2, (ht p.toNat (a - 97).toNat q.toNat (by omega) (by omega) (by omega)).2 ?_⟩
      rw [show ((p.toNat : Nat) : Int) = p by omega, show (97 : Int) + ((a - 97).toNat : Int) = a by omega, show ((q.toNat : Nat) : Int) = q by omega]; exact hpq) (p := p) (q := q) (now := at1 p) (by omega) (by simp [at1]) h).2
    simpa using this

/-- the number of a head -/
def hnum (h : Head) : Nat := h.1.toNat * 5 + (h.2 - 97).toNat
/-- a head in range -/
def HOk (C : Nat) (h : Head) : Prop := 0 ≤ h.1 ∧ h.1 < C ∧ 97 ≤ h.2 ∧ h.2 ≤ 101
theorem hnum_lt {C : Nat} {h : Head} (ho : HOk C h) : hnum h < C * 5 := by obtain ⟨h1, h2, h3, h4⟩ := ho; unfold hnum; omega
theorem hnum_inj {C : Nat} {a b : Head} (ha : HOk C a) (hb : HOk C b) (h : hnum a = hnum b) : a = b := by
  obtain ⟨a1, a2, a3, a4⟩ := ha
  obtain ⟨b1, b2, b3, b4⟩ := hb
  unfold hnum at h
  obtain ⟨x, y⟩ := a
  obtain ⟨z, u⟩ := b
  simp only [Prod.mk.injEq] at *
  omega
theorem hnum_sur {C i : Nat} (h : i < C * 5) : ∃ a : Head, HOk C a ∧ hnum a = i := ⟨((i / 5 : Nat), 97 + (i % 5 : Nat)), ⟨by simp; omega, by simp; omega, by simp; omega, by simp; omega⟩, by unfold hnum; simp; omega⟩

theorem heads_ok {C : Nat} (hl : RulesOk C R) {p : Int} {w : List Int} (hp : 0 ≤ p ∧ p < C) (hw : Word w) {h : Head} (hh : Heads R p w h) : HOk C h := by
  induction w generalizing p with
  | nil => exact (heads_nil hh).elim
  | cons a w ih =>
    obtain ⟨ha, hw'⟩ := hw.cons
    rcases heads_cons.1 hh with rfl | ⟨m, h1, h2⟩
    · exact ⟨hp.1, hp.2, ha.1, ha.2⟩
    · exact ih (pops_lt hl h1).2 hw' h2
theorem follows_ok {C : Nat} (hl : RulesOk C R) (hi : RulesIn C R) {h h' : Head} (hf : Follows R h h') : HOk C h ∧ HOk C h' := by
  obtain ⟨i, r, hr, h1, h2, h3⟩ := (follows_iff hl).1 hf
  obtain ⟨i1, i2, i3, i4, i5, i6, i7⟩ := hi i r hr
  exact ⟨⟨by omega, by omega, by omega, by omega⟩, heads_ok hl ⟨i3, i4⟩ i7 h3⟩

/-- a table of what follows -/
def FTab (R : List Rule) (C : Nat) (L : Nat → Nat → Bool) : Prop := ∀ a b, HOk C a → HOk C b → (L (hnum a) (hnum b) = true ↔ Follows R a b)

theorem plus_iff {C : Nat} {L : Nat → Nat → Bool} (hl : RulesOk C R) (hi : RulesIn C R) (hF : FTab R C L) {a b : Head} (ha : HOk C a) (hb : HOk C b) : TrN (C * 5) (fun a b => L a b = true) (hnum a) (hnum b) ↔ Plus R a b := by
  constructor
  · intro h
    have key : ∀ x y, TrN (C * 5) (fun a b => L a b = true) x y → ∀ a b, HOk C a → HOk C b → hnum a = x → hnum b = y → Plus R a b := by
      intro x y h
      induction h with
      | one _ _ e => intro a b ha hb h1 h2; subst h1; subst h2; exact ⟨b, (hF a b ha hb).1 e, .refl _⟩
      | @step x y z _ hy e _ ih =>
        intro a b ha hb h1 h2
        obtain ⟨c, hc, rfl⟩ := hnum_sur hy
        subst h1
        exact ⟨c, (hF a c ha hc).1 e, (ih c b hc hb rfl h2).star⟩
    exact key _ _ h a b ha hb rfl rfl
  · rintro ⟨c, hf, hs⟩
    have key : ∀ c b, Star R c b → ∀ a, Follows R a c → TrN (C * 5) (fun a b => L a b = true) (hnum a) (hnum b) := by
      intro c b hs
      induction hs with
      | refl c =>
        intro a hf
        obtain ⟨h1, h2⟩ := follows_ok hl hi hf
        exact .one (hnum_lt h1) (hnum_lt h2) ((hF _ _ h1 h2).2 hf)
      | step hf' _ ih =>
        intro a hf
        obtain ⟨h1, h2⟩ := follows_ok hl hi hf
        exact .step (hnum_lt h1) (hnum_lt h2) ((hF _ _ h1 h2).2 hf) (ih _ hf')
    exact key _ _ hs a hf

/-- THE LAW: what the specification answers -/
theorem endless_tab {C : Nat} {t : Nat → Nat → Nat → Bool} {L : Nat → Nat → Bool} (hl : RulesOk C R) (hi : RulesIn C R) (ht : PTab R C t) (hF : FTab R C L) {p : Nat} (hp : p < C) {w : List Int} (hw : Word w) :
    (∃ k q j, k < w.length ∧ q < C ∧ j < C * 5 ∧ headB C t p w k q = true ∧ war (C * 5) L (C * 5) j j = true ∧ (j = q * 5 + ((w.getD k 0) - 97).toNat ∨ war (C * 5) L (C * 5) (q * 5 + ((w.getD k 0) - 97).toNat) j = true)) ↔ EndlessP R p w := by
  constructor
  · rintro ⟨k, q, j, hk, hq, hj, h1, h2, h3⟩
    have hwk : Word (w.take k) := word_take hw k
    have hpop := (popped_tab hl hi ht hwk hp hq).1 h1
    have ew : w = w.take k ++ w[k] :: w.drop (k + 1) := by rw [List.getElem_cons_drop, List.take_append_drop]
    have eg : w.getD k 0 = w[k] := by simp [List.getD, hk]
    have hx := hw w[k] (List.getElem_mem hk)
    have hh : Heads R p w ((q : Int), w[k]) := ⟨w.take k, w[k], w.drop (k + 1), q, ew, hpop, rfl⟩
    have ho : HOk C ((q : Int), w[k]) := ⟨by simp, by simp; omega, hx.1, hx.2⟩
    have en : hnum ((q : Int), w[k]) = q * 5 + ((w.getD k 0) - 97).toNat := by rw [eg]; simp [hnum]
    obtain ⟨b, hb, rfl⟩ := hnum_sur hj
    have hpl := (plus_iff hl hi hF hb hb).1 ((war_iff (hnum_lt hb) (hnum_lt hb)).1 h2)
    refine ⟨_, b, hh, ?_, hpl⟩
    rw [← en] at h3
    rcases h3 with h3 | h3
    · rw [hnum_inj hb ho h3]; exact .refl _
    · exact ((plus_iff hl hi hF ho hb).1 ((war_iff (hnum_lt ho) (hnum_lt hb)).1 h3)).star
  · rintro ⟨h0, h1, ⟨u, x, v, q, rfl, hpop, rfl⟩, hs, hpl⟩
    have hx := hw x (by simp)
    have hwu : Word u := fun a ha => hw a (by simp [ha])
    have hh : Heads R p (u ++ x :: v) (q, x) := ⟨u, x, v, q, rfl, hpop, rfl⟩
    have ho := heads_ok hl (p := (p : Int)) ⟨by omega, by omega⟩ hw hh
    have hq : 0 ≤ q ∧ q < C := ⟨ho.1, ho.2.1⟩
    obtain ⟨h', hf, hs'⟩ := hpl
    have hb := (follows_ok hl hi hf).1
    have eg : (u ++ x :: v).getD u.length 0 = x := by simp [List.getD]
    refine ⟨u.length, q.toNat, hnum h1, by simp, by omega, hnum_lt hb, ?_, (war_iff (hnum_lt hb) (hnum_lt hb)).2 ((plus_iff hl hi hF hb hb).2 ⟨h', hf, hs'⟩), ?_⟩
    · unfold headB
      rw [List.take_left' rfl, popped_tab hl hi ht hwu hp (by omega), show ((q.toNat : Nat) : Int) = q by omega]; exact hpop
    · rw [eg]
      have en : hnum (q, x) = q.toNat * 5 + (x - 97).toNat := rfl
      rw [← en]
      cases hs with
      | refl => exact .inl rfl
      | step hf2 hs2 => exact .inr ((war_iff (hnum_lt ho) (hnum_lt hb)).2 ((plus_iff hl hi hF ho hb).2 ⟨_, hf2, hs2⟩))

/-- the table that the specification fills: the heads of what the rules put -/
theorem ftab_of {C : Nat} {t : Nat → Nat → Nat → Bool} {L : Nat → Nat → Bool} (hl : RulesOk C R) (hi : RulesIn C R) (ht : PTab R C t)
    (hL : ∀ a b, a < C * 5 → b < C * 5 → (L a b = true ↔ ∃ (i : Nat) (r : Rule) (k q : Nat), R[i]? = some r ∧ a = r.fr.toNat * 5 + (r.top - 97).toNat ∧ k < r.put.length ∧ q < C ∧ ppw C t (r.put.take k) (at1 r.to.toNat) q = true ∧ b = q * 5 + (r.put.getD k 0 - 97).toNat)) : FTab R C L := by
  intro a b ha hb
  rw [hL _ _ (hnum_lt ha) (hnum_lt hb), follows_iff hl]
  constructor
  · rintro ⟨i, r, k, q, hr, h1, hk, hq, h2, h3⟩
    obtain ⟨i1, i2, i3, i4, i5, i6, i7⟩ := hi i r hr
    have hto : ((r.to.toNat : Nat) : Int) = r.to := by omega
    have hpop := (popped_tab hl hi ht (word_take i7 k) (p := r.to.toNat) (by omega) hq).1 h2
    rw [hto] at hpop
    have hx := i7 r.put[k] (List.getElem_mem hk)
    have eg : r.put.getD k 0 = r.put[k] := by simp [List.getD, hk]
    rw [eg] at h3
    have e1 : (r.fr, r.top) = a := hnum_inj (C := C) ⟨i1, i2, i5, i6⟩ ha h1.symm
    have e2 : ((q : Int), r.put[k]) = b := hnum_inj (C := C) ⟨by simp, by simp; omega, hx.1, hx.2⟩ hb (by rw [h3]; simp [hnum])
    refine ⟨i, r, hr, by rw [← e1], by rw [← e1], r.put.take k, r.put[k], r.put.drop (k + 1), q, by rw [List.getElem_cons_drop, List.take_append_drop], hpop, e2.symm⟩
  · rintro ⟨i, r, hr, h1, h2, u, x, v, q, e, hpop, rfl⟩
    obtain ⟨i1, i2, i3, i4, i5, i6, i7⟩ := hi i r hr
    have hq : 0 ≤ q ∧ q < C := ⟨hb.1, hb.2.1⟩
    refine ⟨i, r, u.length, q.toNat, hr, by unfold hnum; rw [h1, h2], by rw [e]; simp, by omega, ?_, ?_⟩
    · rw [e, List.take_left' rfl, popped_tab hl hi ht (fun y hy => i7 y (by rw [e]; simp [hy])) (by omega) (by omega), show ((r.to.toNat : Nat) : Int) = r.to by omega, show ((q.toNat : Nat) : Int) = q by omega]; exact hpop
    · rw [e]; simp [hnum, List.getD]
end
end
end Go.Proofs.YtaapnflhjbdmlaaGreatDoor
