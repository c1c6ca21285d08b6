/- Ways through a table of moves, in plain words: the least steps to each state, letter by letter. No condition. -/
import Derived.Test.YtaapnflhjbdmlaaDoorP6
namespace Go.Proofs.YtaapnflhjbdmlaaDoor

section
variable (T : Key → Option Cost)
/-- moves, one behind the other, over some letters -/
inductive Chain (p : Int) : List Int → List Key → Int → Prop
  | nil : Chain p [] [] p
  | snoc {w ks m a q c} : Chain p w ks m → T (m, a, q) = some c → Chain p (w ++ [a]) (ks ++ [(m, a, q)]) q
def costOf (k : Key) : Int := match T k with
  | some c => c.steps
  | none => 0
def csum (ks : List Key) : Int := (ks.map (costOf T)).sum
end

section
variable {T : Key → Option Cost}
theorem csum_append (a b : List Key) : csum T (a ++ b) = csum T a + csum T b := by simp [csum]
theorem csum_one (k : Key) (c : Cost) (h : T k = some c) : csum T [k] = c.steps := by simp [csum, costOf, h]
theorem Chain.cons {p m q : Int} {a : Int} {w : List Int} {ks : List Key} {c : Cost} (h : Chain T m w ks q) (hc : T (p, a, m) = some c) : Chain T p (a :: w) ((p, a, m) :: ks) q := by
  induction h with
  | nil => exact Chain.snoc (w := []) (ks := []) .nil hc
  | snoc _ hT ih => have := Chain.snoc ih hT; simpa using this
theorem Chain.nil_inv {p q : Int} {ks : List Key} (h : Chain T p [] ks q) : ks = [] ∧ q = p := by
  generalize hw : ([] : List Int) = w at h
  cases h with
  | nil => exact ⟨rfl, rfl⟩
  | snoc _ _ => simp at hw
theorem Chain.snoc_inv {p q a : Int} {w : List Int} {ks : List Key} (h : Chain T p (w ++ [a]) ks q) : ∃ m ks' c, ks = ks' ++ [(m, a, q)] ∧ T (m, a, q) = some c ∧ Chain T p w ks' m := by
  generalize hw : w ++ [a] = v at h
  cases h with
  | nil => simp at hw
  | @snoc w' ks' m a' _ c h1 h2 =>
    obtain ⟨rfl, e⟩ := List.append_inj' hw rfl
    cases e
    exact ⟨m, ks', c, rfl, h2, h1⟩
theorem Chain.csum_nonneg (hc : ∀ k c, T k = some c → 0 ≤ c.steps) (ks : List Key) : 0 ≤ csum T ks := by
  induction ks with
  | nil => simp [csum]
  | cons k ks ih =>
    have : csum T (k :: ks) = costOf T k + csum T ks := by simp [csum]
    rw [this]
    have : 0 ≤ costOf T k := by
      unfold costOf
      split
      · rename_i c h; exact hc _ _ h
      · exact Int.le_refl _
    omega

/-! ### a way is a path -/
theorem Chain.path {R : List Rule} {B : Int → Int → Int → Prop} (h : Inv R B T) {p q : Int} {w : List Int} {ks : List Key} (hk : Chain T p w ks q) : ∃ n, Path R B p w q n ∧ ((n.length : Int) ≤ csum T ks ∨ far ≤ csum T ks) := by
  induction hk with
  | nil => exact ⟨[], .nil _, .inl (by simp [csum])⟩
  | @snoc w ks m a q c hk hT ih =>
    obtain ⟨n, h1, h2⟩ := ih
    obtain ⟨l, h3, h4⟩ := h.sound _ _ hT
    have h5 := (h.cost _ _ hT).1
    have h6 := Chain.csum_nonneg (fun k c hk => (h.cost k c hk).1) ks
    refine ⟨n ++ l, h1.join (Path.one_iff.2 h3), ?_⟩
    rw [csum_append, csum_one _ _ hT, List.length_append]
    omega
theorem Path.chain {R : List Rule} {B : Int → Int → Int → Prop} (h : Inv R B T) (hcl : ∀ (i : Nat) r, R[i]? = some r → ClosedAt T r) {p q : Int} {w : List Int} {n : List Nat} (hp : Path R B p w q n) : ∃ ks, Chain T p w ks q ∧ csum T ks ≤ n.length := by
  induction hp with
  | nil => exact ⟨[], .nil, by simp [csum]⟩
  | @cons p a m w q l k hd _ ih =>
    obtain ⟨ks, h1, h2⟩ := ih
    obtain ⟨c, h3, h4⟩ := h.complete hcl hd
    refine ⟨_, h1.cons h3, ?_⟩
    rw [show (p, a, m) :: ks = [(p, a, m)] ++ ks from rfl, csum_append, csum_one _ _ h3, List.length_append]
    omega

/-! ### letter by letter -/
/-- what is known behind some letters -/
def NowOk (T : Key → Option Cost) (p : Int) (w : List Int) (f : Int → Option (Int × List Key)) : Prop :=
  (∀ q st ks, f q = some (st, ks) → Chain T p w ks q ∧ st = min (csum T ks) far) ∧ (∀ q ks, Chain T p w ks q → ∃ st ks', f q = some (st, ks') ∧ st ≤ csum T ks)
def now0 (p : Int) : Int → Option (Int × List Key) := fun q => if q = p then some (0, []) else none
theorem NowOk.zero (p : Int) : NowOk T p [] (now0 p) := by
  have hf : (0 : Int) ≤ far := by decide
  constructor
  · intro q st ks h
    unfold now0 at h
    split at h
    · rename_i e
      cases h
      subst e
      exact ⟨.nil, by simp [csum]; omega⟩
    · cases h
  · intro q ks h
    obtain ⟨rfl, rfl⟩ := h.nil_inv
    exact ⟨0, [], by simp [now0], by simp [csum]⟩
/-- what is known behind one more letter, some pairs done -/
def NextOk (T : Key → Option Cost) (a : Int) (f : Int → Option (Int × List Key)) (D : Int → Int → Prop) (g : Int → Option (Int × List Key)) : Prop :=
  (∀ q st ks, g q = some (st, ks) → ∃ m st0 ks0 c, D m q ∧ f m = some (st0, ks0) ∧ T (m, a, q) = some c ∧ ks = ks0 ++ [(m, a, q)] ∧ st = min (st0 + c.steps) far) ∧
  (∀ m q st0 ks0 c, D m q → f m = some (st0, ks0) → T (m, a, q) = some c → ∃ st ks, g q = some (st, ks) ∧ st ≤ min (st0 + c.steps) far)
theorem NextOk.zero (T : Key → Option Cost) (a : Int) (f : Int → Option (Int × List Key)) : NextOk T a f (fun _ _ => False) (fun _ => none) :=
  ⟨fun _ _ _ h => (by cases h), fun _ _ _ _ _ h => False.elim h⟩
theorem NextOk.put {a : Int} {f g : Int → Option (Int × List Key)} {D : Int → Int → Prop} (h : NextOk T a f D g) {m q st0 : Int} {ks0 : List Key} {c : Cost} (hm : f m = some (st0, ks0)) (hc : T (m, a, q) = some c) (hl : ∀ st ks, g q = some (st, ks) → min (st0 + c.steps) far < st) :
    NextOk T a f (fun m' q' => D m' q' ∨ (m' = m ∧ q' = q)) (fun q' => if q' = q then some (min (st0 + c.steps) far, ks0 ++ [(m, a, q)]) else g q') := by
  constructor
  · intro q' st ks h1
    dsimp only at h1
    by_cases e : q' = q
    · rw [if_pos e] at h1
      cases h1
      subst e
      exact ⟨m, st0, ks0, c, .inr ⟨rfl, rfl⟩, hm, hc, rfl, rfl⟩
    · rw [if_neg e] at h1
      obtain ⟨m', st', ks', c', h2, h3⟩ := h.1 _ _ _ h1
      exact ⟨m', st', ks', c', .inl h2, h3⟩
  · intro m' q' st' ks' c' hD hf' hT'
    dsimp only
    by_cases e : q' = q
    · rw [if_pos e]
      refine ⟨_, _, rfl, ?_⟩
      rcases hD with hD | ⟨rfl, _⟩
      · obtain ⟨st, ks, h1, h2⟩ := h.2 _ _ _ _ _ hD hf' hT'
        rw [e] at h1
        have := hl _ _ h1
        omega
      · subst e
        rw [hm] at hf'
        cases hf'
        rw [hc] at hT'
        cases hT'
        omega
    · rw [if_neg e]
      rcases hD with hD | ⟨_, e2⟩
      · exact h.2 _ _ _ _ _ hD hf' hT'
      · exact absurd e2 e
theorem NextOk.skip {a : Int} {f g : Int → Option (Int × List Key)} {D : Int → Int → Prop} (h : NextOk T a f D g) {m q st0 : Int} {ks0 : List Key} {c : Cost} (hm : f m = some (st0, ks0)) (hc : T (m, a, q) = some c) {st : Int} {ks : List Key} (hg : g q = some (st, ks)) (hl : ¬ min (st0 + c.steps) far < st) :
    NextOk T a f (fun m' q' => D m' q' ∨ (m' = m ∧ q' = q)) g := by
  constructor
  · intro q' st' ks' h1
    obtain ⟨m', st'', ks'', c', h2, h3⟩ := h.1 _ _ _ h1
    exact ⟨m', st'', ks'', c', .inl h2, h3⟩
  · intro m' q' st' ks' c' hD hf' hT'
    rcases hD with hD | ⟨rfl, rfl⟩
    · exact h.2 _ _ _ _ _ hD hf' hT'
    · rw [hm] at hf'
      cases hf'
      rw [hc] at hT'
      cases hT'
      exact ⟨st, ks, hg, by omega⟩
theorem NextOk.congr {a : Int} {f g : Int → Option (Int × List Key)} {D D' : Int → Int → Prop} (h : NextOk T a f D g) (hD : ∀ m q, (f m).isSome → (T (m, a, q)).isSome → (D m q ↔ D' m q)) : NextOk T a f D' g := by
  constructor
  · intro q st ks h1
    obtain ⟨m, st0, ks0, c, h2, h3, h4, h5⟩ := h.1 _ _ _ h1
    exact ⟨m, st0, ks0, c, (hD m q (by rw [h3]; rfl) (by rw [h4]; rfl)).1 h2, h3, h4, h5⟩
  · intro m q st0 ks0 c h1 h2 h3
    exact h.2 m q st0 ks0 c ((hD m q (by rw [h2]; rfl) (by rw [h3]; rfl)).2 h1) h2 h3
theorem NowOk.succ {p a : Int} {w : List Int} {f g : Int → Option (Int × List Key)} {D : Int → Int → Prop} (h : NowOk T p w f) (hn : NextOk T a f D g) (hD : ∀ m q, (f m).isSome → (T (m, a, q)).isSome → D m q) (hc : ∀ k c, T k = some c → 0 ≤ c.steps) : NowOk T p (w ++ [a]) g := by
  have hfar : (0 : Int) ≤ far := by decide
  constructor
  · intro q st ks h1
    obtain ⟨m, st0, ks0, c, _, h3, h4, rfl, rfl⟩ := hn.1 _ _ _ h1
    obtain ⟨h5, h6⟩ := h.1 _ _ _ h3
    refine ⟨.snoc h5 h4, ?_⟩
    rw [csum_append, csum_one _ _ h4]
    have := hc _ _ h4
    have := Chain.csum_nonneg hc ks0
    omega
  · intro q ks h1
    obtain ⟨m, ks', c, rfl, h2, h3⟩ := h1.snoc_inv
    obtain ⟨st, ks'', h4, h5⟩ := h.2 _ _ h3
    obtain ⟨st', ks3, h6, h7⟩ := hn.2 m q st ks'' c (hD m q (by rw [h4]; rfl) (by rw [h2]; rfl)) h4 h2
    refine ⟨st', ks3, h6, ?_⟩
    rw [csum_append, csum_one _ _ h2]
    omega
end
end Go.Proofs.YtaapnflhjbdmlaaDoor
