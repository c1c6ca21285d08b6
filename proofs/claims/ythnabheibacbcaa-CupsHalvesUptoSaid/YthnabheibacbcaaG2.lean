/- The hull of sorted points by two chains: all points are on the left of each edge. No condition. -/
import Derived.Test.YthnabheibacbcaaG1
namespace Go.Proofs.Ythnabheibacbcaa

section
variable {S : Nat → Prop} {t : Nat → Nat → Nat → Int} {lt : Nat → Nat → Prop}

theorem Chi.pos_of (h : Chi S t lt) {a b c : Nat} (ha : S a) (hb : S b) (hc : S c) (h1 : a ≠ b) (h2 : b ≠ c) (h3 : a ≠ c) (hn : ¬ t a b c < 0) : 0 < t a b c := by
  have := h.gen ha hb hc h1 h2 h3; omega
theorem Chi.swap (h : Chi S t lt) (a b c : Nat) : t a c b = - t a b c := by rw [h.cyc a c b, h.anti b c a, h.cyc a b c]; 
theorem Chi.ne (h : Chi S t lt) {a b : Nat} (hl : lt a b) : a ≠ b := fun e => h.irr b (by rw [e] at hl; exact hl)
theorem Chi.asym (h : Chi S t lt) {a b : Nat} (hl : lt a b) : ¬ lt b a := fun hl' => h.irr _ (h.trans hl hl')

/-- what is left of a stack when i comes -/
def popw (t : Nat → Nat → Nat → Int) : List Nat → Nat → List Nat
  | v :: u :: r, i => if t u v i < 0 then popw t (u :: r) i else v :: u :: r
  | s, _ => s
/-- the stack behind the points of a list, the last one first -/
def chain (t : Nat → Nat → Nat → Int) (l : List Nat) : List Nat := l.foldl (fun s i => i :: popw t s i) []
theorem chain_snoc (l : List Nat) (i : Nat) : chain t (l ++ [i]) = i :: popw t (chain t l) i := by simp [chain]
def half (t : Nat → Nat → Nat → Int) (l : List Nat) : List Nat := (chain t l).tail.reverse
def hullL (t : Nat → Nat → Nat → Int) (l : List Nat) : List Nat := if l.length < 3 then l else half t l ++ half t l.reverse

/-- all points of D are on the left of each edge of a stack -/
def Edges (t : Nat → Nat → Nat → Int) (D : List Nat) : List Nat → Prop
  | v :: u :: r => (∀ p ∈ D, p ≠ u → p ≠ v → 0 < t u v p) ∧ Edges t D (u :: r)
  | _ => True
/-- a stack falls -/
def Falls (lt : Nat → Nat → Prop) (s : List Nat) : Prop := s.Pairwise fun a b => lt b a

theorem edges_add (h : Chi S t lt) {D : List Nat} {q : Nat} : ∀ {v u : Nat} {r : List Nat}, Falls lt (v :: u :: r) → lt v q → (∀ x ∈ v :: u :: r, x ∈ D) → Edges t D (v :: u :: r) → 0 < t u v q → Edges t (D ++ [q]) (v :: u :: r)
  | v, u, [], _, _, _, he, hq => ⟨fun p hp h1 h2 => by
      rcases List.mem_append.1 hp with hp | hp
      · exact he.1 p hp h1 h2
      · rw [List.mem_singleton.1 hp]; exact hq, trivial⟩
  | v, u, x :: r, hf, hvq, hD, he, hq => by
    refine ⟨fun p hp h1 h2 => by
      rcases List.mem_append.1 hp with hp | hp
      · exact he.1 p hp h1 h2
      · rw [List.mem_singleton.1 hp]; exact hq, ?_⟩
    have hf' : Falls lt (u :: x :: r) := (List.pairwise_cons.1 hf).2
    have huv : lt u v := (List.pairwise_cons.1 hf).1 u (by simp)
    have hxu : lt x u := (List.pairwise_cons.1 hf').1 x (by simp)
    have hxv : 0 < t x u v := he.2.1 v (hD v (by simp)) (fun e => h.irr x (by have := h.trans hxu huv; rw [e] at this; exact this)) (h.ne huv).symm
    exact edges_add h hf' (h.trans huv hvq) (fun y hy => hD y (List.mem_cons_of_mem _ hy)) he.2 (h.p2 hxu huv hvq hxv hq)

/-- one more point, behind all others -/
theorem push_edges (h : Chi S t lt) {D : List Nat} {q m : Nat} (hDS : ∀ p ∈ D, S p) (hqS : S q) (hDq : ∀ p ∈ D, lt p q) (hm : ∀ p ∈ D, p ≠ m → lt m p) :
    ∀ s : List Nat, s ≠ [] → Falls lt s → (∀ x ∈ s, x ∈ D) → Edges t D s → s.getLast? = some m → (∀ v, s.head? = some v → ∀ p ∈ D, lt v p → 0 < t v q p) →
      Falls lt (q :: popw t s q) ∧ (∀ x ∈ q :: popw t s q, x ∈ D ++ [q]) ∧ Edges t (D ++ [q]) (q :: popw t s q) ∧ (q :: popw t s q).getLast? = some m
  | [], hne, _, _, _, _, _ => absurd rfl hne
  | [v], _, hf, hD, he, hl, hv => by
    have hvm : v = m := by simpa using hl
    subst hvm
    have hvD := hD v (by simp)
    refine ⟨?_, ?_, ?_, by simp [popw]⟩
    · simp [popw, Falls, hDq v hvD]
    · simp [popw, hvD]
    · refine ⟨fun p hp h1 h2 => ?_, trivial⟩
      rcases List.mem_append.1 hp with hp | hp
      · exact hv v rfl p hp (hm p hp h1)
      · exact absurd (List.mem_singleton.1 hp) h2
  | v :: u :: r, _, hf, hD, he, hl, hv => by
    have hvD := hD v (by simp)
    have huD := hD u (by simp)
    have huv : lt u v := (List.pairwise_cons.1 hf).1 u (by simp)
    have hvq := hDq v hvD
    have huq := hDq u huD
    unfold popw
    by_cases hneg : t u v q < 0
    · rw [if_pos hneg]
      refine push_edges h hDS hqS hDq hm (u :: r) (by simp) (List.pairwise_cons.1 hf).2 (fun x hx => hD x (List.mem_cons_of_mem _ hx)) he.2 (by rw [← hl]; rfl) ?_
      intro u' hu' p hp hup
      obtain rfl : u = u' := by simpa using hu'
      have hpq := hDq p hp
      by_cases hpv : p = v
      · subst hpv; rw [h.swap]; omega
      have hpu : p ≠ u := (h.ne hup).symm
      have hedge := he.1 p hp hpu hpv
      rcases h.total (hDS p hp) (hDS v hvD) hpv with hlt | hlt
      · have h1 : t u p v < 0 := by rw [h.swap]; omega
        have := h.n1 hup hlt hvq h1 hneg
        rw [h.swap]; omega
      · have h2 := hv v rfl p hp hlt
        rw [h.swap]
        have h3 : ¬ 0 < t u p q := fun h3 => by
          have := h.p1 huv hlt hpq hedge h3; omega
        have := h.gen (hDS u huD) (hDS p hp) hqS (h.ne hup) (h.ne hpq) (h.ne huq)
        omega
    · rw [if_neg hneg]
      have hpos := h.pos_of (hDS u huD) (hDS v hvD) hqS (h.ne huv) (h.ne hvq) (h.ne huq) hneg
      refine ⟨?_, ?_, ⟨fun p hp h1 h2 => ?_, edges_add h hf hvq hD he hpos⟩, by rw [← hl]; rfl⟩
      · refine List.pairwise_cons.2 ⟨fun x hx => hDq x (hD x hx), hf⟩
      · intro x hx
        rcases List.mem_cons.1 hx with rfl | hx
        · simp
        · exact List.mem_append.2 (.inl (hD x hx))
      · rcases List.mem_append.1 hp with hp | hp
        · rcases h.total (hDS p hp) (hDS v hvD) h1 with hlt | hlt
          · by_cases hpu : p = u
            · subst hpu; rw [← h.cyc]; exact hpos
            have hedge := he.1 p hp hpu h1
            rw [← h.cyc]
            rcases h.total (hDS p hp) (hDS u huD) hpu with hl2 | hl2
            · have : 0 < t p u v := by rw [h.cyc]; exact hedge
              exact h.p3 hl2 huv hvq this hpos
            · have h4 : t u p v < 0 := by rw [h.swap]; omega
              have hn := h.gen (hDS p hp) (hDS v hvD) hqS h1 (h.ne hvq) (h.ne (hDq p hp))
              have : ¬ t p v q < 0 := fun h5 => by
                have := h.n3 hl2 hlt hvq h4 h5; omega
              omega
          · exact hv v rfl p hp hlt
        · exact absurd (List.mem_singleton.1 hp) h2

/-- the whole chain of a sorted list -/
theorem chain_edges (h : Chi S t lt) : ∀ (n : Nat) (l : List Nat), l.length = n → l ≠ [] → (∀ p ∈ l, S p) → l.Pairwise lt →
    Falls lt (chain t l) ∧ (∀ x ∈ chain t l, x ∈ l) ∧ Edges t l (chain t l) ∧ (chain t l).getLast? = l.head? ∧ (chain t l).head? = l.getLast?
  | 0, l, hn, hne, _, _ => absurd (List.eq_nil_of_length_eq_zero hn) hne
  | n + 1, l, hn, hne, hS, hp => by
    obtain ⟨D, q, rfl⟩ : ∃ D q, l = D ++ [q] := ⟨l.dropLast, l.getLast hne, (List.dropLast_concat_getLast hne).symm⟩
    rw [chain_snoc]
    by_cases hD : D = []
    · subst hD; simp [chain, popw, Falls, Edges]
    obtain ⟨m, D', rfl⟩ := List.exists_cons_of_ne_nil hD
    have hp' := List.pairwise_append.1 hp
    obtain ⟨i1, i2, i3, i4, i5⟩ := chain_edges h n (m :: D') (by simpa using hn) hD (fun p hp => hS p (List.mem_append.2 (.inl hp))) hp'.1
    have hDq : ∀ p ∈ m :: D', lt p q := fun p hp => hp'.2.2 p hp q (by simp)
    have hmin : ∀ p ∈ m :: D', p ≠ m → lt m p := fun p hp hn => (List.pairwise_cons.1 hp'.1).1 p (by simpa [hn] using hp)
    have hne2 : chain t (m :: D') ≠ [] := by intro e; rw [e] at i4; simp at i4
    obtain ⟨r1, r2, r3, r4⟩ := push_edges h (q := q) (m := m) (fun p hp => hS p (List.mem_append.2 (.inl hp))) (hS q (by simp)) hDq hmin (chain t (m :: D')) hne2 i1 i2 i3 (by rw [i4]; rfl) (fun v hv p hp hlt => by
      exfalso
      rw [i5] at hv
      have hvl : (m :: D').getLast? = some v := hv
      obtain ⟨L, hL⟩ := List.getLast?_eq_some_iff.1 hvl
      rw [hL] at hp hp'
      rcases List.mem_append.1 hp with hp2 | hp2
      · exact h.asym hlt ((List.pairwise_append.1 hp'.1).2.2 p hp2 v (by simp))
      · rw [List.mem_singleton.1 hp2] at hlt; exact h.irr _ hlt)
    exact ⟨r1, r2, r3, by rw [r4]; rfl, by rw [List.getLast?_concat]; rfl⟩
end
end Go.Proofs.Ythnabheibacbcaa
