/- Plain: a line through a point of each of two lists halves both. No program, no condition. -/
import Derived.Test.YthnabheibacbcaaY2
namespace Go.Proofs.Ythnabheibacbcaa
section
open Classical
/-- what holds after all smaller ones hold for all -/
theorem wf_list {α : Type} {R : α → α → Prop} (W : List α) (hirr : ∀ a ∈ W, ¬ R a a) (htr : ∀ a b c, a ∈ W → b ∈ W → c ∈ W → R a b → R b c → R a c) (P : α → Prop) (hs : ∀ v ∈ W, (∀ u ∈ W, R u v → P u) → P v) : ∀ v ∈ W, P v := by
  have key : ∀ n, ∀ v ∈ W, W.countP (fun u => decide (R u v)) < n → P v := by
    intro n
    induction n with
    | zero => intro v _ h; omega
    | succ n ih =>
      intro v hv hn
      refine hs v hv fun u hu huv => ih u hu ?_
      have hle : ∀ S : List α, (∀ w ∈ S, w ∈ W) → S.countP (fun w => decide (R w u)) ≤ S.countP (fun w => decide (R w v)) := fun S hS =>
        List.countP_mono_left fun w hw h => decide_eq_true (htr w u v (hS w hw) hu hv (of_decide_eq_true h) huv)
      have hlt : ∀ S : List α, (∀ w ∈ S, w ∈ W) → u ∈ S → S.countP (fun w => decide (R w u)) < S.countP (fun w => decide (R w v)) := by
        intro S
        induction S with
        | nil => intro _ h; cases h
        | cons x S ihS =>
          intro hS hm
          rw [List.countP_cons, List.countP_cons]
          have hS' : ∀ w ∈ S, w ∈ W := fun w hw => hS w (List.mem_cons_of_mem _ hw)
          have l1 := hle S hS'
          by_cases e : u = x
          · subst e
            rw [if_neg (by simpa using hirr u hu), if_pos (by simpa using huv)]
            omega
          · have l2 := ihS hS' ((List.mem_cons.1 hm).resolve_left e)
            by_cases c : R x u
            · rw [if_pos (by simpa using c), if_pos (by simpa using htr x u v (hS x (by simp)) hu hv c huv)]; omega
            · rw [if_neg (by simpa using c)]; split <;> omega
      have := hlt W (fun _ h => h) hu
      omega
  exact fun v hv => key _ v hv (Nat.lt_succ_self _)
/-- a last one of those that meet a condition -/
theorem last_of {α : Type} {R : α → α → Prop} (W : List α) (hirr : ∀ a ∈ W, ¬ R a a) (htr : ∀ a b c, a ∈ W → b ∈ W → c ∈ W → R a b → R b c → R a c) (Q : α → Prop) {a : α} (ha : a ∈ W) (hq : Q a) : ∃ v ∈ W, Q v ∧ ∀ w ∈ W, Q w → ¬ R v w := by
  refine Classical.byContradiction fun hno => ?_
  have := wf_list (R := fun a b => R b a) W hirr (fun a b c ha hb hc h1 h2 => htr c b a hc hb ha h2 h1) (fun v => ¬ Q v) (fun v hv ih hqv => hno ⟨v, hv, hqv, fun w hw hqw hvw => ih w hw hvw hqw⟩) a ha
  exact this hq
/-- the directions -/
noncomputable def dirs (A : List Pt) : List Pt := A.flatMap fun p => (A.filter fun q => decide (bef p q)).map fun q => vsub q p
theorem mem_dirs {A : List Pt} {w : Pt} : w ∈ dirs A ↔ ∃ p ∈ A, ∃ q ∈ A, bef p q ∧ vsub q p = w := by
  unfold dirs
  rw [List.mem_flatMap]
  constructor
  · rintro ⟨p, hp, h⟩
    obtain ⟨q, hq, h⟩ := List.mem_map.1 h
    obtain ⟨h1, h2⟩ := List.mem_filter.1 hq
    exact ⟨p, hp, q, h1, of_decide_eq_true h2, h⟩
  · rintro ⟨p, hp, q, hq, h1, h2⟩
    exact ⟨p, hp, List.mem_map.2 ⟨q, List.mem_filter.2 ⟨hq, decide_eq_true h1⟩, h2⟩⟩
theorem dirs_pos {A : List Pt} {w : Pt} (h : w ∈ dirs A) : vpos w := by
  obtain ⟨p, _, q, _, h1, rfl⟩ := mem_dirs.1 h
  exact vpos_sub h1
theorem acr_not {v : Pt} {k : Bool} {p q : Pt} (h : p ≠ q) : acr v k p q ↔ ¬ acr v k q p :=
  ⟨acr_asym, fun h1 => (acr_total h).resolve_right h1⟩
theorem bef_not {p q : Pt} (h : p ≠ q) : bef p q ↔ ¬ bef q p :=
  ⟨fun h1 h2 => bef_irrefl _ (bef_trans h1 h2), fun h1 => (bef_total h).resolve_right h1⟩
variable {A : List Pt}
theorem acr_t {v p q : Pt} (h : bef p q) : acr v true p q ↔ 0 < crs v (vsub q p) := by
  unfold acr
  simp only [if_true]
  constructor
  · rintro (h1 | ⟨_, h1⟩)
    · exact h1
    · exact absurd (bef_trans h h1) (bef_irrefl _)
  · exact .inl
theorem acr_f {v p q : Pt} (h : bef p q) : acr v false p q ↔ 0 ≤ crs v (vsub q p) := by
  unfold acr
  simp only [Bool.false_eq_true, if_false]
  constructor
  · rintro (h1 | ⟨h1, _⟩) <;> omega
  · intro h1
    rcases Int.lt_or_eq_of_le h1 with c | c
    · exact .inl c
    · exact .inr ⟨c.symm, h⟩
/-- between neighbours nothing changes -/
theorem conn {u v : Pt} (hu : vpos u) (hv : vpos v) (huv : 0 < crs u v) (hno : ∀ w ∈ dirs A, 0 < crs u w → ¬ 0 < crs w v) {p q : Pt} (hp : p ∈ A) (hq : q ∈ A) : acr u true p q ↔ acr v false p q := by
  have key : ∀ p q, p ∈ A → q ∈ A → bef p q → (acr u true p q ↔ acr v false p q) := fun p q hp hq h => by
    rw [acr_t h, acr_f h]
    have hd := vpos_sub h
    constructor
    · intro h1
      have := hno _ (mem_dirs.2 ⟨p, hp, q, hq, h, rfl⟩) h1
      rw [crs_swap] at this
      omega
    · intro h1
      rcases Int.lt_or_eq_of_le h1 with c | c
      · exact vec_pos hu hv hd huv c
      · have h3 : crs v u < 0 := by rw [crs_swap]; omega
        have h4 : 0 < crs (vsub q p) v → False := fun h => by rw [crs_swap] at h; omega
        rcases Int.lt_trichotomy (crs u (vsub q p)) 0 with d | d | d
        · have d' : 0 < crs (vsub q p) u := by rw [crs_swap]; omega
          exact absurd (vec_pos hd hu hv d' huv) h4
        · have : crs u v = 0 := par_zero hd (by rw [crs_swap]; omega) (by rw [crs_swap]; omega)
          omega
        · exact d
  by_cases e : p = q
  · subst e; exact ⟨fun h => absurd h (acr_irr _ _ _), fun h => absurd h (acr_irr _ _ _)⟩
  · rcases bef_total e with b | b
    · exact key p q hp hq b
    · rw [acr_not e, acr_not e (k := false), key q p hq hp b]
theorem first_bef {v : Pt} (hno : ∀ w ∈ dirs A, ¬ 0 < crs w v) {p q : Pt} (hp : p ∈ A) (hq : q ∈ A) : acr v false p q ↔ bef p q := by
  have key : ∀ p q, p ∈ A → q ∈ A → bef p q → acr v false p q := fun p q hp hq h => by
    rw [acr_f h]
    have := hno _ (mem_dirs.2 ⟨p, hp, q, hq, h, rfl⟩)
    rw [crs_swap] at this
    omega
  by_cases e : p = q
  · subst e; exact ⟨fun h => absurd h (acr_irr _ _ _), fun h => absurd h (bef_irrefl _)⟩
  · rcases bef_total e with b | b
    · exact ⟨fun _ => b, fun _ => key p q hp hq b⟩
    · exact ⟨fun h => absurd (key q p hq hp b) (acr_asym h), fun h => absurd (bef_trans h b) (bef_irrefl _)⟩
theorem last_bef {v : Pt} (hno : ∀ w ∈ dirs A, ¬ 0 < crs v w) {p q : Pt} (hp : p ∈ A) (hq : q ∈ A) : acr v true p q ↔ bef q p := by
  have key : ∀ p q, p ∈ A → q ∈ A → bef p q → ¬ acr v true p q := fun p q hp hq h => by
    rw [acr_t h]
    exact hno _ (mem_dirs.2 ⟨p, hp, q, hq, h, rfl⟩)
  by_cases e : p = q
  · subst e; exact ⟨fun h => absurd h (acr_irr _ _ _), fun h => absurd h (bef_irrefl _)⟩
  · rcases bef_total e with b | b
    · exact ⟨fun h => absurd h (key p q hp hq b), fun h => absurd (bef_trans h b) (bef_irrefl _)⟩
    · exact ⟨fun _ => b, fun _ => (acr_not e).2 (key q p hq hp b)⟩
theorem rk_rev {a : Pt} : ∀ S : List Pt, S.Nodup → a ∈ S → rk bef S a + rk (fun p q => bef q p) S a + 1 = S.length
  | x :: S, hnd, ha => by
    obtain ⟨h1, h2⟩ := List.nodup_cons.1 hnd
    have e : ∀ R : Pt → Pt → Prop, rk R (x :: S) a = rk R S a + if R x a then 1 else 0 := fun R => by
      unfold rk; rw [List.countP_cons]; congr 1; by_cases x : R x a <;> simp [x]
    have hout : ∀ S : List Pt, a ∉ S → rk bef S a + rk (fun p q => bef q p) S a = S.length := fun S => by
      induction S with
      | nil => exact fun _ => rfl
      | cons y S ih =>
        intro hm
        have hya : y ≠ a := fun h => hm (by rw [h]; simp)
        have ih := ih fun h => hm (List.mem_cons_of_mem _ h)
        have e : ∀ R : Pt → Pt → Prop, rk R (y :: S) a = rk R S a + if R y a then 1 else 0 := fun R => by
          unfold rk; rw [List.countP_cons]; congr 1; by_cases x : R y a <;> simp [x]
        rw [e, e, List.length_cons]
        by_cases c : bef y a
        · rw [if_pos c, if_neg ((bef_not hya).1 c)]; omega
        · rw [if_neg c, if_pos ((bef_total hya).resolve_left c)]; omega
    rw [e, e, List.length_cons]
    by_cases c : x = a
    · subst c
      rw [if_neg (bef_irrefl _)]
      have := hout S h1
      omega
    · have ih := rk_rev S h2 ((List.mem_cons.1 ha).resolve_left fun h => c h.symm)
      by_cases d : bef x a
      · rw [if_pos d, if_neg ((bef_not c).1 d)]; omega
      · rw [if_neg d, if_pos ((bef_total c).resolve_left d)]; omega
theorem bal_rev {a : Pt} : ∀ m : List Pt, a ∉ m → bal (fun p q => bef q p) m a = - bal bef m a
  | [], _ => rfl
  | b :: m, h => by
    have ih := bal_rev m fun x => h (List.mem_cons_of_mem _ x)
    have hab : a ≠ b := fun e => h (by rw [e]; simp)
    unfold bal at *
    rw [List.map_cons, List.sum_cons, List.map_cons, List.sum_cons, ih]
    by_cases c : bef a b
    · rw [if_pos c, if_neg ((bef_not hab).1 c)]; omega
    · rw [if_neg c, if_pos ((bef_total hab).resolve_left c)]; omega
/-- two lists of odd length, general together: a line through a point of each halves both -/
theorem ham {l m : List Pt} (hA : Gens (l ++ m)) (hl : l.length % 2 = 1) (hm : m.length % 2 = 1) : ∃ x ∈ l, ∃ y ∈ m, trnS l x y = 0 ∧ trnS m x y = 0 := by
  refine Classical.byContradiction fun hno => ?_
  have hno' : ∀ x ∈ l, ∀ y ∈ m, ¬ (trnS l x y = 0 ∧ trnS m x y = 0) := fun x hx y hy h => hno ⟨x, hx, y, hy, h⟩
  obtain ⟨p, hp⟩ : ∃ p, l.length = 2 * p + 1 := ⟨l.length / 2, by omega⟩
  have hnl : l.Nodup := (List.nodup_append.1 hA.nd).1
  have hdis : ∀ x ∈ l, ∀ y ∈ m, x ≠ y := (List.nodup_append.1 hA.nd).2.2
  have hL : ∀ x ∈ l, x ∈ l ++ m := fun x hx => List.mem_append.2 (.inl hx)
  have hM : ∀ x ∈ m, x ∈ l ++ m := fun x hx => List.mem_append.2 (.inr hx)
  have hmid := fun (v : Pt) (k : Bool) => rk_mid (R := acr v k) (acr_irr v k) (fun _ _ h => acr_total h) (fun _ _ _ h1 h2 => acr_trans h1 h2) hnl (k := p) (by omega)
  have binj := fun {x y : Pt} (hx : x ∈ l) (hy : y ∈ l) (e : rk bef l x = rk bef l y) => rk_inj (R := bef) bef_irrefl (fun _ _ h => bef_total h) (fun _ _ _ h1 h2 => bef_trans h1 h2) hx hy e
  obtain ⟨a0, ha0, hr0⟩ := rk_mid (R := bef) bef_irrefl (fun _ _ h => bef_total h) (fun _ _ _ h1 h2 => bef_trans h1 h2) hnl (k := p) (by omega)
  have hirr : ∀ a ∈ dirs (l ++ m), ¬ 0 < crs a a := fun a _ h => by
    have : crs a a = 0 := by unfold crs; grind
    omega
  have htr : ∀ a b c, a ∈ dirs (l ++ m) → b ∈ dirs (l ++ m) → c ∈ dirs (l ++ m) → 0 < crs a b → 0 < crs b c → 0 < crs a c := fun a b c ha hb hc h1 h2 => vec_pos (dirs_pos ha) (dirs_pos hb) (dirs_pos hc) h1 h2
  have main := wf_list (R := fun a b => 0 < crs a b) (dirs (l ++ m)) hirr htr (fun v => ∀ a ∈ l, rk (acr v false) l a = p → (0 < bal (acr v false) m a ↔ 0 < bal bef m a0)) (by
    intro v hv ih a ha hr
    by_cases hmin : ∃ w ∈ dirs (l ++ m), 0 < crs w v
    · obtain ⟨w, hw, hwv⟩ := hmin
      obtain ⟨u, hu, huv, hlast⟩ := last_of (R := fun a b => 0 < crs a b) (dirs (l ++ m)) hirr htr (fun u => 0 < crs u v) hw hwv
      have hc := fun {x y : Pt} (hx : x ∈ l ++ m) (hy : y ∈ l ++ m) => conn (dirs_pos hu) (dirs_pos hv) huv (fun w hw h1 h2 => hlast w hw h2 h1) hx hy
      obtain ⟨b, hb, hrb⟩ := hmid u false
      have e1 : rk (acr u true) l a = p := by rw [rk_congr (R' := acr v false) fun c hc' => hc (hL c hc') (hL a ha)]; exact hr
      have e2 : bal (acr u true) m a = bal (acr v false) m a := bal_congr fun c hc' => hc (hL a ha) (hM c hc')
      have s := flip_step hA (dirs_pos hu) hp hm hb ha hrb e1 hno'
      rw [← e2, ← s]
      exact ih u hu huv b hb hrb
    · have hmin' : ∀ w ∈ dirs (l ++ m), ¬ 0 < crs w v := fun w hw h => hmin ⟨w, hw, h⟩
      have hc := fun {x y : Pt} (hx : x ∈ l ++ m) (hy : y ∈ l ++ m) => first_bef hmin' hx hy
      have e1 : rk bef l a = p := by rw [← rk_congr (R := acr v false) fun c hc' => hc (hL c hc') (hL a ha)]; exact hr
      have e2 : a = a0 := binj ha ha0 (by rw [e1, hr0])
      subst e2
      rw [bal_congr (R := acr v false) (R' := bef) (a' := a) fun c hc' => hc (hL a ha) (hM c hc')])
  obtain ⟨b0, hb0⟩ : ∃ b, b ∈ m := by
    cases m with
    | nil => exact absurd hm (by decide)
    | cons b m => exact ⟨b, by simp⟩
  have hw : ∃ w, w ∈ dirs (l ++ m) := by
    rcases bef_total (hdis a0 ha0 b0 hb0) with c | c
    · exact ⟨_, mem_dirs.2 ⟨a0, hL a0 ha0, b0, hM b0 hb0, c, rfl⟩⟩
    · exact ⟨_, mem_dirs.2 ⟨b0, hM b0 hb0, a0, hL a0 ha0, c, rfl⟩⟩
  obtain ⟨w, hw⟩ := hw
  obtain ⟨v, hv, _, hlast⟩ := last_of (R := fun a b => 0 < crs a b) (dirs (l ++ m)) hirr htr (fun _ => True) hw trivial
  have hc := fun {x y : Pt} (hx : x ∈ l ++ m) (hy : y ∈ l ++ m) => last_bef (fun w hw => hlast w hw trivial) hx hy
  obtain ⟨b, hb, hrb⟩ := hmid v false
  have e0 := rk_rev l hnl ha0
  have e1 : rk (acr v true) l a0 = p := by
    rw [rk_congr (R' := fun p q => bef q p) fun c hc' => hc (hL c hc') (hL a0 ha0)]
    omega
  have e2 : bal (acr v true) m a0 = - bal bef m a0 := by
    rw [bal_congr (R' := fun p q => bef q p) (a' := a0) fun c hc' => hc (hL a0 ha0) (hM c hc')]
    exact bal_rev m fun h => hdis a0 ha0 a0 h rfl
  have s := flip_step hA (dirs_pos hv) hp hm hb ha0 hrb e1 hno'
  have s2 := main v hv b hb hrb
  have hodd := bal_odd bef a0 m
  rw [e2] at s
  omega
end
end Go.Proofs.Ythnabheibacbcaa
