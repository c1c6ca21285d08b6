/- The search for steps that never end, in plain words. No condition. push.Endless: what the walk needs. No condition. -/
import Derived.Test.YtaapnflhjbdmlaaGreatDoorOK
import Derived.Test.YtaapnflhjbdmlaaGreatDoorPX
namespace Go.Proofs.YtaapnflhjbdmlaaGreatDoor
section
open Go.RowKit

variable {R : List Rule}
theorem Star.cases_plus {a b : Head} (h : Star R a b) : a = b ∨ Plus R a b := by
  cases h with
  | refl => exact .inl rfl
  | step h1 h2 => exact .inr ⟨_, h1, h2⟩
/-- what holds while one head is looked for behind itself -/
structure QInv (R : List Rule) (h1 : Head) (Q S H : List Head) : Prop where
  q : ∀ x ∈ Q, Plus R h1 x
  s : ∀ x ∈ S, Plus R h1 x ∧ x ≠ h1 ∧ x ∈ H
  c1 : ∀ f, Follows R h1 f → f ∈ Q ∨ f ∈ S
  c2 : ∀ x ∈ S, ∀ f, Follows R x f → f ∈ Q ∨ f ∈ S
theorem QInv.start {h1 : Head} {F H : List Head} (hF : ∀ x, x ∈ F ↔ Follows R h1 x) : QInv R h1 F [] H :=
  ⟨fun x hx => ⟨x, (hF x).1 hx, .refl _⟩, fun x hx => (by cases hx), fun f hf => .inl ((hF f).2 hf), fun x hx => (by cases hx)⟩
theorem QInv.skip {h1 h : Head} {Q S H : List Head} (hi : QInv R h1 (h :: Q) S H) (hs : h ∈ S) : QInv R h1 Q S (addH H h) := by
  refine ⟨fun x hx => hi.q x (List.mem_cons_of_mem _ hx), fun x hx => ⟨(hi.s x hx).1, (hi.s x hx).2.1, mem_addH.2 (.inl (hi.s x hx).2.2)⟩, fun f hf => ?_, fun x hx f hf => ?_⟩
  · rcases hi.c1 f hf with h2 | h2
    · rw [List.mem_cons] at h2
      rcases h2 with rfl | h2
      · exact .inr hs
      · exact .inl h2
    · exact .inr h2
  · rcases hi.c2 x hx f hf with h2 | h2
    · rw [List.mem_cons] at h2
      rcases h2 with rfl | h2
      · exact .inr hs
      · exact .inl h2
    · exact .inr h2
theorem QInv.more {h1 h : Head} {Q S H F : List Head} (hi : QInv R h1 (h :: Q) S H) (hne : h ≠ h1) (hF : ∀ x, x ∈ F ↔ Follows R h x) : QInv R h1 (Q ++ F) (S ++ [h]) (addH H h) := by
  have hh := hi.q h List.mem_cons_self
  refine ⟨fun x hx => ?_, fun x hx => ?_, fun f hf => ?_, fun x hx f hf => ?_⟩
  · rw [List.mem_append] at hx
    rcases hx with hx | hx
    · exact hi.q x (List.mem_cons_of_mem _ hx)
    · exact Plus.snoc hh.star ((hF x).1 hx)
  · rw [List.mem_append] at hx
    rcases hx with hx | hx
    · exact ⟨(hi.s x hx).1, (hi.s x hx).2.1, mem_addH.2 (.inl (hi.s x hx).2.2)⟩
    · simp only [List.mem_cons, List.not_mem_nil, or_false] at hx
      subst hx
      exact ⟨hh, hne, mem_addH.2 (.inr rfl)⟩
  · rcases hi.c1 f hf with h2 | h2
    · rw [List.mem_cons] at h2
      rcases h2 with rfl | h2
      · exact .inr (by simp)
      · exact .inl (by simp [h2])
    · exact .inr (by simp [h2])
  · rw [List.mem_append] at hx
    rcases hx with hx | hx
    · rcases hi.c2 x hx f hf with h2 | h2
      · rw [List.mem_cons] at h2
        rcases h2 with rfl | h2
        · exact .inr (by simp)
        · exact .inl (by simp [h2])
      · exact .inr (by simp [h2])
    · simp only [List.mem_cons, List.not_mem_nil, or_false] at hx
      subst hx
      exact .inl (by simp [(hF f).2 hf])
theorem QInv.done {h1 : Head} {S H : List Head} (hi : QInv R h1 [] S H) : ¬ Plus R h1 h1 ∧ ∀ x, Plus R h1 x → x ∈ H := by
  have hS : ∀ a b, Star R a b → a ∈ S → b ∈ S := by
    intro a b h
    induction h with
    | refl => exact id
    | step h2 _ ih =>
      intro ha
      rcases hi.c2 _ ha _ h2 with h3 | h3
      · cases h3
      · exact ih h3
  have key : ∀ x, Plus R h1 x → x ∈ S := by
    rintro x ⟨f, hf, hx⟩
    rcases hi.c1 f hf with h3 | h3
    · cases h3
    · exact hS _ _ hx h3
  exact ⟨fun h => (hi.s _ (key _ h)).2.1 rfl, fun x hx => (hi.s _ (key _ hx)).2.2⟩
/-- what holds of the heads found so far -/
structure HInv (R : List Rule) (p : Int) (w : List Int) (H : List Head) (i : Nat) : Prop where
  sub : ∀ h, Heads R p w h → h ∈ H
  reach : ∀ h ∈ H, ∃ h0, Heads R p w h0 ∧ Star R h0 h
  done : ∀ j, j < i → ∀ h, H[j]? = some h → ¬ Plus R h h ∧ ∀ x, Plus R h x → x ∈ H
theorem HInv.not {p : Int} {w : List Int} {H : List Head} {i : Nat} (hi : HInv R p w H i) (hl : H.length ≤ i) : ¬ EndlessP R p w := by
  rintro ⟨h0, h1, h2, h3, h4⟩
  have key : ∀ h ∈ H, ¬ Plus R h h ∧ ∀ x, Plus R h x → x ∈ H := fun h hh => by
    obtain ⟨j, hj, rfl⟩ := List.getElem_of_mem hh
    exact hi.done j (by omega) _ (List.getElem?_eq_getElem hj)
  have h5 := hi.sub _ h2
  rcases h3.cases_plus with rfl | h6
  · exact (key _ h5).1 h4
  · exact (key _ ((key _ h5).2 _ h6)).1 h4
theorem HInv.yes {p : Int} {w : List Int} {H : List Head} {i : Nat} (hi : HInv R p w H i) {h : Head} (hh : h ∈ H) (hp : Plus R h h) : EndlessP R p w := by
  obtain ⟨h0, h1, h2⟩ := hi.reach _ hh
  exact ⟨h0, h, h1, h2, hp⟩
theorem getElem?_addH {H : List Head} {h : Head} {j : Nat} (hj : j < H.length) : (addH H h)[j]? = H[j]? := by
  unfold addH
  split
  · rfl
  · exact List.getElem?_append_left hj
theorem addH_len (H : List Head) (h : Head) : H.length ≤ (addH H h).length := by
  unfold addH
  split
  · exact Nat.le_refl _
  · simp
theorem HInv.come {p : Int} {w : List Int} {H : List Head} {i : Nat} (hi : HInv R p w H i) (hil : i ≤ H.length) {h1 h : Head} (h1H : h1 ∈ H) (hp : Plus R h1 h) : HInv R p w (addH H h) i := by
  refine ⟨fun x hx => mem_addH.2 (.inl (hi.sub x hx)), fun x hx => ?_, fun j hj x hx => ?_⟩
  · rcases mem_addH.1 hx with h2 | rfl
    · exact hi.reach x h2
    · obtain ⟨h0, h2, h3⟩ := hi.reach _ h1H
      exact ⟨h0, h2, h3.trans hp.star⟩
  · rw [getElem?_addH (by omega)] at hx
    obtain ⟨h2, h3⟩ := hi.done j hj x hx
    exact ⟨h2, fun y hy => mem_addH.2 (.inl (h3 y hy))⟩
theorem HInv.next {p : Int} {w : List Int} {H S : List Head} {i : Nat} (hi : HInv R p w H i) {h1 : Head} (h1i : H[i]? = some h1) (hq : QInv R h1 [] S H) : HInv R p w H (i + 1) := by
  refine ⟨hi.sub, hi.reach, fun j hj x hx => ?_⟩
  by_cases e : j = i
  · subst e
    rw [h1i] at hx
    cases hx
    exact hq.done
  · exact hi.done j (by omega) x hx
/-! ### all heads there may be -/
def allH : List Head := (List.range 5).flatMap fun (p : Nat) => (List.range 5).map fun (a : Nat) => (((p : Int), (97 + (a : Int))) : Head)
theorem allH_len : allH.length = 25 := by decide
theorem hok_all {C : Nat} (hC : C ≤ 5) {h : Head} (hh : HOk C h) : h ∈ allH := by
  obtain ⟨h1, h2, h3, h4⟩ := hh
  obtain ⟨p, a⟩ := h
  dsimp only at h1 h2 h3 h4
  unfold allH
  refine List.mem_flatMap.2 ⟨p.toNat, by simp; omega, List.mem_map.2 ⟨(a - 97).toNat, by simp; omega, ?_⟩⟩
  ext <;> dsimp only <;> omega
theorem hok_len {C : Nat} (hC : C ≤ 5) {H : List Head} (hn : H.Nodup) (hh : ∀ h ∈ H, HOk C h) : H.length ≤ 25 := by
  rw [← allH_len]
  exact nodup_len hn fun x hx => hok_all hC (hh x hx)
theorem addH_nodup {H : List Head} {h : Head} (hn : H.Nodup) : (addH H h).Nodup := by
  unfold addH
  split
  · exact hn
  · rename_i hm
    rw [List.nodup_append]
    exact ⟨hn, by simp, fun a ha b hb => by simp only [List.mem_cons, List.not_mem_nil, or_false] at hb; subst hb; rintro rfl; exact hm ha⟩
/-! ### the heads of the stack, letter by letter -/
/-- the heads at the first k letters -/
def HK (R : List Rule) (p : Int) (w : List Int) (k : Nat) (H : List Head) : Prop := ∀ h, h ∈ H ↔ ∃ j a, j < k ∧ w[j]? = some a ∧ Popped R p (w.take j) h.1 ∧ h.2 = a
theorem HK.zero (p : Int) (w : List Int) : HK R p w 0 [] := fun h => by simp
theorem HK.heads {p : Int} {w : List Int} {H : List Head} (h : HK R p w w.length H) : ∀ x, x ∈ H ↔ Heads R p w x := by
  intro x
  rw [h x]
  constructor
  · rintro ⟨j, a, hj, hw, hp, e⟩
    refine ⟨w.take j, a, w.drop (j + 1), x.1, ?_, hp, by rw [← e]⟩
    obtain ⟨hj', ha⟩ := List.getElem?_eq_some_iff.1 hw
    rw [← ha, List.getElem_cons_drop hj', List.take_append_drop]
  · rintro ⟨u, a, v, q, rfl, hp, rfl⟩
    exact ⟨u.length, a, by simp, by simp, by simpa using hp, rfl⟩
/-- the heads while one letter is gone through: the controls below m are done -/
def HM (R : List Rule) (p : Int) (w : List Int) (k : Nat) (a : Int) (m : Nat) (H : List Head) : Prop := ∀ h, h ∈ H ↔ (∃ j a, j < k ∧ w[j]? = some a ∧ Popped R p (w.take j) h.1 ∧ h.2 = a) ∨ (h.2 = a ∧ 0 ≤ h.1 ∧ h.1 < m ∧ Popped R p (w.take k) h.1)
theorem HM.zero {p : Int} {w : List Int} {k : Nat} {a : Int} {H : List Head} (h : HK R p w k H) : HM R p w k a 0 H := fun x => by
  rw [h x]
  constructor
  · exact .inl
  · rintro (h1 | ⟨_, h2, h3, _⟩)
    · exact h1
    · omega
theorem HM.come {p : Int} {w : List Int} {k : Nat} {a : Int} {m : Nat} {H : List Head} (h : HM R p w k a m H) (hp : Popped R p (w.take k) (m : Int)) : HM R p w k a (m + 1) (addH H ((m : Int), a)) := fun x => by
  rw [mem_addH, h x]
  constructor
  · rintro ((h1 | ⟨h1, h2, h3, h4⟩) | rfl)
    · exact .inl h1
    · exact .inr ⟨h1, h2, by omega, h4⟩
    · exact .inr ⟨rfl, by dsimp only; omega, by dsimp only; omega, hp⟩
  · rintro (h1 | ⟨h1, h2, h3, h4⟩)
    · exact .inl (.inl h1)
    · by_cases e : x.1 = m
      · exact .inr (by ext <;> assumption)
      · exact .inl (.inr ⟨h1, h2, by omega, h4⟩)
theorem HM.skip {p : Int} {w : List Int} {k : Nat} {a : Int} {m : Nat} {H : List Head} (h : HM R p w k a m H) (hp : ¬ Popped R p (w.take k) (m : Int)) : HM R p w k a (m + 1) H := fun x => by
  rw [h x]
  constructor
  · rintro (h1 | ⟨h1, h2, h3, h4⟩)
    · exact .inl h1
    · exact .inr ⟨h1, h2, by omega, h4⟩
  · rintro (h1 | ⟨h1, h2, h3, h4⟩)
    · exact .inl h1
    · by_cases e : x.1 = m
      · rw [e] at h4; exact absurd h4 hp
      · exact .inr ⟨h1, h2, by omega, h4⟩
theorem HM.done {p : Int} {w : List Int} {k : Nat} {a : Int} {H : List Head} (h : HM R p w k a 5 H) (ha : w[k]? = some a) (hr : ∀ q, Popped R p (w.take k) q → 0 ≤ q ∧ q < 5) : HK R p w (k + 1) H := fun x => by
  rw [h x]
  constructor
  · rintro (⟨j, b, h1, h2⟩ | ⟨h1, _, _, h4⟩)
    · exact ⟨j, b, by omega, h2⟩
    · exact ⟨k, a, by omega, ha, h4, h1⟩
  · rintro ⟨j, b, h1, h2, h3, h4⟩
    by_cases e : j = k
    · subst e
      rw [ha] at h2
      cases h2
      exact .inr ⟨h4, (hr _ h3).1, (hr _ h3).2, h3⟩
    · exact .inl ⟨j, b, by omega, h2, h3, h4⟩
theorem popped_range {C : Int} (hR : RulesOk C R) (hC : C ≤ 5) {p : Int} (hp : 0 ≤ p ∧ p < C) {w : List Int} {q : Int} (h : Popped R p w q) : 0 ≤ q ∧ q < 5 := by
  induction w generalizing p with
  | nil => rw [popped_nil.1 h]; omega
  | cons a w ih =>
    obtain ⟨m, h1, h2⟩ := popped_cons.1 h
    exact ih (pops_lt hR h1).2 h2
/-- the controls behind one letter, some controls done, and of the next one some ends -/
def NX (R : List Rule) (p : Int) (w : List Int) (k : Nat) (a : Int) (m : Nat) (g : Nat → Bool) : Prop := ∀ q : Nat, q < 5 → (g q = true ↔ ∃ x : Int, 0 ≤ x ∧ x < m ∧ Popped R p (w.take k) x ∧ Pops R x a (q : Int))
theorem NX.zero (p : Int) (w : List Int) (k : Nat) (a : Int) : NX R p w k a 0 (fun _ => false) := fun q _ => by
  constructor
  · intro h; cases h
  · rintro ⟨x, h1, h2, _⟩; omega
theorem NX.skip {p : Int} {w : List Int} {k : Nat} {a : Int} {m : Nat} {g : Nat → Bool} (h : NX R p w k a m g) (hp : ¬ Popped R p (w.take k) (m : Int)) : NX R p w k a (m + 1) g := fun q hq => by
  rw [h q hq]
  constructor
  · rintro ⟨x, h1, h2, h3⟩; exact ⟨x, h1, by omega, h3⟩
  · rintro ⟨x, h1, h2, h3, h4⟩
    by_cases e : x = m
    · rw [e] at h3; exact absurd h3 hp
    · exact ⟨x, h1, by omega, h3, h4⟩
theorem NX.add {p : Int} {w : List Int} {k : Nat} {a : Int} {m : Nat} {g g' : Nat → Bool} (h : NX R p w k a m g) (hp : Popped R p (w.take k) (m : Int)) (hg : ∀ q : Nat, q < 5 → (g' q = true ↔ g q = true ∨ Pops R (m : Int) a (q : Int))) : NX R p w k a (m + 1) g' := fun q hq => by
  rw [hg q hq, h q hq]
  constructor
  · rintro (⟨x, h1, h2, h3⟩ | h1)
    · exact ⟨x, h1, by omega, h3⟩
    · exact ⟨m, by omega, by omega, hp, h1⟩
  · rintro ⟨x, h1, h2, h3, h4⟩
    by_cases e : x = m
    · subst e; exact .inr h4
    · exact .inl ⟨x, h1, by omega, h3, h4⟩
theorem NX.done {p : Int} {w : List Int} {k : Nat} {a : Int} {g : Nat → Bool} (h : NX R p w k a 5 g) (ha : w[k]? = some a) (hr : ∀ q, Popped R p (w.take k) q → 0 ≤ q ∧ q < 5) : ∀ q : Nat, q < 5 → (g q = true ↔ Popped R p (w.take (k + 1)) (q : Int)) := fun q hq => by
  obtain ⟨hk, hak⟩ := List.getElem?_eq_some_iff.1 ha
  rw [h q hq, List.take_succ_eq_append_getElem hk, popped_snoc, hak]
  constructor
  · rintro ⟨x, _, _, h3, h4⟩; exact ⟨x, h3, h4⟩
  · rintro ⟨x, h3, h4⟩; exact ⟨x, (hr x h3).1, by have := (hr x h3).2; omega, h3, h4⟩
end
section
open Go.RowKit Go.Shelf
attribute [local go_sem] Oper.semAt_some

theorem inv_nil (R : List Rule) : Inv R NoB (cget []) := ⟨fun k c h => (by cases h), fun k c h => (by cases h), fun k c h => (by cases h), fun p a q h => h.elim⟩
theorem pops_key {R : List Rule} {L : List (Key × Cost)} (h : Inv R NoB (cget L)) (hc : ∀ (i : Nat) r, R[i]? = some r → ClosedAt (cget L) r) (p a q : Int) : (p, a, q) ∈ L.map (·.1) ↔ Pops R p a q := by
  rw [← cget_iff]
  constructor
  · rintro ⟨c, hc⟩
    obtain ⟨l, h1, _⟩ := h.sound _ _ hc
    exact ⟨l, h1⟩
  · rintro ⟨l, h1⟩
    obtain ⟨c, h2, _⟩ := h.complete hc h1
    exact ⟨c, h2⟩
theorem to_mem {C : Int} {l : List RuleB} (h : sysB C l = true) : ∀ r ∈ l, r.to ∈ [0, 1, 2, 3, (4 : Int)] := by
  intro r hr
  obtain ⟨_, hC, _⟩ := sysB_iff.1 h
  obtain ⟨i, hi, rfl⟩ := List.getElem_of_mem hr
  obtain ⟨_, _, h1, h2, _⟩ := rulesOk_of h i (rAt l i).plain (plain_get.2 ⟨hi, rfl⟩)
  rw [rAt_eq hi] at h1 h2
  have h1' : 0 ≤ l[i].to := h1
  have h2' : l[i].to < C := h2
  simp only [List.mem_cons, List.not_mem_nil, or_false]
  omega
/-- the marks of the controls -/
abbrev ctlA (f : Nat → Bool) : Array Value := #[.bool (f 0), .bool (f 1), .bool (f 2), .bool (f 3), .bool (f 4)]
theorem ctlA_get (f : Nat → Bool) {k : Nat} (h : k < 5) : (ctlA f)[k]? = some (.bool (f k)) := by
  match k, h with
  | 0, _ => rfl
  | 1, _ => rfl
  | 2, _ => rfl
  | 3, _ => rfl
  | 4, _ => rfl
theorem ctlA_set (f : Nat → Bool) {k : Nat} (h : k < 5) : (ctlA f).setIfInBounds k (.bool true) = ctlA (fun q => f q || decide (q = k)) := by
  match k, h with
  | 0, _ => simp [ctlA]
  | 1, _ => simp [ctlA]
  | 2, _ => simp [ctlA]
  | 3, _ => simp [ctlA]
  | 4, _ => simp [ctlA]
theorem index80_0 (w : World) (a b c d e : Bool) : (Instr.index 120 (.agg #[.bool a, .bool b, .bool c, .bool d, .bool e]) (.int .i64 0)).run Tryz.prog w = .ok (.bool a) w := by kernel_rfl
theorem index80_1 (w : World) (a b c d e : Bool) : (Instr.index 120 (.agg #[.bool a, .bool b, .bool c, .bool d, .bool e]) (.int .i64 1)).run Tryz.prog w = .ok (.bool b) w := by kernel_rfl
theorem index80_2 (w : World) (a b c d e : Bool) : (Instr.index 120 (.agg #[.bool a, .bool b, .bool c, .bool d, .bool e]) (.int .i64 2)).run Tryz.prog w = .ok (.bool c) w := by kernel_rfl
theorem index80_3 (w : World) (a b c d e : Bool) : (Instr.index 120 (.agg #[.bool a, .bool b, .bool c, .bool d, .bool e]) (.int .i64 3)).run Tryz.prog w = .ok (.bool d) w := by kernel_rfl
theorem index80_4 (w : World) (a b c d e : Bool) : (Instr.index 120 (.agg #[.bool a, .bool b, .bool c, .bool d, .bool e]) (.int .i64 4)).run Tryz.prog w = .ok (.bool e) w := by kernel_rfl
theorem index80 (w : World) (f : Nat → Bool) {k : Nat} (h : k < 5) : (Instr.index 120 (.agg (ctlA f)) (.int .i64 (k : Int))).run Tryz.prog w = .ok (.bool (f k)) w := by
  have hk : k = 0 ∨ k = 1 ∨ k = 2 ∨ k = 3 ∨ k = 4 := by omega
  rcases hk with rfl | rfl | rfl | rfl | rfl
  · exact index80_0 w _ _ _ _ _
  · exact index80_1 w _ _ _ _ _
  · exact index80_2 w _ _ _ _ _
  · exact index80_3 w _ _ _ _ _
  · exact index80_4 w _ _ _ _ _
theorem makeMap75 (w : World) : (Instr.makeMap 117 none).run Tryz.prog w = .ok (.map (some w.heap.size)) (w.alloc (.map #[] 0)) := by kernel_rfl
end
end Go.Proofs.YtaapnflhjbdmlaaGreatDoor
