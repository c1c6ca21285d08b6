/- What the laws' walks share: Run in a region that draws its order. No condition. PushOn: the plain laws: what is reached and what never ends, by what follows. No condition. -/
import Derived.Test.YtaapnflhjbdmlaaGreatDoorL6
namespace Go.Proofs.YtaapnflhjbdmlaaGreatDoor
section
open Go.RowKit Go.Shelf

abbrev runV (h : Hole) : Value := .tuple #[.slice h.A h.n h.cap, .bool h.b, .int .i64 h.i]
theorem run_hole {l : List RuleB} {x y : Int} {s t : ByteArray} {lo lo' : Nat} {e : Ending} {w : World} (h : RunRes l x s y t lo e w) (hlo : lo' ≤ lo) : ∃ g : Hole, e = .returned (runV g) ∧ RunRes l x s y t lo' (.returned (runV g)) w := by
  rcases h with ⟨h1, rfl⟩ | ⟨h1, h2, rfl⟩ | ⟨rs, v', h1, h2, rfl, h3⟩
  · exact ⟨⟨none, 0, 0, 0, 0, false⟩, rfl, .inl ⟨h1, rfl⟩⟩
  · exact ⟨⟨none, 0, 0, 0, 22, false⟩, rfl, .inr (.inl ⟨h1, h2, rfl⟩)⟩
  · obtain ⟨A, n, c, rfl, _⟩ := OwnE.shape h3
    exact ⟨⟨A, n, c, 0, 0, true⟩, rfl, .inr (.inr ⟨rs, _, h1, h2, rfl, h3.lo_le hlo⟩)⟩
theorem since_run {W : World} {l : List RuleB} {x y : Int} {s t : ByteArray} {lo : Nat} {h : Hole} {w : World} (hs : Since W (fun h w => RunRes l x s y t lo (.returned (runV h)) w) h w) : RunRes l x s y t lo (.returned (runV h)) w := by
  obtain ⟨w0, h0, _, hb⟩ := hs
  rcases h0 with h1 | h1 | ⟨rs, v', h1, h2, h3, h4⟩
  · exact .inl h1
  · exact .inr (.inl h1)
  · exact .inr (.inr ⟨rs, v', h1, h2, h3, h4.then hb⟩)
theorem run_cases {l : List RuleB} {x y : Int} {s t : ByteArray} {lo : Nat} {A : Option Addr} {n cap k : Nat} {i : Int} {b : Bool} {w : World} (h : RunRes l x s y t lo (.returned (runV ⟨A, n, cap, k, i, b⟩)) w) :
    (¬ ReachP (l.map RuleB.plain) x (cs s) y (cs t) ∧ A = none ∧ n = 0 ∧ cap = 0 ∧ b = false ∧ i = 0) ∨
    (ReachP (l.map RuleB.plain) x (cs s) y (cs t) ∧ (∀ n, Steps (l.map RuleB.plain) x (cs s) n y (cs t) → 1000 < n.length) ∧ A = none ∧ n = 0 ∧ cap = 0 ∧ b = false ∧ i = 22) ∨
    (∃ rs : List Nat, Steps (l.map RuleB.plain) x (cs s) rs y (cs t) ∧ rs.length ≤ 1000 ∧ b = true ∧ i = 0 ∧ OwnE ElI 3 lo w (.slice A n cap) (rs.map fun (i : Nat) => (i : Int))) := by
  rcases h with ⟨h1, h2⟩ | ⟨h1, h2, h3⟩ | ⟨rs, v', h1, h2, h3, h4⟩
  · simp only [Ending.returned.injEq, Value.tuple.injEq] at h2
    simp at h2
    obtain ⟨⟨rfl, rfl, rfl⟩, rfl, rfl⟩ := h2
    exact .inl ⟨h1, rfl, rfl, rfl, rfl, rfl⟩
  · simp only [Ending.returned.injEq, Value.tuple.injEq] at h3
    simp at h3
    obtain ⟨⟨rfl, rfl, rfl⟩, rfl, rfl⟩ := h3
    exact .inr (.inl ⟨h1, h2, rfl, rfl, rfl, rfl, rfl⟩)
  · simp only [Ending.returned.injEq, Value.tuple.injEq] at h3
    simp at h3
    obtain ⟨rfl, rfl, rfl⟩ := h3
    exact .inr (.inr ⟨rs, h1, h2, rfl, rfl, h4⟩)
theorem allE_zero {C : Int} {l : List RuleB} {c d : ConfB} (h1 : sysB C l = true) (h2 : properB C c = true) (h3 : properB C d = true) : allE C l [c, d] = 0 := by
  have h : decide (allE C l [c, d] = 0) = true := by rw [allE_iff, h1, h2, h3]; rfl
  simpa using h
theorem reach_of {R : List Rule} {x y : Int} {s t : List Int} {n : List Nat} (h : Steps R x s n y t) : ReachP R x s y t := ⟨n, h⟩
/-- what a run does with letters below -/
theorem steps_below {l : List RuleB} {x y : Int} {s t d : ByteArray} {n : List Nat} (h : Steps (l.map RuleB.plain) x (cs s) n y (cs t)) : Steps (l.map RuleB.plain) x (cs (s ++ d)) n y (cs (t ++ d)) := by
  rw [cs_append, cs_append]
  exact h.under _
theorem proper_append {C x : Int} {s d : ByteArray} (h : properB C ⟨x, s⟩ = true) (hd : Word (cs d)) (hz : s.size + d.size ≤ 20) : properB C ⟨x, s ++ d⟩ = true := by
  rw [properB_iff] at h ⊢
  obtain ⟨h1, h2, h3, h4⟩ := h
  refine ⟨h1, h2, ?_, by show (s ++ d).size ≤ 20; rw [ByteArray.size_append]; exact hz⟩
  show Word (cs (s ++ d))
  rw [cs_append]
  intro a ha
  rcases List.mem_append.1 ha with h | h
  · exact h3 a h
  · exact hd a h
end
section
open Go.RowKit Go.Shelf

theorem allE_one {C : Int} {l : List RuleB} {c : ConfB} (h1 : sysB C l = true) (h2 : properB C c = true) : allE C l [c] = 0 := by
  unfold allE
  simp [h1, h2]
theorem nextL_mem {l : List RuleB} {c d : ConfB} : d ∈ nextL l c ↔ ∃ i : Nat, mayB l c (i : Int) = true ∧ d = stepC c.st (rAt l i) := by
  rw [← nextR_eq]
  unfold nextR
  rw [List.mem_map]
  constructor
  · rintro ⟨i, hi, rfl⟩
    exact ⟨i, (List.mem_filter.1 hi).2, rfl⟩
  · rintro ⟨i, hi, rfl⟩
    refine ⟨i, List.mem_filter.2 ⟨?_, hi⟩, rfl⟩
    obtain ⟨n, hn, h2, _⟩ := mayB_iff.1 hi
    rw [List.mem_range]
    omega
theorem plain_may {l : List RuleB} {x : Int} {s : ByteArray} {i : Nat} {r : Rule} {v : List Int} (hr : (l.map RuleB.plain)[i]? = some r) (h1 : r.fr = x) (h2 : cs s = r.top :: v) :
    mayB l ⟨x, s⟩ (i : Int) = true ∧ cs (stepC s (rAt l i)).st = r.put ++ v ∧ (stepC s (rAt l i)).ctl = r.to := by
  obtain ⟨hi, rfl⟩ := plain_get.1 hr
  have hz : 0 < s.size := by rw [← cs_length, h2]; simp
  rw [cs_cons hz] at h2
  injection h2 with h3 h4
  refine ⟨mayB_iff.2 ⟨i, rfl, hi, h1, hz, h3.symm⟩, ?_, rfl⟩
  show cs ((rAt l i).put ++ s.extract 1 s.size) = _
  rw [cs_append, h4]
  rfl
theorem may_plain {l : List RuleB} {x : Int} {s : ByteArray} {i : Nat} (h : mayB l ⟨x, s⟩ (i : Int) = true) :
    ∃ v, (l.map RuleB.plain)[i]? = some (rAt l i).plain ∧ (rAt l i).plain.fr = x ∧ cs s = (rAt l i).plain.top :: v ∧ cs (stepC s (rAt l i)).st = (rAt l i).plain.put ++ v ∧ (stepC s (rAt l i)).ctl = (rAt l i).plain.to := by
  obtain ⟨n, hn, h1, h2, h3, h4⟩ := mayB_iff.1 h
  obtain rfl : i = n := by omega
  have hp := (plain_get (n := i)).2 ⟨h1, rfl⟩
  have hc : cs s = (rAt l i).plain.top :: cs (s.extract 1 s.size) := by
    rw [cs_cons h3]
    exact congrArg (· :: _) h4.symm
  obtain ⟨_, h5, h6⟩ := plain_may hp h2 hc
  exact ⟨_, hp, h2, hc, h5, h6⟩
theorem endless_next {C : Int} {l : List RuleB} (hsys : sysB C l = true) (x : Int) (s : ByteArray) : endlessB l x s = (nextL l ⟨x, s⟩).any fun c => endlessB l c.ctl c.st := by
  rw [Bool.eq_iff_iff, List.any_eq_true]
  unfold endlessB
  simp only [decide_eq_true_eq]
  rw [endless_step (rulesOk_of hsys)]
  constructor
  · rintro ⟨i, r, v, h1, h2, h3, h4⟩
    obtain ⟨h5, h6, h7⟩ := plain_may h1 h2 h3
    exact ⟨_, nextL_mem.2 ⟨i, h5, rfl⟩, by rw [h6, h7]; exact h4⟩
  · rintro ⟨c, hc, h⟩
    obtain ⟨i, h1, rfl⟩ := nextL_mem.1 hc
    obtain ⟨v, h2, h3, h4, h5, h6⟩ := may_plain h1
    exact ⟨i, _, v, h2, h3, h4, by rw [← h5, ← h6]; exact h⟩
theorem reach_step {l : List RuleB} {x : Int} {s : ByteArray} {c : ConfB} (h : c ∈ nextL l ⟨x, s⟩) : ∃ i : Nat, Steps (l.map RuleB.plain) x (cs s) [i] c.ctl (cs c.st) := by
  obtain ⟨i, h1, rfl⟩ := nextL_mem.1 h
  obtain ⟨v, h2, h3, h4, h5, h6⟩ := may_plain h1
  refine ⟨i, ?_⟩
  rw [h4, ← h3, h5, h6]
  exact Steps.step h2 (Steps.refl _ _)
theorem reach_next (l : List RuleB) (x : Int) (s : ByteArray) (y : Int) (t : ByteArray) : reachB l x s y t = (eqC ⟨x, s⟩ ⟨y, t⟩ || (nextL l ⟨x, s⟩).any fun c => reachB l c.ctl c.st y t) := by
  rw [Bool.eq_iff_iff, Bool.or_eq_true, List.any_eq_true, reachB_iff]
  constructor
  · rintro ⟨n, h⟩
    generalize hw : cs s = w at h
    generalize hu : cs t = u at h
    cases h with
    | refl => exact .inl (eqC_iff.2 (by rw [cs_inj (hw.trans hu.symm)]))
    | @step i r w' n _ _ h1 h2 =>
      obtain ⟨h5, h6, h7⟩ := plain_may h1 rfl hw
      refine .inr ⟨_, nextL_mem.2 ⟨_, h5, rfl⟩, reachB_iff.2 ⟨n, ?_⟩⟩
      rw [h6, h7, hu]
      exact h2
  · rintro (h | ⟨c, hc, h⟩)
    · have := eqC_iff.1 h
      injection this with h1 h2
      subst h1 h2
      exact ⟨[], Steps.refl _ _⟩
    · obtain ⟨n, h⟩ := reachB_iff.1 h
      obtain ⟨i, hi⟩ := reach_step hc
      exact ⟨_, hi.trans h⟩
theorem reach_self (l : List RuleB) (x : Int) (s : ByteArray) : reachB l x s x s = true := reachB_iff.2 ⟨[], Steps.refl _ _⟩
theorem reach_mem {l : List RuleB} {x : Int} {s : ByteArray} {c : ConfB} (h : c ∈ nextL l ⟨x, s⟩) : reachB l x s c.ctl c.st = true := by
  obtain ⟨i, hi⟩ := reach_step h
  exact reachB_iff.2 ⟨_, hi⟩
theorem next_proper {C : Int} {l : List RuleB} (hsys : sysB C l = true) {x : Int} {s : ByteArray} (hp : properB C ⟨x, s⟩ = true) (hz : s.size ≤ 10) {c : ConfB} (h : c ∈ nextL l ⟨x, s⟩) : properB C c = true ∧ c.st.size ≤ 11 := by
  obtain ⟨i, h1, rfl⟩ := nextL_mem.1 h
  obtain ⟨n, hn, hi, _, hs, _⟩ := mayB_iff.1 h1
  obtain rfl : i = n := by omega
  obtain ⟨_, _, hw⟩ := ruleB_of hsys hi
  have hok := rulesOk_of hsys i _ ((plain_get (n := i)).2 ⟨hi, rfl⟩)
  have h2 := stepC_size (r := rAt l i) hs (put2 hsys _ (rAt_mem hi))
  rw [properB_iff] at hp ⊢
  refine ⟨⟨hok.2.2.1, hok.2.2.2.1, ?_, by simp only at h2 ⊢; omega⟩, by simp only at h2 ⊢; omega⟩
  show Word (cs ((rAt l i).put ++ s.extract 1 s.size))
  rw [cs_append]
  intro a ha
  rcases List.mem_append.1 ha with h | h
  · exact hw a h
  · exact hp.2.2.1 a (by show a ∈ cs s; rw [cs_cons hs]; exact List.mem_cons_of_mem _ h)
/-- push.Next, whatever the stack -/
theorem Next_all (w : World) (C x : Int) (v : Value) (l : List RuleB) (s : ByteArray) (h : Rls w v l) (hsys : sysB C l = true) (hp : properB C ⟨x, s⟩ = true) :
    Calls Tryz.prog 32 #[sv C v, cv ⟨x, s⟩] w fun e w' => ∃ v', e = .returned (.tuple #[v', .int .i64 0]) ∧ OwnE ElC 60 w.heap.size w' v' (nextL l ⟨x, s⟩) ∧ Below w.heap.size w w' := by
  have he := allE_one hsys hp
  have hput := put2 hsys
  have h20 := (properB_iff.1 hp).2.2.2
  by_cases h0 : s.size = 0
  · refine (Next_err w C x v l s h (fun r hr => by have := hput r hr; omega) (by simp only at h20; omega) (.inr h0)).mono ?_
    rintro e w' ⟨rfl, hb⟩
    refine ⟨_, by rw [he], ?_, hb⟩
    unfold nextL
    rw [if_pos h0]
    exact OwnE.nil _ _ _
  · refine (Next_ok w C x v l s h (fun r hr => by have := hput r hr; omega) (by simp only at h20; omega) he (sysB_iff.1 hsys).2.2.1 hput h20 (by omega)).mono ?_
    rintro e w' ⟨v', rfl, h1, hb⟩
    refine ⟨_, rfl, ?_, hb⟩
    unfold nextL
    rw [if_neg h0]
    exact h1
end
end Go.Proofs.YtaapnflhjbdmlaaGreatDoor
