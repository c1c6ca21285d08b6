/- A region that draws its order, inside a round: reads, one operation that makes memory or calls, and a last operation that waits for all: whatever the order, one end. -/
import Derived.Test.YtadonoacmpkolaaW6
namespace Go.Proofs.Ytadonoacmpkolaa
open Go.RowKit

section
variable {F : Fence} {n : Nat} {P : Program} {ops : Array Oper} {Q : Exit → Act → World → Prop}

/-- the slot that operation i writes, i not the last -/
def dstOf (ops : Array Oper) (i : Nat) : Option Nat := if i + 1 < ops.size then (ops[i]?).bind (·.dst) else none
theorem dstOf_eq {ops : Array Oper} {i : Nat} {o : Oper} (ho : ops[i]? = some o) (hi : i + 1 < ops.size) : dstOf ops i = o.dst := by rw [dstOf, if_pos hi, ho]; rfl

/-- the operations' own shape: no guard, no deferred call, each writes a slot of its own below m -/
def plainB (ops : Array Oper) (m : Nat) : Bool :=
  (List.range ops.size).all fun i => match ops[i]? with
    | some o => o.guard.isNone && (o.after.all fun e => decide (e.on < i)) && (match o.op with | .defer _ => false | .select _ _ => false | _ => true) &&
        (match o.dst with
          | some d => decide (d < m) && (List.range ops.size).all (fun j => decide (j = i) || decide (dstOf ops j ≠ some d))
          | none => decide (i + 1 = ops.size))
    | none => false
/-- each slot that operation i looks at is written by one that it waits for, or by none -/
def looksB (ops : Array Oper) : Bool :=
  (List.range ops.size).all fun i => match ops[i]? with
    | some o => (o.op.operands).all fun x => match x with
        | .tmp t => (List.range ops.size).all fun j => decide (dstOf ops j ≠ some t) || o.after.any fun e => Region.binds .any e && e.on == j
        | _ => true
    | none => false
/-- the last one waits for all, straight or through others -/
def lastB (ops : Array Oper) : Bool :=
  (List.range (ops.size - 1)).all fun i => (List.range ops.size).any fun j => decide (i < j) && match ops[j]? with
    | some o => o.after.any fun e => Region.binds .any e && e.on == i
    | none => false
/-- which operations hang on operation p: those that wait for it or for one that hangs on it -/
def hangsB (ops : Array Oper) (p : Nat) (nd : Nat → Bool) : Bool :=
  (List.range ops.size).all fun i => match ops[i]? with
    | some o => decide (i + 1 = ops.size) || (nd i == (o.after.any fun e => Region.binds .any e && (e.on == p || nd e.on)))
    | none => false

/-- the reads, in world w, at the frame a: each yields what the frame holds for it -/
def readsOk (P : Program) (a : Act) (w : World) (nd : Nat → Bool) (p : Nat) : Nat → List Oper → Prop
  | _, [] => True
  | _, [_] => True
  | i, o :: o' :: l => (i = p ∨ nd i = true ∨ ∃ d, o.dst = some d ∧ (execOp a.eval o).run P w = .ok (.value (a.tmps.getD d undef)) w) ∧ readsOk P a w nd p (i + 1) (o' :: l)
def hangOk (P : Program) (a : Act) (w : World) (nd : Nat → Bool) (p : Nat) : Nat → List Oper → Prop
  | _, [] => True
  | _, [_] => True
  | i, o :: o' :: l => (i = p ∨ nd i = false ∨ ∃ d, o.dst = some d ∧ (execOp a.eval o).run P w = .ok (.value (a.tmps.getD d undef)) w) ∧ hangOk P a w nd p (i + 1) (o' :: l)

theorem readsOk_at {a : Act} {w : World} {nd : Nat → Bool} {p : Nat} : ∀ (l : List Oper) (k : Nat), readsOk P a w nd p k l → ∀ j, j + 1 < l.length → ∀ o, l[j]? = some o →
    k + j = p ∨ nd (k + j) = true ∨ ∃ d, o.dst = some d ∧ (execOp a.eval o).run P w = .ok (.value (a.tmps.getD d undef)) w
  | [], _, _, j, hj, _, _ => by simp at hj
  | [_], _, _, j, hj, _, _ => by simp at hj
  | o :: o' :: l, k, h, j, hj, x, hx => by
    cases j with
    | zero => simp at hx; subst hx; simpa using h.1
    | succ j =>
      have := readsOk_at (o' :: l) (k + 1) h.2 j (by simp at hj ⊢; omega) x (by simpa using hx)
      rwa [Nat.add_right_comm, Nat.add_assoc] at this
theorem hangOk_at {a : Act} {w : World} {nd : Nat → Bool} {p : Nat} : ∀ (l : List Oper) (k : Nat), hangOk P a w nd p k l → ∀ j, j + 1 < l.length → ∀ o, l[j]? = some o →
    k + j = p ∨ nd (k + j) = false ∨ ∃ d, o.dst = some d ∧ (execOp a.eval o).run P w = .ok (.value (a.tmps.getD d undef)) w
  | [], _, _, j, hj, _, _ => by simp at hj
  | [_], _, _, j, hj, _, _ => by simp at hj
  | o :: o' :: l, k, h, j, hj, x, hx => by
    cases j with
    | zero => simp at hx; subst hx; simpa using h.1
    | succ j =>
      have := hangOk_at (o' :: l) (k + 1) h.2 j (by simp at hj ⊢; omega) x (by simpa using hx)
      rwa [Nat.add_right_comm, Nat.add_assoc] at this

/-- where the region stands: some operations are listed; what they wrote is what the full frame holds -/
structure Stands (ops : Array Oper) (T0 : Array Value) (D0 : List Deferred) (T : Array Value) (listed : Array Bool) (a : Act) : Prop where
  size : listed.size = ops.size
  closed : ∀ j o, ops[j]? = some o → listed.getD j false = true → ∀ e ∈ o.after, Region.binds .any e = true → listed.getD e.on false = true
  defers : a.defers = D0
  tsize : a.tmps.size = T0.size
  done : ∀ j d, listed.getD j false = true → dstOf ops j = some d → a.tmps[d]? = T[d]?
  rest : ∀ t, (∀ j, listed.getD j false = true → dstOf ops j ≠ some t) → a.tmps[t]? = T0[t]?

theorem Stands.put {T0 : Array Value} {D0 : List Deferred} {T : Array Value} {listed : Array Bool} {a : Act} (h : Stands ops T0 D0 T listed a) {m : Nat} (hp : plainB ops m = true) (hm : m = T0.size) {i : Nat} {o : Oper} (ho : ops[i]? = some o) (hin : i + 1 < ops.size) (hr : i ∈ Region.ready .any ops listed) {v : Value} (hv : ∀ d, o.dst = some d → T[d]? = some v) : Stands ops T0 D0 T (listed.setIfInBounds i true) (a.put o.dst v) := by
  obtain ⟨hun, o', ho', hall⟩ := mem_ready.1 hr
  obtain rfl : o' = o := Option.some.inj (ho'.symm.trans ho)
  have hi : i < ops.size := (Array.getElem?_eq_some_iff.1 ho).1
  have hpi := List.all_eq_true.1 hp i (List.mem_range.2 hi)
  simp only [ho, Bool.and_eq_true] at hpi
  have hil : i < listed.size := by rw [h.size]; exact hi
  have gset : ∀ j, (listed.setIfInBounds i true).getD j false = true → j = i ∨ listed.getD j false = true := fun j hj => by
    by_cases e : i = j
    · exact .inl e.symm
    · rw [getD_set_ne false e] at hj; exact .inr hj
  have giff : ∀ j, listed.getD j false = true → (listed.setIfInBounds i true).getD j false = true := fun j hj => getD_set_true hj
  have gi : (listed.setIfInBounds i true).getD i false = true := by simp [hil]
  refine ⟨by simp [h.size], ?_, ?_, ?_, ?_, ?_⟩
  · intro j oj hoj hj e he hb
    rcases gset j hj with rfl | hj'
    · obtain rfl : oj = o' := Option.some.inj (hoj.symm.trans ho)
      exact giff _ (hall e he hb)
    · exact giff _ (h.closed j oj hoj hj' e he hb)
  · cases hd : o'.dst <;> simp [Act.put, h.defers]
  · cases hd : o'.dst <;> simp [Act.put, h.tsize]
  · intro j d hj hjd
    cases hd : o'.dst with
    | none =>
      simp only [Act.put]
      rcases gset j hj with rfl | hj'
      · rw [dstOf_eq ho hin, hd] at hjd; cases hjd
      · exact h.done j d hj' hjd
    | some d' =>
      have hp2 := hpi.2
      simp only [hd, Bool.and_eq_true, decide_eq_true_eq, List.all_eq_true, List.mem_range, Bool.or_eq_true] at hp2
      simp only [Act.put]
      by_cases e : d' = d
      · subst e
        rw [Array.getElem?_setIfInBounds_self_of_lt (by rw [h.tsize, ← hm]; exact hp2.1)]
        exact (hv d' hd).symm
      · rw [Array.getElem?_setIfInBounds_ne e]
        rcases gset j hj with rfl | hj'
        · rw [dstOf_eq ho hin, hd] at hjd; exact absurd (Option.some.inj hjd) e
        · exact h.done j d hj' hjd
  · intro t ht
    cases hd : o'.dst with
    | none =>
      simp only [Act.put]
      exact h.rest t fun j hj => ht j (giff j hj)
    | some d' =>
      simp only [Act.put]
      have : d' ≠ t := by
        have := ht i gi
        rw [dstOf_eq ho hin, hd] at this
        exact fun e => this (by rw [e])
      rw [Array.getElem?_setIfInBounds_ne this]
      exact h.rest t fun j hj => ht j (giff j hj)

/-- what operation i, which may come up, sees is what it sees in the full frame -/
theorem Stands.sees {T0 : Array Value} {D0 : List Deferred} {T : Array Value} {listed : Array Bool} {a : Act} (h : Stands ops T0 D0 T listed a) (hl : looksB ops = true) (hT0 : ∀ t, (∀ j, dstOf ops j ≠ some t) → T[t]? = T0[t]?)
    {i : Nat} {o : Oper} (ho : ops[i]? = some o) (hr : i ∈ Region.ready .any ops listed) : ∀ x ∈ o.op.operands, a.eval x = ({ tmps := T, defers := D0 } : Act).eval x := by
  obtain ⟨hun, o', ho', hall⟩ := mem_ready.1 hr
  obtain rfl : o' = o := Option.some.inj (ho'.symm.trans ho)
  have hi : i < ops.size := (Array.getElem?_eq_some_iff.1 ho).1
  have hli := List.all_eq_true.1 hl i (List.mem_range.2 hi)
  simp only [ho] at hli
  intro x hx
  have hlx := Array.all_eq_true_iff_forall_mem.1 hli x hx
  cases x with
  | tmp t =>
    simp only [List.all_eq_true, List.mem_range, Bool.or_eq_true, decide_eq_true_eq] at hlx
    have key : a.tmps[t]? = T[t]? := by
      by_cases hex : ∃ j, dstOf ops j = some t
      · obtain ⟨j, hj⟩ := hex
        have hjs : j < ops.size := by
          by_cases hin : j + 1 < ops.size
          · omega
          · rw [dstOf, if_neg hin] at hj; cases hj
        rcases hlx j hjs with h1 | h1
        · exact absurd hj h1
        · obtain ⟨e, he, hb⟩ := Array.any_eq_true'.1 h1
          simp only [Bool.and_eq_true, beq_iff_eq] at hb
          exact h.done j t (by rw [← hb.2]; exact hall e he hb.1) hj
      · have hno : ∀ j, dstOf ops j ≠ some t := fun j hj => hex ⟨j, hj⟩
        rw [h.rest t fun j _ => hno j, hT0 t hno]
    simp only [Act.eval, Array.getD_eq_getD_getElem?, key]
  | const v => rfl
  | global g => rfl
  | func f => rfl

theorem semAt_plain {m : Nat} (hp : plainB ops m = true) {i : Nat} {o : Oper} (ho : ops[i]? = some o) (ro : Option Nat) (ρ : Operand → Value) : o.semAt ro ρ = execOp ρ o := by
  refine Oper.semAt_eq ro ρ o fun c hc => ?_
  have hi : i < ops.size := (Array.getElem?_eq_some_iff.1 ho).1
  have hpi := List.all_eq_true.1 hp i (List.mem_range.2 hi)
  simp [ho, hc] at hpi
theorem noSelect_plain {m : Nat} (hp : plainB ops m = true) {i : Nat} {o : Oper} (ho : ops[i]? = some o) : ∀ cs b, o.op ≠ .select cs b := by
  intro cs b hc
  have hi : i < ops.size := (Array.getElem?_eq_some_iff.1 ho).1
  have hpi := List.all_eq_true.1 hp i (List.mem_range.2 hi)
  simp [ho, hc] at hpi
theorem wanted_plain {m : Nat} (hp : plainB ops m = true) {i : Nat} {o : Oper} (ho : ops[i]? = some o) (y : Nat → Option Bool) : Region.wanted o y = true := by
  have hi : i < ops.size := (Array.getElem?_eq_some_iff.1 ho).1
  have hpi := List.all_eq_true.1 hp i (List.mem_range.2 hi)
  simp only [ho, Bool.and_eq_true, Option.isNone_iff_eq_none] at hpi
  simp [Region.wanted, hpi.1.1.1]

theorem wpOpIn_plain (hF : ∀ f, F.fn f) {m : Nat} (hp : plainB ops m = true) {i : Nat} {o : Oper} (ho : ops[i]? = some o) {a : Act} {w : World} {K : Act → World → Prop}
    (h : o.uponIn F n P a K Q ((execOp a.eval o).run P w)) : wpOpIn F n P ops Q i K a w := by
  unfold wpOpIn
  simp only [ho, wanted_plain hp ho, if_true]
  exact ⟨fun f _ => hF f, by rw [semAt_plain hp ho]; exact h⟩

/-- THE END: all are listed -/
theorem Stands.full {T0 : Array Value} {D0 : List Deferred} {T : Array Value} {listed : Array Bool} {a : Act} (h : Stands ops T0 D0 T listed a) (hT0 : ∀ t, (∀ j, dstOf ops j ≠ some t) → T[t]? = T0[t]?)
    (hall : ∀ j, dstOf ops j ≠ none → listed.getD j false = true) : a = { tmps := T, defers := D0 } := by
  obtain ⟨tm, df⟩ := a
  have h1 : df = D0 := h.defers
  have h2 : tm = T := by
    refine Array.ext_getElem? fun t => ?_
    by_cases hex : ∃ j, dstOf ops j = some t
    · obtain ⟨j, hj⟩ := hex
      exact h.done j t (hall j (by rw [hj]; simp)) hj
    · have hno : ∀ j, dstOf ops j ≠ some t := fun j hj => hex ⟨j, hj⟩
      exact (h.rest t fun j _ => hno j).trans (hT0 t hno).symm
  rw [h1, h2]

theorem uponIn_mono {o : Oper} {a : Act} {K K' : Act → World → Prop} {r : Result Next} (h : ∀ a w, K a w → K' a w) (hh : o.uponIn F n P a K Q r) : o.uponIn F n P a K' Q r := by
  cases r with
  | ok x w' =>
    cases x <;> simp only [Oper.uponIn] at hh ⊢ <;>
      first
        | exact h _ _ hh
        | exact ⟨hh.1, CallsIn.mono hh.2 (fun e w'' he => by cases e <;> first | exact h _ _ he | exact he)⟩
        | exact ⟨hh.1, RowsIn.mono hh.2 (fun _ _ he => h _ _ he)⟩
        | exact ⟨hh.1, RoundIn.mono hh.2 (fun e w'' he => by cases e <;> first | exact h _ _ he | exact he)⟩
  | halt x w' => cases x <;> simp only [Oper.uponIn] at hh ⊢ <;> exact hh

/-- **THE LAW.** W: the world behind the draw; p: the one operation that turns the world; Rv v w1: what it leaves; T v: the frame when all but the last are done. -/
theorem wpAnyIn_conf (hF : ∀ f, F.fn f) {T0 : Array Value} {D0 : List Deferred} {W : World} (p : Nat) (nd : Nat → Bool) (Rv : Value → World → Prop) (T : Value → Array Value)
    (hp : plainB ops T0.size = true) (hl : looksB ops = true) (hs : lastB ops = true) (hh : hangsB ops p nd = true) (hpl : p + 1 < ops.size)
    (hT : ∀ v, (T v).size = T0.size) (hT0 : ∀ v t, (∀ j, dstOf ops j ≠ some t) → (T v)[t]? = T0[t]?)
    (hTp : ∀ v w d, Rv v w → dstOf ops p = some d → (T v)[d]? = some v)
    (v0 : Value)
    (hsame : ∀ v w j d, Rv v w → j ≠ p → nd j = false → dstOf ops j = some d → (T v0)[d]? = (T v)[d]?)
    (h1 : readsOk P { tmps := T v0, defers := D0 } W nd p 0 ops.toList)
    (h2 : ∀ v w, Rv v w → readsOk P { tmps := T v, defers := D0 } w nd p 0 ops.toList ∧ hangOk P { tmps := T v, defers := D0 } w nd p 0 ops.toList)
    (h3 : ∀ o, ops[p]? = some o → ∀ (a : Act) (K : Act → World → Prop), (∀ v w, Rv v w → K (a.put o.dst v) w) → o.uponIn F n P a K Q ((execOp ({ tmps := T v0, defers := D0 } : Act).eval o).run P W))
    (h4 : ∀ o, ops[ops.size - 1]? = some o → ∀ v w, Rv v w → o.uponIn F n P { tmps := T v, defers := D0 } (fun a' w' => Q .normal a' w') Q ((execOp ({ tmps := T v, defers := D0 } : Act).eval o).run P w)) :
    ∀ (fuel : Nat) (listed : Array Bool) (a : Act) (w : World), listed.toList.count false ≤ fuel → listed.getD (ops.size - 1) true = false →
      ((listed.getD p true = false ∧ w = W ∧ Stands ops T0 D0 (T v0) listed a ∧ (∀ j, listed.getD j false = true → nd j = false)) ∨ (listed.getD p false = true ∧ ∃ v, Rv v w ∧ Stands ops T0 D0 (T v) listed a)) →
      wpAnyIn F n P .any ops Q fuel listed a w := by
  have hpos : 0 < ops.size := by omega
  obtain ⟨oL, hoL⟩ : ∃ o, ops[ops.size - 1]? = some o := ⟨_, Array.getElem?_eq_getElem (by omega)⟩
  have hw8 : ∀ i : Nat, i < ops.size - 1 → ∃ j oj, i < j ∧ ops[j]? = some oj ∧ ∃ e ∈ oj.after, Region.binds .any e = true ∧ e.on = i := fun i hi => by
    unfold lastB at hs
    have h1 := List.all_eq_true.1 hs i (List.mem_range.2 hi)
    obtain ⟨j, hj, h2⟩ := List.any_eq_true.1 h1
    have hj := List.mem_range.1 hj
    simp only [Bool.and_eq_true, decide_eq_true_eq, Array.getElem?_eq_getElem hj] at h2
    obtain ⟨e, he, hb⟩ := Array.any_eq_true'.1 h2.2
    simp only [Bool.and_eq_true, beq_iff_eq] at hb
    exact ⟨j, ops[j], h2.1, Array.getElem?_eq_getElem hj, e, he, hb.1, hb.2⟩
  have hfw : ∀ (i : Nat) (o : Oper), ops[i]? = some o → ∀ e ∈ o.after, e.on < i := fun i o ho e he => by
    have hi : i < ops.size := (Array.getElem?_eq_some_iff.1 ho).1
    have hpi := List.all_eq_true.1 hp i (List.mem_range.2 hi)
    simp only [ho, Bool.and_eq_true] at hpi
    have := Array.all_eq_true_iff_forall_mem.1 hpi.1.1.2 e he
    simpa using this
  have hdT : ∀ (v : Value) (i : Nat) (o : Oper) (d : Nat), ops[i]? = some o → o.dst = some d → d < (T v).size := fun v i o d ho hd => by
    have hi : i < ops.size := (Array.getElem?_eq_some_iff.1 ho).1
    have hpi := List.all_eq_true.1 hp i (List.mem_range.2 hi)
    simp only [ho, hd, Bool.and_eq_true, decide_eq_true_eq] at hpi
    rw [hT]
    exact hpi.2.1
  have hgd : ∀ (v : Value) (i : Nat) (o : Oper) (d : Nat), ops[i]? = some o → o.dst = some d → (T v)[d]? = some ((T v).getD d undef) := fun v i o d ho hd => by
    have := hdT v i o d ho hd
    simp [this]
  intro fuel
  induction fuel with
  | zero =>
    intro listed a w hf hun hst
    have hsz : listed.size = ops.size := by rcases hst with ⟨_, _, h, _⟩ | ⟨_, v, _, h⟩ <;> exact h.size
    have hlt : ops.size - 1 < listed.size := by omega
    have hmem : false ∈ listed.toList := by
      have : listed[ops.size - 1] = false := by simpa [hlt] using hun
      rw [← this]; simp
    have := List.count_pos_iff.2 hmem
    omega
  | succ fuel ih =>
    intro listed a w hf hun hst
    have hsz : listed.size = ops.size := by rcases hst with ⟨_, _, h, _⟩ | ⟨_, v, _, h⟩ <;> exact h.size
    have hcl : ∀ (j : Nat) (o : Oper), ops[j]? = some o → listed.getD j false = true → ∀ e ∈ o.after, Region.binds .any e = true → listed.getD e.on false = true := by rcases hst with ⟨_, _, h, _⟩ | ⟨_, v, _, h⟩ <;> exact h.closed
    have hcount : ∀ i : Nat, i ∈ Region.ready .any ops listed → (listed.setIfInBounds i true).toList.count false ≤ fuel := fun i hi => by
      obtain ⟨hu, o, ho, _⟩ := mem_ready.1 hi
      have hil : i < listed.size := by rw [hsz]; exact (Array.getElem?_eq_some_iff.1 ho).1
      have hv : listed.toList[i]'(by simpa using hil) = false := by simpa [hil] using hu
      rw [Array.toList_setIfInBounds, List.count_set (by simpa using hil), hv]
      have : 0 < listed.toList.count false := List.count_pos_iff.2 (by rw [← hv]; exact List.getElem_mem _)
      have e1 : (if (false == false) = true then 1 else 0 : Nat) = 1 := rfl
      have e2 : (if (true == false) = true then 1 else 0 : Nat) = 0 := rfl
      rw [e1, e2]
      omega
    refine ⟨fun hr => ?_, fun i hi => ?_⟩
    · -- something may come up: the least that is not listed
      exfalso
      have hex : ∃ j, j < ops.size ∧ listed.getD j true = false := ⟨_, by omega, hun⟩
      obtain ⟨j, hj, hju, hmin⟩ : ∃ j, j < ops.size ∧ listed.getD j true = false ∧ ∀ k, k < j → listed.getD k true ≠ false := by
        obtain ⟨j0, hj0, hj0u⟩ := hex
        clear hr hst
        induction j0 using Nat.strongRecOn with
        | _ j0 ihj =>
          by_cases hk : ∃ k, k < j0 ∧ listed.getD k true = false
          · obtain ⟨k, hk1, hk2⟩ := hk
            exact ihj k hk1 (by omega) hk2
          · exact ⟨j0, hj0, hj0u, fun k hk1 hk2 => hk ⟨k, hk1, hk2⟩⟩
      have : j ∈ Region.ready .any ops listed := mem_ready.2 ⟨hju, ops[j], Array.getElem?_eq_getElem hj, fun e he _ => by
        have h1 := hfw j _ (Array.getElem?_eq_getElem hj) e he
        have h2 := hmin e.on h1
        have h3 : e.on < listed.size := by omega
        simp [h3] at h2 ⊢
        exact h2⟩
      rw [hr] at this
      cases this
    · obtain ⟨hu, o, ho, hall⟩ := mem_ready.1 hi
      have hilt : i < ops.size := (Array.getElem?_eq_some_iff.1 ho).1
      have hnl : ∀ (_ : i ≠ ops.size - 1), (listed.setIfInBounds i true).getD (ops.size - 1) true = false := fun hne => by rw [getD_set_ne true hne]; exact hun
      have hhi := List.all_eq_true.1 hh i (List.mem_range.2 hilt)
      simp only [ho, Bool.or_eq_true, decide_eq_true_eq, beq_iff_eq] at hhi
      have hgl : ∀ (i' : Nat) (o' : Oper), ops[i']? = some o' → ops.toList[i']? = some o' := fun i' o' h => by simpa using h
      by_cases hlast : i = ops.size - 1
      · -- the last one
        subst hlast
        obtain rfl : oL = o := Option.some.inj (hoL.symm.trans ho)
        have hallL : ∀ j, j < ops.size - 1 → listed.getD j false = true := by
          have key : ∀ d j, ops.size - 1 - j = d → j < ops.size - 1 → listed.getD j false = true := by
            intro d
            induction d using Nat.strongRecOn with
            | _ d ihd =>
              intro j hd hj
              obtain ⟨j', oj, hlt, hoj, e, he, hb, hon⟩ := hw8 j hj
              have hj's : j' < ops.size := (Array.getElem?_eq_some_iff.1 hoj).1
              rw [← hon]
              by_cases e1 : j' = ops.size - 1
              · subst e1
                obtain rfl : oL = oj := Option.some.inj (hoL.symm.trans hoj)
                exact hall e he hb
              · exact hcl j' oj hoj (ihd (ops.size - 1 - j') (by omega) j' rfl (by omega)) e he hb
          exact fun j hj => key _ j rfl hj
        rcases hst with ⟨hpu, _⟩ | ⟨_, v, hR, hS⟩
        · have := hallL p (by omega)
          rw [getD_both hpu] at this
          cases this
        · have hdL : dstOf ops (ops.size - 1) = none ∨ ∃ d, oL.dst = some d := by
            unfold dstOf; rw [hoL]; cases hd : oL.dst <;> simp [hd]
          have hfull := hS.full (hT0 v) (fun j hj => by
            have : j + 1 < ops.size := by
              rcases Nat.lt_or_ge (j + 1) ops.size with h | h
              · exact h
              · rw [dstOf, if_neg (by omega)] at hj; exact absurd rfl hj
            exact hallL j (by omega))
          rw [hfull]
          refine wpOpIn_plain hF hp ho ?_
          have h4' := h4 oL ho v w hR
          refine uponIn_mono (fun a' w' hq => ?_) h4'
          have hrn : Region.ready .any ops (listed.setIfInBounds (ops.size - 1) true) = [] := by
            rw [List.eq_nil_iff_forall_not_mem]
            intro k hk
            obtain ⟨hku, ok, hok, _⟩ := mem_ready.1 hk
            have hks : k < ops.size := (Array.getElem?_eq_some_iff.1 hok).1
            by_cases e : k = ops.size - 1
            · subst e
              have : ops.size - 1 < listed.size := by omega
              simp [this] at hku
            · rw [getD_set_ne true (fun h => e h.symm)] at hku
              have := hallL k (by omega)
              rw [getD_both hku] at this
              cases this
          cases fuel with
          | zero => exact ⟨hrn, hq⟩
          | succ f => exact ⟨fun _ => hq, fun k hk => by rw [hrn] at hk; cases hk⟩
      · have hin : i + 1 < ops.size := by omega
        have hnl' := hnl hlast
        have hde : dstOf ops i = o.dst := dstOf_eq ho hin
        by_cases hip : i = p
        · subst hip
          rcases hst with ⟨hpu, rfl, hS, hnd⟩ | ⟨hpl', _⟩
          · refine wpOpIn_plain hF hp ho ?_
            rw [execOp_congr o (noSelect_plain hp ho) (hS.sees hl (hT0 v0) ho hi)]
            refine h3 o ho a _ fun v w1 hR => ?_
            refine ih _ _ _ (hcount i hi) hnl' (.inr ⟨by have : i < listed.size := by omega
                                                         simp [this], v, hR, ?_⟩)
            refine Stands.put (T := T v) ?_ hp rfl ho hin hi (fun d hd => hTp v w1 d hR (by rw [hde]; exact hd))
            exact ⟨hS.size, hS.closed, hS.defers, hS.tsize, fun j d hj hd => (hS.done j d hj hd).trans (hsame v w1 j d hR (fun e => by subst e; rw [getD_both hpu] at hj; cases hj) (hnd j hj) hd), hS.rest⟩
          · rw [getD_both hu] at hpl'; cases hpl'
        · have hio : i + 1 < ops.toList.length := by simpa using hin
          cases hni : nd i with
          | false =>
            rcases hst with ⟨hpu, rfl, hS, hnd⟩ | ⟨hpl', v, hR, hS⟩
            · have hrd := readsOk_at ops.toList 0 h1 i hio o (hgl i o ho)
              rw [Nat.zero_add] at hrd
              rcases hrd with h | h | ⟨d, hd, hrun⟩
              · exact absurd h hip
              · rw [hni] at h; cases h
              · refine wpOpIn_plain hF hp ho ?_
                rw [execOp_congr o (noSelect_plain hp ho) (hS.sees hl (hT0 v0) ho hi), hrun]
                refine ih _ _ _ (hcount i hi) hnl' (.inl ⟨by rw [getD_set_ne true hip]; exact hpu, rfl, Stands.put hS hp rfl ho hin hi (fun d' hd' => ?_), fun j hj => ?_⟩)
                · rw [hd] at hd'; cases hd'; exact hgd v0 i o d ho hd
                · by_cases e : i = j
                  · rw [← e]; exact hni
                  · rw [getD_set_ne false e] at hj; exact hnd j hj
            · have hrd := readsOk_at ops.toList 0 (h2 v w hR).1 i hio o (hgl i o ho)
              rw [Nat.zero_add] at hrd
              rcases hrd with h | h | ⟨d, hd, hrun⟩
              · exact absurd h hip
              · rw [hni] at h; cases h
              · refine wpOpIn_plain hF hp ho ?_
                rw [execOp_congr o (noSelect_plain hp ho) (hS.sees hl (hT0 v) ho hi), hrun]
                refine ih _ _ _ (hcount i hi) hnl' (.inr ⟨by rw [getD_set_ne false hip]; exact hpl', v, hR, Stands.put hS hp rfl ho hin hi (fun d' hd' => ?_)⟩)
                rw [hd] at hd'; cases hd'; exact hgd v i o d ho hd
          | true =>
            have hdep : ∃ e ∈ o.after, Region.binds .any e = true ∧ (e.on = p ∨ nd e.on = true) := by
              rcases hhi with h | h
              · omega
              · rw [hni] at h
                obtain ⟨e, he, hb⟩ := Array.any_eq_true'.1 h.symm
                simp only [Bool.and_eq_true, Bool.or_eq_true, beq_iff_eq] at hb
                exact ⟨e, he, hb.1, hb.2⟩
            obtain ⟨e, he, hb, hor⟩ := hdep
            have hel := hall e he hb
            rcases hst with ⟨hpu, rfl, hS, hnd⟩ | ⟨hpl', v, hR, hS⟩
            · exfalso
              rcases hor with h | h
              · rw [h, getD_both hpu] at hel; cases hel
              · rw [hnd _ hel] at h; cases h
            · have hrd := hangOk_at ops.toList 0 (h2 v w hR).2 i hio o (hgl i o ho)
              rw [Nat.zero_add] at hrd
              rcases hrd with h | h | ⟨d, hd, hrun⟩
              · exact absurd h hip
              · rw [hni] at h; cases h
              · refine wpOpIn_plain hF hp ho ?_
                rw [execOp_congr o (noSelect_plain hp ho) (hS.sees hl (hT0 v) ho hi), hrun]
                refine ih _ _ _ (hcount i hi) hnl' (.inr ⟨by rw [getD_set_ne false hip]; exact hpl', v, hR, Stands.put hS hp rfl ho hin hi (fun d' hd' => ?_)⟩)
                rw [hd] at hd'; cases hd'; exact hgd v i o d ho hd

def dstsOf (ops : Array Oper) : List Nat := (List.range ops.size).filterMap (dstOf ops)
/-- T is T0 but for the slots that the operations write -/
def fills (ops : Array Oper) (T0 T : Array Value) : Prop := T = (dstsOf ops).foldl (fun t d => t.setIfInBounds d (T.getD d undef)) T0
theorem fills_size {T0 T : Array Value} (h : fills ops T0 T) : T.size = T0.size := by
  have key : ∀ (l : List Nat) (t : Array Value), (l.foldl (fun t d => t.setIfInBounds d (T.getD d undef)) t).size = t.size := by
    intro l
    induction l with
    | nil => intro t; rfl
    | cons d l ih => intro t; rw [List.foldl_cons, ih]; simp
  rw [h, key]
theorem fills_other {T0 T : Array Value} (h : fills ops T0 T) (t : Nat) (ht : ∀ j, dstOf ops j ≠ some t) : T[t]? = T0[t]? := by
  have key : ∀ (l : List Nat) (u : Array Value), t ∉ l → (l.foldl (fun t d => t.setIfInBounds d (T.getD d undef)) u)[t]? = u[t]? := by
    intro l
    induction l with
    | nil => intro u _; rfl
    | cons d l ih =>
      intro u hn
      rw [List.foldl_cons, ih _ (fun h => hn (List.mem_cons_of_mem _ h)), Array.getElem?_setIfInBounds_ne (fun e => hn (by rw [e]; exact List.mem_cons_self))]
  have hn : t ∉ dstsOf ops := by
    intro hm
    obtain ⟨j, _, hj⟩ := List.mem_filterMap.1 hm
    exact ht j hj
  have := key (dstsOf ops) T0 hn
  rw [← h] at this
  exact this

theorem stands_start {T0 : Array Value} {D0 : List Deferred} (T : Array Value) : Stands ops T0 D0 T (Array.replicate ops.size false) { tmps := T0, defers := D0 } :=
  ⟨by simp, (fun j o _ h => by rw [getD_replicate_false] at h; cases h), rfl, rfl, (fun j d h => by rw [getD_replicate_false] at h; cases h), fun _ _ => rfl⟩

/-- **THE LAW AT A REGION THAT DRAWS.** -/
theorem wpIn_region_conf {id : Nat} {l : List Oper} {T0 : Array Value} {D0 : List Deferred} {w : World} (hm : P.follows .mixedOrders = true) (hF : ∀ f, F.fn f) (p : Nat) (nd : Nat → Bool) (Rv : Value → World → Prop) (T : Value → Array Value) (v0 : Value)
    (hp : plainB l.toArray T0.size = true) (hl : looksB l.toArray = true) (hs : lastB l.toArray = true) (hh : hangsB l.toArray p nd = true) (hpl : p + 1 < l.toArray.size)
    (hT : ∀ v, fills l.toArray T0 (T v))
    (hTp : ∀ v w1 d, Rv v w1 → dstOf l.toArray p = some d → (T v)[d]? = some v)
    (hsame : ∀ v w1 j d, Rv v w1 → j ≠ p → nd j = false → dstOf l.toArray j = some d → (T v0)[d]? = (T v)[d]?)
    (h1 : readsOk P { tmps := T v0, defers := D0 } w.drew nd p 0 l)
    (h2 : ∀ v w1, Rv v w1 → readsOk P { tmps := T v, defers := D0 } w1 nd p 0 l ∧ hangOk P { tmps := T v, defers := D0 } w1 nd p 0 l)
    (h3 : ∀ o, l[p]? = some o → ∀ (a : Act) (K : Act → World → Prop), (∀ v w1, Rv v w1 → K (a.put o.dst v) w1) → o.uponIn F n P a K Q ((execOp ({ tmps := T v0, defers := D0 } : Act).eval o).run P w.drew))
    (h4 : ∀ o, l[l.length - 1]? = some o → ∀ v w1, Rv v w1 → o.uponIn F n P { tmps := T v, defers := D0 } (fun a' w' => Q .normal a' w') Q ((execOp ({ tmps := T v, defers := D0 } : Act).eval o).run P w1)) :
    (Code.region id l.toArray true).wpIn F n P Q { tmps := T0, defers := D0 } w := by
  refine wpIn_region_any hm ?_
  refine wpAnyIn_conf hF (T0 := T0) (D0 := D0) (W := w.drew) p nd Rv T hp hl hs hh hpl (fun v => fills_size (hT v)) (fun v t ht => fills_other (hT v) t ht) hTp v0 hsame h1 h2 (fun o ho => h3 o (by simpa using ho)) (fun o ho => h4 o (by simpa using ho)) _ _ _ _ ?_ ?_
    (.inl ⟨?_, rfl, stands_start _, fun j hj => by rw [getD_replicate_false] at hj; cases hj⟩)
  · simp
  · have : l.length - 1 < l.length := by simp at hpl; omega
    simp [this]
  · have : p < l.length := by simp at hpl; omega
    simp [this]

/-- the reads' proof, an operation at a time -/
theorem readsOk_skip {a : Act} {w : World} {nd : Nat → Bool} {p i : Nat} {o o' : Oper} {l : List Oper} (h : (decide (i = p) || nd i) = true) (hr : readsOk P a w nd p (i + 1) (o' :: l)) : readsOk P a w nd p i (o :: o' :: l) := by
  refine ⟨?_, hr⟩
  simp only [Bool.or_eq_true, decide_eq_true_eq] at h
  rcases h with h | h
  · exact .inl h
  · exact .inr (.inl h)
theorem readsOk_one {a : Act} {w : World} {nd : Nat → Bool} {p i : Nat} {o o' : Oper} {l : List Oper} {d : Nat} (hd : o.dst = some d) (h : (execOp a.eval o).run P w = .ok (.value (a.tmps.getD d undef)) w) (hr : readsOk P a w nd p (i + 1) (o' :: l)) : readsOk P a w nd p i (o :: o' :: l) :=
  ⟨.inr (.inr ⟨d, hd, h⟩), hr⟩
theorem hangOk_skip {a : Act} {w : World} {nd : Nat → Bool} {p i : Nat} {o o' : Oper} {l : List Oper} (h : (decide (i = p) || !nd i) = true) (hr : hangOk P a w nd p (i + 1) (o' :: l)) : hangOk P a w nd p i (o :: o' :: l) := by
  refine ⟨?_, hr⟩
  simp only [Bool.or_eq_true, decide_eq_true_eq, Bool.not_eq_true'] at h
  rcases h with h | h
  · exact .inl h
  · exact .inr (.inl h)
theorem hangOk_one {a : Act} {w : World} {nd : Nat → Bool} {p i : Nat} {o o' : Oper} {l : List Oper} {d : Nat} (hd : o.dst = some d) (h : (execOp a.eval o).run P w = .ok (.value (a.tmps.getD d undef)) w) (hr : hangOk P a w nd p (i + 1) (o' :: l)) : hangOk P a w nd p i (o :: o' :: l) :=
  ⟨.inr (.inr ⟨d, hd, h⟩), hr⟩
end
end Go.Proofs.Ytadonoacmpkolaa
