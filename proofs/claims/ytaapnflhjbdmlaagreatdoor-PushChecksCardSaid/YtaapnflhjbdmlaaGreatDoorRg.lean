/- A region that draws its order, whose head holds reads and operations that make memory and hand back values that hang on where it lies; then a tail in its order. No condition. -/
import Derived.Test.YtaapnflhjbdmlaaGreatDoorGX
namespace Go.Proofs.YtaapnflhjbdmlaaGreatDoor
open Go.RowKit

/-- what is not told of a value beforehand -/
structure Hole where
  A : Option Addr
  n : Nat
  cap : Nat
  k : Nat
  i : Int
  b : Bool
instance : Inhabited Hole := ⟨⟨none, 0, 0, 0, 0, false⟩⟩

/-- every operation of the head, from number k0 on, is waited for by a later one, up to number n -/
def sinkP (md : Region.Mode) (ops : Array Oper) (k0 n : Nat) : Bool := (List.range n).all fun i => decide (i < k0) || (List.range (n + 1)).any fun j => decide (i < j) && Region.waitsFor md ops j i
theorem tail_waitsP {md : Region.Mode} {ops : Array Oper} {k0 n : Nat} {listed : Array Bool} (hs : sinkP md ops k0 n = true) (hc : Region.chainB md ops n = true) (hn : n < ops.size) (inv : HeadInv md ops n listed) {i : Nat} (hk : k0 ≤ i) (hi : i < n) (hun : listed.getD i true = false) :
    ∀ t, n ≤ t → t ∉ Region.ready md ops listed := by
  intro t ht hr
  obtain ⟨htun, ot, hot, hall⟩ := mem_ready.1 hr
  have htlt : t < ops.size := (Array.getElem?_eq_some_iff.1 hot).1
  have htn : t = n := by
    rcases Nat.lt_or_ge n t with h | h
    · exfalso
      have h1 := List.all_eq_true.1 hc t (List.mem_range.2 htlt)
      simp only [Bool.or_eq_true, decide_eq_true_eq] at h1
      rcases h1 with h1 | h1
      · omega
      · obtain ⟨oj, hoj, e, he, hb, hon⟩ := Region.waitsFor_spec h1
        obtain rfl : ot = oj := Option.some.inj (hot.symm.trans hoj)
        have h2 := hall e he hb
        rw [hon] at h2
        have h3 := inv.tail (t - 1) (by omega) (by omega)
        rw [getD_both h3] at h2
        cases h2
    · omega
  subst htn
  have key : ∀ d i, t - i = d → k0 ≤ i → i < t → listed.getD i false = true := by
    intro d
    induction d using Nat.strongRecOn with
    | _ d ih =>
      intro i hd hk hi
      have h1 := List.all_eq_true.1 hs i (List.mem_range.2 hi)
      simp only [Bool.or_eq_true, decide_eq_true_eq] at h1
      rcases h1 with h1 | h1
      · omega
      · obtain ⟨j, hj, hj2⟩ := List.any_eq_true.1 h1
        simp only [Bool.and_eq_true, decide_eq_true_eq] at hj2
        obtain ⟨oj, hoj, e, he, hb, hon⟩ := Region.waitsFor_spec hj2.2
        have hjle : j ≤ t := by have := List.mem_range.1 hj; omega
        rw [← hon]
        by_cases hjt : j = t
        · subst hjt
          obtain rfl : ot = oj := Option.some.inj (hot.symm.trans hoj)
          exact hall e he hb
        · exact inv.closed j oj hoj (ih (t - j) (by omega) j rfl (by omega) (by omega)) e he hb
  have := key _ i rfl hk hi
  rw [getD_both hun] at this
  cases this

def updF (Fs : Nat → World → Prop) (i : Nat) (G : World → Prop) : Nat → World → Prop := fun k => if k = i then G else Fs k
theorem updF_same (Fs : Nat → World → Prop) (i : Nat) (G : World → Prop) : updF Fs i G i = G := if_pos rfl
theorem updF_ne (Fs : Nat → World → Prop) {i k : Nat} (G : World → Prop) (h : k ≠ i) : updF Fs i G k = Fs k := if_neg h
theorem updF_comm (Fs : Nat → World → Prop) {i j : Nat} (G H : World → Prop) (h : i ≠ j) : updF (updF Fs i G) j H = updF (updF Fs j H) i G := by
  funext k
  unfold updF
  by_cases e1 : k = i <;> by_cases e2 : k = j <;> simp [e1, e2]
  · omega
  · intro e; exact absurd e h
  · intro e; exact absurd e.symm h
def depsB (md : Region.Mode) (ops : Array Oper) (deps : List (List Nat)) : Bool := (List.range ops.size).all fun i => (deps.getD i []).all fun k => match ops[i]? with
  | some o => o.after.any fun e => Region.binds md e && e.on == k
  | none => false
theorem depsB_spec {md : Region.Mode} {ops : Array Oper} {deps : List (List Nat)} (h : depsB md ops deps = true) {i : Nat} {o : Oper} (ho : ops[i]? = some o) {k : Nat} (hk : k ∈ deps.getD i []) : ∃ e ∈ o.after, Region.binds md e = true ∧ e.on = k := by
  unfold depsB at h
  rw [List.all_eq_true] at h
  have h1 := h i (by simp; exact (Array.getElem?_eq_some_iff.1 ho).1)
  rw [List.all_eq_true] at h1
  have h2 := h1 k hk
  rw [ho] at h2
  simp only [Array.any_eq_true] at h2
  obtain ⟨j, hj, h3⟩ := h2
  simp only [Bool.and_eq_true, beq_iff_eq] at h3
  exact ⟨o.after[j], Array.getElem_mem hj, h3.1, h3.2⟩

section
variable {P : Program} {ops : Array Oper} {md : Region.Mode} {W : World}
abbrev CG (W : World) : World → Prop := fun w' => ∃ g : Gr W, w' = g.w1

/-- what is asked of an operation that makes memory -/
def effUpon (P : Program) (w : World) (val : Hole → Value) (φ : Hole → World → Prop) : Result Next → Prop
  | .ok (.value v) w' => ∃ h, v = val h ∧ Below w.heap.size w w' ∧ φ h w'
  | .ok (.enter f args) w' => w' = w ∧ Calls P f args w (fun e w'' => ∃ h, e = .returned (val h) ∧ Below w.heap.size w w'' ∧ φ h w'')
  | _ => False
def Eff (P : Program) (ops : Array Oper) (W : World) (ds : List Nat) (Fs : Nat → World → Prop) (val : Hole → Value) (φ : Hole → World → Prop) (o : Oper) (a : Act) : Prop :=
  Region.wanted o (yielded ops a.tmps) = true ∧ ∀ g : Gr W, (∀ k ∈ ds, Fs k g.w1) → effUpon P g.w1 val φ ((execOp a.eval o).run P g.w1)
theorem Eff.of_same {ds : List Nat} {Fs Fs' : Nat → World → Prop} {val : Hole → Value} {φ : Hole → World → Prop} {o : Oper} {a a' : Act} (h : Eff P ops W ds Fs val φ o a) (hF : ∀ k ∈ ds, Fs' k = Fs k) (he : execOp a'.eval o = execOp a.eval o)
    (hw : Region.wanted o (yielded ops a'.tmps) = Region.wanted o (yielded ops a.tmps)) : Eff P ops W ds Fs' val φ o a' := by
  unfold Eff at *
  rw [he, hw]
  exact ⟨h.1, fun g hg => h.2 g fun k hk => by rw [← hF k hk]; exact hg k hk⟩
/-- it held at some time since -/
def Since (W : World) (φ : Hole → World → Prop) (v : Hole) (w : World) : Prop := ∃ w0, φ v w0 ∧ Below W.heap.size W w0 ∧ Below w0.heap.size w0 w
def Stab (F : World → Prop) : Prop := ∀ w w', F w → Below w.heap.size w w' → F w'
theorem Stab.since (φ : Hole → World → Prop) (v : Hole) : Stab (Since W φ v) := fun _ _ ⟨w0, h1, h2, h3⟩ hb => ⟨w0, h1, h2, bthen h3 hb⟩
theorem stab_upd {Fs : Nat → World → Prop} {G : World → Prop} (h : ∀ k, Stab (Fs k)) (h2 : Stab G) (i : Nat) : ∀ k, Stab (updF Fs i G k) := fun k => by
  unfold updF
  split
  · exact h2
  · exact h k

variable (P ops md W) (mask : List Bool) (deps : List (List Nat)) (val : Nat → Hole → Value) (φ : Nat → Hole → World → Prop)
def stepH (i : Nat) (Fs : Nat → World → Prop) (K : (Nat → World → Prop) → Act → Prop) (a : Act) : Prop :=
  ∃ o, ops[i]? = some o ∧ if mask.getD i false = true then Eff P ops W (deps.getD i []) Fs (val i) (φ i) o a ∧ ∀ h, K (updF Fs i (Since W (φ i) h)) (a.put o.dst (val i h))
    else readB o.op = true ∧ ∃ v, YieldsIn P ops (CG W) o v a ∧ K Fs (a.put o.dst v)
def HQ (n : Nat) (L : (Nat → World → Prop) → Array Bool → Act → Prop) : Nat → Array Bool → (Nat → World → Prop) → Act → Prop
  | 0, listed, Fs, a => L Fs listed a
  | f + 1, listed, Fs, a => Region.ready md ops listed ≠ [] ∧ ∀ i ∈ Region.ready md ops listed, i < n ∧ stepH P ops W mask deps val φ i Fs (fun F' a' => HQ n L f (listed.setIfInBounds i true) F' a') a
def walkE (Fin : (Nat → World → Prop) → Act → Prop) : List Oper → Nat → (Nat → World → Prop) → Act → Prop
  | [], _, Fs, a => Fin Fs a
  | o :: l, k, Fs, a => if mask.getD k false = true then Eff P ops W (deps.getD k []) Fs (val k) (φ k) o a ∧ ∀ h, walkE Fin l (k + 1) (updF Fs k (Since W (φ k) h)) (a.put o.dst (val k h))
    else readB o.op = true ∧ ∃ v, YieldsIn P ops (CG W) o v a ∧ walkE Fin l (k + 1) Fs (a.put o.dst v)

variable {P ops md W mask deps val φ}
theorem yields_unique {o : Oper} {v v' : Value} {a : Act} (hr : readB o.op = true) (h : YieldsIn P ops (CG W) o v a) (h' : YieldsIn P ops (CG W) o v' a) : v = v' := by
  rcases h with ⟨h1, h2⟩ | ⟨h1, rfl⟩
  · rcases h' with ⟨h3, h4⟩ | ⟨h3, _⟩
    · have q1 := h2 W ⟨⟨W, Below.refl _ _⟩, rfl⟩
      have q2 := h4 W ⟨⟨W, Below.refl _ _⟩, rfl⟩
      unfold Oper.quietAt at q1 q2
      cases e : (execOp a.eval o).run P W with
      | ok x w' =>
        rw [e] at q1 q2
        cases x <;> simp only [Oper.quietUpon] at q1 q2
        · exact q1.2.symm.trans q2.2
        · exact q1.2.trans q2.2.symm
        · exact absurd e (execOp_noEnter hr _ _ _ _ _)
      | halt x w' => rw [e] at q1; simp only [Oper.quietUpon] at q1
    · rw [h1] at h3; cases h3
  · rcases h' with ⟨h3, _⟩ | ⟨_, rfl⟩
    · rw [h1] at h3; cases h3
    · rfl

theorem stepH_mono {i : Nat} {Fs : Nat → World → Prop} {K K' : (Nat → World → Prop) → Act → Prop} {a : Act} (h : ∀ F a, K F a → K' F a) (hh : stepH P ops W mask deps val φ i Fs K a) : stepH P ops W mask deps val φ i Fs K' a := by
  obtain ⟨o, ho, hh⟩ := hh
  refine ⟨o, ho, ?_⟩
  split
  · rename_i e; rw [if_pos e] at hh; exact ⟨hh.1, fun v => h _ _ (hh.2 v)⟩
  · rename_i e; rw [if_neg e] at hh; obtain ⟨h1, v, h2, h3⟩ := hh; exact ⟨h1, v, h2, h _ _ h3⟩

theorem stepH_sound {i : Nat} {Fs : Nat → World → Prop} {K : (Nat → World → Prop) → Act → Prop} {K' : Act → World → Prop} {Q' : Exit → Act → World → Prop} {a : Act} {w : World} (hw : CG W w) (hF : ∀ k, Stab (Fs k)) (hFw : ∀ k, Fs k w)
    (h : ∀ F' a' w', (∀ k, Stab (F' k)) → CG W w' → (∀ k, F' k w') → K F' a' → K' a' w') (hh : stepH P ops W mask deps val φ i Fs K a) : wpOp P ops Q' i K' a w := by
  obtain ⟨o, ho, hh⟩ := hh
  by_cases e : mask.getD i false = true
  · rw [if_pos e] at hh
    obtain ⟨⟨h1, h2⟩, h3⟩ := hh
    obtain ⟨g, rfl⟩ := hw
    unfold wpOp
    simp only [ho, h1, if_true]
    refine .inl ?_
    have h4 := h2 g (fun k _ => hFw k)
    have step : ∀ (w' : World) (hl : Hole), Below g.w1.heap.size g.w1 w' → φ i hl w' → K' (a.put o.dst (val i hl)) w' := fun w' hl hb hφ => by
      refine h _ _ _ (stab_upd hF (Stab.since (φ i) hl) i) ⟨⟨w', bthen g.h hb⟩, rfl⟩ (fun k => ?_) (h3 hl)
      unfold updF
      split
      · exact ⟨w', hφ, bthen g.h hb, Below.refl _ _⟩
      · exact hF k _ _ (hFw k) hb
    unfold Oper.wp
    cases e2 : (execOp a.eval o).run P g.w1 with
    | ok x w' =>
      rw [e2] at h4
      cases x <;> simp only [effUpon] at h4 <;> simp only [Oper.upon]
      · obtain ⟨hl, rfl, hb, hφ⟩ := h4
        exact step w' hl hb hφ
      · obtain ⟨rfl, hc⟩ := h4
        refine hc.mono ?_
        rintro e w'' ⟨hl, rfl, hb, hφ⟩
        exact step w'' hl hb hφ
    | halt x w' => rw [e2] at h4; simp only [effUpon] at h4
  · rw [if_neg e] at hh
    obtain ⟨hr, v, hy, hK⟩ := hh
    unfold wpOp
    simp only [ho]
    rcases hy with ⟨h1, h2⟩ | ⟨h1, rfl⟩
    · simp only [h1, if_true]
      refine .inl ?_
      have h4 := h2 w hw
      unfold Oper.quietAt at h4
      unfold Oper.wp
      cases e2 : (execOp a.eval o).run P w with
      | ok x w' =>
        rw [e2] at h4
        cases x <;> simp only [Oper.quietUpon] at h4 <;> simp only [Oper.upon]
        · obtain ⟨rfl, rfl⟩ := h4; exact h _ _ _ hF hw hFw hK
        · obtain ⟨rfl, rfl⟩ := h4; exact h _ _ _ hF hw hFw hK
        · exact absurd e2 (execOp_noEnter hr _ _ _ _ _)
      | halt x w' => rw [e2] at h4; simp only [Oper.quietUpon] at h4
    · simp only [h1, Bool.false_eq_true, if_false]
      exact h _ _ _ hF hw hFw hK

theorem hq_sound {n g : Nat} {L : (Nat → World → Prop) → Array Bool → Act → Prop} {Q' : Exit → Act → World → Prop} (hL : ∀ F listed a w, CG W w → (∀ k, F k w) → L F listed a → wpAny P md ops Q' g listed a w) :
    ∀ (f : Nat) (listed : Array Bool) (F : Nat → World → Prop) (a : Act) (w : World), (∀ k, Stab (F k)) → CG W w → (∀ k, F k w) → HQ P ops md W mask deps val φ n L f listed F a → wpAny P md ops Q' (f + g) listed a w
  | 0, listed, F, a, w, _, hw, hFw, h => by rw [Nat.zero_add]; exact hL _ _ _ _ hw hFw h
  | f + 1, listed, F, a, w, hF, hw, hFw, h => by
    rw [show f + 1 + g = (f + g) + 1 by omega]
    exact ⟨fun h0 => absurd h0 h.1, fun i hi => stepH_sound hw hF hFw (fun F' a' w' hF' hw' hFw' h' => hq_sound hL f _ F' a' w' hF' hw' hFw' h') (h.2 i hi).2⟩

/-- two operations apart: the one first -/
theorem stepH_swap {i j : Nat} {oi oj : Oper} (hi : ops[i]? = some oi) (hj : ops[j]? = some oj) (hij : i ≠ j) (hdi : j ∉ deps.getD i []) (hdj : i ∉ deps.getD j []) (hap : oi.apart ops oj = true) (hsi : ∀ cs b, oi.op ≠ .select cs b) (hsj : ∀ cs b, oj.op ≠ .select cs b) {F : Nat → World → Prop} {K : (Nat → World → Prop) → Act → Prop} {a : Act}
    (h : stepH P ops W mask deps val φ i F (fun F' a' => stepH P ops W mask deps val φ j F' K a') a) : stepH P ops W mask deps val φ j F (fun F' a' => stepH P ops W mask deps val φ i F' K a') a := by
  obtain ⟨h1, h2, h3⟩ := Oper.apart_spec hap
  obtain ⟨o, ho, h⟩ := h
  obtain rfl : oi = o := Option.some.inj (hi.symm.trans ho)
  have nj : ∀ k ∈ deps.getD j [], k ≠ i := fun k hk e => hdj (e ▸ hk)
  have ni : ∀ k ∈ deps.getD i [], k ≠ j := fun k hk e => hdi (e ▸ hk)
  have efj : ∀ v G, Eff P ops W (deps.getD j []) (updF F i G) (val j) (φ j) oj (a.put oi.dst v) → Eff P ops W (deps.getD j []) F (val j) (φ j) oj a := fun v G hy => hy.of_same (fun k hk => (updF_ne F G (nj k hk)).symm) (execOp_put oj hsj a oi.dst v h1).symm (wanted_put oj a oi.dst v h1).symm
  have efj' : ∀ v, Eff P ops W (deps.getD j []) F (val j) (φ j) oj (a.put oi.dst v) → Eff P ops W (deps.getD j []) F (val j) (φ j) oj a := fun v hy => hy.of_same (fun k hk => rfl) (execOp_put oj hsj a oi.dst v h1).symm (wanted_put oj a oi.dst v h1).symm
  have efi : ∀ u G, Eff P ops W (deps.getD i []) F (val i) (φ i) oi a → Eff P ops W (deps.getD i []) (updF F j G) (val i) (φ i) oi (a.put oj.dst u) := fun u G hy => hy.of_same (fun k hk => updF_ne F G (ni k hk)) (execOp_put oi hsi a oj.dst u h3) (wanted_put oi a oj.dst u h3)
  have efi' : ∀ u, Eff P ops W (deps.getD i []) F (val i) (φ i) oi a → Eff P ops W (deps.getD i []) F (val i) (φ i) oi (a.put oj.dst u) := fun u hy => hy.of_same (fun k hk => rfl) (execOp_put oi hsi a oj.dst u h3) (wanted_put oi a oj.dst u h3)
  have rdj : ∀ v u, YieldsIn P ops (CG W) oj u (a.put oi.dst v) → YieldsIn P ops (CG W) oj u a := fun v u hy => hy.of_same (execOp_put oj hsj a oi.dst v h1).symm (wanted_put oj a oi.dst v h1).symm
  have rdi : ∀ u v, YieldsIn P ops (CG W) oi v a → YieldsIn P ops (CG W) oi v (a.put oj.dst u) := fun u v hy => hy.of_same (execOp_put oi hsi a oj.dst u h3) (wanted_put oi a oj.dst u h3)
  have com : ∀ v u, (a.put oi.dst v).put oj.dst u = (a.put oj.dst u).put oi.dst v := fun v u => Act.put_comm a v u h2
  refine ⟨oj, hj, ?_⟩
  by_cases ei : mask.getD i false = true
  · rw [if_pos ei] at h
    obtain ⟨hE, hall⟩ := h
    by_cases ej : mask.getD j false = true
    · rw [if_pos ej]
      constructor
      · obtain ⟨o', ho', h'⟩ := hall default
        obtain rfl : oj = o' := Option.some.inj (hj.symm.trans ho')
        rw [if_pos ej] at h'
        exact efj _ _ h'.1
      · intro u
        refine ⟨oi, hi, ?_⟩
        rw [if_pos ei]
        refine ⟨efi _ _ hE, fun v => ?_⟩
        obtain ⟨o', ho', h'⟩ := hall v
        obtain rfl : oj = o' := Option.some.inj (hj.symm.trans ho')
        rw [if_pos ej] at h'
        have := h'.2 u
        rw [com, updF_comm F _ _ hij] at this
        exact this
    · rw [if_neg ej]
      obtain ⟨o', ho', h'⟩ := hall default
      obtain rfl : oj = o' := Option.some.inj (hj.symm.trans ho')
      rw [if_neg ej] at h'
      obtain ⟨hr, u, hu, _⟩ := h'
      refine ⟨hr, u, rdj _ _ hu, oi, hi, ?_⟩
      rw [if_pos ei]
      refine ⟨efi' _ hE, fun v => ?_⟩
      obtain ⟨o', ho', h'⟩ := hall v
      obtain rfl : oj = o' := Option.some.inj (hj.symm.trans ho')
      rw [if_neg ej] at h'
      obtain ⟨_, u', hu', hK⟩ := h'
      obtain rfl := yields_unique hr (rdj _ _ hu) (rdj _ _ hu')
      rwa [com] at hK
  · rw [if_neg ei] at h
    obtain ⟨hri, v, hv, o', ho', h'⟩ := h
    obtain rfl : oj = o' := Option.some.inj (hj.symm.trans ho')
    by_cases ej : mask.getD j false = true
    · rw [if_pos ej] at h' ⊢
      refine ⟨efj' _ h'.1, fun u => ⟨oi, hi, ?_⟩⟩
      rw [if_neg ei]
      refine ⟨hri, v, rdi _ _ hv, ?_⟩
      have := h'.2 u
      rwa [com] at this
    · rw [if_neg ej] at h' ⊢
      obtain ⟨hrj, u, hu, hK⟩ := h'
      refine ⟨hrj, u, rdj _ _ hu, oi, hi, ?_⟩
      rw [if_neg ei]
      refine ⟨hri, v, rdi _ _ hv, ?_⟩
      rwa [com] at hK

theorem stepH_some {i : Nat} {F : Nat → World → Prop} {K : (Nat → World → Prop) → Act → Prop} {a : Act} (h : stepH P ops W mask deps val φ i F K a) : ∃ F' a', K F' a' := by
  obtain ⟨o, ho, h⟩ := h
  split at h
  · exact ⟨_, _, h.2 default⟩
  · obtain ⟨_, v, _, hK⟩ := h; exact ⟨_, _, hK⟩

theorem keep_set {listed : Array Bool} {x : Nat} (h : listed.getD x false = true) (j : Nat) : (listed.setIfInBounds j true).getD x false = true := by
  by_cases e : j = x
  · subst e
    have : j < listed.size := by
      rcases Nat.lt_or_ge j listed.size with h2 | h2
      · exact h2
      · simp [Array.getElem?_eq_none h2] at h
    simp [this]
  · rw [getD_set_ne false e]; exact h
theorem hq_first {k0 n i : Nat} {oi : Oper} {L : (Nat → World → Prop) → Array Bool → Act → Prop} (hi : ops[i]? = some oi) (hdep : depsB md ops deps = true) (hsel : ∀ (j : Nat) (o : Oper) cs b, ops[j]? = some o → o.op ≠ .select cs b)
    (hs : sinkP md ops k0 n = true) (hc : Region.chainB md ops n = true) (hn : n < ops.size) (hin : i < n)
    (hdone : ∀ F listed a, L F listed a → ∀ j ∈ Region.ready md ops listed, n ≤ j) :
    ∀ (f : Nat) (listed : Array Bool) (F : Nat → World → Prop) (a : Act), HeadInv md ops n listed → (∀ j, j < k0 → listed.getD j false = true) →
      (∀ j oj, ops[j]? = some oj → j ≠ i → listed.getD j true = false → (∀ e ∈ oj.after, Region.binds md e = true → e.on ≠ i) → oi.apart ops oj = true) →
      i ∈ Region.ready md ops listed → stepH P ops W mask deps val φ i F (fun F' a' => HQ P ops md W mask deps val φ n L f (listed.setIfInBounds i true) F' a') a → HQ P ops md W mask deps val φ n L (f + 1) listed F a := by
  intro f
  induction f with
  | zero =>
    intro listed F a inv hk0 _ hr H
    have hun := (mem_ready.1 hr).1
    have hki : k0 ≤ i := by
      rcases Nat.lt_or_ge i k0 with h | h
      · have := hk0 i h; rw [getD_both hun] at this; cases this
      · exact h
    refine ⟨fun h => (by rw [h] at hr; cases hr), fun j hj => ?_⟩
    have hjn : j < n := by
      rcases Nat.lt_or_ge j n with h | h
      · exact h
      · exact absurd hj (tail_waitsP hs hc hn inv hki hin hun j h)
    refine ⟨hjn, ?_⟩
    by_cases hji : j = i
    · subst hji; exact H
    · obtain ⟨F', a', hL⟩ := stepH_some H
      have := hdone _ _ _ hL j (ready_mono hj hji)
      omega
  | succ f ih =>
    intro listed F a inv hk0 hfree hr H
    have hun := (mem_ready.1 hr).1
    have hki : k0 ≤ i := by
      rcases Nat.lt_or_ge i k0 with h | h
      · have := hk0 i h; rw [getD_both hun] at this; cases this
      · exact h
    refine ⟨fun h => (by rw [h] at hr; cases hr), fun j hj => ?_⟩
    have hjn : j < n := by
      rcases Nat.lt_or_ge j n with h | h
      · exact h
      · exact absurd hj (tail_waitsP hs hc hn inv hki hin hun j h)
    refine ⟨hjn, ?_⟩
    by_cases hji : j = i
    · subst hji; exact H
    · obtain ⟨hjun, oj, hoj, hall⟩ := mem_ready.1 hj
      obtain ⟨_, oi', hoi', halli⟩ := mem_ready.1 hr
      obtain rfl : oi = oi' := Option.some.inj (hi.symm.trans hoi')
      have hnot : ∀ e ∈ oj.after, Region.binds md e = true → e.on ≠ i := fun e he hb heq => by
        have h1 := hall e he hb
        rw [heq, getD_both hun] at h1
        cases h1
      have hnoti : ∀ e ∈ oi.after, Region.binds md e = true → e.on ≠ j := fun e he hb heq => by
        have h1 := halli e he hb
        rw [heq, getD_both hjun] at h1
        cases h1
      have hap := hfree j oj hoj hji hjun hnot
      have hdj : i ∉ deps.getD j [] := fun hm => by
        obtain ⟨e, he, hb, e2⟩ := depsB_spec hdep hoj hm
        exact hnot e he hb e2
      have hdi : j ∉ deps.getD i [] := fun hm => by
        obtain ⟨e, he, hb, e2⟩ := depsB_spec hdep hi hm
        exact hnoti e he hb e2
      have H1 : stepH P ops W mask deps val φ i F (fun F' a' => stepH P ops W mask deps val φ j F' (fun F'' a'' => HQ P ops md W mask deps val φ n L f ((listed.setIfInBounds i true).setIfInBounds j true) F'' a'') a') a :=
        stepH_mono (fun F' a' h => (h.2 j (ready_mono hj hji)).2) H
      have H2 := stepH_swap hi hoj (Ne.symm hji) hdi hdj hap (fun cs b => hsel i oi cs b hi) (fun cs b => hsel j oj cs b hoj) H1
      have hfree' : ∀ k ok, ops[k]? = some ok → k ≠ i → (listed.setIfInBounds j true).getD k true = false →
          (∀ e ∈ ok.after, Region.binds md e = true → e.on ≠ i) → oi.apart ops ok = true := fun k ok hk hki hun hno => by
        refine hfree k ok hk hki ?_ hno
        by_cases hjk : j = k
        · subst hjk; exact hjun
        · rw [getD_set_ne true hjk] at hun; exact hun
      refine stepH_mono (fun F' a' h3 => ih (listed.setIfInBounds j true) F' a' (inv.set hj hjn) (fun x hx => keep_set (hk0 x hx) j) hfree' (ready_mono hr (Ne.symm hji)) ?_) H2
      rw [Array.setIfInBounds_comm _ _ hji]
      exact h3

theorem hq_lex {k0 n g : Nat} {Lq : (Nat → World → Prop) → Act → Prop} (hdep : depsB md ops deps = true) (hsel : Region.noSelect ops = true) (hs : sinkP md ops k0 n = true) (hc : Region.chainB md ops n = true) (hn : n < ops.size) :
    ∀ (l : List Oper) (k : Nat) (listed : Array Bool) (F : Nat → World → Prop) (a : Act), (∀ j, j < l.length → l[j]? = ops[k + j]?) → k + l.length = n → HeadInv md ops n listed → (∀ j, j < k0 → listed.getD j false = true) →
    Region.lexHead md ops g l.length k listed = true → walkE P ops W mask deps val φ Lq l k F a →
    HQ P ops md W mask deps val φ n (fun F' listed' a' => Region.seqB md ops g n listed' = true ∧ Lq F' a') l.length listed F a
  | [], k, listed, F, a, _, hk, _, _, hB, h => by
    have : k = n := by simpa using hk
    subst this
    exact ⟨by simpa [Region.lexHead] using hB, h⟩
  | o :: l, k, listed, F, a, hl, hk, inv, hk0, hB, h => by
    have h0 : ops[k]? = some o := by simpa using (hl 0 (by simp)).symm
    simp only [List.length_cons, Region.lexHead, Bool.and_eq_true] at hB
    obtain ⟨⟨hr, hf⟩, hB'⟩ := hB
    have hkn : k < n := by simp only [List.length_cons] at hk; omega
    have hr' : k ∈ Region.ready md ops listed := by simpa using hr
    refine hq_first h0 hdep (Region.noSelect_spec hsel) hs hc hn hkn (fun F' listed' a' hL => seqB_ready hL.1) l.length listed F a inv hk0 (Region.free_spec h0 hf) hr' ⟨o, h0, ?_⟩
    have go : ∀ F' a', walkE P ops W mask deps val φ Lq l (k + 1) F' a' → HQ P ops md W mask deps val φ n (fun F' listed' a' => Region.seqB md ops g n listed' = true ∧ Lq F' a') l.length (listed.setIfInBounds k true) F' a' := fun F' a' h' =>
      hq_lex hdep hsel hs hc hn l (k + 1) _ F' a' (fun j hj => by have := hl (j + 1) (by simp; omega); simpa [Nat.add_assoc, Nat.add_comm 1 j] using this) (by simp only [List.length_cons] at hk; omega) (inv.set hr' hkn) (fun x hx => keep_set (hk0 x hx) k) hB' h'
    unfold walkE at h
    split
    · rename_i e; rw [if_pos e] at h; exact ⟨h.1, fun v => go _ _ (h.2 v)⟩
    · rename_i e; rw [if_neg e] at h; obtain ⟨h1, v, h2, h3⟩ := h; exact ⟨h1, v, h2, go _ _ h3⟩

/-- what is asked of the start: the first k0 operations have been taken -/
def relB (md : Region.Mode) (ops : Array Oper) (deps : List (List Nat)) (k0 n : Nat) (listed : Array Bool) : Bool :=
  Region.noSelect ops && decide (n < ops.size) && decide (k0 ≤ n) && sinkP md ops k0 n && Region.chainB md ops n && Region.lexHead md ops (ops.size - n) (n - k0) k0 listed && depsB md ops deps && decide (listed.size = ops.size) &&
    ((List.range ops.size).all fun j => !listed.getD j false || match ops[j]? with | some o => o.after.all (fun e => !Region.binds md e || listed.getD e.on false) | none => true) &&
    ((List.range ops.size).all fun j => if j < k0 then listed.getD j false else decide (listed.getD j true = false))
/-- **THE LAW**, from some state on -/
theorem wpAny_rel {Q : Exit → Act → World → Prop} {a : Act} {l : List Oper} {listed : Array Bool} {w : World} (k0 n : Nat) (mask : List Bool) (deps : List (List Nat)) (val : Nat → Hole → Value) (φ : Nat → Hole → World → Prop) (hB : relB .any l.toArray deps k0 n listed = true) (hw : CG W w)
    (h : walkE P l.toArray W mask deps val φ (fun F a' => ∀ w', CG W w' → (∀ k, F k w') → wpList P l.toArray Q (l.drop n) a' w') ((l.take n).drop k0) k0 (fun _ _ => True) a) : wpAny P .any l.toArray Q (l.length - k0) listed a w := by
  simp only [relB, Bool.and_eq_true, decide_eq_true_eq] at hB
  obtain ⟨⟨⟨⟨⟨⟨⟨⟨⟨hsel, hn⟩, hkn⟩, hs⟩, hc⟩, hlex⟩, hdep⟩, hsz⟩, hcl⟩, hini⟩ := hB
  have hn' : n < l.length := by simpa using hn
  have htl : ((l.take n).drop k0).length = n - k0 := by simp; omega
  have hdl : (l.drop n).length = l.toArray.size - n := by simp
  have hk0 : ∀ j, j < k0 → listed.getD j false = true := fun j hj => by
    have := List.all_eq_true.1 hini j (List.mem_range.2 (by omega))
    rw [if_pos hj] at this
    exact this
  have hrest : ∀ j, k0 ≤ j → j < l.toArray.size → listed.getD j true = false := fun j hj hjl => by
    have := List.all_eq_true.1 hini j (List.mem_range.2 hjl)
    rw [if_neg (by omega)] at this
    simpa using this
  have inv0 : HeadInv .any l.toArray n listed := by
    refine ⟨hsz, fun j oj hj hl e he hb => ?_, fun t ht htl => hrest t (by omega) htl⟩
    have := List.all_eq_true.1 hcl j (List.mem_range.2 (Array.getElem?_eq_some_iff.1 hj).1)
    rw [hl, hj] at this
    simp only [Bool.not_true, Bool.false_or, Array.all_eq_true] at this
    obtain ⟨x, hx, rfl⟩ := Array.getElem_of_mem he
    have h2 := this x hx
    rw [hb] at h2
    simpa using h2
  have H := hq_lex (md := .any) (g := l.toArray.size - n) hdep hsel hs hc hn ((l.take n).drop k0) k0 listed (fun _ _ => True) a (fun j hj => by
    rw [htl] at hj
    rw [List.getElem?_drop, List.getElem?_take, if_pos (by omega)]
    simp) (by rw [htl]; omega) inv0 hk0 (by rw [htl]; exact hlex) h
  have := hq_sound (Q' := Q) (g := l.toArray.size - n) (fun F listed a' w' hw' hF hL => by
    have := wpAny_of_seq (md := .any) (Q' := Q) (l.drop n) n listed a' w' (fun j => by simp [List.getElem?_drop]) (by rw [hdl]; exact hL.1) (hL.2 w' hw' hF)
    rwa [hdl] at this) _ _ _ _ w (fun _ _ _ _ _ => trivial) hw (fun _ => trivial) H
  rw [htl, show n - k0 + (l.toArray.size - n) = l.length - k0 by simp; omega] at this
  exact this
theorem wp_region_rel {id : Nat} {Q : Exit → Act → World → Prop} {a : Act} {l : List Oper} (n : Nat) (mask : List Bool) (deps : List (List Nat)) (val : Nat → Hole → Value) (φ : Nat → Hole → World → Prop) (hm : P.follows .mixedOrders = true) (hB : relB .any l.toArray deps 0 n (Array.replicate l.toArray.size false) = true)
    (h : walkE P l.toArray W mask deps val φ (fun F a' => ∀ w', CG W w' → (∀ k, F k w') → wpList P l.toArray Q (l.drop n) a' w') (l.take n) 0 (fun _ _ => True) a) : (Code.region id l.toArray true).wp P Q a W := by
  refine wp_region_any hm ?_
  have := wpAny_rel (P := P) (Q := Q) (a := a) (w := W.drew) 0 n mask deps val φ hB ⟨⟨W.drew, below_drewN (Below.refl _ _) 1⟩, rfl⟩ h
  simpa using this

/-- some reads -/
theorem walkE_reads {Fin : (Nat → World → Prop) → Act → Prop} : ∀ (m : Nat) (l : List Oper) (k : Nat) (F : Nat → World → Prop) (a : Act), (l.take m).all (fun o => readB o.op) = true → ((List.range m).all fun j => !mask.getD (k + j) false) = true → m ≤ l.length →
    wpQuiet P ops (CG W) (fun a' => walkE P ops W mask deps val φ Fin (l.drop m) (k + m) F a') (l.take m) a → walkE P ops W mask deps val φ Fin l k F a
  | 0, l, k, F, a, _, _, _, h => by simpa [wpQuiet] using h
  | m + 1, [], k, F, a, _, _, hm, _ => by simp at hm
  | m + 1, o :: l, k, F, a, hr, hE, hm, h => by
    simp only [List.take_succ_cons, List.all_cons, Bool.and_eq_true] at hr
    rw [List.range_succ_eq_map, List.all_cons, Bool.and_eq_true] at hE
    obtain ⟨hE0, hE⟩ := hE
    have hE0' : ¬ mask.getD k false = true := by simpa using hE0
    have hE' : ((List.range m).all fun j => !mask.getD (k + 1 + j) false) = true := by
      rw [List.all_map] at hE
      rw [List.all_eq_true] at hE ⊢
      intro j hj
      have := hE j hj
      simp only [Function.comp] at this
      rw [show k + 1 + j = k + Nat.succ j by omega]
      exact this
    unfold walkE
    rw [if_neg hE0']
    refine ⟨hr.1, ?_⟩
    rw [List.take_succ_cons, List.drop_succ_cons, show k + (m + 1) = k + 1 + m by omega] at h
    unfold wpQuiet at h
    by_cases hw : Region.wanted o (yielded ops a.tmps) = true
    · rw [if_pos hw] at h
      obtain ⟨v, h1, h2⟩ := h
      exact ⟨v, .inl ⟨hw, h1⟩, walkE_reads m l (k + 1) F _ hr.2 hE' (by simp at hm; omega) h2⟩
    · rw [if_neg hw] at h
      exact ⟨undef, .inr ⟨by simpa using hw, rfl⟩, walkE_reads m l (k + 1) F _ hr.2 hE' (by simp at hm; omega) h⟩
theorem walkE_eff {Fin : (Nat → World → Prop) → Act → Prop} {o : Oper} {l : List Oper} {k : Nat} {F : Nat → World → Prop} {a : Act} (hE : mask.getD k false = true) (hw : Region.wanted o (yielded ops a.tmps) = true) (h1 : ∀ g : Gr W, (∀ j ∈ deps.getD k [], F j g.w1) → effUpon P g.w1 (val k) (φ k) ((execOp a.eval o).run P g.w1))
    (h2 : ∀ h, walkE P ops W mask deps val φ Fin l (k + 1) (updF F k (Since W (φ k) h)) (a.put o.dst (val k h))) : walkE P ops W mask deps val φ Fin (o :: l) k F a := by
  unfold walkE
  rw [if_pos hE]
  exact ⟨⟨hw, h1⟩, h2⟩
end
end Go.Proofs.YtaapnflhjbdmlaaGreatDoor
