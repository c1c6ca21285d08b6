/- A region that draws its order, whose head holds reads and operations that make memory, among them several that make blocks apart; then a tail in its order. No condition. -/
import Derived.Test.YtaapnflhjbdmlaaGreatDoorRg
namespace Go.Proofs.YtaapnflhjbdmlaaGreatDoor
open Go.RowKit
attribute [local go_sem] Oper.semAt_some

/-- operations that only read, some more -/
def readB2 : Op → Bool
  | .pick .. | .unOp .. | .convert .. => true
  | .call { callee := .builtin .len, .. } => true
  | .call { callee := .builtin .min, .. } => true
  | o => readB o
theorem noEnter_g {P : Program} {α : Type} {s : Sem α} {g : α → Value} {w w' : World} {f : FuncId} {args : Array Value} : (do let x ← s; pure (Next.value (g x)) : Sem Next).run P w ≠ .ok (.enter f args) w' := by
  intro h
  rw [Sem.run_bind] at h
  cases e : s.run P w with
  | ok v w1 => rw [e] at h; simp [Result.andThen] at h
  | halt x w1 => rw [e] at h; simp [Result.andThen] at h
theorem execOp_noEnter2 {P : Program} {o : Oper} (h : readB2 o.op = true) (ρ : Operand → Value) (w w' : World) (f : FuncId) (args : Array Value) : (execOp ρ o).run P w ≠ .ok (.enter f args) w' := by
  by_cases hb : readB o.op = true
  · exact execOp_noEnter hb ρ w w' f args
  · unfold readB2 at h
    split at h
    · rename_i e
      unfold execOp
      simp only [e]
      exact noEnter_g
    · rename_i e
      unfold execOp
      simp only [e]
      exact noEnter_v
    · rename_i e
      unfold execOp
      simp only [e]
      exact noEnter_v
    · rename_i e
      unfold execOp
      simp only [e, resolve, invoke, builtin, Sem.run_bind, Sem.run_pure, Result.andThen_ok]
      intro h2
      cases e3 : (Sem.run P (_ : Sem Value) w) with
      | ok v w1 => rw [e3] at h2; simp [Result.andThen] at h2
      | halt x w1 => rw [e3] at h2; simp [Result.andThen] at h2
    · rename_i e
      unfold execOp
      simp only [e, resolve, invoke, builtin, Sem.run_bind, Sem.run_pure, Result.andThen_ok]
      intro h2
      cases e3 : (Sem.run P (_ : Sem Value) w) with
      | ok v w1 => rw [e3] at h2; simp [Result.andThen] at h2
      | halt x w1 => rw [e3] at h2; simp [Result.andThen] at h2
    · exact absurd h hb

def updH (hs : Nat → Option Hole) (i : Nat) (h : Hole) : Nat → Option Hole := fun k => if k = i then some h else hs k
theorem updH_same (hs : Nat → Option Hole) (i : Nat) (h : Hole) : updH hs i h i = some h := if_pos rfl
theorem updH_ne (hs : Nat → Option Hole) {i k : Nat} (h : Hole) (hn : k ≠ i) : updH hs i h k = hs k := if_neg hn
theorem updH_comm (hs : Nat → Option Hole) {i j : Nat} (g h : Hole) (hn : i ≠ j) : updH (updH hs i g) j h = updH (updH hs j h) i g := by
  funext k
  unfold updH
  by_cases e1 : k = i <;> by_cases e2 : k = j <;> simp [e1, e2]
  · omega
  · intro e; exact absurd e hn
  · intro e; exact absurd e.symm hn

section
variable {P : Program} {ops : Array Oper} {md : Region.Mode} {W : World}

/-- what is asked of an operation that makes memory -/
def effUponS (P : Program) (w : World) (val : Hole → Value) (φ : Hole → World → Prop) (sp : Bool) : Result Next → Prop
  | .ok (.value v) w' => ∃ h, v = val h ∧ Below w.heap.size w w' ∧ φ h w' ∧ (sp = true → w.heap.size ≤ h.k ∧ h.k < w'.heap.size)
  | .ok (.enter f args) w' => w' = w ∧ Calls P f args w (fun e w'' => ∃ h, e = .returned (val h) ∧ Below w.heap.size w w'' ∧ φ h w'' ∧ (sp = true → w.heap.size ≤ h.k ∧ h.k < w''.heap.size))
  | _ => False
/-- what is known of what has been made -/
def Kn (W : World) (φ : Nat → Hole → World → Prop) (sp : List Bool) (hs : Nat → Option Hole) (w : World) : Prop := ∀ k h, hs k = some h → Since W (φ k) h w ∧ (sp.getD k false = true → h.k < w.heap.size)
def Sep (sp : List Bool) (hs : Nat → Option Hole) : Prop := ∀ i j gi gj, i ≠ j → sp.getD i false = true → sp.getD j false = true → hs i = some gi → hs j = some gj → gi.k ≠ gj.k
theorem Kn.stab {φ : Nat → Hole → World → Prop} {sp : List Bool} {hs : Nat → Option Hole} {w w' : World} (h : Kn W φ sp hs w) (hb : Below w.heap.size w w') : Kn W φ sp hs w' := fun k g hg =>
  ⟨Stab.since (φ k) g _ _ (h k g hg).1 hb, fun e => Nat.lt_of_lt_of_le ((h k g hg).2 e) hb.size⟩
def EffS (P : Program) (ops : Array Oper) (W : World) (ds : List Nat) (hs : Nat → Option Hole) (val : Hole → Value) (φ : Nat → Hole → World → Prop) (i : Nat) (sp : Bool) (o : Oper) (a : Act) : Prop :=
  Region.wanted o (yielded ops a.tmps) = true ∧ ∀ g : Gr W, (∀ k ∈ ds, ∀ h, hs k = some h → Since W (φ k) h g.w1) → effUponS P g.w1 val (φ i) sp ((execOp a.eval o).run P g.w1)
theorem EffS.of_same {ds : List Nat} {hs hs' : Nat → Option Hole} {val : Hole → Value} {φ : Nat → Hole → World → Prop} {i : Nat} {sp : Bool} {o : Oper} {a a' : Act} (h : EffS P ops W ds hs val φ i sp o a) (hF : ∀ k ∈ ds, hs' k = hs k) (he : execOp a'.eval o = execOp a.eval o)
    (hw : Region.wanted o (yielded ops a'.tmps) = Region.wanted o (yielded ops a.tmps)) : EffS P ops W ds hs' val φ i sp o a' := by
  unfold EffS at *
  rw [he, hw]
  exact ⟨h.1, fun g hg => h.2 g fun k hk => by rw [← hF k hk]; exact hg k hk⟩

/-- a read, or what is not wanted -/
def RdB (ops : Array Oper) (o : Oper) (a : Act) : Prop := readB2 o.op = true ∨ Region.wanted o (yielded ops a.tmps) = false
theorem yields_unique2 {o : Oper} {v v' : Value} {a : Act} (hr : readB2 o.op = true) (h : YieldsIn P ops (CG W) o v a) (h' : YieldsIn P ops (CG W) o v' a) : v = v' := by
  rcases h with ⟨h1, h2⟩ | ⟨h1, rfl⟩
  · rcases h' with ⟨h3, h4⟩ | ⟨h3, _⟩
    · have q1 := h2 W ⟨⟨W, Below.refl _ _⟩, rfl⟩
      have q2 := h4 W ⟨⟨W, Below.refl _ _⟩, rfl⟩
      unfold Oper.quietAt at q1 q2
      cases e : (execOp a.eval o).run P W with
      | ok x w' =>
        rw [e] at q1 q2
        cases x <;> simp only [Oper.quietUpon] at q1 q2
        · exact q1.2.symm.trans q2.2
        · exact q1.2.trans q2.2.symm
        · exact absurd e (execOp_noEnter2 hr _ _ _ _ _)
      | halt x w' => rw [e] at q1; simp only [Oper.quietUpon] at q1
    · rw [h1] at h3; cases h3
  · rcases h' with ⟨h3, _⟩ | ⟨_, rfl⟩
    · rw [h1] at h3; cases h3
    · rfl
theorem yields_uniqueS {o : Oper} {v v' : Value} {a : Act} (hr : RdB ops o a) (h : YieldsIn P ops (CG W) o v a) (h' : YieldsIn P ops (CG W) o v' a) : v = v' := by
  rcases hr with hr | hr
  · exact yields_unique2 hr h h'
  · rcases h with ⟨h1, _⟩ | ⟨_, rfl⟩
    · rw [hr] at h1; cases h1
    · rcases h' with ⟨h1, _⟩ | ⟨_, rfl⟩
      · rw [hr] at h1; cases h1
      · rfl
variable (P ops md W) (mask : List Bool) (deps : List (List Nat)) (val : Nat → Hole → Value) (φ : Nat → Hole → World → Prop) (sp : List Bool)
def stepS (i : Nat) (Fs : Nat → Option Hole) (K : (Nat → Option Hole) → Act → Prop) (a : Act) : Prop :=
  ∃ o, ops[i]? = some o ∧ if mask.getD i false = true then EffS P ops W (deps.getD i []) Fs (val i) φ i (sp.getD i false) o a ∧ ∀ h, K (updH Fs i h) (a.put o.dst (val i h))
    else RdB ops o a ∧ ∃ v, YieldsIn P ops (CG W) o v a ∧ K Fs (a.put o.dst v)
def HS (n : Nat) (L : (Nat → Option Hole) → Array Bool → Act → Prop) : Nat → Array Bool → (Nat → Option Hole) → Act → Prop
  | 0, listed, Fs, a => L Fs listed a
  | f + 1, listed, Fs, a => Region.ready md ops listed ≠ [] ∧ ∀ i ∈ Region.ready md ops listed, i < n ∧ stepS P ops W mask deps val φ sp i Fs (fun F' a' => HS n L f (listed.setIfInBounds i true) F' a') a
def walkS (Fin : (Nat → Option Hole) → Act → Prop) : List Oper → Nat → (Nat → Option Hole) → Act → Prop
  | [], _, Fs, a => Fin Fs a
  | o :: l, k, Fs, a => if mask.getD k false = true then EffS P ops W (deps.getD k []) Fs (val k) φ k (sp.getD k false) o a ∧ ∀ h, walkS Fin l (k + 1) (updH Fs k h) (a.put o.dst (val k h))
    else RdB ops o a ∧ ∃ v, YieldsIn P ops (CG W) o v a ∧ walkS Fin l (k + 1) Fs (a.put o.dst v)

variable {P ops md W mask deps val φ sp}
theorem stepS_mono {i : Nat} {Fs : Nat → Option Hole} {K K' : (Nat → Option Hole) → Act → Prop} {a : Act} (h : ∀ F a, K F a → K' F a) (hh : stepS P ops W mask deps val φ sp i Fs K a) : stepS P ops W mask deps val φ sp i Fs K' a := by
  obtain ⟨o, ho, hh⟩ := hh
  refine ⟨o, ho, ?_⟩
  split
  · rename_i e; rw [if_pos e] at hh; exact ⟨hh.1, fun v => h _ _ (hh.2 v)⟩
  · rename_i e; rw [if_neg e] at hh; obtain ⟨h1, v, h2, h3⟩ := hh; exact ⟨h1, v, h2, h _ _ h3⟩

theorem stepS_sound {i : Nat} {Fs : Nat → Option Hole} {K : (Nat → Option Hole) → Act → Prop} {K' : Act → World → Prop} {Q' : Exit → Act → World → Prop} {a : Act} {w : World} (hw : CG W w) (hF : Kn W φ sp Fs w) (hS : Sep sp Fs)
    (h : ∀ F' a' w', CG W w' → Kn W φ sp F' w' → Sep sp F' → K F' a' → K' a' w') (hh : stepS P ops W mask deps val φ sp i Fs K a) : wpOp P ops Q' i K' a w := by
  obtain ⟨o, ho, hh⟩ := hh
  by_cases e : mask.getD i false = true
  · rw [if_pos e] at hh
    obtain ⟨⟨h1, h2⟩, h3⟩ := hh
    obtain ⟨g, rfl⟩ := hw
    unfold wpOp
    simp only [ho, h1, if_true]
    refine .inl ?_
    have h4 := h2 g (fun k _ x hx => (hF k x hx).1)
    have step : ∀ (w' : World) (hl : Hole), Below g.w1.heap.size g.w1 w' → φ i hl w' → (sp.getD i false = true → g.w1.heap.size ≤ hl.k ∧ hl.k < w'.heap.size) → K' (a.put o.dst (val i hl)) w' := fun w' hl hb hφ hsp => by
      refine h _ _ _ ⟨⟨w', bthen g.h hb⟩, rfl⟩ (fun k x hx => ?_) (fun p q gp gq hpq h5 h6 h7 h8 => ?_) (h3 hl)
      · unfold updH at hx
        split at hx
        · rename_i e5
          subst e5
          cases hx
          exact ⟨⟨w', hφ, bthen g.h hb, Below.refl _ _⟩, fun e6 => (hsp e6).2⟩
        · exact hF.stab hb k x hx
      · unfold updH at h7 h8
        split at h7
        · rename_i e5
          subst e5
          cases h7
          rw [if_neg (fun e6 => hpq e6.symm)] at h8
          have := (hF q gq h8).2 h6
          have := (hsp h5).1
          omega
        · split at h8
          · rename_i e5 e6
            subst e6
            cases h8
            have := (hF p gp h7).2 h5
            have := (hsp h6).1
            omega
          · exact hS p q gp gq hpq h5 h6 h7 h8
    unfold Oper.wp
    cases e2 : (execOp a.eval o).run P g.w1 with
    | ok x w' =>
      rw [e2] at h4
      cases x <;> simp only [effUponS] at h4 <;> simp only [Oper.upon]
      · obtain ⟨hl, rfl, hb, hφ, hsp⟩ := h4
        exact step w' hl hb hφ hsp
      · obtain ⟨rfl, hc⟩ := h4
        refine hc.mono ?_
        rintro e w'' ⟨hl, rfl, hb, hφ, hsp⟩
        exact step w'' hl hb hφ hsp
    | halt x w' => rw [e2] at h4; simp only [effUponS] at h4
  · rw [if_neg e] at hh
    obtain ⟨hr, v, hy, hK⟩ := hh
    unfold wpOp
    simp only [ho]
    rcases hy with ⟨h1, h2⟩ | ⟨h1, rfl⟩
    · simp only [h1, if_true]
      refine .inl ?_
      have h4 := h2 w hw
      unfold Oper.quietAt at h4
      unfold Oper.wp
      have hr : readB2 o.op = true := by
        rcases hr with hr | hr
        · exact hr
        · rw [h1] at hr; cases hr
      cases e2 : (execOp a.eval o).run P w with
      | ok x w' =>
        rw [e2] at h4
        cases x <;> simp only [Oper.quietUpon] at h4 <;> simp only [Oper.upon]
        · obtain ⟨rfl, rfl⟩ := h4; exact h _ _ _ hw hF hS hK
        · obtain ⟨rfl, rfl⟩ := h4; exact h _ _ _ hw hF hS hK
        · exact absurd e2 (execOp_noEnter2 hr _ _ _ _ _)
      | halt x w' => rw [e2] at h4; simp only [Oper.quietUpon] at h4
    · simp only [h1, Bool.false_eq_true, if_false]
      exact h _ _ _ hw hF hS hK

theorem hs_sound {n g : Nat} {L : (Nat → Option Hole) → Array Bool → Act → Prop} {Q' : Exit → Act → World → Prop} (hL : ∀ F listed a w, CG W w → Kn W φ sp F w → Sep sp F → L F listed a → wpAny P md ops Q' g listed a w) :
    ∀ (f : Nat) (listed : Array Bool) (F : Nat → Option Hole) (a : Act) (w : World), CG W w → Kn W φ sp F w → Sep sp F → HS P ops md W mask deps val φ sp n L f listed F a → wpAny P md ops Q' (f + g) listed a w
  | 0, listed, F, a, w, hw, hFw, hS, h => by rw [Nat.zero_add]; exact hL _ _ _ _ hw hFw hS h
  | f + 1, listed, F, a, w, hw, hFw, hS, h => by
    rw [show f + 1 + g = (f + g) + 1 by omega]
    exact ⟨fun h0 => absurd h0 h.1, fun i hi => stepS_sound hw hFw hS (fun F' a' w' hw' hFw' hS' h' => hs_sound hL f _ F' a' w' hw' hFw' hS' h') (h.2 i hi).2⟩

/-- two operations apart: the one first -/
theorem stepS_swap {i j : Nat} {oi oj : Oper} (hi : ops[i]? = some oi) (hj : ops[j]? = some oj) (hij : i ≠ j) (hdi : j ∉ deps.getD i []) (hdj : i ∉ deps.getD j []) (hap : oi.apart ops oj = true) (hsi : ∀ cs b, oi.op ≠ .select cs b) (hsj : ∀ cs b, oj.op ≠ .select cs b) {F : Nat → Option Hole} {K : (Nat → Option Hole) → Act → Prop} {a : Act}
    (h : stepS P ops W mask deps val φ sp i F (fun F' a' => stepS P ops W mask deps val φ sp j F' K a') a) : stepS P ops W mask deps val φ sp j F (fun F' a' => stepS P ops W mask deps val φ sp i F' K a') a := by
  obtain ⟨h1, h2, h3⟩ := Oper.apart_spec hap
  obtain ⟨o, ho, h⟩ := h
  obtain rfl : oi = o := Option.some.inj (hi.symm.trans ho)
  have nj : ∀ k ∈ deps.getD j [], k ≠ i := fun k hk e => hdj (e ▸ hk)
  have ni : ∀ k ∈ deps.getD i [], k ≠ j := fun k hk e => hdi (e ▸ hk)
  have efj : ∀ v G, EffS P ops W (deps.getD j []) (updH F i G) (val j) φ j (sp.getD j false) oj (a.put oi.dst v) → EffS P ops W (deps.getD j []) F (val j) φ j (sp.getD j false) oj a := fun v G hy => hy.of_same (fun k hk => (updH_ne F G (nj k hk)).symm) (execOp_put oj hsj a oi.dst v h1).symm (wanted_put oj a oi.dst v h1).symm
  have efj' : ∀ v, EffS P ops W (deps.getD j []) F (val j) φ j (sp.getD j false) oj (a.put oi.dst v) → EffS P ops W (deps.getD j []) F (val j) φ j (sp.getD j false) oj a := fun v hy => hy.of_same (fun k hk => rfl) (execOp_put oj hsj a oi.dst v h1).symm (wanted_put oj a oi.dst v h1).symm
  have efi : ∀ u G, EffS P ops W (deps.getD i []) F (val i) φ i (sp.getD i false) oi a → EffS P ops W (deps.getD i []) (updH F j G) (val i) φ i (sp.getD i false) oi (a.put oj.dst u) := fun u G hy => hy.of_same (fun k hk => updH_ne F G (ni k hk)) (execOp_put oi hsi a oj.dst u h3) (wanted_put oi a oj.dst u h3)
  have efi' : ∀ u, EffS P ops W (deps.getD i []) F (val i) φ i (sp.getD i false) oi a → EffS P ops W (deps.getD i []) F (val i) φ i (sp.getD i false) oi (a.put oj.dst u) := fun u hy => hy.of_same (fun k hk => rfl) (execOp_put oi hsi a oj.dst u h3) (wanted_put oi a oj.dst u h3)
  have rdj : ∀ v u, YieldsIn P ops (CG W) oj u (a.put oi.dst v) → YieldsIn P ops (CG W) oj u a := fun v u hy => hy.of_same (execOp_put oj hsj a oi.dst v h1).symm (wanted_put oj a oi.dst v h1).symm
  have rdi : ∀ u v, YieldsIn P ops (CG W) oi v a → YieldsIn P ops (CG W) oi v (a.put oj.dst u) := fun u v hy => hy.of_same (execOp_put oi hsi a oj.dst u h3) (wanted_put oi a oj.dst u h3)
  have rbj : ∀ v, RdB ops oj (a.put oi.dst v) → RdB ops oj a := fun v h => h.imp id fun h => by rw [← wanted_put oj a oi.dst v h1]; exact h
  have rbi : ∀ u, RdB ops oi a → RdB ops oi (a.put oj.dst u) := fun u h => h.imp id fun h => by rw [wanted_put oi a oj.dst u h3]; exact h
  have com : ∀ v u, (a.put oi.dst v).put oj.dst u = (a.put oj.dst u).put oi.dst v := fun v u => Act.put_comm a v u h2
  refine ⟨oj, hj, ?_⟩
  by_cases ei : mask.getD i false = true
  · rw [if_pos ei] at h
    obtain ⟨hE, hall⟩ := h
    by_cases ej : mask.getD j false = true
    · rw [if_pos ej]
      constructor
      · obtain ⟨o', ho', h'⟩ := hall default
        obtain rfl : oj = o' := Option.some.inj (hj.symm.trans ho')
        rw [if_pos ej] at h'
        exact efj _ _ h'.1
      · intro u
        refine ⟨oi, hi, ?_⟩
        rw [if_pos ei]
        refine ⟨efi _ _ hE, fun v => ?_⟩
        obtain ⟨o', ho', h'⟩ := hall v
        obtain rfl : oj = o' := Option.some.inj (hj.symm.trans ho')
        rw [if_pos ej] at h'
        have := h'.2 u
        rw [com, updH_comm F _ _ hij] at this
        exact this
    · rw [if_neg ej]
      obtain ⟨o', ho', h'⟩ := hall default
      obtain rfl : oj = o' := Option.some.inj (hj.symm.trans ho')
      rw [if_neg ej] at h'
      obtain ⟨hr, u, hu, _⟩ := h'
      refine ⟨rbj _ hr, u, rdj _ _ hu, oi, hi, ?_⟩
      rw [if_pos ei]
      refine ⟨efi' _ hE, fun v => ?_⟩
      obtain ⟨o', ho', h'⟩ := hall v
      obtain rfl : oj = o' := Option.some.inj (hj.symm.trans ho')
      rw [if_neg ej] at h'
      obtain ⟨_, u', hu', hK⟩ := h'
      obtain rfl := yields_uniqueS (rbj _ hr) (rdj _ _ hu) (rdj _ _ hu')
      rwa [com] at hK
  · rw [if_neg ei] at h
    obtain ⟨hri, v, hv, o', ho', h'⟩ := h
    obtain rfl : oj = o' := Option.some.inj (hj.symm.trans ho')
    by_cases ej : mask.getD j false = true
    · rw [if_pos ej] at h' ⊢
      refine ⟨efj' _ h'.1, fun u => ⟨oi, hi, ?_⟩⟩
      rw [if_neg ei]
      refine ⟨rbi _ hri, v, rdi _ _ hv, ?_⟩
      have := h'.2 u
      rwa [com] at this
    · rw [if_neg ej] at h' ⊢
      obtain ⟨hrj, u, hu, hK⟩ := h'
      refine ⟨rbj _ hrj, u, rdj _ _ hu, oi, hi, ?_⟩
      rw [if_neg ei]
      refine ⟨rbi _ hri, v, rdi _ _ hv, ?_⟩
      rwa [com] at hK

theorem stepS_some {i : Nat} {F : Nat → Option Hole} {K : (Nat → Option Hole) → Act → Prop} {a : Act} (h : stepS P ops W mask deps val φ sp i F K a) : ∃ F' a', K F' a' := by
  obtain ⟨o, ho, h⟩ := h
  split at h
  · exact ⟨_, _, h.2 default⟩
  · obtain ⟨_, v, _, hK⟩ := h; exact ⟨_, _, hK⟩

theorem hs_first {k0 n i : Nat} {oi : Oper} {L : (Nat → Option Hole) → Array Bool → Act → Prop} (hi : ops[i]? = some oi) (hdep : depsB md ops deps = true) (hsel : ∀ (j : Nat) (o : Oper) cs b, ops[j]? = some o → o.op ≠ .select cs b)
    (hs : sinkP md ops k0 n = true) (hc : Region.chainB md ops n = true) (hn : n < ops.size) (hin : i < n)
    (hdone : ∀ F listed a, L F listed a → ∀ j ∈ Region.ready md ops listed, n ≤ j) :
    ∀ (f : Nat) (listed : Array Bool) (F : Nat → Option Hole) (a : Act), HeadInv md ops n listed → (∀ j, j < k0 → listed.getD j false = true) →
      (∀ j oj, ops[j]? = some oj → j ≠ i → listed.getD j true = false → (∀ e ∈ oj.after, Region.binds md e = true → e.on ≠ i) → oi.apart ops oj = true) →
      i ∈ Region.ready md ops listed → stepS P ops W mask deps val φ sp i F (fun F' a' => HS P ops md W mask deps val φ sp n L f (listed.setIfInBounds i true) F' a') a → HS P ops md W mask deps val φ sp n L (f + 1) listed F a := by
  intro f
  induction f with
  | zero =>
    intro listed F a inv hk0 _ hr H
    have hun := (mem_ready.1 hr).1
    have hki : k0 ≤ i := by
      rcases Nat.lt_or_ge i k0 with h | h
      · have := hk0 i h; rw [getD_both hun] at this; cases this
      · exact h
    refine ⟨fun h => (by rw [h] at hr; cases hr), fun j hj => ?_⟩
    have hjn : j < n := by
      rcases Nat.lt_or_ge j n with h | h
      · exact h
      · exact absurd hj (tail_waitsP hs hc hn inv hki hin hun j h)
    refine ⟨hjn, ?_⟩
    by_cases hji : j = i
    · subst hji; exact H
    · obtain ⟨F', a', hL⟩ := stepS_some H
      have := hdone _ _ _ hL j (ready_mono hj hji)
      omega
  | succ f ih =>
    intro listed F a inv hk0 hfree hr H
    have hun := (mem_ready.1 hr).1
    have hki : k0 ≤ i := by
      rcases Nat.lt_or_ge i k0 with h | h
      · have := hk0 i h; rw [getD_both hun] at this; cases this
      · exact h
    refine ⟨fun h => (by rw [h] at hr; cases hr), fun j hj => ?_⟩
    have hjn : j < n := by
      rcases Nat.lt_or_ge j n with h | h
      · exact h
      · exact absurd hj (tail_waitsP hs hc hn inv hki hin hun j h)
    refine ⟨hjn, ?_⟩
    by_cases hji : j = i
    · subst hji; exact H
    · obtain ⟨hjun, oj, hoj, hall⟩ := mem_ready.1 hj
      obtain ⟨_, oi', hoi', halli⟩ := mem_ready.1 hr
      obtain rfl : oi = oi' := Option.some.inj (hi.symm.trans hoi')
      have hnot : ∀ e ∈ oj.after, Region.binds md e = true → e.on ≠ i := fun e he hb heq => by
        have h1 := hall e he hb
        rw [heq, getD_both hun] at h1
        cases h1
      have hnoti : ∀ e ∈ oi.after, Region.binds md e = true → e.on ≠ j := fun e he hb heq => by
        have h1 := halli e he hb
        rw [heq, getD_both hjun] at h1
        cases h1
      have hap := hfree j oj hoj hji hjun hnot
      have hdj : i ∉ deps.getD j [] := fun hm => by
        obtain ⟨e, he, hb, e2⟩ := depsB_spec hdep hoj hm
        exact hnot e he hb e2
      have hdi : j ∉ deps.getD i [] := fun hm => by
        obtain ⟨e, he, hb, e2⟩ := depsB_spec hdep hi hm
        exact hnoti e he hb e2
      have H1 : stepS P ops W mask deps val φ sp i F (fun F' a' => stepS P ops W mask deps val φ sp j F' (fun F'' a'' => HS P ops md W mask deps val φ sp n L f ((listed.setIfInBounds i true).setIfInBounds j true) F'' a'') a') a :=
        stepS_mono (fun F' a' h => (h.2 j (ready_mono hj hji)).2) H
      have H2 := stepS_swap hi hoj (Ne.symm hji) hdi hdj hap (fun cs b => hsel i oi cs b hi) (fun cs b => hsel j oj cs b hoj) H1
      have hfree' : ∀ k ok, ops[k]? = some ok → k ≠ i → (listed.setIfInBounds j true).getD k true = false →
          (∀ e ∈ ok.after, Region.binds md e = true → e.on ≠ i) → oi.apart ops ok = true := fun k ok hk hki hun hno => by
        refine hfree k ok hk hki ?_ hno
        by_cases hjk : j = k
        · subst hjk; exact hjun
        · rw [getD_set_ne true hjk] at hun; exact hun
      refine stepS_mono (fun F' a' h3 => ih (listed.setIfInBounds j true) F' a' (inv.set hj hjn) (fun x hx => keep_set (hk0 x hx) j) hfree' (ready_mono hr (Ne.symm hji)) ?_) H2
      rw [Array.setIfInBounds_comm _ _ hji]
      exact h3

theorem hs_lex {k0 n g : Nat} {Lq : (Nat → Option Hole) → Act → Prop} (hdep : depsB md ops deps = true) (hsel : Region.noSelect ops = true) (hs : sinkP md ops k0 n = true) (hc : Region.chainB md ops n = true) (hn : n < ops.size) :
    ∀ (l : List Oper) (k : Nat) (listed : Array Bool) (F : Nat → Option Hole) (a : Act), (∀ j, j < l.length → l[j]? = ops[k + j]?) → k + l.length = n → HeadInv md ops n listed → (∀ j, j < k0 → listed.getD j false = true) →
    Region.lexHead md ops g l.length k listed = true → walkS P ops W mask deps val φ sp Lq l k F a →
    HS P ops md W mask deps val φ sp n (fun F' listed' a' => Region.seqB md ops g n listed' = true ∧ Lq F' a') l.length listed F a
  | [], k, listed, F, a, _, hk, _, _, hB, h => by
    have : k = n := by simpa using hk
    subst this
    exact ⟨by simpa [Region.lexHead] using hB, h⟩
  | o :: l, k, listed, F, a, hl, hk, inv, hk0, hB, h => by
    have h0 : ops[k]? = some o := by simpa using (hl 0 (by simp)).symm
    simp only [List.length_cons, Region.lexHead, Bool.and_eq_true] at hB
    obtain ⟨⟨hr, hf⟩, hB'⟩ := hB
    have hkn : k < n := by simp only [List.length_cons] at hk; omega
    have hr' : k ∈ Region.ready md ops listed := by simpa using hr
    refine hs_first h0 hdep (Region.noSelect_spec hsel) hs hc hn hkn (fun F' listed' a' hL => seqB_ready hL.1) l.length listed F a inv hk0 (Region.free_spec h0 hf) hr' ⟨o, h0, ?_⟩
    have go : ∀ F' a', walkS P ops W mask deps val φ sp Lq l (k + 1) F' a' → HS P ops md W mask deps val φ sp n (fun F' listed' a' => Region.seqB md ops g n listed' = true ∧ Lq F' a') l.length (listed.setIfInBounds k true) F' a' := fun F' a' h' =>
      hs_lex hdep hsel hs hc hn l (k + 1) _ F' a' (fun j hj => by have := hl (j + 1) (by simp; omega); simpa [Nat.add_assoc, Nat.add_comm 1 j] using this) (by simp only [List.length_cons] at hk; omega) (inv.set hr' hkn) (fun x hx => keep_set (hk0 x hx) k) hB' h'
    unfold walkS at h
    split
    · rename_i e; rw [if_pos e] at h; exact ⟨h.1, fun v => go _ _ (h.2 v)⟩
    · rename_i e; rw [if_neg e] at h; obtain ⟨h1, v, h2, h3⟩ := h; exact ⟨h1, v, h2, go _ _ h3⟩

/-- **THE LAW**, from some state on -/
theorem wpAny_rels {Q : Exit → Act → World → Prop} {a : Act} {l : List Oper} {listed : Array Bool} {w : World} (k0 n : Nat) (mask : List Bool) (deps : List (List Nat)) (val : Nat → Hole → Value) (φ : Nat → Hole → World → Prop) (sp : List Bool) (hB : relB .any l.toArray deps k0 n listed = true) (hw : CG W w)
    (h : walkS P l.toArray W mask deps val φ sp (fun F a' => ∀ w', CG W w' → Kn W φ sp F w' → Sep sp F → wpList P l.toArray Q (l.drop n) a' w') ((l.take n).drop k0) k0 (fun _ => none) a) : wpAny P .any l.toArray Q (l.length - k0) listed a w := by
  simp only [relB, Bool.and_eq_true, decide_eq_true_eq] at hB
  obtain ⟨⟨⟨⟨⟨⟨⟨⟨⟨hsel, hn⟩, hkn⟩, hs⟩, hc⟩, hlex⟩, hdep⟩, hsz⟩, hcl⟩, hini⟩ := hB
  have hn' : n < l.length := by simpa using hn
  have htl : ((l.take n).drop k0).length = n - k0 := by simp; omega
  have hdl : (l.drop n).length = l.toArray.size - n := by simp
  have hk0 : ∀ j, j < k0 → listed.getD j false = true := fun j hj => by
    have := List.all_eq_true.1 hini j (List.mem_range.2 (by omega))
    rw [if_pos hj] at this
    exact this
  have hrest : ∀ j, k0 ≤ j → j < l.toArray.size → listed.getD j true = false := fun j hj hjl => by
    have := List.all_eq_true.1 hini j (List.mem_range.2 hjl)
    rw [if_neg (by omega)] at this
    simpa using this
  have inv0 : HeadInv .any l.toArray n listed := by
    refine ⟨hsz, fun j oj hj hl e he hb => ?_, fun t ht htl => hrest t (by omega) htl⟩
    have := List.all_eq_true.1 hcl j (List.mem_range.2 (Array.getElem?_eq_some_iff.1 hj).1)
    rw [hl, hj] at this
    simp only [Bool.not_true, Bool.false_or, Array.all_eq_true] at this
    obtain ⟨x, hx, rfl⟩ := Array.getElem_of_mem he
    have h2 := this x hx
    rw [hb] at h2
    simpa using h2
  have H := hs_lex (md := .any) (g := l.toArray.size - n) hdep hsel hs hc hn ((l.take n).drop k0) k0 listed (fun _ => none) a (fun j hj => by
    rw [htl] at hj
    rw [List.getElem?_drop, List.getElem?_take, if_pos (by omega)]
    simp) (by rw [htl]; omega) inv0 hk0 (by rw [htl]; exact hlex) h
  have := hs_sound (Q' := Q) (g := l.toArray.size - n) (fun F listed a' w' hw' hF hS hL => by
    have := wpAny_of_seq (md := .any) (Q' := Q) (l.drop n) n listed a' w' (fun j => by simp [List.getElem?_drop]) (by rw [hdl]; exact hL.1) (hL.2 w' hw' hF hS)
    rwa [hdl] at this) _ _ _ _ w hw (fun _ _ h => by cases h) (fun _ _ _ _ _ _ _ h => by cases h) H
  rw [htl, show n - k0 + (l.toArray.size - n) = l.length - k0 by simp; omega] at this
  exact this
theorem wp_region_rels {id : Nat} {Q : Exit → Act → World → Prop} {a : Act} {l : List Oper} (n : Nat) (mask : List Bool) (deps : List (List Nat)) (val : Nat → Hole → Value) (φ : Nat → Hole → World → Prop) (sp : List Bool) (hm : P.follows .mixedOrders = true) (hB : relB .any l.toArray deps 0 n (Array.replicate l.toArray.size false) = true)
    (h : walkS P l.toArray W mask deps val φ sp (fun F a' => ∀ w', CG W w' → Kn W φ sp F w' → Sep sp F → wpList P l.toArray Q (l.drop n) a' w') (l.take n) 0 (fun _ => none) a) : (Code.region id l.toArray true).wp P Q a W := by
  refine wp_region_any hm ?_
  have := wpAny_rels (P := P) (Q := Q) (a := a) (w := W.drew) 0 n mask deps val φ sp hB ⟨⟨W.drew, below_drewN (Below.refl _ _) 1⟩, rfl⟩ h
  simpa using this

/-- some reads -/
theorem walkS_reads {Fin : (Nat → Option Hole) → Act → Prop} : ∀ (m : Nat) (l : List Oper) (k : Nat) (F : Nat → Option Hole) (a : Act), (l.take m).all (fun o => readB2 o.op) = true → ((List.range m).all fun j => !mask.getD (k + j) false) = true → m ≤ l.length →
    wpQuiet P ops (CG W) (fun a' => walkS P ops W mask deps val φ sp Fin (l.drop m) (k + m) F a') (l.take m) a → walkS P ops W mask deps val φ sp Fin l k F a
  | 0, l, k, F, a, _, _, _, h => by simpa [wpQuiet] using h
  | m + 1, [], k, F, a, _, _, hm, _ => by simp at hm
  | m + 1, o :: l, k, F, a, hr, hE, hm, h => by
    simp only [List.take_succ_cons, List.all_cons, Bool.and_eq_true] at hr
    rw [List.range_succ_eq_map, List.all_cons, Bool.and_eq_true] at hE
    obtain ⟨hE0, hE⟩ := hE
    have hE0' : ¬ mask.getD k false = true := by simpa using hE0
    have hE' : ((List.range m).all fun j => !mask.getD (k + 1 + j) false) = true := by
      rw [List.all_map] at hE
      rw [List.all_eq_true] at hE ⊢
      intro j hj
      have := hE j hj
      simp only [Function.comp] at this
      rw [show k + 1 + j = k + Nat.succ j by omega]
      exact this
    unfold walkS
    rw [if_neg hE0']
    refine ⟨.inl hr.1, ?_⟩
    rw [List.take_succ_cons, List.drop_succ_cons, show k + (m + 1) = k + 1 + m by omega] at h
    unfold wpQuiet at h
    by_cases hw : Region.wanted o (yielded ops a.tmps) = true
    · rw [if_pos hw] at h
      obtain ⟨v, h1, h2⟩ := h
      exact ⟨v, .inl ⟨hw, h1⟩, walkS_reads m l (k + 1) F _ hr.2 hE' (by simp at hm; omega) h2⟩
    · rw [if_neg hw] at h
      exact ⟨undef, .inr ⟨by simpa using hw, rfl⟩, walkS_reads m l (k + 1) F _ hr.2 hE' (by simp at hm; omega) h⟩
theorem walkS_eff {Fin : (Nat → Option Hole) → Act → Prop} {o : Oper} {l : List Oper} {k : Nat} {F : Nat → Option Hole} {a : Act} (hE : mask.getD k false = true) (hw : Region.wanted o (yielded ops a.tmps) = true) (h1 : ∀ g : Gr W, (∀ j ∈ deps.getD k [], ∀ h, F j = some h → Since W (φ j) h g.w1) → effUponS P g.w1 (val k) (φ k) (sp.getD k false) ((execOp a.eval o).run P g.w1))
    (h2 : ∀ h, walkS P ops W mask deps val φ sp Fin l (k + 1) (updH F k h) (a.put o.dst (val k h))) : walkS P ops W mask deps val φ sp Fin (o :: l) k F a := by
  unfold walkS
  rw [if_pos hE]
  exact ⟨⟨hw, h1⟩, h2⟩
theorem walkS_skip {Fin : (Nat → Option Hole) → Act → Prop} {o : Oper} {l : List Oper} {k : Nat} {F : Nat → Option Hole} {a : Act} (hE : ¬ mask.getD k false = true) (hw : Region.wanted o (yielded ops a.tmps) = false)
    (h2 : walkS P ops W mask deps val φ sp Fin l (k + 1) F (a.put o.dst undef)) : walkS P ops W mask deps val φ sp Fin (o :: l) k F a := by
  unfold walkS
  rw [if_neg hE]
  exact ⟨.inr hw, undef, .inr ⟨hw, rfl⟩, h2⟩
end
end Go.Proofs.YtaapnflhjbdmlaaGreatDoor
