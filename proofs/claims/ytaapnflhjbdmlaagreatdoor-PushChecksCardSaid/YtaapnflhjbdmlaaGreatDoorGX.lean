/- A region that draws and only reads (or grows), inside a round of a range over a function. A region that draws, inside a round: a head that only reads or adds memory, then a tail in its order. No condition. A region that draws, inside a round: reads, one operation that turns the world (the making of a slice), then a tail in its order. No condition. -/
import Derived.Sort.BigQuietIn
import Derived.Test.YtaapnflhjbdmlaaGreatDoorGrow
import Derived.OwnWalkIn
namespace Go.Proofs.YtaapnflhjbdmlaaGreatDoor
section
open Go.RowKit

section
variable {F : Fence} {n : Nat} {P : Program} {ops : Array Oper} {md : Region.Mode} {C : World → Prop}
def noDefer (l : List Oper) : Bool := l.all fun o => match o.op with | .defer _ => false | _ => true
theorem noDefer_at {ops : Array Oper} (h : noDefer ops.toList = true) {i : Nat} {o : Oper} (ho : ops[i]? = some o) : ∀ c, o.op ≠ .defer c := by
  intro c hc
  have h1 := List.all_eq_true.1 h o (by
    have := Array.mem_of_getElem? ho
    exact Array.mem_toList_iff.2 this)
  rw [hc] at h1
  cases h1
theorem Oper_wpIn_of_quietR {o : Oper} {a : Act} {K : Act → Prop} {K' : Act → World → Prop} {Q' : Exit → Act → World → Prop} {w : World} (hnd : ∀ c, o.op ≠ .defer c) (hw : C w) (h : ∀ a w', C w' → K a → K' a w')
    (ha : o.askedIn F P a C) (hh : o.quietIn F n P a C K) : o.wpIn F n P a w K' Q' := by
  obtain ⟨v, h1, h2⟩ := hh
  have h3 := h1 w hw
  unfold Oper.quietAtIn at h3
  unfold Oper.wpIn
  refine ⟨ha w hw, ?_⟩
  rw [Oper.semAt_eq F.round _ _ hnd]
  generalize (execOp a.eval o).run P w = r at *
  cases r with
  | ok x w' =>
    cases x <;> simp only [Oper.quietUponIn] at h3 <;> simp only [Oper.uponIn]
    case value u =>
      obtain ⟨e1, e2⟩ := h3
      rw [e1, e2]
      exact h _ _ hw h2
    case skip =>
      obtain ⟨e1, e2⟩ := h3
      rw [e1, ← e2]
      exact h _ _ hw h2
    case enter f args =>
      obtain ⟨e1, hd, hc⟩ := h3
      rw [e1]
      exact ⟨hd, hc.mono fun e w'' ⟨he, hw''⟩ => by subst he; exact h _ _ hw'' h2⟩
  | halt x w' => simp only [Oper.quietUponIn] at h3
theorem wpOpIn_of_qOpInR {i : Nat} {a : Act} {K : Act → Prop} {K' : Act → World → Prop} {Q' : Exit → Act → World → Prop} {w : World} (hnd : noDefer ops.toList = true) (hC : C w) (h : ∀ a w', C w' → K a → K' a w')
    (hh : qOpIn F n P ops C i K a) : wpOpIn F n P ops Q' i K' a w := by
  unfold qOpIn at hh
  unfold wpOpIn
  split
  · rename_i ho; simp only [ho] at hh; exact h _ _ hC hh
  · rename_i o ho
    simp only [ho] at hh
    obtain ⟨ha, hh⟩ := hh
    split
    · rename_i hw; simp only [hw, if_true] at hh; exact Oper_wpIn_of_quietR (noDefer_at hnd ho) hC h ha hh
    · rename_i hw; simp only [hw] at hh; exact ⟨ha w hC, h _ _ hC hh⟩
theorem wpAnyIn_of_quietR {Q : Act → Prop} {Q' : Exit → Act → World → Prop} (hnd : noDefer ops.toList = true) (hQ : ∀ a w, C w → Q a → Q' .normal a w) : ∀ (fuel : Nat) (listed : Array Bool) (a : Act) (w : World), C w →
    wpAnyQIn F n P md ops C Q fuel listed a → wpAnyIn F n P md ops Q' fuel listed a w
  | 0, _, _, _, hw, h => ⟨h.1, hQ _ _ hw h.2⟩
  | fuel + 1, _, _, _, hw, h => ⟨fun h0 => hQ _ _ hw (h.1 h0), fun i hi => wpOpIn_of_qOpInR hnd hw (fun a' w' hw' => wpAnyIn_of_quietR hnd hQ fuel _ a' w' hw') (h.2 i hi)⟩
theorem wpIn_region_quietR {id : Nat} {Q : Exit → Act → World → Prop} {a : Act} {w : World} (hnd : noDefer ops.toList = true) (hm : P.follows .mixedOrders = true) (hB : Region.lexB .any ops = true) (hC : C { w with drawn := w.drawn + 1 })
    (h : wpQuietIn F n P ops C (fun a' => ∀ w', C w' → Q .normal a' w') ops.toList a) : (Code.region id ops true).wpIn F n P Q a w := by
  simp only [Region.lexB, Bool.and_eq_true] at hB
  refine wpIn_region_any hm (wpAnyIn_of_quietR (Q := fun a' => ∀ w', C w' → Q .normal a' w') hnd (fun _ w' hw' h => h w' hw') _ _ _ _ hC ?_)
  have := wpAnyQIn_lex (F := F) (n := n) (C := C) (md := .any) hB.1 ops.toList 0 (Array.replicate ops.size false) a (by simp) (by simpa using hB.2) h
  simpa using this
theorem wpIn_region_quietR_lit {id : Nat} {Q : Exit → Act → World → Prop} {a : Act} {w : World} {l : List Oper} (hnd : noDefer l = true) (hm : P.follows .mixedOrders = true) (hB : Region.lexB .any l.toArray = true)
    (h : wpQuietIn F n P l.toArray (fun w' => ∃ n, w' = w.drewN n) (fun a' => ∀ w', (∃ n, w' = w.drewN n) → Q .normal a' w') l a) : (Code.region id l.toArray true).wpIn F n P Q a w :=
  wpIn_region_quietR (C := fun w' => ∃ n, w' = w.drewN n) (by simpa using hnd) hm hB ⟨1, rfl⟩ (by simpa using h)
end
end
section
open Go.RowKit

section
variable {F : Fence} {nF : Nat} {P : Program} {ops : Array Oper} {md : Region.Mode} {C : World → Prop}

def wpAnyQLIn (F : Fence) (nF : Nat) (P : Program) (md : Region.Mode) (ops : Array Oper) (C : World → Prop) (n : Nat) (L : Array Bool → Act → Prop) : Nat → Array Bool → Act → Prop
  | 0, listed, a => L listed a
  | f + 1, listed, a =>
    Region.ready md ops listed ≠ [] ∧ ∀ i ∈ Region.ready md ops listed, i < n ∧ qOpIn F nF P ops C i (wpAnyQLIn F nF P md ops C n L f (listed.setIfInBounds i true)) a

theorem wpAnyIn_of_headQ {n g : Nat} {L : Array Bool → Act → Prop} {Q' : Exit → Act → World → Prop} (hnd : noDefer ops.toList = true) (hL : ∀ listed a w, C w → L listed a → wpAnyIn F nF P md ops Q' g listed a w) :
    ∀ (f : Nat) (listed : Array Bool) (a : Act) (w : World), C w → wpAnyQLIn F nF P md ops C n L f listed a → wpAnyIn F nF P md ops Q' (f + g) listed a w
  | 0, listed, a, w, hw, h => by rw [Nat.zero_add]; exact hL _ _ _ hw h
  | f + 1, listed, a, w, hw, h => by
    rw [show f + 1 + g = (f + g) + 1 by omega]
    exact ⟨fun h0 => absurd h0 h.1, fun i hi => wpOpIn_of_qOpInR hnd hw (fun a' w' hw' h' => wpAnyIn_of_headQ hnd hL f _ a' w' hw' h') (h.2 i hi).2⟩

theorem wpAnyQLIn_first {n i : Nat} {oi : Oper} {v : Value} {L : Array Bool → Act → Prop} (hi : ops[i]? = some oi) (hsel : ∀ (j : Nat) (o : Oper) cs b, ops[j]? = some o → o.op ≠ .select cs b)
    (hs : Region.sinkB md ops n = true) (hc : Region.chainB md ops n = true) (hn : n < ops.size) (hin : i < n)
    (hdone : ∀ listed a, L listed a → ∀ j ∈ Region.ready md ops listed, n ≤ j) :
    ∀ (f : Nat) (listed : Array Bool) (a : Act), HeadInv md ops n listed →
      (∀ j oj, ops[j]? = some oj → j ≠ i → listed.getD j true = false → (∀ e ∈ oj.after, Region.binds md e = true → e.on ≠ i) → oi.apart ops oj = true) →
      i ∈ Region.ready md ops listed → YieldsQuiet F nF P ops C oi v a →
      wpAnyQLIn F nF P md ops C n L f (listed.setIfInBounds i true) (a.put oi.dst v) → wpAnyQLIn F nF P md ops C n L (f + 1) listed a := by
  intro f
  induction f with
  | zero =>
    intro listed a inv _ hr hy H
    have hun := (mem_ready.1 hr).1
    refine ⟨fun h => (by rw [h] at hr; cases hr), fun j hj => ?_⟩
    have hjn : j < n := by
      rcases Nat.lt_or_ge j n with h | h
      · exact h
      · exact absurd hj (tail_waits hs hc hn inv _ i rfl hin hun j h)
    refine ⟨hjn, ?_⟩
    by_cases hji : j = i
    · subst hji; exact hy.qOpIn hi H
    · have := hdone _ _ H j (ready_mono hj hji)
      omega
  | succ f ih =>
    intro listed a inv hfree hr hy H
    have hun := (mem_ready.1 hr).1
    refine ⟨fun h => (by rw [h] at hr; cases hr), fun j hj => ?_⟩
    have hjn : j < n := by
      rcases Nat.lt_or_ge j n with h | h
      · exact h
      · exact absurd hj (tail_waits hs hc hn inv _ i rfl hin hun j h)
    refine ⟨hjn, ?_⟩
    by_cases hji : j = i
    · subst hji; exact hy.qOpIn hi H
    · have h1 := (H.2 j (ready_mono hj hji)).2
      obtain ⟨hjun, oj, hoj, hall⟩ := mem_ready.1 hj
      have hnot : ∀ e ∈ oj.after, Region.binds md e = true → e.on ≠ i := fun e he hb heq => by
        have h1 := hall e he hb
        rw [heq, getD_both hun] at h1
        cases h1
      have h2 := qOpIn_put hoj (hfree j oj hoj hji hjun hnot) (fun cs b => hsel i oi cs b hi) (fun cs b => hsel j oj cs b hoj) hy h1
      have hfree' : ∀ k ok, ops[k]? = some ok → k ≠ i → (listed.setIfInBounds j true).getD k true = false →
          (∀ e ∈ ok.after, Region.binds md e = true → e.on ≠ i) → oi.apart ops ok = true := fun k ok hk hki hun hno => by
        refine hfree k ok hk hki ?_ hno
        by_cases hjk : j = k
        · subst hjk; exact hjun
        · rw [getD_set_ne true hjk] at hun; exact hun
      refine qOpIn_mono (fun a' h3 => ih (listed.setIfInBounds j true) a' (inv.set hj hjn) hfree' (ready_mono hr (Ne.symm hji)) h3.1 ?_) h2
      rw [Array.setIfInBounds_comm _ _ hji]
      exact h3.2

theorem wpAnyQLIn_lex {n g : Nat} {Lq : Act → Prop} (hsel : Region.noSelect ops = true) (hs : Region.sinkB md ops n = true) (hc : Region.chainB md ops n = true) (hn : n < ops.size) :
    ∀ (l : List Oper) (k : Nat) (listed : Array Bool) (a : Act), (∀ j, j < l.length → l[j]? = ops[k + j]?) → k + l.length = n → HeadInv md ops n listed →
    Region.lexHead md ops g l.length k listed = true → wpQuietIn F nF P ops C Lq l a →
    wpAnyQLIn F nF P md ops C n (fun listed' a' => Region.seqB md ops g n listed' = true ∧ Lq a') l.length listed a
  | [], k, listed, a, _, hk, _, hB, h => by
    have : k = n := by simpa using hk
    subst this
    exact ⟨by simpa [Region.lexHead] using hB, h⟩
  | o :: l, k, listed, a, hl, hk, inv, hB, h => by
    have h0 : ops[k]? = some o := by simpa using (hl 0 (by simp)).symm
    simp only [List.length_cons, Region.lexHead, Bool.and_eq_true] at hB
    obtain ⟨⟨hr, hf⟩, hB'⟩ := hB
    have hkn : k < n := by simp only [List.length_cons] at hk; omega
    have hr' : k ∈ Region.ready md ops listed := by simpa using hr
    have hst : qOpIn F nF P ops C k (wpQuietIn F nF P ops C Lq l) a := by unfold qOpIn; simp only [h0]; exact h
    obtain ⟨v, hy, hK⟩ := yieldsQuiet_of_qOpIn h0 hst
    exact wpAnyQLIn_first h0 (Region.noSelect_spec hsel) hs hc hn hkn (fun listed' a' hL => seqB_ready hL.1) l.length listed a inv (Region.free_spec h0 hf) hr' hy
      (wpAnyQLIn_lex hsel hs hc hn l (k + 1) _ _ (fun j hj => by have := hl (j + 1) (by simp; omega); simpa [Nat.add_assoc, Nat.add_comm 1 j] using this) (by simp only [List.length_cons] at hk; omega) (inv.set hr' hkn) hB' hK)

theorem wpAnyIn_of_seq {Q' : Exit → Act → World → Prop} : ∀ (l : List Oper) (k : Nat) (listed : Array Bool) (a : Act) (w : World), (∀ j, l[j]? = ops[k + j]?) →
    Region.seqB md ops l.length k listed = true → wpListIn F nF P ops Q' l a w → wpAnyIn F nF P md ops Q' l.length listed a w
  | [], _, _, _, _, _, hB, h => ⟨by simpa [Region.seqB] using hB, h⟩
  | o :: l, k, listed, a, w, hl, hB, h => by
    have h0 : ops[k]? = some o := by simpa using (hl 0).symm
    simp only [List.length_cons, Region.seqB, Bool.and_eq_true, decide_eq_true_eq] at hB
    refine ⟨fun h1 => (by rw [hB.1] at h1; cases h1), fun i hi => ?_⟩
    rw [hB.1] at hi
    have hik : i = k := by simpa using hi
    subst hik
    have hw : wpOpIn F nF P ops Q' i (wpListIn F nF P ops Q' l) a w := by unfold wpOpIn; simp only [h0]; exact h
    exact wpOpIn_mono (fun a' w' h' => wpAnyIn_of_seq l (i + 1) _ a' w' (fun j => by have := hl (j + 1); simpa [Nat.add_assoc, Nat.add_comm 1 j] using this) hB.2 h') hw

theorem wpIn_region_growtail {id : Nat} {Q : Exit → Act → World → Prop} {a : Act} {w : World} {l : List Oper} (n : Nat) (hnd : noDefer l = true) (hm : P.follows .mixedOrders = true) (hB : Region.lexTailB .any l.toArray n = true)
    (h : wpQuietIn F nF P l.toArray (fun w' => ∃ g : Gr w, w' = g.w1) (fun a' => ∀ w', (∃ g : Gr w, w' = g.w1) → wpListIn F nF P l.toArray Q (l.drop n) a' w') (l.take n) a) : (Code.region id l.toArray true).wpIn F nF P Q a w := by
  simp only [Region.lexTailB, Bool.and_eq_true, decide_eq_true_eq] at hB
  obtain ⟨⟨⟨⟨hsel, hn⟩, hs⟩, hc⟩, hlex⟩ := hB
  have hn' : n < l.length := by simpa using hn
  have htl : (l.take n).length = n := by simp; omega
  have hdl : (l.drop n).length = l.toArray.size - n := by simp
  have inv0 : HeadInv .any l.toArray n (Array.replicate l.toArray.size false) :=
    ⟨by simp, fun j oj _ hl => (by rw [getD_replicate_false] at hl; cases hl), fun t _ ht => getD_in (by simpa using ht) (getD_replicate_false _ _)⟩
  have H := wpAnyQLIn_lex (md := .any) (g := l.toArray.size - n) (C := fun w' => ∃ g : Gr w, w' = g.w1) hsel hs hc hn (l.take n) 0 _ a (fun j hj => by
    have hj' : j < n := by rw [htl] at hj; exact hj
    simp [hj']) (by simpa using htl) inv0 (by rw [htl]; exact hlex) h
  refine wpIn_region_any hm ?_
  have := wpAnyIn_of_headQ (Q' := Q) (g := l.toArray.size - n) (by simpa using hnd) (fun listed a' w' hw' hL => by
    have := wpAnyIn_of_seq (md := .any) (Q' := Q) (l.drop n) n listed a' w' (fun j => by simp [List.getElem?_drop]) (by rw [hdl]; exact hL.1) (hL.2 w' hw')
    rwa [hdl] at this) _ _ _ w.drew ⟨⟨w.drew, below_drewN (Below.refl _ _) 1⟩, rfl⟩ H
  rw [htl, show n + (l.toArray.size - n) = l.toArray.size by omega] at this
  exact this
end

section
variable {F : Fence} {nF : Nat} {P : Program} {α : Type} {E : El α}
theorem wpListIn_append_els (w : World) {ops : Array Oper} {rest : List Oper} {o : Oper} {a : Act} {Q : Exit → Act → World → Prop} (hgd : o.guard = none) (s x : Operand) (t : TypeId)
    (ho : o.op = .call { callee := .builtin .append, args := #[s, x], argTypes := #[t, t] }) (lo : Nat) {e : TypeId} (ht : P.underlying t = some (.slice e)) {z : Value} {k bytes : Nat}
    (hinfo : (P.info? e).map (fun i => (i.zero, i.size, i.bytes)) = some (some z, k, bytes)) (hk : k = E.k) (hzs : z.cells.size = E.k) (hb1 : bytes ≤ 100)
    (v : Value) (xs : List α) (hs : a.eval s = v) (hown : OwnE E e lo w v xs) (v2 : Value) (hx : a.eval x = v2) (ys : List α) (h2 : Els E w v2 ys) (hb : xs.length + ys.length ≤ 1000000) (hlo : lo ≤ w.heap.size)
    (h : ∀ v' w', OwnE E e lo w' v' (xs ++ ys) → Below lo w w' → w.grownBy w' v.ownBlock → lies w v v' → wpListIn F nF P ops Q rest (a.put o.dst v') w') : wpListIn F nF P ops Q (o :: rest) a w := by
  obtain ⟨i, hi, hz0, hz1, hz2⟩ := info_parts hinfo
  refine wpListIn_plain hgd fun K hK => ?_
  obtain ⟨v', w', hrun, r2, r3, r4⟩ := run_append_els (P := P) w lo t o.type e i ht hi hz0 (hz1.trans hk) hz2 hzs hb1 v xs hown v2 ys h2 hb hlo
  unfold Oper.wpIn
  refine ⟨by simp [Oper.about, ho, resolve, Target.leads], ?_⟩
  rw [Oper.semAt_plain F _ _ (by rw [ho]; intro c hc; cases hc)]
  unfold execOp
  simp only [ho, resolve, invoke, builtin, Sem.run_bind, Sem.run_pure, Result.andThen_ok, List.map_toArray, List.map_cons, List.map_nil, hs, hx, hrun]
  exact hK _ _ (h v' w' r2 (below_of_grown r3 hlo fun k hk => (hown.lt k hk).1) r3 r4)
end
end
section
open Go.RowKit

/-- operations that only read -/
def readB : Op → Bool
  | .move _ | .assign _ | .load .. | .fieldAddr .. | .field .. | .indexAddr .. | .index .. | .slice .. | .binOp .. | .build .. | .lookup .. | .extract .. => true
  | _ => false
theorem noEnter_v {P : Program} {s : Sem Value} {w w' : World} {f : FuncId} {args : Array Value} : (do pure (Next.value (← s)) : Sem Next).run P w ≠ .ok (.enter f args) w' := by
  intro h
  rw [Sem.run_bind] at h
  cases e : s.run P w with
  | ok v w1 => rw [e] at h; simp [Result.andThen] at h
  | halt x w1 => rw [e] at h; simp [Result.andThen] at h
theorem execOp_noEnter {P : Program} {o : Oper} (h : readB o.op = true) (ρ : Operand → Value) (w w' : World) (f : FuncId) (args : Array Value) : (execOp ρ o).run P w ≠ .ok (.enter f args) w' := by
  unfold execOp
  cases ho : o.op <;> rw [ho] at h <;> simp only [readB, Bool.false_eq_true] at h <;> first | exact noEnter_v | (intro h2; simp at h2; done)

section
variable {F : Fence} {nF : Nat} {P : Program} {ops : Array Oper} {md : Region.Mode}

/-- quiet in the worlds of C; whatever worlds: a read leaves the world as it was -/
theorem quiet_read {C C' : World → Prop} {o : Oper} {a : Act} {w : World} {v : Value} (hr : readB o.op = true) (h : o.quietAtIn F nF P a C w v) : o.quietAtIn F nF P a C' w v := by
  unfold Oper.quietAtIn at *
  cases e : (execOp a.eval o).run P w with
  | ok x w' =>
    rw [e] at h
    cases x <;> simp only [Oper.quietUponIn] at h ⊢
    · exact h
    · exact h
    · exact absurd e (execOp_noEnter hr _ _ _ _ _)
  | halt x w' => rw [e] at h; simp only [Oper.quietUponIn] at h

/-- the operation that turns the world: one value, from every world of C one of C' -/
def YP (P : Program) (ops : Array Oper) (C C' : World → Prop) (o : Oper) (v : Value) (a : Act) : Prop :=
  (∀ w, o.about P w a.eval = none) ∧ Region.wanted o (yielded ops a.tmps) = true ∧ ∀ w, C w → ∃ w', C' w' ∧ (execOp a.eval o).run P w = .ok (.value v) w'

theorem YP.of_same {C C' : World → Prop} {o : Oper} {v : Value} {a a' : Act} (hy : YP P ops C C' o v a) (he : execOp a'.eval o = execOp a.eval o)
    (hw : Region.wanted o (yielded ops a'.tmps) = Region.wanted o (yielded ops a.tmps)) (hb : ∀ w, o.about P w a'.eval = o.about P w a.eval) : YP P ops C C' o v a' := by
  unfold YP at *
  rw [he, hw]
  exact ⟨fun w => by rw [hb]; exact hy.1 w, hy.2⟩

variable (C1 C2 : World → Prop) (p : Nat) (vp : Value)
/-- the worlds before and behind operation p -/
def CC (b : Bool) : World → Prop := if b then C2 else C1
def CU : World → Prop := fun w => C1 w ∨ C2 w

def stepQ (F : Fence) (nF : Nat) (P : Program) (ops : Array Oper) (i : Nat) (K : Act → Prop) (a : Act) : Prop :=
  ∃ o, ops[i]? = some o ∧ if i = p then YP P ops C1 C2 o vp a ∧ K (a.put o.dst vp) else readB o.op = true ∧ ∃ v, YieldsQuiet F nF P ops (CU C1 C2) o v a ∧ K (a.put o.dst v)

theorem stepQ_mono {i : Nat} {K K' : Act → Prop} {a : Act} (h : ∀ a, K a → K' a) (hh : stepQ C1 C2 p vp F nF P ops i K a) : stepQ C1 C2 p vp F nF P ops i K' a := by
  obtain ⟨o, ho, hh⟩ := hh
  refine ⟨o, ho, ?_⟩
  split
  · rename_i e; rw [if_pos e] at hh; exact ⟨hh.1, h _ hh.2⟩
  · rename_i e; rw [if_neg e] at hh; obtain ⟨h1, v, h2, h3⟩ := hh; exact ⟨h1, v, h2, h _ h3⟩

def AQ (F : Fence) (nF : Nat) (P : Program) (md : Region.Mode) (ops : Array Oper) (m : Nat) (L : Array Bool → Act → Prop) : Nat → Array Bool → Act → Prop
  | 0, listed, a => L listed a
  | f + 1, listed, a => Region.ready md ops listed ≠ [] ∧ ∀ i ∈ Region.ready md ops listed, i < m ∧ stepQ C1 C2 p vp F nF P ops i (AQ F nF P md ops m L f (listed.setIfInBounds i true)) a

variable {C1 C2 p vp}
theorem stepQ_sound {i : Nat} {K : Act → Prop} {K' : Act → World → Prop} {Q' : Exit → Act → World → Prop} {a : Act} {w : World} {b : Bool} (hnd : noDefer ops.toList = true) (hw : CC C1 C2 b w) (hpb : i = p → b = false)
    (h : ∀ a' w', CC C1 C2 (b || decide (i = p)) w' → K a' → K' a' w') (hh : stepQ C1 C2 p vp F nF P ops i K a) : wpOpIn F nF P ops Q' i K' a w := by
  obtain ⟨o, ho, hh⟩ := hh
  by_cases e : i = p
  · rw [if_pos e] at hh
    obtain ⟨⟨h1, h2, h3⟩, h4⟩ := hh
    rw [hpb e] at hw
    obtain ⟨w', hw', hrun⟩ := h3 w hw
    unfold wpOpIn
    simp only [ho, h2, if_true]
    unfold Oper.wpIn
    refine ⟨(by intro f hf; rw [h1] at hf; cases hf), ?_⟩
    rw [Oper.semAt_eq F.round _ _ (noDefer_at hnd ho), hrun]
    exact h _ _ (by simpa [CC, e] using hw') h4
  · rw [if_neg e] at hh
    obtain ⟨hr, v, hy, hK⟩ := hh
    have hy' : YieldsQuiet F nF P ops (CC C1 C2 b) o v a := by
      have hcu : ∀ w', CC C1 C2 b w' → CU C1 C2 w' := fun w' hw' => by
        cases b
        · exact .inl hw'
        · exact .inr hw'
      refine ⟨fun w' hw' f hf => hy.1 w' (hcu w' hw') f hf, ?_⟩
      rcases hy.2 with ⟨g1, g2⟩ | g
      · exact .inl ⟨g1, fun w' hw' => quiet_read hr (g2 w' (hcu w' hw'))⟩
      · exact .inr g
    have := hy'.qOpIn ho (K := K) hK
    refine wpOpIn_of_qOpInR hnd hw (fun a' w' hw' hk => h a' w' ?_ hk) this
    simpa [e] using hw'

theorem aq_sound {m g : Nat} {L : Array Bool → Act → Prop} {Q' : Exit → Act → World → Prop} (hnd : noDefer ops.toList = true) (hpl : p < ops.size)
    (hL : ∀ listed a w, C2 w → L listed a → wpAnyIn F nF P md ops Q' g listed a w) (hLp : ∀ listed a, L listed a → listed.getD p false = true) :
    ∀ (f : Nat) (listed : Array Bool) (a : Act) (w : World), listed.size = ops.size → CC C1 C2 (listed.getD p false) w → AQ C1 C2 p vp F nF P md ops m L f listed a → wpAnyIn F nF P md ops Q' (f + g) listed a w
  | 0, listed, a, w, _, hw, h => by
    rw [Nat.zero_add]
    rw [hLp _ _ h] at hw
    exact hL _ _ _ hw h
  | f + 1, listed, a, w, hsz, hw, h => by
    rw [show f + 1 + g = (f + g) + 1 by omega]
    refine ⟨fun h0 => absurd h0 h.1, fun i hi => ?_⟩
    have hun := (mem_ready.1 hi).1
    refine stepQ_sound hnd hw (fun e => ?_) (fun a' w' hw' h' => aq_sound hnd hpl hL hLp f _ a' w' (by simpa using hsz) ?_ h') (h.2 i hi).2
    · subst e; exact getD_both hun
    · by_cases e : i = p
      · subst e
        have : (listed.setIfInBounds i true).getD i false = true := by simp [hsz, hpl]
        rw [this]
        simpa using hw'
      · rw [getD_set_ne false e]
        simpa [e] using hw'

/-- taking one read first -/
theorem stepQ_put {j : Nat} {oi : Oper} {v : Value} {oj : Oper} (hj : ops[j]? = some oj) (hap : oi.apart ops oj = true) (hsi : ∀ cs b, oi.op ≠ .select cs b) (hsj : ∀ cs b, oj.op ≠ .select cs b) {K : Act → Prop} {a : Act}
    (hy : YieldsQuiet F nF P ops (CU C1 C2) oi v a) (h : stepQ C1 C2 p vp F nF P ops j K (a.put oi.dst v)) :
    stepQ C1 C2 p vp F nF P ops j (fun a' => YieldsQuiet F nF P ops (CU C1 C2) oi v a' ∧ K (a'.put oi.dst v)) a := by
  obtain ⟨h1, h2, h3⟩ := Oper.apart_spec hap
  have keep : ∀ (a : Act), YieldsQuiet F nF P ops (CU C1 C2) oi v a → ∀ u, YieldsQuiet F nF P ops (CU C1 C2) oi v (a.put oj.dst u) := fun a hy u =>
    hy.of_same (execOp_put oi hsi a oj.dst u h3) (wanted_put oi a oj.dst u h3) (fun w => about_put oi w a oj.dst u h3)
  obtain ⟨o, ho, h⟩ := h
  obtain rfl : oj = o := Option.some.inj (hj.symm.trans ho)
  refine ⟨oj, hj, ?_⟩
  split
  · rename_i e
    rw [if_pos e] at h
    exact ⟨h.1.of_same (execOp_put oj hsj a oi.dst v h1).symm (wanted_put oj a oi.dst v h1).symm (fun w => (about_put oj w a oi.dst v h1).symm), keep a hy _, by rw [← Act.put_comm a v vp h2]; exact h.2⟩
  · rename_i e
    rw [if_neg e] at h
    obtain ⟨hr, u, hu, hK⟩ := h
    exact ⟨hr, u, hu.of_same (execOp_put oj hsj a oi.dst v h1).symm (wanted_put oj a oi.dst v h1).symm (fun w => (about_put oj w a oi.dst v h1).symm), keep a hy _, by rw [← Act.put_comm a v u h2]; exact hK⟩

theorem aq_first {n i : Nat} {oi : Oper} {v : Value} {L : Array Bool → Act → Prop} (hi : ops[i]? = some oi) (hip : i ≠ p) (hri : readB oi.op = true) (hsel : ∀ (j : Nat) (o : Oper) cs b, ops[j]? = some o → o.op ≠ .select cs b)
    (hs : Region.sinkB md ops n = true) (hc : Region.chainB md ops n = true) (hn : n < ops.size) (hin : i < n)
    (hdone : ∀ listed a, L listed a → ∀ j ∈ Region.ready md ops listed, n ≤ j) :
    ∀ (f : Nat) (listed : Array Bool) (a : Act), HeadInv md ops n listed →
      (∀ j oj, ops[j]? = some oj → j ≠ i → listed.getD j true = false → (∀ e ∈ oj.after, Region.binds md e = true → e.on ≠ i) → oi.apart ops oj = true) →
      i ∈ Region.ready md ops listed → YieldsQuiet F nF P ops (CU C1 C2) oi v a →
      AQ C1 C2 p vp F nF P md ops n L f (listed.setIfInBounds i true) (a.put oi.dst v) → AQ C1 C2 p vp F nF P md ops n L (f + 1) listed a := by
  intro f
  have self : ∀ {K : Act → Prop} {a : Act}, YieldsQuiet F nF P ops (CU C1 C2) oi v a → K (a.put oi.dst v) → stepQ C1 C2 p vp F nF P ops i K a := fun hy hk => ⟨oi, hi, by rw [if_neg hip]; exact ⟨hri, v, hy, hk⟩⟩
  induction f with
  | zero =>
    intro listed a inv _ hr hy H
    have hun := (mem_ready.1 hr).1
    refine ⟨fun h => (by rw [h] at hr; cases hr), fun j hj => ?_⟩
    have hjn : j < n := by
      rcases Nat.lt_or_ge j n with h | h
      · exact h
      · exact absurd hj (tail_waits hs hc hn inv _ i rfl hin hun j h)
    refine ⟨hjn, ?_⟩
    by_cases hji : j = i
    · subst hji; exact self hy H
    · have := hdone _ _ H j (ready_mono hj hji)
      omega
  | succ f ih =>
    intro listed a inv hfree hr hy H
    have hun := (mem_ready.1 hr).1
    refine ⟨fun h => (by rw [h] at hr; cases hr), fun j hj => ?_⟩
    have hjn : j < n := by
      rcases Nat.lt_or_ge j n with h | h
      · exact h
      · exact absurd hj (tail_waits hs hc hn inv _ i rfl hin hun j h)
    refine ⟨hjn, ?_⟩
    by_cases hji : j = i
    · subst hji; exact self hy H
    · have h1 := (H.2 j (ready_mono hj hji)).2
      obtain ⟨hjun, oj, hoj, hall⟩ := mem_ready.1 hj
      have hnot : ∀ e ∈ oj.after, Region.binds md e = true → e.on ≠ i := fun e he hb heq => by
        have h1 := hall e he hb
        rw [heq, getD_both hun] at h1
        cases h1
      have h2 := stepQ_put hoj (hfree j oj hoj hji hjun hnot) (fun cs b => hsel i oi cs b hi) (fun cs b => hsel j oj cs b hoj) hy h1
      have hfree' : ∀ k ok, ops[k]? = some ok → k ≠ i → (listed.setIfInBounds j true).getD k true = false →
          (∀ e ∈ ok.after, Region.binds md e = true → e.on ≠ i) → oi.apart ops ok = true := fun k ok hk hki hun hno => by
        refine hfree k ok hk hki ?_ hno
        by_cases hjk : j = k
        · subst hjk; exact hjun
        · rw [getD_set_ne true hjk] at hun; exact hun
      refine stepQ_mono _ _ _ _ (fun a' h3 => ih (listed.setIfInBounds j true) a' (inv.set hj hjn) hfree' (ready_mono hr (Ne.symm hji)) h3.1 ?_) h2
      rw [Array.setIfInBounds_comm _ _ hji]
      exact h3.2

/-- when only p is left of the head -/
theorem aq_last {g : Nat} {Lq : Act → Prop} {op : Oper} {listed : Array Bool} {a : Act} (hop : ops[p]? = some op) (hsz : listed.size = ops.size) (hr : p ∈ Region.ready md ops listed) (hr2 : ∀ i ∈ Region.ready md ops listed, i = p) (hg : Region.seqB md ops g (p + 1) (listed.setIfInBounds p true) = true)
    (hy : YP P ops C1 C2 op vp a) (hq : Lq (a.put op.dst vp)) : AQ C1 C2 p vp F nF P md ops (p + 1) (fun listed' a' => listed'.getD p false = true ∧ Region.seqB md ops g (p + 1) listed' = true ∧ Lq a') 1 listed a := by
  refine ⟨fun h => (by rw [h] at hr; cases hr), fun i hi => ?_⟩
  obtain rfl : i = p := hr2 i hi
  refine ⟨by omega, op, hop, ?_⟩
  rw [if_pos rfl]
  have hpl : i < ops.size := (Array.getElem?_eq_some_iff.1 hop).1
  exact ⟨hy, by simp [hsz, hpl], hg, hq⟩

def walkQ (F : Fence) (nF : Nat) (P : Program) (ops : Array Oper) (C : World → Prop) (K : Act → Prop) : List Oper → Act → Prop
  | [], a => K a
  | o :: l, a => readB o.op = true ∧ ∃ v, YieldsQuiet F nF P ops C o v a ∧ walkQ F nF P ops C K l (a.put o.dst v)
theorem walkQ_of {C : World → Prop} {K : Act → Prop} : ∀ (l : List Oper) (a : Act), l.all (fun o => readB o.op) = true → wpQuietIn F nF P ops C K l a → walkQ F nF P ops C K l a
  | [], _, _, h => h
  | o :: l, a, hr, h => by
    simp only [List.all_cons, Bool.and_eq_true] at hr
    obtain ⟨ha, h⟩ := h
    refine ⟨hr.1, ?_⟩
    by_cases hw : Region.wanted o (yielded ops a.tmps) = true
    · rw [if_pos hw] at h
      obtain ⟨v, h1, h2⟩ := h
      exact ⟨v, ⟨ha, .inl ⟨hw, h1⟩⟩, walkQ_of l _ hr.2 h2⟩
    · rw [if_neg hw] at h
      exact ⟨undef, ⟨ha, .inr ⟨by simpa using hw, rfl⟩⟩, walkQ_of l _ hr.2 h⟩

theorem aq_lex {g : Nat} {Lq : Act → Prop} {op : Oper} (hop : ops[p]? = some op) (hsel : Region.noSelect ops = true) (hs : Region.sinkB md ops (p + 1) = true) (hc : Region.chainB md ops (p + 1) = true) (hn : p + 1 < ops.size) :
    ∀ (l : List Oper) (k : Nat) (listed : Array Bool) (a : Act), (∀ j, j < l.length → l[j]? = ops[k + j]?) → k + l.length = p → HeadInv md ops (p + 1) listed → listed.size = ops.size →
    Region.lexHead md ops g (l.length + 1) k listed = true → (∀ listed', listed'.size = ops.size → Region.lexHead md ops g 1 p listed' = true → HeadInv md ops (p + 1) listed' → (∀ j, j < p → listed'.getD j false = true) → p ∈ Region.ready md ops listed' ∧ ∀ i ∈ Region.ready md ops listed', i = p) → (∀ j, j < k → listed.getD j false = true) →
    walkQ F nF P ops (CU C1 C2) (fun a' => YP P ops C1 C2 op vp a' ∧ Lq (a'.put op.dst vp)) l a →
    AQ C1 C2 p vp F nF P md ops (p + 1) (fun listed' a' => listed'.getD p false = true ∧ Region.seqB md ops g (p + 1) listed' = true ∧ Lq a') (l.length + 1) listed a
  | [], k, listed, a, _, hk, inv, hsz, hB, hone, hall, h => by
    have : k = p := by simpa using hk
    subst this
    have hr := hone listed hsz hB inv hall
    simp only [List.length_nil, Region.lexHead, Bool.and_eq_true] at hB
    exact aq_last hop hsz hr.1 hr.2 hB.2 h.1 h.2
  | o :: l, k, listed, a, hl, hk, inv, hsz, hB, hone, hall, h => by
    have h0 : ops[k]? = some o := by simpa using (hl 0 (by simp)).symm
    have hB0 := hB
    rw [List.length_cons, Region.lexHead] at hB
    simp only [Bool.and_eq_true] at hB
    obtain ⟨⟨hr, hf⟩, hB'⟩ := hB
    have hkp : k < p := by simp only [List.length_cons] at hk; omega
    have hr' : k ∈ Region.ready md ops listed := by simpa using hr
    obtain ⟨hrd, v, hy, hK⟩ := h
    exact aq_first h0 (by omega) hrd (Region.noSelect_spec hsel) hs hc hn (by omega) (fun listed' a' hL => seqB_ready hL.2.1) (l.length + 1) listed a inv (Region.free_spec h0 hf) hr' hy
      (aq_lex hop hsel hs hc hn l (k + 1) _ _ (fun j hj => by have := hl (j + 1) (by simp; omega); simpa [Nat.add_assoc, Nat.add_comm 1 j] using this) (by simp only [List.length_cons] at hk; omega) (inv.set hr' (by omega)) (by simpa using hsz) hB' hone
        (fun j hj => by
          by_cases e : k = j
          · subst e; simp [hsz]; exact (Array.getElem?_eq_some_iff.1 h0).1
          · rw [getD_set_ne false e]; exact hall j (by omega)) hK)

/-- **THE LAW**: reads; operation p; a tail in its order -/
theorem wpIn_region_p {id : Nat} {Q : Exit → Act → World → Prop} {a : Act} {w : World} {l : List Oper} {op : Oper} {C1 C2 : World → Prop} (p : Nat) (vp : Value) (hnd : noDefer l = true) (hm : P.follows .mixedOrders = true) (hB : Region.lexTailB .any l.toArray (p + 1) = true)
    (hrd : (l.take p).all (fun o => readB o.op) = true) (hop : l[p]? = some op) (hC : C1 w.drew)
    (h : wpQuietIn F nF P l.toArray (fun w' => C1 w' ∨ C2 w') (fun a' => YP P l.toArray C1 C2 op vp a' ∧ ∀ w', C2 w' → wpListIn F nF P l.toArray Q (l.drop (p + 1)) (a'.put op.dst vp) w') (l.take p) a) : (Code.region id l.toArray true).wpIn F nF P Q a w := by
  simp only [Region.lexTailB, Bool.and_eq_true, decide_eq_true_eq] at hB
  obtain ⟨⟨⟨⟨hsel, hn⟩, hs⟩, hc⟩, hlex⟩ := hB
  have hn' : p + 1 < l.length := by simpa using hn
  have htl : (l.take p).length = p := by simp; omega
  have hdl : (l.drop (p + 1)).length = l.toArray.size - (p + 1) := by simp
  have hop' : l.toArray[p]? = some op := by simpa using hop
  have inv0 : HeadInv .any l.toArray (p + 1) (Array.replicate l.toArray.size false) :=
    ⟨by simp, fun j oj _ hl => (by rw [getD_replicate_false] at hl; cases hl), fun t _ ht => getD_in (by simpa using ht) (getD_replicate_false _ _)⟩
  have hone : ∀ listed', listed'.size = l.toArray.size → Region.lexHead .any l.toArray (l.toArray.size - (p + 1)) 1 p listed' = true → HeadInv .any l.toArray (p + 1) listed' → (∀ j, j < p → listed'.getD j false = true) → p ∈ Region.ready .any l.toArray listed' ∧ ∀ i ∈ Region.ready .any l.toArray listed', i = p := by
    intro listed' _ hB inv hall
    simp only [Region.lexHead, Bool.and_eq_true] at hB
    have hp : p ∈ Region.ready .any l.toArray listed' := by simpa using hB.1.1
    refine ⟨hp, fun i hi => ?_⟩
    have hun := (mem_ready.1 hp).1
    have hlt : i < p + 1 := by
      rcases Nat.lt_or_ge i (p + 1) with h | h
      · exact h
      · exact absurd hi (tail_waits hs hc hn inv _ p rfl (by omega) hun i h)
    by_cases e : i = p
    · exact e
    · have h1 := hall i (by omega)
      have h2 := (mem_ready.1 hi).1
      rw [getD_both h2] at h1
      cases h1
  have H := aq_lex (F := F) (nF := nF) (P := P) (md := .any) (C1 := C1) (C2 := C2) (p := p) (vp := vp) (g := l.toArray.size - (p + 1)) (Lq := fun a' => ∀ w', C2 w' → wpListIn F nF P l.toArray Q (l.drop (p + 1)) a' w') hop' hsel hs hc hn (l.take p) 0 (Array.replicate l.toArray.size false) a
    (fun j hj => by
      have hj' : j < p := by rw [htl] at hj; exact hj
      simp [hj']) (by simpa using htl) inv0 (by simp) (by rw [htl]; exact hlex) hone (fun j hj => absurd hj (Nat.not_lt_zero _)) (walkQ_of _ _ hrd h)
  refine wpIn_region_any hm ?_
  have := aq_sound (Q' := Q) (g := l.toArray.size - (p + 1)) (by simpa using hnd) (by omega) (fun listed a' w' hw' hL => by
    have := wpAnyIn_of_seq (F := F) (nF := nF) (P := P) (md := .any) (Q' := Q) (l.drop (p + 1)) (p + 1) listed a' w' (fun j => by simp [List.getElem?_drop]) (by rw [hdl]; exact hL.2.1) (hL.2.2 w' hw')
    rwa [hdl] at this) (fun listed a' hL => hL.1) _ _ _ w.drew (by simp) (by rw [getD_replicate_false]; exact hC) H
  rw [htl, show p + 1 + (l.toArray.size - (p + 1)) = l.toArray.size by omega] at this
  exact this
end

/-- a world after some draws, or with one block more -/
structure Two (W : World) (o : Obj) where
  b : Bool
  k : Nat
instance (W : World) (o : Obj) : Nonempty (Two W o) := ⟨⟨false, 0⟩⟩
def Two.w1 {W : World} {o : Obj} (g : Two W o) : World := if g.b then (W.alloc o).drewN g.k else W.drewN g.k
theorem Two.cell {W : World} {o : Obj} {p : Addr} {c : Value} (h : W.cell? p = some c) (g : Two W o) : g.w1.cell? p = some c := by
  unfold Two.w1
  cases g.b
  · exact h
  · exact (World.cell?_alloc_lt W o p (lt_of_cell h)).trans h
theorem wpIn_region_two {F : Fence} {nF : Nat} {P : Program} {id : Nat} {Q : Exit → Act → World → Prop} {a : Act} {W : World} {l : List Oper} {op : Oper} (p : Nat) (vp : Value) (ob : Obj) (hnd : noDefer l = true) (hm : P.follows .mixedOrders = true) (hB : Region.lexTailB .any l.toArray (p + 1) = true)
    (hrd : (l.take p).all (fun o => readB o.op) = true) (hop : l[p]? = some op)
    (h : wpQuietIn F nF P l.toArray (fun w' => ∃ g : Two W ob, w' = g.w1) (fun a' => YP P l.toArray (fun w' => ∃ k, w' = W.drewN k) (fun w' => ∃ k, w' = (W.alloc ob).drewN k) op vp a' ∧ ∀ w', (∃ k, w' = (W.alloc ob).drewN k) → wpListIn F nF P l.toArray Q (l.drop (p + 1)) (a'.put op.dst vp) w') (l.take p) a) : (Code.region id l.toArray true).wpIn F nF P Q a W := by
  have e : (fun w' => ∃ g : Two W ob, w' = g.w1) = (fun w' => (∃ k, w' = W.drewN k) ∨ (∃ k, w' = (W.alloc ob).drewN k)) := by
    funext w'
    apply propext
    constructor
    · rintro ⟨⟨b, k⟩, rfl⟩
      cases b
      · exact .inl ⟨k, rfl⟩
      · exact .inr ⟨k, rfl⟩
    · rintro (⟨k, rfl⟩ | ⟨k, rfl⟩)
      · exact ⟨⟨false, k⟩, rfl⟩
      · exact ⟨⟨true, k⟩, rfl⟩
  rw [e] at h
  exact wpIn_region_p (C1 := fun w' => ∃ k, w' = W.drewN k) (C2 := fun w' => ∃ k, w' = (W.alloc ob).drewN k) p vp hnd hm hB hrd hop ⟨1, rfl⟩ h
end
end Go.Proofs.YtaapnflhjbdmlaaGreatDoor
