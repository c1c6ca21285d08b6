/- What a step of saturate does to the table, in plain words. No condition. What a round of saturate does, in plain words. No condition. Ways through a table of moves, in plain words: the least steps to each state, letter by letter. No condition. -/
import Derived.Test.YtaapnflhjbdmlaaGreatDoorMM
import Derived.Test.YtaapnflhjbdmlaaGreatDoorWC
namespace Go.Proofs.YtaapnflhjbdmlaaGreatDoor
section
theorem cget_lessL (L : List (Key × Cost)) (k : Key) (c : Cost) (h : isLess L k c = true) : cget (lessL L k c) = fun k' => if k' = k then some ⟨min c.steps far, c.rule, c.middle⟩ else cget L k' := by
  funext k'
  unfold lessL
  rw [if_pos h, cget_cput]
theorem lessL_not (L : List (Key × Cost)) (k : Key) (c : Cost) (h : isLess L k c = false) : lessL L k c = L := by unfold lessL; rw [h]; rfl
theorem isLess_false {L : List (Key × Cost)} {k : Key} {c : Cost} (h : isLess L k c = false) : ∃ d, cget L k = some d ∧ d.steps ≤ c.steps := by
  unfold isLess at h
  cases e : cget L k with
  | none => rw [e] at h; cases h
  | some d => rw [e] at h; simp at h; exact ⟨d, rfl, h⟩
theorem isLess_true {L : List (Key × Cost)} {k : Key} {c : Cost} (h : isLess L k c = true) : ∀ d, cget L k = some d → c.steps < d.steps := by
  intro d e
  unfold isLess at h
  rw [e] at h
  simpa using h

section
variable {R : List Rule} {B : Int → Int → Int → Prop}
theorem Inv.less {L : List (Key × Cost)} (h : Inv R B (cget L)) {k : Key} {c : Cost} (hc0 : 0 ≤ c.steps) (hs : ∃ l, D R B k.1 k.2.1 k.2.2 l ∧ ((l.length : Int) ≤ c.steps ∨ far ≤ c.steps)) (hw : Why R (cget L) k ⟨min c.steps far, c.rule, c.middle⟩) :
    Inv R B (cget (lessL L k c)) := by
  cases e : isLess L k c
  · rw [lessL_not L k c e]; exact h
  · rw [cget_lessL L k c e]
    have hf : (0 : Int) ≤ far := by decide
    refine h.set (c := ⟨min c.steps far, c.rule, c.middle⟩) (by dsimp only; omega) (by dsimp only; omega) ?_ hw (fun c0 h0 => by have := isLess_true e c0 h0; dsimp only; omega)
    obtain ⟨l, h1, h2⟩ := hs
    exact ⟨l, h1, by dsimp only; omega⟩

theorem Inv.less0 {L : List (Key × Cost)} (h : Inv R B (cget L)) {i : Nat} {r : Rule} (hr : R[i]? = some r) (hp : r.put = []) : Inv R B (cget (lessL L (r.fr, r.top, r.to) ⟨1, i, -1⟩)) := by
  have hf : (1 : Int) ≤ far := by decide
  exact h.less (by dsimp only; omega) ⟨[i], .pop hr hp, .inl (by simp)⟩ ⟨i, r, hr, rfl, rfl, rfl, .inl ⟨hp, rfl, by dsimp only; omega⟩⟩
theorem Inv.less1 {L : List (Key × Cost)} (h : Inv R B (cget L)) {i : Nat} {r : Rule} {b q : Int} {c1 : Cost} (hr : R[i]? = some r) (hp : r.put = [b]) (h1 : cget L (r.to, b, q) = some c1) : Inv R B (cget (lessL L (r.fr, r.top, q) ⟨1 + c1.steps, i, -1⟩)) := by
  obtain ⟨g1, g2⟩ := h.cost _ _ h1
  obtain ⟨l, g3, g4⟩ := h.sound _ _ h1
  have hf : (1 : Int) ≤ far := by decide
  exact h.less (by dsimp only; omega) ⟨i :: l, .one hr hp g3, by rw [List.length_cons]; dsimp only; omega⟩ ⟨i, r, hr, rfl, rfl, rfl, .inr (.inl ⟨b, c1, hp, h1, by dsimp only; omega⟩)⟩
theorem Inv.less2 {L : List (Key × Cost)} (h : Inv R B (cget L)) {i : Nat} {r : Rule} {b x m q : Int} {c1 c2 : Cost} (hr : R[i]? = some r) (hp : r.put = [b, x]) (h1 : cget L (r.to, b, m) = some c1) (h2 : cget L (m, x, q) = some c2) : Inv R B (cget (lessL L (r.fr, r.top, q) ⟨1 + c1.steps + c2.steps, i, m⟩)) := by
  obtain ⟨g1, g2⟩ := h.cost _ _ h1
  obtain ⟨l, g3, g4⟩ := h.sound _ _ h1
  obtain ⟨k1, k2⟩ := h.cost _ _ h2
  obtain ⟨l2, k3, k4⟩ := h.sound _ _ h2
  have hf : (1 : Int) ≤ far := by decide
  exact h.less (by dsimp only; omega) ⟨i :: (l ++ l2), .two hr hp g3 k3, by rw [List.length_cons, List.length_append]; dsimp only; omega⟩
    ⟨i, r, hr, rfl, rfl, rfl, .inr (.inr ⟨b, x, c1, c2, hp, h1, h2, by dsimp only; omega⟩)⟩
end

/-! ### the number that falls -/
def potAt (L : List (Key × Cost)) (k : Key) : Nat := match cget L k with
  | none => 1099511627777
  | some c => c.steps.toNat
def pot (U : List Key) (L : List (Key × Cost)) : Nat := (U.map (potAt L)).sum
theorem potAt_lessL {L : List (Key × Cost)} {k : Key} {c : Cost} (hc0 : 0 ≤ c.steps) (h : isLess L k c = true) (hcost : ∀ k d, cget L k = some d → 0 ≤ d.steps) (k' : Key) : potAt (lessL L k c) k' ≤ potAt L k' ∧ (k' = k → potAt (lessL L k c) k' < potAt L k') := by
  have e := congrFun (cget_lessL L k c h) k'
  unfold potAt
  rw [e]
  by_cases hk : k' = k
  · rw [if_pos hk, hk]
    have h2 := isLess_true h
    have hf : far = 1099511627776 := rfl
    cases hg : cget L k with
    | none => dsimp only; omega
    | some d => have := h2 d hg; have := hcost k d hg; dsimp only; omega
  · rw [if_neg hk]
    exact ⟨Nat.le_refl _, fun e => absurd e hk⟩
theorem pot_lessL {U : List Key} {L : List (Key × Cost)} {k : Key} {c : Cost} (hc0 : 0 ≤ c.steps) (hcost : ∀ k d, cget L k = some d → 0 ≤ d.steps) (hk : k ∈ U) : pot U (lessL L k c) ≤ pot U L ∧ (isLess L k c = true → pot U (lessL L k c) < pot U L) := by
  cases e : isLess L k c
  · rw [lessL_not L k c e]; exact ⟨Nat.le_refl _, fun h => by cases h⟩
  · have key : ∀ V : List Key, (V.map (potAt (lessL L k c))).sum ≤ (V.map (potAt L)).sum ∧ (k ∈ V → (V.map (potAt (lessL L k c))).sum < (V.map (potAt L)).sum) := by
      intro V
      induction V with
      | nil => simp
      | cons x V ih =>
        have h1 := potAt_lessL hc0 e hcost x
        simp only [List.map_cons, List.sum_cons, List.mem_cons]
        refine ⟨by omega, ?_⟩
        rintro (rfl | hx)
        · have := h1.2 rfl; omega
        · have := ih.2 hx; omega
    exact ⟨(key U).1, fun _ => (key U).2 hk⟩
theorem keys_lessL {L : List (Key × Cost)} {k : Key} {c : Cost} : (∀ k', (∃ d, cget L k' = some d) → ∃ d, cget (lessL L k c) k' = some d) ∧ (∀ k', (∃ d, cget (lessL L k c) k' = some d) → k' = k ∨ ∃ d, cget L k' = some d) := by
  cases e : isLess L k c
  · rw [lessL_not L k c e]; exact ⟨fun _ h => h, fun _ h => .inr h⟩
  · rw [cget_lessL L k c e]
    constructor
    · intro k' h
      dsimp only
      by_cases hk : k' = k
      · exact ⟨_, if_pos hk⟩
      · rw [if_neg hk]; exact h
    · intro k' h
      dsimp only at h
      by_cases hk : k' = k
      · exact .inl hk
      · rw [if_neg hk] at h; exact .inr h
theorem nodup_len {α : Type} [DecidableEq α] : ∀ {l m : List α}, l.Nodup → (∀ x ∈ l, x ∈ m) → l.length ≤ m.length
  | [], _, _, _ => by simp
  | a :: l, m, h, hs => by
    rw [List.nodup_cons] at h
    have ha := hs a (by simp)
    have := nodup_len (l := l) (m := m.erase a) h.2 (fun x hx => (List.mem_erase_of_ne (fun e => h.1 (by rw [← e]; exact hx))).2 (hs x (by simp [hx])))
    rw [List.length_erase_of_mem ha] at this
    have : 0 < m.length := List.length_pos_of_mem ha
    simp only [List.length_cons]
    omega
end
section
open Go.RowKit

/-- what a round has done to the table so far -/
structure Prg (U : List Key) (L L' : List (Key × Cost)) (b : Bool) : Prop where
  keys : ∀ k, (∃ c, cget L k = some c) → ∃ c, cget L' k = some c
  same : b = false → L' = L
  le : pot U L' ≤ pot U L
  lt : b = true → pot U L' < pot U L
theorem Prg.refl (U : List Key) (L : List (Key × Cost)) : Prg U L L false := ⟨fun _ h => h, fun _ => rfl, Nat.le_refl _, fun h => by cases h⟩
theorem Prg.step {U : List Key} {L L' : List (Key × Cost)} {b : Bool} (h : Prg U L L' b) {k : Key} {c : Cost} (hc0 : 0 ≤ c.steps) (hcost : ∀ k d, cget L' k = some d → 0 ≤ d.steps) (hk : k ∈ U) : Prg U L (lessL L' k c) (b || isLess L' k c) := by
  have hp := pot_lessL (U := U) hc0 hcost hk
  have hpot := h.le
  refine ⟨fun x hx => (keys_lessL (k := k) (c := c)).1 x (h.keys x hx), fun e => ?_, by omega, fun e => ?_⟩
  · rw [Bool.or_eq_false_iff] at e
    rw [lessL_not _ _ _ e.2]
    exact h.same e.1
  · rw [Bool.or_eq_true] at e
    rcases e with e | e
    · have := h.lt e; omega
    · have := hp.2 e; omega

theorem cs_one {s : ByteArray} (h : s.size = 1) : cs s = [ch s 0] := by
  have hl := cs_length s
  rw [h] at hl
  obtain ⟨a, ha⟩ := List.length_eq_one_iff.1 hl
  unfold ch
  rw [ha]
  rfl
theorem cs_two {s : ByteArray} (h : s.size = 2) : cs s = [ch s 0, ch s 1] := by
  have hl := cs_length s
  rw [h] at hl
  unfold ch
  match hc : cs s, hl with
  | [a, b], _ => rfl
theorem cs_zero {s : ByteArray} (h : s.size = 0) : cs s = [] := by
  have hl := cs_length s
  rw [h] at hl
  exact List.eq_nil_of_length_eq_zero hl

/-- done so far -/
def D1 (L : List (Key × Cost)) (r : Rule) (b : Int) (ts : List Int) (j : Nat) : Prop := ∀ j' < j, ∀ q, ts[j']? = some q → ∀ c1, cget L (r.to, b, q) = some c1 → ∃ c, cget L (r.fr, r.top, q) = some c ∧ c.steps ≤ 1 + c1.steps
def D3 (L : List (Key × Cost)) (r : Rule) (b x m : Int) (ts : List Int) (j : Nat) : Prop := ∀ j' < j, ∀ q, ts[j']? = some q → ∀ c1 c2, cget L (r.to, b, m) = some c1 → cget L (m, x, q) = some c2 → ∃ c, cget L (r.fr, r.top, q) = some c ∧ c.steps ≤ 1 + c1.steps + c2.steps
def D2 (L : List (Key × Cost)) (r : Rule) (b x : Int) (ts : List Int) (j : Nat) : Prop := ∀ j' < j, ∀ m, ts[j']? = some m → ∀ q c1 c2, cget L (r.to, b, m) = some c1 → cget L (m, x, q) = some c2 → ∃ c, cget L (r.fr, r.top, q) = some c ∧ c.steps ≤ 1 + c1.steps + c2.steps
def DR (L : List (Key × Cost)) (R : List Rule) (i : Nat) : Prop := ∀ i' < i, ∀ r, R[i']? = some r → ClosedAt (cget L) r
theorem D1.zero (L : List (Key × Cost)) (r : Rule) (b : Int) (ts : List Int) : D1 L r b ts 0 := fun _ h => by omega
theorem D2.zero (L : List (Key × Cost)) (r : Rule) (b x : Int) (ts : List Int) : D2 L r b x ts 0 := fun _ h => by omega
theorem D3.zero (L : List (Key × Cost)) (r : Rule) (b x m : Int) (ts : List Int) : D3 L r b x m ts 0 := fun _ h => by omega
theorem DR.zero (L : List (Key × Cost)) (R : List Rule) : DR L R 0 := fun _ h => by omega
theorem D1.succ {L : List (Key × Cost)} {r : Rule} {b : Int} {ts : List Int} {j : Nat} {q : Int} {c1 c : Cost} (h : D1 L r b ts j) (hq : ts[j]? = some q) (h1 : cget L (r.to, b, q) = some c1) (hc : c.steps = 1 + c1.steps) (hl : isLess L (r.fr, r.top, q) c = false) : D1 L r b ts (j + 1) := by
  intro j' hj' q' hq' c1' h1'
  by_cases e : j' = j
  · subst e
    rw [hq] at hq'
    cases hq'
    rw [h1] at h1'
    cases h1'
    obtain ⟨d, g1, g2⟩ := isLess_false hl
    exact ⟨d, g1, by omega⟩
  · exact h j' (by omega) q' hq' c1' h1'
theorem D3.succ {L : List (Key × Cost)} {r : Rule} {b x m : Int} {ts : List Int} {j : Nat} {q : Int} {c1 c2 c : Cost} (h : D3 L r b x m ts j) (hq : ts[j]? = some q) (h1 : cget L (r.to, b, m) = some c1) (h2 : cget L (m, x, q) = some c2) (hc : c.steps = 1 + c1.steps + c2.steps) (hl : isLess L (r.fr, r.top, q) c = false) : D3 L r b x m ts (j + 1) := by
  intro j' hj' q' hq' c1' c2' h1' h2'
  by_cases e : j' = j
  · subst e
    rw [hq] at hq'
    cases hq'
    rw [h1] at h1'
    cases h1'
    rw [h2] at h2'
    cases h2'
    obtain ⟨d, g1, g2⟩ := isLess_false hl
    exact ⟨d, g1, by omega⟩
  · exact h j' (by omega) q' hq' c1' c2' h1' h2'
theorem mem_at {α : Type} {l : List α} {x : α} (h : x ∈ l) : ∃ j, j < l.length ∧ l[j]? = some x := by
  obtain ⟨j, hj, e⟩ := List.mem_iff_getElem.1 h
  exact ⟨j, hj, by rw [List.getElem?_eq_getElem hj, e]⟩
theorem D2.succ {L : List (Key × Cost)} {r : Rule} {b x : Int} {ts ts2 : List Int} {j : Nat} {m : Int} (h : D2 L r b x ts j) (hm : ts[j]? = some m) (h3 : D3 L r b x m ts2 ts2.length) (hts : ∀ q, q ∈ ts2 ↔ (m, x, q) ∈ L.map (·.1)) : D2 L r b x ts (j + 1) := by
  intro j' hj' m' hm' q c1 c2 h1 h2
  by_cases e : j' = j
  · subst e
    rw [hm] at hm'
    cases hm'
    obtain ⟨j2, g1, g2⟩ := mem_at ((hts q).2 (cget_iff.1 ⟨c2, h2⟩))
    exact h3 j2 g1 q g2 c1 c2 h1 h2
  · exact h j' (by omega) m' hm' q c1 c2 h1 h2
theorem DR.succ {L : List (Key × Cost)} {R : List Rule} {i : Nat} {r : Rule} (h : DR L R i) (hr : R[i]? = some r) (hc : ClosedAt (cget L) r) : DR L R (i + 1) := by
  intro i' hi' r' hr'
  by_cases e : i' = i
  · subst e; rw [hr] at hr'; cases hr'; exact hc
  · exact h i' (by omega) r' hr'
theorem closed0 {L : List (Key × Cost)} {r : Rule} {c : Cost} (hp : r.put = []) (hc : c.steps = 1) (hl : isLess L (r.fr, r.top, r.to) c = false) : ClosedAt (cget L) r := by
  obtain ⟨d, g1, g2⟩ := isLess_false hl
  refine ⟨fun _ => ⟨d, g1, by omega⟩, fun b q c1 h => ?_, fun b x m q c1 c2 h => ?_⟩
  · rw [hp] at h; cases h
  · rw [hp] at h; cases h
theorem closed1 {L : List (Key × Cost)} {r : Rule} {b : Int} {ts : List Int} (hp : r.put = [b]) (hts : ∀ q, q ∈ ts ↔ (r.to, b, q) ∈ L.map (·.1)) (h : D1 L r b ts ts.length) : ClosedAt (cget L) r := by
  refine ⟨fun e => ?_, fun b' q c1 e h1 => ?_, fun b x m q c1 c2 e => ?_⟩
  · rw [hp] at e; cases e
  · rw [hp] at e
    cases e
    obtain ⟨j2, g1, g2⟩ := mem_at ((hts q).2 (cget_iff.1 ⟨c1, h1⟩))
    exact h j2 g1 q g2 c1 h1
  · rw [hp] at e; cases e
theorem closed2 {L : List (Key × Cost)} {r : Rule} {b x : Int} {ts : List Int} (hp : r.put = [b, x]) (hts : ∀ q, q ∈ ts ↔ (r.to, b, q) ∈ L.map (·.1)) (h : D2 L r b x ts ts.length) : ClosedAt (cget L) r := by
  refine ⟨fun e => ?_, fun b' q c1 e h1 => ?_, fun b x m q c1 c2 e h1 h2 => ?_⟩
  · rw [hp] at e; cases e
  · rw [hp] at e; cases e
  · rw [hp] at e
    cases e
    obtain ⟨j2, g1, g2⟩ := mem_at ((hts m).2 (cget_iff.1 ⟨c1, h1⟩))
    exact h j2 g1 m g2 q c1 c2 h1 h2

theorem SetsOk.bx {lo : Nat} {w w' : World} {b2 : Nat} {L : List (Key × Cost)} {xs : List Nat} (h : SetsOk lo w b2 L) (hb2 : lo ≤ b2) (hx : ∀ x ∈ xs, x < lo) (hb : BX xs w w') : SetsOk lo w' b2 L := by
  obtain ⟨f, ⟨S, hA, hf, hd⟩, hm⟩ := h
  have hlt := hA.lt
  refine ⟨f, ⟨S, hA.of_block (hb.block b2 hlt (fun hm => by have := hx b2 hm; omega)), fun x => ?_, hd⟩, hm⟩
  rcases hf x with h1 | ⟨v, h1, h2, h3⟩
  · exact .inl h1
  · refine .inr ⟨v, h1, h2, h3.of_block fun g hg => ?_⟩
    obtain ⟨hlo, hgl⟩ := h3.lt g hg
    exact hb.block g hgl (fun hm => by have := hx g hm; omega)
theorem Els.bx {α : Type} {E : El α} {w w' : World} {A : Option Addr} {n cap : Nat} {l : List α} {xs : List Nat} (h : Els E w (.slice A n cap) l) (hb : BX xs w w') (hA : 0 < l.length → ∀ a, A = some a → a.block ∉ xs) : Els E w' (.slice A n cap) l := by
  obtain ⟨A', cap', e, h1, h2, h3, h4⟩ := h
  cases e
  refine ⟨A, cap, rfl, h1, h2, h3, fun i hi => ?_⟩
  obtain ⟨b, off, rfl, hc⟩ := h4 i hi
  exact ⟨b, off, rfl, fun j u hu => hb.cell (hc j u hu) (hA (by omega) ⟨b, off, none⟩ rfl)⟩
theorem OwnE.bx {α : Type} {E : El α} {e lo : Nat} {w w' : World} {v : Value} {l : List α} {xs : List Nat} (h : OwnE E e lo w v l) (hb : BX xs w w') (hx : ∀ x ∈ xs, x < lo) : OwnE E e lo w' v l :=
  h.of_block fun g hg => hb.block g (h.lt g hg).2 fun hm => by have := hx g hm; have := (h.lt g hg).1; omega
theorem BX.drop {a w w' : World} {b c : Nat} (h : BX [b] a w) (h2 : BX [b, c] w w') (hc : a.heap.size ≤ c) : BX [b] a w' :=
  ⟨h2.os.trans h.os, h2.tape.trans h.tape, h2.output.trans h.output, Nat.le_trans h.size h2.size, fun k hk hx => (h2.block k (Nat.lt_of_lt_of_le hk h.size) (by simp at hx ⊢; omega)).trans (h.block k hk hx)⟩
theorem MMap.apart {w : World} {b : Nat} {L : List (Key × Cost)} (h : MMap w b L) {p : Addr} {c : Value} (hc : w.cell? p = some c) : p.block ≠ b := by
  rintro rfl
  obtain ⟨es, cl, hb, _⟩ := h
  unfold World.cell? at hc
  rw [hb] at hc
  cases hc
/-- the ends from a head, as a lookup finds them -/
theorem SetsOk.at {lo : Nat} {w : World} {b2 : Nat} {L : List (Key × Cost)} (h : SetsOk lo w b2 L) (x : Head) : ∃ A n cap ts, (∀ w' : World, w'.heap[b2]? = w.heap[b2]? → (Instr.lookup 114 (.map (some b2)) (hv x) false).run Tryz.prog w' = .ok (.slice A n cap) w') ∧ OwnE ElI 3 lo w (.slice A n cap) ts ∧ (∀ q, q ∈ ts ↔ (x.1, x.2, q) ∈ L.map (·.1)) := by
  obtain ⟨f, ⟨S, hA, hf, hd⟩, hm⟩ := h
  have how := SInv.held hf x
  obtain ⟨A, n, cap, e, hn⟩ := OwnE.shape how
  refine ⟨A, n, cap, f x, fun w' hw' => ?_, by rw [← e]; exact how, hm.1 x⟩
  have := AMap.run_lookup (P := Tryz.prog) key77 Tryz.underlying114 (zero48 w') (hA.of_block hw') x false
  rw [this, e]
  rfl
theorem SetsOk.at5 {lo : Nat} {w : World} {b2 : Nat} {L : List (Key × Cost)} (h : SetsOk lo w b2 L) (x : Head) : ∃ A n cap ts, (∀ w' : World, w'.heap[b2]? = w.heap[b2]? → (Instr.lookup 114 (.map (some b2)) (hv x) false).run Tryz.prog w' = .ok (.slice A n cap) w') ∧ OwnE ElI 3 lo w (.slice A n cap) ts ∧ (∀ q, q ∈ ts ↔ (x.1, x.2, q) ∈ L.map (·.1)) ∧ ts.length ≤ L.length := by
  obtain ⟨f, ⟨S, hA, hf, hd⟩, hm⟩ := h
  have how := SInv.held hf x
  obtain ⟨A, n, cap, e, hn⟩ := OwnE.shape how
  refine ⟨A, n, cap, f x, fun w' hw' => ?_, by rw [← e]; exact how, hm.1 x, hm.2 x⟩
  have := AMap.run_lookup (P := Tryz.prog) key77 Tryz.underlying114 (zero48 w') (hA.of_block hw') x false
  rw [this, e]
  rfl
/-- a cost, as a lookup finds it -/
theorem MMap.look {w : World} {b : Nat} {L : List (Key × Cost)} (h : MMap w b L) {k : Key} {c : Cost} (hk : cget L k = some c) : (Instr.lookup 81 (.map (some b)) (mv k) false).run Tryz.prog w = .ok (costV c) w := by
  have := AMap.run_lookup (P := Tryz.prog) key94 Tryz.underlying81 (zero96 w) h k false
  rw [this, aget_cval, hk]
  rfl

/-- the keys that may come -/
def univ (l : List RuleB) (Qs : List Int) : List Key := l.flatMap fun r => Qs.map fun q => (r.fr, r.top, q)
theorem univ_len (l : List RuleB) (Qs : List Int) : (univ l Qs).length = l.length * Qs.length := by
  unfold univ
  induction l with
  | nil => simp
  | cons r l ih => rw [List.flatMap_cons, List.length_append, List.length_map, ih, List.length_cons, Nat.add_mul, Nat.one_mul, Nat.add_comm]
theorem univ_mem {l : List RuleB} {Qs : List Int} {r : RuleB} {q : Int} (hr : r ∈ l) (hq : q ∈ Qs) : (r.fr, r.top, q) ∈ univ l Qs := List.mem_flatMap.2 ⟨r, hr, List.mem_map.2 ⟨q, hq, rfl⟩⟩

/-- what holds of the table at every time, in memory -/
structure SatSt (R : List Rule) (B : Int → Int → Int → Prop) (b : Nat) (L0 : List (Key × Cost)) (U : List Key) (Qs : List Int) (w : World) (L : List (Key × Cost)) : Prop where
  map : MMap w b L
  inv : Inv R B (cget L)
  ends : ∀ k, (∃ c, cget L k = some c) → k.2.2 ∈ Qs
  keys : ∀ k, (∃ c, cget L k = some c) → k ∈ L0.map (·.1) ∨ k ∈ U
section
variable {R : List Rule} {B : Int → Int → Int → Prop} {b : Nat} {L0 : List (Key × Cost)} {U : List Key} {Qs : List Int} {w w' : World} {L L' : List (Key × Cost)}
theorem SatSt.len (h : SatSt R B b L0 U Qs w L) : L.length ≤ L0.length + U.length := by
  have h1 := AMap.nodup h.map
  rw [cval_keys] at h1
  have := nodup_len h1 (m := L0.map (·.1) ++ U) (fun k hk => List.mem_append.2 (h.keys k (cget_iff.2 hk)))
  simpa using this
theorem SatSt.mem (h : SatSt R B b L0 U Qs w L) (hm : MMap w' b L) : SatSt R B b L0 U Qs w' L := ⟨hm, h.inv, h.ends, h.keys⟩
theorem SatSt.below (h : SatSt R B b L0 U Qs w L) (hB : Below w.heap.size w w') : SatSt R B b L0 U Qs w' L := h.mem (AMap.below h.map hB (AMap.lt h.map))
theorem SatSt.step (h : SatSt R B b L0 U Qs w L') {c0 : Bool} (hP : Prg U L L' c0) {k : Key} {c : Cost} (hm : MMap w' b (lessL L' k c)) (hI : Inv R B (cget (lessL L' k c))) (hc0 : 0 ≤ c.steps) (hU : k ∈ U) (hQ : k.2.2 ∈ Qs) :
    SatSt R B b L0 U Qs w' (lessL L' k c) ∧ Prg U L (lessL L' k c) (c0 || isLess L' k c) := by
  refine ⟨⟨hm, hI, fun k' hk' => ?_, fun k' hk' => ?_⟩, hP.step hc0 (fun k d hd => (h.inv.cost k d hd).1) hU⟩
  · rcases keys_lessL.2 k' hk' with e | e
    · rw [e]; exact hQ
    · exact h.ends k' e
  · rcases keys_lessL.2 k' hk' with e | e
    · rw [e]; exact .inr hU
    · exact h.keys k' e
end
end
section
section
variable (T : Key → Option Cost)
/-- moves, one behind the other, over some letters -/
inductive Chain (p : Int) : List Int → List Key → Int → Prop
  | nil : Chain p [] [] p
  | snoc {w ks m a q c} : Chain p w ks m → T (m, a, q) = some c → Chain p (w ++ [a]) (ks ++ [(m, a, q)]) q
def costOf (k : Key) : Int := match T k with
  | some c => c.steps
  | none => 0
def csum (ks : List Key) : Int := (ks.map (costOf T)).sum
end

section
variable {T : Key → Option Cost}
theorem csum_append (a b : List Key) : csum T (a ++ b) = csum T a + csum T b := by simp [csum]
theorem csum_one (k : Key) (c : Cost) (h : T k = some c) : csum T [k] = c.steps := by simp [csum, costOf, h]
theorem Chain.cons {p m q : Int} {a : Int} {w : List Int} {ks : List Key} {c : Cost} (h : Chain T m w ks q) (hc : T (p, a, m) = some c) : Chain T p (a :: w) ((p, a, m) :: ks) q := by
  induction h with
  | nil => exact Chain.snoc (w := []) (ks := []) .nil hc
  | snoc _ hT ih => have := Chain.snoc ih hT; simpa using this
theorem Chain.nil_inv {p q : Int} {ks : List Key} (h : Chain T p [] ks q) : ks = [] ∧ q = p := by
  generalize hw : ([] : List Int) = w at h
  cases h with
  | nil => exact ⟨rfl, rfl⟩
  | snoc _ _ => simp at hw
theorem Chain.snoc_inv {p q a : Int} {w : List Int} {ks : List Key} (h : Chain T p (w ++ [a]) ks q) : ∃ m ks' c, ks = ks' ++ [(m, a, q)] ∧ T (m, a, q) = some c ∧ Chain T p w ks' m := by
  generalize hw : w ++ [a] = v at h
  cases h with
  | nil => simp at hw
  | @snoc w' ks' m a' _ c h1 h2 =>
    obtain ⟨rfl, e⟩ := List.append_inj' hw rfl
    cases e
    exact ⟨m, ks', c, rfl, h2, h1⟩
theorem Chain.csum_nonneg (hc : ∀ k c, T k = some c → 0 ≤ c.steps) (ks : List Key) : 0 ≤ csum T ks := by
  induction ks with
  | nil => simp [csum]
  | cons k ks ih =>
    have : csum T (k :: ks) = costOf T k + csum T ks := by simp [csum]
    rw [this]
    have : 0 ≤ costOf T k := by
      unfold costOf
      split
      · rename_i c h; exact hc _ _ h
      · exact Int.le_refl _
    omega

/-! ### a way is a path -/
theorem Chain.path {R : List Rule} {B : Int → Int → Int → Prop} (h : Inv R B T) {p q : Int} {w : List Int} {ks : List Key} (hk : Chain T p w ks q) : ∃ n, Path R B p w q n ∧ ((n.length : Int) ≤ csum T ks ∨ far ≤ csum T ks) := by
  induction hk with
  | nil => exact ⟨[], .nil _, .inl (by simp [csum])⟩
  | @snoc w ks m a q c hk hT ih =>
    obtain ⟨n, h1, h2⟩ := ih
    obtain ⟨l, h3, h4⟩ := h.sound _ _ hT
    have h5 := (h.cost _ _ hT).1
    have h6 := Chain.csum_nonneg (fun k c hk => (h.cost k c hk).1) ks
    refine ⟨n ++ l, h1.join (Path.one_iff.2 h3), ?_⟩
    rw [csum_append, csum_one _ _ hT, List.length_append]
    omega
theorem Path.chain {R : List Rule} {B : Int → Int → Int → Prop} (h : Inv R B T) (hcl : ∀ (i : Nat) r, R[i]? = some r → ClosedAt T r) {p q : Int} {w : List Int} {n : List Nat} (hp : Path R B p w q n) : ∃ ks, Chain T p w ks q ∧ csum T ks ≤ n.length := by
  induction hp with
  | nil => exact ⟨[], .nil, by simp [csum]⟩
  | @cons p a m w q l k hd _ ih =>
    obtain ⟨ks, h1, h2⟩ := ih
    obtain ⟨c, h3, h4⟩ := h.complete hcl hd
    refine ⟨_, h1.cons h3, ?_⟩
    rw [show (p, a, m) :: ks = [(p, a, m)] ++ ks from rfl, csum_append, csum_one _ _ h3, List.length_append]
    omega

/-! ### letter by letter -/
/-- what is known behind some letters -/
def NowOk (T : Key → Option Cost) (p : Int) (w : List Int) (f : Int → Option (Int × List Key)) : Prop :=
  (∀ q st ks, f q = some (st, ks) → Chain T p w ks q ∧ st = min (csum T ks) far) ∧ (∀ q ks, Chain T p w ks q → ∃ st ks', f q = some (st, ks') ∧ st ≤ csum T ks)
def now0 (p : Int) : Int → Option (Int × List Key) := fun q => if q = p then some (0, []) else none
theorem NowOk.zero (p : Int) : NowOk T p [] (now0 p) := by
  have hf : (0 : Int) ≤ far := by decide
  constructor
  · intro q st ks h
    unfold now0 at h
    split at h
    · rename_i e
      cases h
      subst e
      exact ⟨.nil, by simp [csum]; omega⟩
    · cases h
  · intro q ks h
    obtain ⟨rfl, rfl⟩ := h.nil_inv
    exact ⟨0, [], by simp [now0], by simp [csum]⟩
/-- what is known behind one more letter, some pairs done -/
def NextOk (T : Key → Option Cost) (a : Int) (f : Int → Option (Int × List Key)) (D : Int → Int → Prop) (g : Int → Option (Int × List Key)) : Prop :=
  (∀ q st ks, g q = some (st, ks) → ∃ m st0 ks0 c, D m q ∧ f m = some (st0, ks0) ∧ T (m, a, q) = some c ∧ ks = ks0 ++ [(m, a, q)] ∧ st = min (st0 + c.steps) far) ∧
  (∀ m q st0 ks0 c, D m q → f m = some (st0, ks0) → T (m, a, q) = some c → ∃ st ks, g q = some (st, ks) ∧ st ≤ min (st0 + c.steps) far)
theorem NextOk.zero (T : Key → Option Cost) (a : Int) (f : Int → Option (Int × List Key)) : NextOk T a f (fun _ _ => False) (fun _ => none) :=
  ⟨fun _ _ _ h => (by cases h), fun _ _ _ _ _ h => False.elim h⟩
theorem NextOk.put {a : Int} {f g : Int → Option (Int × List Key)} {D : Int → Int → Prop} (h : NextOk T a f D g) {m q st0 : Int} {ks0 : List Key} {c : Cost} (hm : f m = some (st0, ks0)) (hc : T (m, a, q) = some c) (hl : ∀ st ks, g q = some (st, ks) → min (st0 + c.steps) far < st) :
    NextOk T a f (fun m' q' => D m' q' ∨ (m' = m ∧ q' = q)) (fun q' => if q' = q then some (min (st0 + c.steps) far, ks0 ++ [(m, a, q)]) else g q') := by
  constructor
  · intro q' st ks h1
    dsimp only at h1
    by_cases e : q' = q
    · rw [if_pos e] at h1
      cases h1
      subst e
      exact ⟨m, st0, ks0, c, .inr ⟨rfl, rfl⟩, hm, hc, rfl, rfl⟩
    · rw [if_neg e] at h1
      obtain ⟨m', st', ks', c', h2, h3⟩ := h.1 _ _ _ h1
      exact ⟨m', st', ks', c', .inl h2, h3⟩
  · intro m' q' st' ks' c' hD hf' hT'
    dsimp only
    by_cases e : q' = q
    · rw [if_pos e]
      refine ⟨_, _, rfl, ?_⟩
      rcases hD with hD | ⟨rfl, _⟩
      · obtain ⟨st, ks, h1, h2⟩ := h.2 _ _ _ _ _ hD hf' hT'
        rw [e] at h1
        have := hl _ _ h1
        omega
      · subst e
        rw [hm] at hf'
        cases hf'
        rw [hc] at hT'
        cases hT'
        omega
    · rw [if_neg e]
      rcases hD with hD | ⟨_, e2⟩
      · exact h.2 _ _ _ _ _ hD hf' hT'
      · exact absurd e2 e
theorem NextOk.skip {a : Int} {f g : Int → Option (Int × List Key)} {D : Int → Int → Prop} (h : NextOk T a f D g) {m q st0 : Int} {ks0 : List Key} {c : Cost} (hm : f m = some (st0, ks0)) (hc : T (m, a, q) = some c) {st : Int} {ks : List Key} (hg : g q = some (st, ks)) (hl : ¬ min (st0 + c.steps) far < st) :
    NextOk T a f (fun m' q' => D m' q' ∨ (m' = m ∧ q' = q)) g := by
  constructor
  · intro q' st' ks' h1
    obtain ⟨m', st'', ks'', c', h2, h3⟩ := h.1 _ _ _ h1
    exact ⟨m', st'', ks'', c', .inl h2, h3⟩
  · intro m' q' st' ks' c' hD hf' hT'
    rcases hD with hD | ⟨rfl, rfl⟩
    · exact h.2 _ _ _ _ _ hD hf' hT'
    · rw [hm] at hf'
      cases hf'
      rw [hc] at hT'
      cases hT'
      exact ⟨st, ks, hg, by omega⟩
theorem NextOk.congr {a : Int} {f g : Int → Option (Int × List Key)} {D D' : Int → Int → Prop} (h : NextOk T a f D g) (hD : ∀ m q, (f m).isSome → (T (m, a, q)).isSome → (D m q ↔ D' m q)) : NextOk T a f D' g := by
  constructor
  · intro q st ks h1
    obtain ⟨m, st0, ks0, c, h2, h3, h4, h5⟩ := h.1 _ _ _ h1
    exact ⟨m, st0, ks0, c, (hD m q (by rw [h3]; rfl) (by rw [h4]; rfl)).1 h2, h3, h4, h5⟩
  · intro m q st0 ks0 c h1 h2 h3
    exact h.2 m q st0 ks0 c ((hD m q (by rw [h2]; rfl) (by rw [h3]; rfl)).2 h1) h2 h3
theorem NowOk.succ {p a : Int} {w : List Int} {f g : Int → Option (Int × List Key)} {D : Int → Int → Prop} (h : NowOk T p w f) (hn : NextOk T a f D g) (hD : ∀ m q, (f m).isSome → (T (m, a, q)).isSome → D m q) (hc : ∀ k c, T k = some c → 0 ≤ c.steps) : NowOk T p (w ++ [a]) g := by
  have hfar : (0 : Int) ≤ far := by decide
  constructor
  · intro q st ks h1
    obtain ⟨m, st0, ks0, c, _, h3, h4, rfl, rfl⟩ := hn.1 _ _ _ h1
    obtain ⟨h5, h6⟩ := h.1 _ _ _ h3
    refine ⟨.snoc h5 h4, ?_⟩
    rw [csum_append, csum_one _ _ h4]
    have := hc _ _ h4
    have := Chain.csum_nonneg hc ks0
    omega
  · intro q ks h1
    obtain ⟨m, ks', c, rfl, h2, h3⟩ := h1.snoc_inv
    obtain ⟨st, ks'', h4, h5⟩ := h.2 _ _ h3
    obtain ⟨st', ks3, h6, h7⟩ := hn.2 m q st ks'' c (hD m q (by rw [h4]; rfl) (by rw [h2]; rfl)) h4 h2
    refine ⟨st', ks3, h6, ?_⟩
    rw [csum_append, csum_one _ _ h2]
    omega
end
end
end Go.Proofs.YtaapnflhjbdmlaaGreatDoor
