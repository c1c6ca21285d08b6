/- What a round of saturate does, in plain words. No condition. -/
import Derived.Test.YtaapnflhjbdmlaaDoorM2
import Derived.Test.YtaapnflhjbdmlaaDoorP6
import Derived.Test.YtaapnflhjbdmlaaDoorW5
namespace Go.Proofs.YtaapnflhjbdmlaaDoor
open Go.RowKit

/-- what a round has done to the table so far -/
structure Prg (U : List Key) (L L' : List (Key × Cost)) (b : Bool) : Prop where
  keys : ∀ k, (∃ c, cget L k = some c) → ∃ c, cget L' k = some c
  same : b = false → L' = L
  le : pot U L' ≤ pot U L
  lt : b = true → pot U L' < pot U L
theorem Prg.refl (U : List Key) (L : List (Key × Cost)) : Prg U L L false := ⟨fun _ h => h, fun _ => rfl, Nat.le_refl _, fun h => by cases h⟩
theorem Prg.step {U : List Key} {L L' : List (Key × Cost)} {b : Bool} (h : Prg U L L' b) {k : Key} {c : Cost} (hc0 : 0 ≤ c.steps) (hcost : ∀ k d, cget L' k = some d → 0 ≤ d.steps) (hk : k ∈ U) : Prg U L (lessL L' k c) (b || isLess L' k c) := by
  have hp := pot_lessL (U := U) hc0 hcost hk
  have hpot := h.le
  refine ⟨fun x hx => (keys_lessL (k := k) (c := c)).1 x (h.keys x hx), fun e => ?_, by omega, fun e => ?_⟩
  · rw [Bool.or_eq_false_iff] at e
    rw [lessL_not _ _ _ e.2]
    exact h.same e.1
  · rw [Bool.or_eq_true] at e
    rcases e with e | e
    · have := h.lt e; omega
    · have := hp.2 e; omega

theorem cs_one {s : ByteArray} (h : s.size = 1) : cs s = [ch s 0] := by
  have hl := cs_length s
  rw [h] at hl
  obtain ⟨a, ha⟩ := List.length_eq_one_iff.1 hl
  unfold ch
  rw [ha]
  rfl
theorem cs_two {s : ByteArray} (h : s.size = 2) : cs s = [ch s 0, ch s 1] := by
  have hl := cs_length s
  rw [h] at hl
  unfold ch
  match hc : cs s, hl with
  | [a, b], _ => rfl
theorem cs_zero {s : ByteArray} (h : s.size = 0) : cs s = [] := by
  have hl := cs_length s
  rw [h] at hl
  exact List.eq_nil_of_length_eq_zero hl

/-- done so far -/
def D1 (L : List (Key × Cost)) (r : Rule) (b : Int) (ts : List Int) (j : Nat) : Prop := ∀ j' < j, ∀ q, ts[j']? = some q → ∀ c1, cget L (r.to, b, q) = some c1 → ∃ c, cget L (r.fr, r.top, q) = some c ∧ c.steps ≤ 1 + c1.steps
def D3 (L : List (Key × Cost)) (r : Rule) (b x m : Int) (ts : List Int) (j : Nat) : Prop := ∀ j' < j, ∀ q, ts[j']? = some q → ∀ c1 c2, cget L (r.to, b, m) = some c1 → cget L (m, x, q) = some c2 → ∃ c, cget L (r.fr, r.top, q) = some c ∧ c.steps ≤ 1 + c1.steps + c2.steps
def D2 (L : List (Key × Cost)) (r : Rule) (b x : Int) (ts : List Int) (j : Nat) : Prop := ∀ j' < j, ∀ m, ts[j']? = some m → ∀ q c1 c2, cget L (r.to, b, m) = some c1 → cget L (m, x, q) = some c2 → ∃ c, cget L (r.fr, r.top, q) = some c ∧ c.steps ≤ 1 + c1.steps + c2.steps
def DR (L : List (Key × Cost)) (R : List Rule) (i : Nat) : Prop := ∀ i' < i, ∀ r, R[i']? = some r → ClosedAt (cget L) r
theorem D1.zero (L : List (Key × Cost)) (r : Rule) (b : Int) (ts : List Int) : D1 L r b ts 0 := fun _ h => by omega
theorem D2.zero (L : List (Key × Cost)) (r : Rule) (b x : Int) (ts : List Int) : D2 L r b x ts 0 := fun _ h => by omega
theorem D3.zero (L : List (Key × Cost)) (r : Rule) (b x m : Int) (ts : List Int) : D3 L r b x m ts 0 := fun _ h => by omega
theorem DR.zero (L : List (Key × Cost)) (R : List Rule) : DR L R 0 := fun _ h => by omega
theorem D1.succ {L : List (Key × Cost)} {r : Rule} {b : Int} {ts : List Int} {j : Nat} {q : Int} {c1 c : Cost} (h : D1 L r b ts j) (hq : ts[j]? = some q) (h1 : cget L (r.to, b, q) = some c1) (hc : c.steps = 1 + c1.steps) (hl : isLess L (r.fr, r.top, q) c = false) : D1 L r b ts (j + 1) := by
  intro j' hj' q' hq' c1' h1'
  by_cases e : j' = j
  · subst e
    rw [hq] at hq'
    cases hq'
    rw [h1] at h1'
    cases h1'
    obtain ⟨d, g1, g2⟩ := isLess_false hl
    exact ⟨d, g1, by omega⟩
  · exact h j' (by omega) q' hq' c1' h1'
theorem D3.succ {L : List (Key × Cost)} {r : Rule} {b x m : Int} {ts : List Int} {j : Nat} {q : Int} {c1 c2 c : Cost} (h : D3 L r b x m ts j) (hq : ts[j]? = some q) (h1 : cget L (r.to, b, m) = some c1) (h2 : cget L (m, x, q) = some c2) (hc : c.steps = 1 + c1.steps + c2.steps) (hl : isLess L (r.fr, r.top, q) c = false) : D3 L r b x m ts (j + 1) := by
  intro j' hj' q' hq' c1' c2' h1' h2'
  by_cases e : j' = j
  · subst e
    rw [hq] at hq'
    cases hq'
    rw [h1] at h1'
    cases h1'
    rw [h2] at h2'
    cases h2'
    obtain ⟨d, g1, g2⟩ := isLess_false hl
    exact ⟨d, g1, by omega⟩
  · exact h j' (by omega) q' hq' c1' c2' h1' h2'
theorem mem_at {α : Type} {l : List α} {x : α} (h : x ∈ l) : ∃ j, j < l.length ∧ l[j]? = some x := by
  obtain ⟨j, hj, e⟩ := List.mem_iff_getElem.1 h
  exact ⟨j, hj, by rw [List.getElem?_eq_getElem hj, e]⟩
theorem D2.succ {L : List (Key × Cost)} {r : Rule} {b x : Int} {ts ts2 : List Int} {j : Nat} {m : Int} (h : D2 L r b x ts j) (hm : ts[j]? = some m) (h3 : D3 L r b x m ts2 ts2.length) (hts : ∀ q, q ∈ ts2 ↔ (m, x, q) ∈ L.map (·.1)) : D2 L r b x ts (j + 1) := by
  intro j' hj' m' hm' q c1 c2 h1 h2
  by_cases e : j' = j
  · subst e
    rw [hm] at hm'
    cases hm'
    obtain ⟨j2, g1, g2⟩ := mem_at ((hts q).2 (cget_iff.1 ⟨c2, h2⟩))
    exact h3 j2 g1 q g2 c1 c2 h1 h2
  · exact h j' (by omega) m' hm' q c1 c2 h1 h2
theorem DR.succ {L : List (Key × Cost)} {R : List Rule} {i : Nat} {r : Rule} (h : DR L R i) (hr : R[i]? = some r) (hc : ClosedAt (cget L) r) : DR L R (i + 1) := by
  intro i' hi' r' hr'
  by_cases e : i' = i
  · subst e; rw [hr] at hr'; cases hr'; exact hc
  · exact h i' (by omega) r' hr'
theorem closed0 {L : List (Key × Cost)} {r : Rule} {c : Cost} (hp : r.put = []) (hc : c.steps = 1) (hl : isLess L (r.fr, r.top, r.to) c = false) : ClosedAt (cget L) r := by
  obtain ⟨d, g1, g2⟩ := isLess_false hl
  refine ⟨fun _ => ⟨d, g1, by omega⟩, fun b q c1 h => ?_, fun b x m q c1 c2 h => ?_⟩
  · rw [hp] at h; cases h
  · rw [hp] at h; cases h
theorem closed1 {L : List (Key × Cost)} {r : Rule} {b : Int} {ts : List Int} (hp : r.put = [b]) (hts : ∀ q, q ∈ ts ↔ (r.to, b, q) ∈ L.map (·.1)) (h : D1 L r b ts ts.length) : ClosedAt (cget L) r := by
  refine ⟨fun e => ?_, fun b' q c1 e h1 => ?_, fun b x m q c1 c2 e => ?_⟩
  · rw [hp] at e; cases e
  · rw [hp] at e
    cases e
    obtain ⟨j2, g1, g2⟩ := mem_at ((hts q).2 (cget_iff.1 ⟨c1, h1⟩))
    exact h j2 g1 q g2 c1 h1
  · rw [hp] at e; cases e
theorem closed2 {L : List (Key × Cost)} {r : Rule} {b x : Int} {ts : List Int} (hp : r.put = [b, x]) (hts : ∀ q, q ∈ ts ↔ (r.to, b, q) ∈ L.map (·.1)) (h : D2 L r b x ts ts.length) : ClosedAt (cget L) r := by
  refine ⟨fun e => ?_, fun b' q c1 e h1 => ?_, fun b x m q c1 c2 e h1 h2 => ?_⟩
  · rw [hp] at e; cases e
  · rw [hp] at e; cases e
  · rw [hp] at e
    cases e
    obtain ⟨j2, g1, g2⟩ := mem_at ((hts m).2 (cget_iff.1 ⟨c1, h1⟩))
    exact h j2 g1 m g2 q c1 c2 h1 h2

theorem SetsOk.bx {lo : Nat} {w w' : World} {b2 : Nat} {L : List (Key × Cost)} {xs : List Nat} (h : SetsOk lo w b2 L) (hb2 : lo ≤ b2) (hx : ∀ x ∈ xs, x < lo) (hb : BX xs w w') : SetsOk lo w' b2 L := by
  obtain ⟨f, ⟨S, hA, hf, hd⟩, hm⟩ := h
  have hlt := hA.lt
  refine ⟨f, ⟨S, hA.of_block (hb.block b2 hlt (fun hm => by have := hx b2 hm; omega)), fun x => ?_, hd⟩, hm⟩
  rcases hf x with h1 | ⟨v, h1, h2, h3⟩
  · exact .inl h1
  · refine .inr ⟨v, h1, h2, h3.of_block fun g hg => ?_⟩
    obtain ⟨hlo, hgl⟩ := h3.lt g hg
    exact hb.block g hgl (fun hm => by have := hx g hm; omega)
theorem Els.bx {α : Type} {E : El α} {w w' : World} {A : Option Addr} {n cap : Nat} {l : List α} {xs : List Nat} (h : Els E w (.slice A n cap) l) (hb : BX xs w w') (hA : 0 < l.length → ∀ a, A = some a → a.block ∉ xs) : Els E w' (.slice A n cap) l := by
  obtain ⟨A', cap', e, h1, h2, h3, h4⟩ := h
  cases e
  refine ⟨A, cap, rfl, h1, h2, h3, fun i hi => ?_⟩
  obtain ⟨b, off, rfl, hc⟩ := h4 i hi
  exact ⟨b, off, rfl, fun j u hu => hb.cell (hc j u hu) (hA (by omega) ⟨b, off, none⟩ rfl)⟩
theorem OwnE.bx {α : Type} {E : El α} {e lo : Nat} {w w' : World} {v : Value} {l : List α} {xs : List Nat} (h : OwnE E e lo w v l) (hb : BX xs w w') (hx : ∀ x ∈ xs, x < lo) : OwnE E e lo w' v l :=
  h.of_block fun g hg => hb.block g (h.lt g hg).2 fun hm => by have := hx g hm; have := (h.lt g hg).1; omega
theorem BX.drop {a w w' : World} {b c : Nat} (h : BX [b] a w) (h2 : BX [b, c] w w') (hc : a.heap.size ≤ c) : BX [b] a w' :=
  ⟨h2.os.trans h.os, h2.tape.trans h.tape, h2.output.trans h.output, Nat.le_trans h.size h2.size, fun k hk hx => (h2.block k (Nat.lt_of_lt_of_le hk h.size) (by simp at hx ⊢; omega)).trans (h.block k hk hx)⟩
theorem MMap.apart {w : World} {b : Nat} {L : List (Key × Cost)} (h : MMap w b L) {p : Addr} {c : Value} (hc : w.cell? p = some c) : p.block ≠ b := by
  rintro rfl
  obtain ⟨es, cl, hb, _⟩ := h
  unfold World.cell? at hc
  rw [hb] at hc
  cases hc
/-- the ends from a head, as a lookup finds them -/
theorem SetsOk.at {lo : Nat} {w : World} {b2 : Nat} {L : List (Key × Cost)} (h : SetsOk lo w b2 L) (x : Head) : ∃ A n cap ts, (∀ w' : World, w'.heap[b2]? = w.heap[b2]? → (Instr.lookup 72 (.map (some b2)) (hv x) false).run Tryd.prog w' = .ok (.slice A n cap) w') ∧ OwnE ElI 3 lo w (.slice A n cap) ts ∧ (∀ q, q ∈ ts ↔ (x.1, x.2, q) ∈ L.map (·.1)) := by
  obtain ⟨f, ⟨S, hA, hf, hd⟩, hm⟩ := h
  have how := SInv.held hf x
  obtain ⟨A, n, cap, e, hn⟩ := OwnE.shape how
  refine ⟨A, n, cap, f x, fun w' hw' => ?_, by rw [← e]; exact how, hm.1 x⟩
  have := AMap.run_lookup (P := Tryd.prog) key77 Tryd.underlying72 (zero48 w') (hA.of_block hw') x false
  rw [this, e]
  rfl
theorem SetsOk.at5 {lo : Nat} {w : World} {b2 : Nat} {L : List (Key × Cost)} (h : SetsOk lo w b2 L) (x : Head) : ∃ A n cap ts, (∀ w' : World, w'.heap[b2]? = w.heap[b2]? → (Instr.lookup 72 (.map (some b2)) (hv x) false).run Tryd.prog w' = .ok (.slice A n cap) w') ∧ OwnE ElI 3 lo w (.slice A n cap) ts ∧ (∀ q, q ∈ ts ↔ (x.1, x.2, q) ∈ L.map (·.1)) ∧ ts.length ≤ L.length := by
  obtain ⟨f, ⟨S, hA, hf, hd⟩, hm⟩ := h
  have how := SInv.held hf x
  obtain ⟨A, n, cap, e, hn⟩ := OwnE.shape how
  refine ⟨A, n, cap, f x, fun w' hw' => ?_, by rw [← e]; exact how, hm.1 x, hm.2 x⟩
  have := AMap.run_lookup (P := Tryd.prog) key77 Tryd.underlying72 (zero48 w') (hA.of_block hw') x false
  rw [this, e]
  rfl
/-- a cost, as a lookup finds it -/
theorem MMap.look {w : World} {b : Nat} {L : List (Key × Cost)} (h : MMap w b L) {k : Key} {c : Cost} (hk : cget L k = some c) : (Instr.lookup 70 (.map (some b)) (mv k) false).run Tryd.prog w = .ok (costV c) w := by
  have := AMap.run_lookup (P := Tryd.prog) key94 Tryd.underlying70 (zero96 w) h k false
  rw [this, aget_cval, hk]
  rfl

/-- the keys that may come -/
def univ (l : List RuleB) (Qs : List Int) : List Key := l.flatMap fun r => Qs.map fun q => (r.fr, r.top, q)
theorem univ_len (l : List RuleB) (Qs : List Int) : (univ l Qs).length = l.length * Qs.length := by
  unfold univ
  induction l with
  | nil => simp
  | cons r l ih => rw [List.flatMap_cons, List.length_append, List.length_map, ih, List.length_cons, Nat.add_mul, Nat.one_mul, Nat.add_comm]
theorem univ_mem {l : List RuleB} {Qs : List Int} {r : RuleB} {q : Int} (hr : r ∈ l) (hq : q ∈ Qs) : (r.fr, r.top, q) ∈ univ l Qs := List.mem_flatMap.2 ⟨r, hr, List.mem_map.2 ⟨q, hq, rfl⟩⟩

/-- what holds of the table at every time, in memory -/
structure SatSt (R : List Rule) (B : Int → Int → Int → Prop) (b : Nat) (L0 : List (Key × Cost)) (U : List Key) (Qs : List Int) (w : World) (L : List (Key × Cost)) : Prop where
  map : MMap w b L
  inv : Inv R B (cget L)
  ends : ∀ k, (∃ c, cget L k = some c) → k.2.2 ∈ Qs
  keys : ∀ k, (∃ c, cget L k = some c) → k ∈ L0.map (·.1) ∨ k ∈ U
section
variable {R : List Rule} {B : Int → Int → Int → Prop} {b : Nat} {L0 : List (Key × Cost)} {U : List Key} {Qs : List Int} {w w' : World} {L L' : List (Key × Cost)}
theorem SatSt.len (h : SatSt R B b L0 U Qs w L) : L.length ≤ L0.length + U.length := by
  have h1 := AMap.nodup h.map
  rw [cval_keys] at h1
  have := nodup_len h1 (m := L0.map (·.1) ++ U) (fun k hk => List.mem_append.2 (h.keys k (cget_iff.2 hk)))
  simpa using this
theorem SatSt.mem (h : SatSt R B b L0 U Qs w L) (hm : MMap w' b L) : SatSt R B b L0 U Qs w' L := ⟨hm, h.inv, h.ends, h.keys⟩
theorem SatSt.below (h : SatSt R B b L0 U Qs w L) (hB : Below w.heap.size w w') : SatSt R B b L0 U Qs w' L := h.mem (AMap.below h.map hB (AMap.lt h.map))
theorem SatSt.step (h : SatSt R B b L0 U Qs w L') {c0 : Bool} (hP : Prg U L L' c0) {k : Key} {c : Cost} (hm : MMap w' b (lessL L' k c)) (hI : Inv R B (cget (lessL L' k c))) (hc0 : 0 ≤ c.steps) (hU : k ∈ U) (hQ : k.2.2 ∈ Qs) :
    SatSt R B b L0 U Qs w' (lessL L' k c) ∧ Prg U L (lessL L' k c) (c0 || isLess L' k c) := by
  refine ⟨⟨hm, hI, fun k' hk' => ?_, fun k' hk' => ?_⟩, hP.step hc0 (fun k d hd => (h.inv.cost k d hd).1) hU⟩
  · rcases keys_lessL.2 k' hk' with e | e
    · rw [e]; exact hQ
    · exact h.ends k' e
  · rcases keys_lessL.2 k' hk' with e | e
    · rw [e]; exact .inr hU
    · exact h.keys k' e
end
end Go.Proofs.YtaapnflhjbdmlaaDoor
