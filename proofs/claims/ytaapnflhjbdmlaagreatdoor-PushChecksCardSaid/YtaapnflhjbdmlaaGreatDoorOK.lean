/- A slice of the call's own that may start inside its block (after 's = s[1:]'): read, cut and appended to. No condition. Endless's inner function: a head that comes up. No condition. -/
import Derived.Test.YtaapnflhjbdmlaaGreatDoorMM
import Derived.Deep.AppendSrc
import Derived.Deep.Upon
import Derived.Test.YtaapnflhjbdmlaaGreatDoorKB
namespace Go.Proofs.YtaapnflhjbdmlaaGreatDoor
section
open Go.RowKit

section
variable {α : Type} {E : El α} {e : TypeId} {lo : Nat} {w w' : World} {v : Value} {l : List α}
/-- 'v' owns, somewhere in a block from 'lo' on, the elements l, and room behind them -/
def OwnO (E : El α) (e : TypeId) (lo : Nat) (w : World) (v : Value) (l : List α) : Prop :=
  (v = .slice none 0 0 ∧ l = []) ∨ ∃ g off cap, v = .slice (some ⟨g, off, none⟩) l.length cap ∧ lo ≤ g ∧ (∃ cur, w.heap[g]? = some (.cells cur e (0, 0)) ∧ off + cap * E.k ≤ cur.size) ∧ l.length ≤ cap ∧ cap ≤ maxLen ∧
    ∀ j u, (flatE E l)[j]? = some u → w.cell? ⟨g, off + j, none⟩ = some u
theorem OwnO.nil (e : TypeId) (lo : Nat) (w : World) : OwnO E e lo w (.slice none 0 0) [] := .inl ⟨rfl, rfl⟩
theorem OwnO.shape (h : OwnO E e lo w v l) : ∃ A n cap, v = .slice A n cap ∧ Hid (n = l.length) := by
  rcases h with ⟨rfl, rfl⟩ | ⟨g, off, cap, rfl, _⟩
  · exact ⟨_, _, _, rfl, rfl⟩
  · exact ⟨_, _, _, rfl, rfl⟩
theorem OwnO.lt (h : OwnO E e lo w v l) : ∀ k, v.ownBlock = some k → lo ≤ k ∧ k < w.heap.size := by
  intro k hk
  rcases h with ⟨rfl, _⟩ | ⟨g, off, cap, rfl, hg, ⟨cur, hb, _⟩, _⟩
  · cases hk
  · cases hk
    exact ⟨hg, (Array.getElem?_eq_some_iff.1 hb).1⟩
theorem OwnE.oo (h : OwnE E e lo w v l) : OwnO E e lo w v l := by
  rcases h.2 with ⟨rfl, h0⟩ | ⟨g, cap, cur, rfl, hb, hg, hnc, hcm, hsz, htk⟩
  · exact .inl ⟨rfl, List.length_eq_zero_iff.1 h0⟩
  · refine .inr ⟨g, 0, cap, rfl, hb, ⟨cur, hg, by rw [hsz]; omega⟩, hnc, hcm, fun j u hu => ?_⟩
    have hj := (List.getElem?_eq_some_iff.1 hu).1
    rw [flatE_length] at hj
    rw [← htk, List.getElem?_take_of_lt hj] at hu
    rw [Nat.zero_add, cell_of_row w g j cur e (0, 0) hg, ← hu, Array.getElem?_toList]
theorem OwnO.els (h : OwnO E e lo w v l) : Els E w v l := by
  rcases h with ⟨rfl, rfl⟩ | ⟨g, off, cap, rfl, hb, _, hnc, hcm, hat⟩
  · exact Els.nil _
  · refine ⟨_, cap, rfl, hnc, hcm, (fun h => by cases h), fun i hi => ⟨g, off, rfl, fun j u hu => ?_⟩⟩
    rw [Nat.add_assoc]
    exact hat _ _ (flatE_get E l i hi j u hu)
theorem OwnO.of_block (h : OwnO E e lo w v l) (hb : ∀ g, v.ownBlock = some g → w'.heap[g]? = w.heap[g]?) : OwnO E e lo w' v l := by
  rcases h with h | ⟨g, off, cap, rfl, hg, ⟨cur, hc, hs⟩, h1, h2, h3⟩
  · exact .inl h
  · have hbg := hb g rfl
    exact .inr ⟨g, off, cap, rfl, hg, ⟨cur, hbg.trans hc, hs⟩, h1, h2, fun j u hu => (World.cell?_of_block (a := ⟨g, off + j, none⟩) hbg).trans (h3 j u hu)⟩
theorem OwnO.then (h : OwnO E e lo w v l) (hb : Below w.heap.size w w') : OwnO E e lo w' v l := h.of_block fun g hg => hb.block g (h.lt g hg).2
theorem OwnO.lo_le (h : OwnO E e lo w v l) {lo' : Nat} (hl : lo' ≤ lo) : OwnO E e lo' w v l := by
  rcases h with h | ⟨g, off, cap, h1, h2, h3⟩
  · exact .inl h
  · exact .inr ⟨g, off, cap, h1, Nat.le_trans hl h2, h3⟩
theorem OwnO.cells (h : OwnO E e lo w v l) : ∀ g, v.ownBlock = some g → ∃ cur, w.heap[g]? = some (.cells cur e (0, 0)) := by
  intro g hg
  rcases h with ⟨rfl, _⟩ | ⟨g', off, cap, rfl, _, ⟨cur, hc, _⟩, _⟩
  · cases hg
  · cases hg; exact ⟨cur, hc⟩
/-- the first one taken off -/
theorem OwnO.tail {x : α} {A : Option Addr} {n cap : Nat} (h : OwnO E e lo w (.slice A n cap) (x :: l)) : ∃ g off, A = some ⟨g, off, none⟩ ∧ n = l.length + 1 ∧ n ≤ cap ∧ cap ≤ maxLen ∧
    (cap = 1 → OwnO E e lo w (.slice (some ⟨g, off, none⟩) l.length 0) l) ∧ (cap ≠ 1 → OwnO E e lo w (.slice (some ⟨g, off + E.k, none⟩) l.length (cap - 1)) l) := by
  rcases h with ⟨_, h⟩ | ⟨g, off, cap', e', hg, ⟨cur, hc, hs⟩, h1, h2, h3⟩
  · cases h
  · injection e' with e1 e2 e3
    subst e1 e2 e3
    simp only [List.length_cons] at h1
    have hf : ∀ j u, (flatE E l)[j]? = some u → (flatE E (x :: l))[E.k + j]? = some u := by
      intro j u hu
      unfold flatE at hu ⊢
      rw [List.flatMap_cons, List.getElem?_append_right (by rw [E.len]; omega), E.len]
      simpa using hu
    refine ⟨g, off, rfl, rfl, by simpa using h1, h2, fun hc1 => ?_, fun hc1 => ?_⟩
    · have hl : l = [] := List.length_eq_zero_iff.1 (by omega)
      subst hl
      exact .inr ⟨g, off, 0, rfl, hg, ⟨cur, hc, by omega⟩, by simp, Nat.zero_le _, fun j u hu => by simp [flatE] at hu⟩
    · refine .inr ⟨g, off + E.k, cap - 1, rfl, hg, ⟨cur, hc, ?_⟩, by omega, by omega, fun j u hu => ?_⟩
      · have : cap * E.k = (cap - 1) * E.k + E.k := by
          obtain ⟨c, rfl⟩ : ∃ c, cap = c + 1 := ⟨cap - 1, by omega⟩
          rw [Nat.add_sub_cancel, Nat.add_mul, Nat.one_mul]
        omega
      · rw [Nat.add_assoc]
        exact h3 _ _ (hf j u hu)
end

theorem setCells_row {g : Nat} {t : TypeId} {fr : Nat × Nat} : ∀ (vs : List Value) (o : Nat) (w : World) (cur : Array Value), w.heap[g]? = some (.cells cur t fr) → ∃ cur', (w.setCells g o vs).heap[g]? = some (.cells cur' t fr) ∧ cur'.size = cur.size
  | [], _, _, cur, h => ⟨cur, h, rfl⟩
  | u :: vs, o, w, cur, h => by
    have h1 : (w.setCell ⟨g, o, none⟩ u).heap[g]? = some (.cells (cur.setIfInBounds o u) t fr) := by simp [World.setCell, Array.getElem?_modify, h]
    obtain ⟨cur', h2, h3⟩ := setCells_row vs (o + 1) _ _ h1
    exact ⟨cur', h2, by rw [h3]; simp⟩
theorem setCells_grown (w : World) (g : Nat) : ∀ (vs : List Value) (o : Nat), w.grownBy (w.setCells g o vs) (some g)
  | [], _ => World.grownBy.refl w _
  | u :: vs, o => by
    have h1 : w.grownBy (w.setCell ⟨g, o, none⟩ u) (some g) := ⟨rfl, rfl, rfl, by simp, fun k hk hne => Below.heap_setCell w _ u k (by intro e; exact hne (by rw [show k = g from e]))⟩
    have h2 := setCells_grown (w.setCell ⟨g, o, none⟩ u) g vs (o + 1)
    exact ⟨h2.os.trans h1.os, h2.tape.trans h1.tape, h2.output.trans h1.output, Nat.le_trans h1.size h2.size, fun k hk hne => (h2.block k (Nat.lt_of_lt_of_le hk h1.size) hne).trans (h1.block k hk hne)⟩

section
variable {α : Type} {E : El α} {P : Program}
theorem els_src (w : World) {t e : TypeId} (ht : P.underlying t = some (.slice e)) {v2 : Value} {ys : List α} (h2 : Els E w v2 ys) : Src P E.k t v2 ys.length (flatE E ys) w := by
  obtain ⟨A, cap, rfl, hl, hm, hn, hat⟩ := h2
  rcases A with _ | ad
  · have h0 : ys.length = 0 := by have := hn rfl; omega
    obtain rfl : ys = [] := List.eq_nil_of_length_eq_zero h0
    exact Src.ofNil w ht cap
  · refine Src.ofSlice w ht ad _ cap _ (flatE_length E ys) (fun n u hu => ?_) (flatE_one E ys)
    obtain ⟨i, j, hi, rfl, hu'⟩ := flatE_at E ys hu
    obtain ⟨b, off, hA, hx⟩ := hat i hi
    cases hA
    rw [Addr.add_lit, ← Nat.add_assoc]
    exact hx j u hu'
theorem run_append_oo (w : World) (lo : Nat) (t ty e : TypeId) (i : TypeInfo) (ht : P.underlying t = some (.slice e)) (hi : P.info? e = some i) {z : Value} {bytes : Nat} (hz : i.zero = some z) (hsize : i.size = E.k) (hby : i.bytes = bytes) (hzs : z.cells.size = E.k) (hb1 : bytes ≤ 100)
    (v : Value) (xs : List α) (hown : OwnO E e lo w v xs) (v2 : Value) (ys : List α) (h2 : Els E w v2 ys) (hb : xs.length + ys.length ≤ 1000000) (hlo : lo ≤ w.heap.size) :
    ∃ v' w', (Builtin.append_ #[t, t] ty #[v, v2]).run P w = .ok v' w' ∧ OwnO E e lo w' v' (xs ++ ys) ∧ w.grownBy w' v.ownBlock ∧ lies w v v' := by
  rcases hown with ⟨rfl, rfl⟩ | ⟨g, off, cap, rfl, hg, ⟨cur, hc, hs⟩, h1, hcm, h3⟩
  · obtain ⟨v', w', r1, r2, r3, r4⟩ := run_append_els (P := P) w lo t ty e i ht hi hz hsize hby hzs hb1 (.slice none 0 0) [] (OwnE.nil e lo w) v2 ys h2 (by simpa using hb) hlo
    exact ⟨v', w', r1, r2.oo, r3, r4⟩
  have hsrc := els_src (P := P) w ht h2
  have hfl := flatE_length E xs
  have hyl := flatE_length E ys
  have hcell : ∀ n, n < cur.size → (w.cell? ⟨g, n, none⟩).isSome = true := fun n hn => by
    rw [cell_of_row w g n cur e (0, 0) hc, Array.getElem?_eq_getElem hn]; rfl
  by_cases hroom : xs.length + ys.length ≤ cap
  · have hfit : off + xs.length * E.k + ys.length * E.k ≤ cur.size := by
      have h4 : (xs.length + ys.length) * E.k ≤ cap * E.k := Nat.mul_le_mul_right _ hroom
      rw [Nat.add_mul] at h4
      omega
    have hr := run_append_room_src (P := P) w t t ty e i ht hi g off xs.length cap v2 ys.length (flatE E ys) (by rw [hsize]; exact hsrc) hroom (fun j hj => hcell _ (by rw [hsize]; omega)) (fun j _ => by simp [World.frozen?, hc])
    rw [hsize] at hr
    obtain ⟨cur', hc', hsz'⟩ := setCells_row (flatE E ys) (off + xs.length * E.k) w cur hc
    refine ⟨_, _, hr, .inr ⟨g, off, cap, by rw [List.length_append], hg, ⟨cur', hc', by omega⟩, by rw [List.length_append]; exact hroom, hcm, fun j u hu => ?_⟩, setCells_grown w g _ _, .inl rfl⟩
    rw [flatE_append] at hu
    by_cases hj : j < (flatE E xs).length
    · rw [List.getElem?_append_left hj] at hu
      rw [World.cell?_setCells_out g _ _ w _ (fun _ _ => .inl (by show off + j < _; omega))]
      exact h3 j u hu
    · rw [List.getElem?_append_right (by omega)] at hu
      have hj2 := (List.getElem?_eq_some_iff.1 hu).1
      have h5 := World.cell?_setCells_in g (flatE E ys) (off + xs.length * E.k) w (fun n hn => hcell _ (by omega)) (j - (flatE E xs).length) hj2
      rw [show off + xs.length * E.k + (j - (flatE E xs).length) = off + j by omega] at h5
      rw [h5, (List.getElem?_eq_some_iff.1 hu).2]
  · have hbb : (xs.length + ys.length) * bytes ≤ 1000000 * 100 := Nat.mul_le_mul hb hb1
    have hold : (Builtin.firstCells i.size xs.length (.slice (some ⟨g, off, none⟩) xs.length cap)).run P w.drew = .ok (flatE E xs).toArray w.drew := by
      rw [hsize]
      exact run_firstCells_some w.drew E.k xs.length ⟨g, off, none⟩ xs.length cap (flatE E xs) hfl (fun j u hu => by rw [Addr.add_lit]; exact h3 j u hu)
    have hnsc : Builtin.nextslicecap (xs.length + ys.length) cap * bytes ≤ 281474976710656 := growslice_fits (by omega) (by omega)
    have hr := run_append_grow_src (P := P) w t t ty e i z ht hi hz (some ⟨g, off, none⟩) xs.length cap (flatE E xs) hold v2 ys.length (flatE E ys) (by rw [hsize]; exact hsrc) (by omega) (by omega) (by rw [hby]; exact hnsc)
    refine ⟨_, _, hr, ?_, ?_, .inr rfl⟩
    · have hge := grownCap_ge w (xs.length + ys.length) cap e
      have hgm := grownCap_le_maxLen w (xs.length + ys.length) cap e (by unfold maxLen; omega)
      refine OwnE.oo (E := E) ⟨by rw [flatE_length], .inr ⟨w.heap.size, _, _, by rw [List.length_append], hlo, heap_alloc_new w.drew _, by rw [List.length_append]; exact hge, hgm, ?_, ?_⟩⟩
      · simp only [Array.size_append, List.size_toArray, size_zeroCells, hzs, List.length_append, hfl, hyl, ← Nat.add_mul]
        congr 1
        omega
      · rw [flatE_append]
        simp only [Array.toList_append]
        have hl2 : (xs ++ ys).length * E.k = (flatE E xs ++ flatE E ys).length := by rw [List.length_append, List.length_append, hfl, hyl, Nat.add_mul]
        rw [hl2]
        exact List.take_left
    · exact ⟨rfl, rfl, rfl, by simp, fun k hk _ => heap_alloc_old w.drew _ hk⟩
theorem wpList_append_oo (w : World) {ops : Array Oper} {rest : List Oper} {o : Oper} {a : Act} {Q : Exit → Act → World → Prop} (hgd : o.guard = none) (s x : Operand) (t : TypeId)
    (ho : o.op = .call { callee := .builtin .append, args := #[s, x], argTypes := #[t, t] }) (lo : Nat) {e : TypeId} (ht : P.underlying t = some (.slice e)) {z : Value} {k bytes : Nat}
    (hinfo : (P.info? e).map (fun i => (i.zero, i.size, i.bytes)) = some (some z, k, bytes)) (hk : k = E.k) (hzs : z.cells.size = E.k) (hb1 : bytes ≤ 100)
    (v : Value) (xs : List α) (hs : a.eval s = v) (hown : OwnO E e lo w v xs) (v2 : Value) (hx : a.eval x = v2) (ys : List α) (h2 : Els E w v2 ys) (hb : xs.length + ys.length ≤ 1000000) (hlo : lo ≤ w.heap.size)
    (h : ∀ v' w', OwnO E e lo w' v' (xs ++ ys) → Below lo w w' → w.grownBy w' v.ownBlock → lies w v v' → wpList P ops Q rest (a.put o.dst v') w') : wpList P ops Q (o :: rest) a w := by
  obtain ⟨i, hi, hz0, hz1, hz2⟩ := info_parts hinfo
  refine wpList_plain hgd fun K hK => ?_
  obtain ⟨v', w', hrun, r2, r3, r4⟩ := run_append_oo (P := P) w lo t o.type e i ht hi hz0 (hz1.trans hk) hz2 hzs hb1 v xs hown v2 ys h2 hb hlo
  unfold Oper.wp execOp
  simp only [ho, resolve, invoke, builtin, Sem.run_bind, Sem.run_pure, Result.andThen_ok, List.map_toArray, List.map_cons, List.map_nil, hs, hx, hrun]
  exact hK _ _ (h v' w' r2 (below_of_grown r3 hlo fun k hk => (hown.lt k hk).1) r3 r4)
end
end
section
open Go.RowKit Go.Shelf
attribute [local go_sem] Oper.semAt_some

/-- what stays, but some blocks and what the value owns -/
structure VKeep (xs : List Nat) (w w' : World) (v v' : Value) : Prop where
  size : w.heap.size ≤ w'.heap.size
  block : ∀ k, k < w.heap.size → k ∉ xs → v.ownBlock ≠ some k → w'.heap[k]? = w.heap[k]?
  own : v'.ownBlock = v.ownBlock ∨ ∃ g, v'.ownBlock = some g ∧ w.heap.size ≤ g
  os : w'.os = w.os
  tape : w'.tape = w.tape
  output : w'.output = w.output
theorem VKeep.refl (xs : List Nat) (w : World) (v : Value) : VKeep xs w w v v := ⟨Nat.le_refl _, fun _ _ _ _ => rfl, .inl rfl, rfl, rfl, rfl⟩
theorem VKeep.trans {xs : List Nat} {a b c : World} {u v x : Value} (h : VKeep xs a b u v) (h2 : VKeep xs b c v x) : VKeep xs a c u x := by
  refine ⟨Nat.le_trans h.size h2.size, fun k hk h1 h3 => ?_, ?_, h2.os.trans h.os, h2.tape.trans h.tape, h2.output.trans h.output⟩
  · refine (h2.block k (Nat.lt_of_lt_of_le hk h.size) h1 fun e => ?_).trans (h.block k hk h1 h3)
    rcases h.own with h4 | ⟨g, h4, h5⟩
    · exact h3 (h4.symm.trans e)
    · rw [h4] at e; cases e; omega
  · rcases h2.own with h4 | ⟨g, h4, h5⟩
    · rcases h.own with h6 | ⟨g, h6, h7⟩
      · exact .inl (h4.trans h6)
      · exact .inr ⟨g, h4.trans h6, h7⟩
    · exact .inr ⟨g, h4, Nat.le_trans h.size h5⟩
theorem VKeep.of_below {xs : List Nat} {b c : World} {v : Value} (hb : Below b.heap.size b c) : VKeep xs b c v v := ⟨hb.size, fun k hk _ _ => hb.block k hk, .inl rfl, hb.os, hb.tape, hb.output⟩
theorem VKeep.below {xs : List Nat} {a b c : World} {u v : Value} (h : VKeep xs a b u v) (hb : Below b.heap.size b c) : VKeep xs a c u v := h.trans (.of_below hb)
theorem VKeep.blk {xs : List Nat} {w w' : World} {v v' : Value} (h : VKeep xs w w' v v') {g t : Nat} {cs : Array Value} (hc : Blk w g t cs) (h1 : g ∉ xs) (h2 : v.ownBlock ≠ some g) : Blk w' g t cs :=
  (h.block _ hc.lt h1 h2).trans hc
theorem VKeep.of_grown {xs : List Nat} {w w' : World} {b : Nat} (v : Value) (hg : w.grownBy w' (some b)) (hb : b ∈ xs) : VKeep xs w w' v v :=
  ⟨hg.size, fun k hk h _ => hg.block k hk fun e => h (by cases e; exact hb), .inl rfl, hg.os, hg.tape, hg.output⟩
theorem VKeep.append {xs : List Nat} {w w' : World} {v v' : Value} (hg : w.grownBy w' v.ownBlock) (hl : lies w v v') : VKeep xs w w' v v' :=
  ⟨hg.size, fun k hk _ h => hg.block k hk fun e => h e.symm, by rcases hl with h | h; exact .inl h; exact .inr ⟨_, h, Nat.le_refl _⟩, hg.os, hg.tape, hg.output⟩
theorem VKeep.set {xs : List Nat} (w : World) (v : Value) {p : Addr} (hp : p.block ∈ xs) (u : Value) : VKeep xs w (w.setCell p u) v v :=
  ⟨by simp, fun k hk h _ => Below.heap_setCell w p u k (by rintro rfl; exact h hp), .inl rfl, rfl, rfl, rfl⟩
theorem VKeep.to_below {xs : List Nat} {w w' : World} {v v' : Value} (h : VKeep xs w w' v v') {B : Nat} (hB : B ≤ w.heap.size) (hx : ∀ x ∈ xs, B ≤ x) (hv : ∀ k, v.ownBlock = some k → B ≤ k) : Below B w w' :=
  ⟨h.os, h.tape, h.output, h.size, fun k hk => h.block k (by omega) (fun hm => by have := hx k hm; omega) (fun e => by have := hv k e; omega)⟩

def marks (H : List Head) : List (Head × Value) := H.map fun h => (h, .bool true)
theorem aget_marks (H : List Head) (h : Head) : aget (marks H) h = if h ∈ H then some (.bool true) else none := by
  unfold marks
  induction H with
  | nil => rfl
  | cons x H ih =>
    rw [List.map_cons, aget_cons, ih]
    by_cases e : h = x
    · subst e; simp
    · simp [e]
theorem aput_marks {H : List Head} {h : Head} (hn : h ∉ H) : aput (marks H) h (.bool true) = marks (H ++ [h]) := by
  unfold aput
  rw [aget_marks, if_neg hn]
  unfold marks
  simp
def addH (H : List Head) (h : Head) : List Head := if h ∈ H then H else H ++ [h]
theorem mem_addH {H : List Head} {h x : Head} : x ∈ addH H h ↔ x ∈ H ∨ x = h := by
  unfold addH
  split
  · rename_i hm
    constructor
    · exact .inl
    · rintro (h1 | rfl)
      · exact h1
      · exact hm
  · simp
/-- the heads that have come up -/
structure HSt (w : World) (Bs Bh b lo : Nat) (v : Value) (H : List Head) : Prop where
  seen : Blk w Bs 117 #[.map (some b)]
  map : AMap hv w b (marks H)
  var : Blk w Bh 116 #[v]
  own : OwnE ElH 102 lo w v H
theorem HSt.then {w w' : World} {Bs Bh b lo : Nat} {v : Value} {H : List Head} (h : HSt w Bs Bh b lo v H) (hb : Below w.heap.size w w') : HSt w' Bs Bh b lo v H :=
  ⟨h.seen.below hb h.seen.lt, h.map.below hb h.map.lt, h.var.below hb h.var.lt, h.own.then hb⟩
theorem Blk.ne_of {w : World} {g g' t t' : Nat} {cs cs' : Array Value} (h : Blk w g t cs) (h' : Blk w g' t' cs') (ht : t ≠ t') : g ≠ g' := by
  rintro rfl
  unfold Blk at h h'
  rw [h] at h'
  cases h'
  exact ht rfl
theorem AMap.ne_blk {κ : Type} {ke : κ → Value} {w : World} {b g t : Nat} {cs : Array Value} {L : List (κ × Value)} (h : AMap ke w b L) (h' : Blk w g t cs) : b ≠ g := by
  rintro rfl
  obtain ⟨_, _, h1, _⟩ := h
  unfold Blk at h'
  rw [h1] at h'
  cases h'
theorem OwnE.ne_blk {α : Type} {E : El α} {e lo : Nat} {w : World} {v : Value} {l : List α} (h : OwnE E e lo w v l) {g t : Nat} {cs : Array Value} (h' : Blk w g t cs) (ht : t ≠ e) : v.ownBlock ≠ Option.some g :=
  h.ne_obj (show w.heap[g]? = Option.some (.cells cs t (0, 0)) from h') (fun cur e' => ht (by cases e'; rfl))
theorem HSt.ne {w : World} {Bs Bh b lo : Nat} {v : Value} {H : List Head} (h : HSt w Bs Bh b lo v H) : Bs ≠ Bh ∧ b ≠ Bs ∧ b ≠ Bh ∧ v.ownBlock ≠ some Bs ∧ v.ownBlock ≠ some Bh ∧ v.ownBlock ≠ some b :=
  ⟨h.seen.ne_of h.var (by decide), h.map.ne_blk h.seen, h.map.ne_blk h.var, h.own.ne_blk h.seen (by decide), h.own.ne_blk h.var (by decide), h.own.ne_map h.map⟩
theorem zero4 (w : World) : (zeroValue 4).run Tryz.prog w = .ok (.bool false) w := by kernel_rfl

set_option maxHeartbeats 2000000 in
theorem come_any (w : World) (Bs Bh b lo : Nat) (p t : Int) (v : Value) (H : List Head) (hst : HSt w Bs Bh b lo v H) (hlen : H.length ≤ 1000) (hlo : lo ≤ w.heap.size) :
    Calls Tryz.prog 56 #[hv (p, t), .pointer (some ⟨Bs, 0, none⟩), .pointer (some ⟨Bh, 0, none⟩)] w fun e w' => e = .returned (.tuple #[]) ∧ ∃ v', HSt w' Bs Bh b lo v' (addH H (p, t)) ∧ VKeep [b, Bh] w w' v v' := by
  obtain ⟨W, hW⟩ : ∃ W, w.alloc (.cells #[.int .i64 p, .int .u8 t] 102) = W := ⟨_, rfl⟩
  have hB : Below w.heap.size w W := by rw [← hW]; exact below1 _ _
  have kh : Blk W w.heap.size 102 #[.int .i64 p, .int .u8 t] := by rw [← hW]; exact Blk.new _ _ _
  have hst1 := hst.then hB
  have hvo : ∀ g, v.ownBlock = some g → g < w.heap.size := fun g h => (hst.own.lt g h).2
  have hk1 : VKeep [b, Bh] w W v v := .of_below hB
  obtain ⟨n1, n2, n3, n4, n5, n6⟩ := hst1.ne
  have c0 : W.cell? ⟨Bs, 0, none⟩ = some (.map (some b)) := hst1.seen.cell 0
  have c1 : W.cell? ⟨w.heap.size, 0, none⟩ = some (.int .i64 p) := kh.cell 0
  have c2 : W.cell? ⟨w.heap.size, 1, none⟩ = some (.int .u8 t) := kh.cell 1
  have hwW : w.heap.size ≤ W.heap.size := hB.size
  have hwz : lo ≤ W.heap.size := by omega
  have hbh := hst.var.lt
  have hb' := hst.map.lt
  have hbs := hst.seen.lt
  obtain ⟨Av, nv, cv', rfl, hnv⟩ := OwnE.shape hst.own
  have hm1 := Lib.hid hst1.map
  replace hst1 := Lib.hid hst1
  replace hvo := Lib.hid hvo
  replace n4 := Lib.hid n4
  replace n5 := Lib.hid n5
  replace n6 := Lib.hid n6
  by_cases hin : (p, t) ∈ H
  · have hg := Lib.hid (show (aget (marks H) (p, t)).getD (.bool false) = .bool true by rw [aget_marks, if_pos hin]; rfl)
    have hadd := Lib.hid (show addH H (p, t) = H by unfold addH; rw [if_pos hin])
    replace hin := Lib.hid hin
    clear hst kh
    go_enter Tryz.func56, Tryz.ntmps56
    go_wp2_with (at_lookup; refine wpList_lookup_a _ rfl (.tmp 4) (.tmp 5) 117 rfl 102 4 key77 Tryz.underlying117 (zero4 _) rfl hm1.out (p, t) rfl _ hg.out ?_)
    go_end0
    exact ⟨rfl, _, by rw [hadd.out]; exact hst1.out, hk1⟩
  · have hg := Lib.hid (show (aget (marks H) (p, t)).getD (.bool false) = .bool false by rw [aget_marks, if_neg hin]; rfl)
    have hadd := Lib.hid (show addH H (p, t) = H ++ [(p, t)] by unfold addH; rw [if_neg hin])
    have hput := Lib.hid (aput_marks hin)
    replace hin := Lib.hid hin
    clear hst
    replace kh := Lib.hid kh
    go_enter Tryz.func56, Tryz.ntmps56
    go_wp2_with (first
      | (at_lookup; refine wpList_lookup_a _ rfl (.tmp 4) (.tmp 5) 117 rfl 102 4 key77 Tryz.underlying117 (zero4 _) rfl hm1.out (p, t) rfl _ hg.out ?_)
      | (at_mapUpdate; refine wpList_mapUpdate_a _ rfl (.tmp 8) (.tmp 9) (.const (.bool true)) 117 rfl 102 4 key77 Tryz.underlying117 rfl hm1.out (p, t) rfl (.bool true) rfl ?_; intro w2 hA2 hg2 hs2; rw [hput.out] at hA2; have kh2 : Blk w2 w.heap.size 102 #[.int .i64 p, .int .u8 t] := (hg2.block _ kh.out.lt (by simp; omega)).trans kh.out; have kv2 : Blk w2 Bh 116 #[.slice Av nv cv'] := (hg2.block _ hst1.out.var.lt (by simp; omega)).trans hst1.out.var; have d1 := kh2.cell 0; have d2 := kh2.cell 1; have d3 := kv2.cell 0; simp at d1 d2 d3; have kh2 := Lib.hid kh2; have kv2 := Lib.hid kv2; have hA2 := Lib.hid hA2; have hg2 := Lib.hid hg2; clear hs2)
      | (at_builtin; refine wpList_append_els (E := ElH) _ rfl (.tmp 10) (.tmp 12) 116 rfl lo Tryz.underlying116 info77 rfl rfl (by decide) _ H rfl ?_ _ rfl [(p, t)] ?_ ?_ ?_ ?_))
    · exact (hst1.out.own.of_block fun g hg => hg2.out.block g (hst1.out.own.lt g hg).2 fun e => n6.out (by rw [hg, e])).then (below1 _ _)
    · exact els_one (E := ElH) (Blk.new _ _ _) rfl
    · simp; omega
    · have := hg2.out.size
      simp; omega
    intro v3 w3 ho3 hb3 hg3 hl3
    obtain ⟨A3, n3', c3, rfl, _⟩ := OwnE.shape ho3
    have hB2 := below1 w2 (.cells #[.int .i64 p, .int .u8 t] 102)
    have hsz2 := hg2.out.size
    have kv3 : Blk w3 Bh 116 #[.slice Av nv cv'] := (hg3.block _ (by simp; omega) (fun e => n5.out e.symm)).trans (kv2.out.below hB2 kv2.out.lt)
    have ks3 : Blk w3 Bs 117 #[.map (some b)] := (hg3.block _ (by simp; omega) (fun e => n4.out e.symm)).trans (Blk.below (show Blk w2 Bs 117 #[.map (some b)] from (hg2.out.block _ hst1.out.seen.lt (by simp; omega)).trans hst1.out.seen) hB2 (by omega))
    have hA3 : AMap hv w3 b (marks (H ++ [(p, t)])) := (hA2.out.below hB2 hA2.out.lt).kept hg3 (fun e => n6.out e.symm)
    have hk3 : VKeep [b, Bh] w w3 (.slice Av nv cv') (.slice A3 n3' c3) := ((hk1.trans (.of_grown _ hg2.out (by simp))).below hB2).trans (.append hg3 hl3)
    have m1 := kv3.cell 0
    have m2 := kv3.free 0
    simp at m1
    have ho3 := Lib.hid ho3
    clear hb3 hg3 hl3
    replace ks3 := Lib.hid ks3
    replace hA3 := Lib.hid hA3
    replace hk3 := Lib.hid hk3
    replace kv3 := Lib.hid kv3
    (try go_frame)
    go_wp2
    go_end0
    have hown : OwnE ElH 102 lo (w3.setCell ⟨Bh, 0, none⟩ (.slice A3 n3' c3)) (.slice A3 n3' c3) (H ++ [(p, t)]) := ho3.out.of_block fun g hg => Below.heap_setCell _ _ _ _ fun e => ho3.out.ne_blk kv3.out (by decide) (by rw [hg, e])
    exact ⟨rfl, .slice A3 n3' c3, by rw [hadd.out]; exact ⟨ks3.out.far n1 _, hA3.out.setCell _ _, by have := kv3.out.set 0 (.slice A3 n3' c3); simpa using this, hown⟩, hk3.out.trans (.set _ _ (by simp) _)⟩
end
end Go.Proofs.YtaapnflhjbdmlaaGreatDoor
