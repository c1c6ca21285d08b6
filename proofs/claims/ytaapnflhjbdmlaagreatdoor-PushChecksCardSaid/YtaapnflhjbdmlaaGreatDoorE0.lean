/- Slices of elements of some cells each: what they read as, and what the call itself owns. No condition. -/
import Derived.Test.YtaapnflhjbdmlaaGreatDoorBase
import Derived.Deep.RegionWith
import Derived.IntWalk
import Derived.Deep.DeepFit
namespace Go.Proofs.YtaapnflhjbdmlaaGreatDoor
open Go.RowKit

theorem cell_below {w w' : World} {p : Addr} {c : Value} (h : w.cell? p = some c) (hb : Below w.heap.size w w') : w'.cell? p = some c := by rw [hb.cell (lt_of_cell h)]; exact h
theorem bthen {a w w' : World} (h : Below a.heap.size a w) (h2 : Below w.heap.size w w') : Below a.heap.size a w' := h.trans (h2.mono h.size)
theorem below1 (w : World) (o : Obj) : Below w.heap.size w (w.alloc o) := below_of_grown (World.grownBy_alloc w o none) (Nat.le_refl _) (by simp)
theorem alloc_size (w : World) (o : Obj) : (w.alloc o).heap.size = w.heap.size + 1 := by simp
/-- how an element lies in its cells -/
structure El (α : Type) where
  k : Nat
  enc : α → List Value
  len : ∀ x, (enc x).length = k
  one : ∀ x u, u ∈ enc x → u.oneCell' = true
  pos : 0 < k

section
variable {α : Type} (E : El α)

/-- 'v' is, in 'w', a slice of elements that may be read -/
def Els (w : World) (v : Value) (l : List α) : Prop :=
  ∃ (A : Option Addr) (cap : Nat), v = .slice A l.length cap ∧ l.length ≤ cap ∧ cap ≤ maxLen ∧ (A = none → cap = 0) ∧
    ∀ i (h : i < l.length), ∃ b off, A = some ⟨b, off, none⟩ ∧ ∀ j u, (E.enc l[i])[j]? = some u → w.cell? ⟨b, off + i * E.k + j, none⟩ = some u

def flatE (l : List α) : List Value := l.flatMap E.enc
theorem flatE_length (l : List α) : (flatE E l).length = l.length * E.k := by
  induction l with
  | nil => simp [flatE]
  | cons p l ih =>
    have e : flatE E (p :: l) = E.enc p ++ flatE E l := rfl
    rw [e, List.length_append, ih, E.len, List.length_cons, Nat.add_mul, Nat.one_mul, Nat.add_comm]
theorem flatE_get (l : List α) : ∀ i (h : i < l.length) j u, (E.enc l[i])[j]? = some u → (flatE E l)[i * E.k + j]? = some u := by
  induction l with
  | nil => intro i h; simp at h
  | cons p l ih =>
    intro i h j u hu
    have e : flatE E (p :: l) = E.enc p ++ flatE E l := rfl
    rw [e]
    rcases i with _ | i
    · rw [Nat.zero_mul, Nat.zero_add]
      have hj : j < (E.enc p).length := (List.getElem?_eq_some_iff.1 (by simpa using hu)).1
      rw [List.getElem?_append_left hj]; simpa using hu
    · have h2 := ih i (by simpa using h) j u (by simpa using hu)
      rw [List.getElem?_append_right (by rw [E.len, Nat.add_mul]; omega), E.len, show (i + 1) * E.k + j - E.k = i * E.k + j by rw [Nat.add_mul]; omega]
      exact h2
theorem flatE_at (l : List α) {n : Nat} {u : Value} (h : (flatE E l)[n]? = some u) : ∃ i j, ∃ hi : i < l.length, n = i * E.k + j ∧ (E.enc l[i])[j]? = some u := by
  have hlt : n < l.length * E.k := by have := (List.getElem?_eq_some_iff.1 h).1; rwa [flatE_length] at this
  have hk := E.pos
  have hi : n / E.k < l.length := Nat.div_lt_of_lt_mul (by rw [Nat.mul_comm]; exact hlt)
  have hn : n = n / E.k * E.k + n % E.k := by rw [Nat.mul_comm]; exact (Nat.div_add_mod n E.k).symm
  have hm : n % E.k < E.k := Nat.mod_lt _ hk
  refine ⟨n / E.k, n % E.k, hi, hn, ?_⟩
  have hj : n % E.k < (E.enc l[n / E.k]).length := by rw [E.len]; exact hm
  have hg := flatE_get E l (n / E.k) hi (n % E.k) _ (List.getElem?_eq_getElem hj)
  rw [← hn, h] at hg
  rw [List.getElem?_eq_getElem hj, hg]
theorem flatE_append (l m : List α) : flatE E (l ++ m) = flatE E l ++ flatE E m := by simp [flatE]
theorem flatE_one (l : List α) : ∀ u ∈ flatE E l, u.oneCell' = true := by
  intro u hu
  obtain ⟨p, _, hp⟩ := List.mem_flatMap.1 hu
  exact E.one p u hp

/-- 'v' owns, in a block from 'lo' on, the elements l -/
def OwnE (e : TypeId) (lo : Nat) (w : World) (v : Value) (l : List α) : Prop := w.ownsRow lo e E.k v l.length (flatE E l)
end

section
variable {α : Type} {E : El α} {e : TypeId} {lo : Nat} {w w' : World} {v : Value} {l : List α}

theorem Els.nil (w : World) : Els E w (.slice none 0 0) [] := ⟨none, 0, rfl, Nat.le_refl _, Nat.zero_le _, fun _ => rfl, fun i hi => absurd hi (by simp)⟩
theorem Els.shape (h : Els E w v l) : ∃ A n cap, v = .slice A n cap ∧ Hid (n = l.length) := by
  obtain ⟨A, cap, rfl, _⟩ := h
  exact ⟨A, _, cap, rfl, rfl⟩
theorem Els.of_block (h : Els E w v l) (hb : ∀ b, b < w.heap.size → w'.heap[b]? = w.heap[b]?) : Els E w' v l := by
  obtain ⟨A, cap, rfl, hl, hm, hn, hat⟩ := h
  refine ⟨A, cap, rfl, hl, hm, hn, fun i hi => ?_⟩
  obtain ⟨b, off, hA, hx⟩ := hat i hi
  exact ⟨b, off, hA, fun j u hu => (World.cell?_of_block (w := w) (hb b (lt_of_cell (hx j u hu)))).trans (hx j u hu)⟩
theorem Els.below (h : Els E w v l) {B : Nat} (hB : w.heap.size ≤ B) (hb : Below B w w') : Els E w' v l := h.of_block fun b hlt => hb.block b (by omega)
theorem Els.drewN (h : Els E w v l) (k : Nat) : Els E (w.drewN k) v l := h
theorem Els.then (h : Els E w v l) (hb : Below w.heap.size w w') : Els E w' v l := h.below (Nat.le_refl _) hb
/-- an element's cells, at the slice's own address -/
theorem Els.cell {A : Option Addr} {n cap : Nat} (h : Els E w (.slice A n cap) l) (h0 : 0 < l.length) : ∃ b off, A = some ⟨b, off, none⟩ ∧ ∀ i (hi : i < l.length) j u, (E.enc l[i])[j]? = some u → w.cell? ⟨b, off + i * E.k + j, none⟩ = some u := by
  obtain ⟨A, cap, e1, hl, hm, hn, hat⟩ := h
  cases e1
  obtain ⟨b, off, rfl, _⟩ := hat 0 h0
  refine ⟨b, off, rfl, fun i hi j u hu => ?_⟩
  obtain ⟨b', off', e2, hx⟩ := hat i hi
  cases e2
  exact hx j u hu
theorem Els.len {A : Option Addr} {n cap : Nat} (h : Els E w (.slice A n cap) l) : n = l.length ∧ n ≤ cap ∧ cap ≤ maxLen := by
  obtain ⟨A, cap, e1, hl, hm, _⟩ := h
  cases e1
  exact ⟨rfl, hl, hm⟩
theorem Els.take {A : Option Addr} {n cap : Nat} (h : Els E w (.slice A n cap) l) (k : Nat) (hk : k ≤ l.length) : Els E w (.slice A k cap) (l.take k) := by
  obtain ⟨A, cap, e1, hl, hm, hn, hat⟩ := h
  cases e1
  refine ⟨A, cap, by simp [hk], by simp; omega, hm, hn, fun i hi => ?_⟩
  simp at hi
  obtain ⟨b, off, hA, hx⟩ := hat i (by omega)
  exact ⟨b, off, hA, by simpa using hx⟩

theorem OwnE.nil (e : TypeId) (lo : Nat) (w : World) : OwnE E e lo w (.slice none 0 0) [] := World.ownsRow_nil _ _ _ _
theorem OwnE.els (h : OwnE E e lo w v l) : Els E w v l := by
  unfold OwnE at h
  rcases h.2 with ⟨rfl, h0⟩ | ⟨g, cap, cur, rfl, hb, hg, hnc, hcm, _, _⟩
  · exact ⟨none, 0, by rw [h0], by omega, Nat.zero_le _, fun _ => rfl, fun i hi => by omega⟩
  · refine ⟨_, cap, rfl, hnc, hcm, (fun h => by cases h), fun i hi => ⟨g, 0, rfl, fun j u hu => ?_⟩⟩
    have hf := flatE_get E l i hi j u hu
    have hlt : i * E.k + j < l.length * E.k := by have := (List.getElem?_eq_some_iff.1 hf).1; rwa [flatE_length] at this
    rw [Nat.zero_add, h.cellAt _ hlt]; exact hf
theorem OwnE.lt (h : OwnE E e lo w v l) : ∀ k, v.ownBlock = some k → lo ≤ k ∧ k < w.heap.size := World.ownsRow.lt h
theorem OwnE.shape (h : OwnE E e lo w v l) : ∃ A n cap, v = .slice A n cap ∧ Hid (n = l.length) := by
  rcases h.2 with ⟨rfl, h0⟩ | ⟨g, cap, cur, rfl, _⟩
  · exact ⟨none, 0, 0, rfl, h0.symm⟩
  · exact ⟨_, _, cap, rfl, rfl⟩
theorem OwnE.below (h : OwnE E e lo w v l) {B : Nat} (hB : w.heap.size ≤ B) (hb : Below B w w') : OwnE E e lo w' v l := by
  refine ⟨h.1, ?_⟩
  rcases h.2 with hn | ⟨g, cap, cur, rfl, hbb, hgg, rest⟩
  · exact .inl hn
  · refine .inr ⟨g, cap, cur, rfl, hbb, ?_, rest⟩
    have := (Array.getElem?_eq_some_iff.1 hgg).1
    rw [hb.block g (by omega)]
    exact hgg
theorem OwnE.then (h : OwnE E e lo w v l) (hb : Below w.heap.size w w') : OwnE E e lo w' v l := h.below (Nat.le_refl _) hb
theorem OwnE.lo_le (h : OwnE E e lo w v l) {lo' : Nat} (hl : lo' ≤ lo) : OwnE E e lo' w v l := by
  refine ⟨h.1, ?_⟩
  rcases h.2 with hn | ⟨g, cap, cur, rfl, hbb, rest⟩
  · exact .inl hn
  · exact .inr ⟨g, cap, cur, rfl, by omega, rest⟩
theorem OwnE.far (h : OwnE E e lo w v l) {p : Addr} (hp : p.block < lo) (u : Value) : OwnE E e lo (w.setCell p u) v l := by
  refine ⟨h.1, ?_⟩
  rcases h.2 with hn | ⟨g, cap, cur, rfl, hbb, hgg, rest⟩
  · exact .inl hn
  · exact .inr ⟨g, cap, cur, rfl, hbb, (Below.heap_setCell w p u g (by omega)).trans hgg, rest⟩
/-- a step that changes another row, or none -/
theorem OwnE.kept (h : OwnE E e lo w v l) {row : Option Nat} (hg : w.grownBy w' row) (hne : v.ownBlock = none ∨ v.ownBlock ≠ row) : OwnE E e lo w' v l := by
  refine ⟨h.1, ?_⟩
  rcases h.2 with hn | ⟨g, cap, cur, rfl, hbb, hgg, rest⟩
  · exact .inl hn
  · refine .inr ⟨g, cap, cur, rfl, hbb, ?_, rest⟩
    have := (Array.getElem?_eq_some_iff.1 hgg).1
    rw [hg.block g this (by rcases hne with h | h; · cases h
                            · exact h)]
    exact hgg
end

section
variable {α : Type} {E : El α} {P : Program}
theorem run_append_els (w : World) (lo : Nat) (t ty e : TypeId) (i : TypeInfo) (ht : P.underlying t = some (.slice e)) (hi : P.info? e = some i) {z : Value} {bytes : Nat} (hz : i.zero = some z) (hsize : i.size = E.k) (hby : i.bytes = bytes) (hzs : z.cells.size = E.k) (hb1 : bytes ≤ 100)
    (v : Value) (xs : List α) (hown : OwnE E e lo w v xs) (v2 : Value) (ys : List α) (h2 : Els E w v2 ys) (hb : xs.length + ys.length ≤ 1000000) (hlo : lo ≤ w.heap.size) :
    ∃ v' w', (Builtin.append_ #[t, t] ty #[v, v2]).run P w = .ok v' w' ∧ OwnE E e lo w' v' (xs ++ ys) ∧ w.grownBy w' v.ownBlock ∧ lies w v v' := by
  obtain ⟨A, cap, rfl, hl, hm, hn, hat⟩ := h2
  rcases A with _ | ad
  · have h0 : ys.length = 0 := by have := hn rfl; omega
    obtain rfl : ys = [] := List.eq_nil_of_length_eq_zero h0
    exact ⟨v, w, run_append_of_nil w lo t ty e i E.k ht hi v xs.length _ hown cap, by simpa using hown, World.grownBy.refl w _, .inl rfl⟩
  · have hnews : ∀ n u, (flatE E ys)[n]? = some u → w.cell? (ad.add n) = some u := by
      intro n u hu
      obtain ⟨i, j, hi, rfl, hu'⟩ := flatE_at E ys hu
      obtain ⟨b, off, hA, hx⟩ := hat i hi
      cases hA
      rw [Addr.add_lit, ← Nat.add_assoc]
      exact hx j u hu'
    have hbb : (xs.length + ys.length) * bytes ≤ 1000000 * 100 := Nat.mul_le_mul hb hb1
    obtain ⟨v', w', hrun, h2, h3, _, h5⟩ := run_append_own_at (P := P) w lo t ty e i z E.k bytes ht hi hz hsize hby hzs E.pos v xs.length (flatE E xs) hown ad ys.length cap (flatE E ys) (flatE_length E ys) hnews (flatE_one E ys) (by simp only [maxLen]; omega) (by omega) hlo
    refine ⟨v', w', hrun, ?_, h3, h5⟩
    unfold OwnE
    rw [flatE_append, List.length_append]
    exact h2

theorem wpList_append_els (w : World) {ops : Array Oper} {rest : List Oper} {o : Oper} {a : Act} {Q : Exit → Act → World → Prop} (hgd : o.guard = none) (s x : Operand) (t : TypeId)
    (ho : o.op = .call { callee := .builtin .append, args := #[s, x], argTypes := #[t, t] }) (lo : Nat) {e : TypeId} (ht : P.underlying t = some (.slice e)) {z : Value} {k bytes : Nat}
    (hinfo : (P.info? e).map (fun i => (i.zero, i.size, i.bytes)) = some (some z, k, bytes)) (hk : k = E.k) (hzs : z.cells.size = E.k) (hb1 : bytes ≤ 100)
    (v : Value) (xs : List α) (hs : a.eval s = v) (hown : OwnE E e lo w v xs) (v2 : Value) (hx : a.eval x = v2) (ys : List α) (h2 : Els E w v2 ys) (hb : xs.length + ys.length ≤ 1000000) (hlo : lo ≤ w.heap.size)
    (h : ∀ v' w', OwnE E e lo w' v' (xs ++ ys) → Below lo w w' → w.grownBy w' v.ownBlock → lies w v v' → wpList P ops Q rest (a.put o.dst v') w') : wpList P ops Q (o :: rest) a w := by
  obtain ⟨i, hi, hz0, hz1, hz2⟩ := info_parts hinfo
  refine wpList_plain hgd fun K hK => ?_
  obtain ⟨v', w', hrun, r2, r3, r4⟩ := run_append_els (P := P) w lo t o.type e i ht hi hz0 (hz1.trans hk) hz2 hzs hb1 v xs hown v2 ys h2 hb hlo
  unfold Oper.wp execOp
  simp only [ho, resolve, invoke, builtin, Sem.run_bind, Sem.run_pure, Result.andThen_ok, List.map_toArray, List.map_cons, List.map_nil, hs, hx, hrun]
  exact hK _ _ (h v' w' r2 (below_of_grown r3 hlo fun k hk => (hown.lt k hk).1) r3 r4)

/-- one element in a new block -/
theorem els_one {w : World} {g : Nat} {t : TypeId} {x : α} {cs : Array Value} (h : Blk w g t cs) (hcs : cs.toList = E.enc x) : Els E w (.slice (some ⟨g, 0, none⟩) 1 1) [x] := by
  refine ⟨_, 1, rfl, by simp, by decide, (fun h => by cases h), fun i hi => ⟨g, 0, rfl, fun j u hu => ?_⟩⟩
  obtain rfl : i = 0 := by simp at hi; omega
  simp only [List.getElem_cons_zero, Nat.zero_mul, Nat.zero_add] at hu ⊢
  rw [h.cell j, ← hu, ← hcs, Array.getElem?_toList]
end
end Go.Proofs.YtaapnflhjbdmlaaGreatDoor
