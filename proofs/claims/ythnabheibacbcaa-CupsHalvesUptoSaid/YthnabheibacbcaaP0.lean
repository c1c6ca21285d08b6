/- Slices of points: what they read as, and what the call itself owns. No condition. -/
import Derived.Test.YthnabheibacbcaaBase
import Derived.Test.YthnabheibacbcaaG1
import Derived.Deep.RegionWith
import Derived.IntWalk
import Derived.Deep.DeepFit
namespace Go.Proofs.Ythnabheibacbcaa
open Go.RowKit

/-- a point's value -/
abbrev pv (p : Pt) : Value := .agg #[.int .i64 p.1, .int .i64 p.2]

/-- 'v' is, in 'w', a slice of points that may be read -/
def Pts (w : World) (v : Value) (l : List Pt) : Prop :=
  ∃ (A : Option Addr) (cap : Nat), v = .slice A l.length cap ∧ l.length ≤ cap ∧ cap ≤ maxLen ∧ (A = none → cap = 0) ∧
    ∀ i, i < l.length → ∃ b off, A = some ⟨b, off, none⟩ ∧ w.cell? ⟨b, off + i * 2, none⟩ = some (.int .i64 (ptA l i).1) ∧ w.cell? ⟨b, off + i * 2 + 1, none⟩ = some (.int .i64 (ptA l i).2)

theorem ptA_eq {l : List Pt} {i : Nat} (h : i < l.length) : ptA l i = l[i] := by unfold ptA; simp [List.getD, h]
theorem take_ptA {l : List Pt} {i : Nat} (h : i < l.length) : l.take (i + 1) = l.take i ++ [ptA l i] := by rw [ptA_eq h]; exact List.take_succ_eq_append_getElem h

theorem Pts.shape {w : World} {v : Value} {l : List Pt} (h : Pts w v l) : ∃ A n cap, v = .slice A n cap ∧ Hid (n = l.length) := by
  obtain ⟨A, cap, rfl, _⟩ := h
  exact ⟨A, _, cap, rfl, rfl⟩
theorem Pts.of_block {w w' : World} {v : Value} {l : List Pt} (h : Pts w v l) (hb : ∀ b, b < w.heap.size → w'.heap[b]? = w.heap[b]?) : Pts w' v l := by
  obtain ⟨A, cap, rfl, hl, hm, hn, hat⟩ := h
  refine ⟨A, cap, rfl, hl, hm, hn, fun i hi => ?_⟩
  obtain ⟨b, off, hA, hx, hy⟩ := hat i hi
  have hlt : b < w.heap.size := lt_of_cell hx
  exact ⟨b, off, hA, (World.cell?_of_block (w := w) (hb b hlt)).trans hx, (World.cell?_of_block (w := w) (hb b hlt)).trans hy⟩
theorem Pts.below {w w' : World} {v : Value} {l : List Pt} (h : Pts w v l) {B : Nat} (hB : w.heap.size ≤ B) (hb : Below B w w') : Pts w' v l := h.of_block fun b hlt => hb.block b (by omega)
theorem Pts.drewN {w : World} {v : Value} {l : List Pt} (h : Pts w v l) (k : Nat) : Pts (w.drewN k) v l := h
theorem Pts.then {w w' : World} {v : Value} {l : List Pt} (h : Pts w v l) (hb : Below w.heap.size w w') : Pts w' v l := h.below (Nat.le_refl _) hb

/-- opened: one address for all -/
theorem Pts.open {w : World} {v : Value} {l : List Pt} (h : Pts w v l) : ∃ A cap, v = .slice A l.length cap ∧ l.length ≤ cap ∧ cap ≤ maxLen ∧ (A = none → cap = 0) ∧
    ∀ i, i < l.length → ∃ b off, A = some ⟨b, off, none⟩ ∧ w.cell? ⟨b, off + i * 2, none⟩ = some (.int .i64 (ptA l i).1) ∧ w.cell? ⟨b, off + i * 2 + 1, none⟩ = some (.int .i64 (ptA l i).2) := h

/-- the numbers of points, one after the other -/
def flat (l : List Pt) : List Value := l.flatMap fun p => [.int .i64 p.1, .int .i64 p.2]
theorem flat_length (l : List Pt) : (flat l).length = l.length * 2 := by
  induction l with
  | nil => rfl
  | cons p l ih => simp [flat] at ih ⊢; omega
theorem flat_get (l : List Pt) : ∀ i, i < l.length → (flat l)[i * 2]? = some (.int .i64 (ptA l i).1) ∧ (flat l)[i * 2 + 1]? = some (.int .i64 (ptA l i).2) := by
  induction l with
  | nil => intro i h; simp at h
  | cons p l ih =>
    intro i h
    rcases i with _ | i
    · simp [flat, ptA]
    · have := ih i (by simpa using h)
      have e1 : flat (p :: l) = .int .i64 p.1 :: .int .i64 p.2 :: flat l := rfl
      rw [e1, show (i + 1) * 2 = i * 2 + 1 + 1 by omega, List.getElem?_cons_succ, List.getElem?_cons_succ, List.getElem?_cons_succ, List.getElem?_cons_succ]
      simpa [ptA] using this

/-- 'v' owns, in a block from 'lo' on, the points l -/
def OwnP (lo : Nat) (w : World) (v : Value) (l : List Pt) : Prop := w.ownsRow lo 22 2 v l.length (flat l)

theorem OwnP.nil (lo : Nat) (w : World) : OwnP lo w (.slice none 0 0) [] := World.ownsRow_nil _ _ _ _
theorem OwnP.pts {lo : Nat} {w : World} {v : Value} {l : List Pt} (h : OwnP lo w v l) : Pts w v l := by
  unfold OwnP at h
  rcases h.2 with ⟨rfl, h0⟩ | ⟨g, cap, cur, rfl, hb, hg, hnc, hcm, _, _⟩
  · exact ⟨none, 0, by rw [h0], by omega, Nat.zero_le _, fun _ => rfl, fun i hi => by omega⟩
  · refine ⟨_, cap, rfl, hnc, hcm, (fun h => by cases h), fun i hi => ⟨g, 0, rfl, ?_, ?_⟩⟩
    · rw [Nat.zero_add, h.cellAt _ (by omega)]; exact (flat_get l i hi).1
    · rw [Nat.zero_add, h.cellAt _ (by omega)]; exact (flat_get l i hi).2
theorem OwnP.lt {lo : Nat} {w : World} {v : Value} {l : List Pt} (h : OwnP lo w v l) : ∀ k, v.ownBlock = some k → lo ≤ k ∧ k < w.heap.size := World.ownsRow.lt h
theorem OwnP.shape {lo : Nat} {w : World} {v : Value} {l : List Pt} (h : OwnP lo w v l) : ∃ A n cap, v = .slice A n cap ∧ Hid (n = l.length) := by
  rcases h.2 with ⟨rfl, h0⟩ | ⟨g, cap, cur, rfl, _⟩
  · exact ⟨none, 0, 0, rfl, h0.symm⟩
  · exact ⟨_, _, cap, rfl, rfl⟩
theorem OwnP.below {lo : Nat} {w w' : World} {v : Value} {l : List Pt} (h : OwnP lo w v l) {B : Nat} (hB : w.heap.size ≤ B) (hb : Below B w w') : OwnP lo w' v l := by
  refine ⟨h.1, ?_⟩
  rcases h.2 with hn | ⟨g, cap, cur, rfl, hbb, hgg, rest⟩
  · exact .inl hn
  · refine .inr ⟨g, cap, cur, rfl, hbb, ?_, rest⟩
    have := (Array.getElem?_eq_some_iff.1 hgg).1
    rw [hb.block g (by omega)]
    exact hgg
theorem OwnP.then {lo : Nat} {w w' : World} {v : Value} {l : List Pt} (h : OwnP lo w v l) (hb : Below w.heap.size w w') : OwnP lo w' v l := h.below (Nat.le_refl _) hb
theorem OwnP.lo_le {lo : Nat} {w : World} {v : Value} {l : List Pt} (h : OwnP lo w v l) {lo' : Nat} (hl : lo' ≤ lo) : OwnP lo' w v l := by
  refine ⟨h.1, ?_⟩
  rcases h.2 with hn | ⟨g, cap, cur, rfl, hbb, rest⟩
  · exact .inl hn
  · exact .inr ⟨g, cap, cur, rfl, by omega, rest⟩
theorem flat_append (l m : List Pt) : flat (l ++ m) = flat l ++ flat m := by simp [flat]

theorem run_append_pts {P : Program} (w : World) (lo : Nat) (t ty : TypeId) (i : TypeInfo) (ht : P.underlying t = some (.slice 22)) (hi : P.info? 22 = some i) (hz : i.zero = some (.agg #[.int .i64 0, .int .i64 0])) (hsize : i.size = 2) (hby : i.bytes = 16)
    (v : Value) (xs : List Pt) (hown : OwnP lo w v xs) (v2 : Value) (ys : List Pt) (h2 : Pts w v2 ys) (hb : xs.length + ys.length ≤ 1000000) (hlo : lo ≤ w.heap.size) :
    ∃ v' w', (Builtin.append_ #[t, t] ty #[v, v2]).run P w = .ok v' w' ∧ OwnP lo w' v' (xs ++ ys) ∧ w.grownBy w' v.ownBlock ∧ lies w v v' := by
  obtain ⟨A, cap, rfl, hl, hm, hn, hat⟩ := h2
  rcases A with _ | ad
  · have h0 : ys.length = 0 := by have := hn rfl; omega
    obtain rfl : ys = [] := List.eq_nil_of_length_eq_zero h0
    exact ⟨v, w, run_append_of_nil w lo t ty 22 i 2 ht hi v xs.length _ hown cap, by simpa using hown, World.grownBy.refl w _, .inl rfl⟩
  · have hnews : ∀ j u, (flat ys)[j]? = some u → w.cell? (ad.add j) = some u := by
      intro j u hu
      have hj : j < ys.length * 2 := by have := (List.getElem?_eq_some_iff.1 hu).1; rw [flat_length] at this; exact this
      obtain ⟨b, off, hA, hx, hy⟩ := hat (j / 2) (by omega)
      cases hA
      have hf := flat_get ys (j / 2) (by omega)
      rw [Addr.add_lit]
      rcases Nat.mod_two_eq_zero_or_one j with h | h
      · have e : j / 2 * 2 = j := by omega
        rw [e] at hx hf
        rw [hx, ← hu, hf.1]
      · have e : j / 2 * 2 + 1 = j := by omega
        rw [e] at hf
        rw [Nat.add_assoc, e] at hy
        rw [hy, ← hu, hf.2]
    have hones : ∀ u ∈ flat ys, u.oneCell' = true := by
      intro u hu
      unfold flat at hu
      obtain ⟨p, _, hp⟩ := List.mem_flatMap.1 hu
      rcases List.mem_cons.1 hp with rfl | hp
      · rfl
      · rw [List.mem_singleton.1 hp]; rfl
    have hbb : (xs.length + ys.length) * 16 ≤ 1000000 * 16 := Nat.mul_le_mul_right _ hb
    obtain ⟨v', w', hrun, h2, h3, _, h5⟩ := run_append_own_at (P := P) w lo t ty 22 i _ 2 16 ht hi hz hsize hby rfl (by omega) v xs.length (flat xs) hown ad ys.length cap (flat ys) (flat_length ys) hnews hones (by simp only [maxLen]; omega) (by omega) hlo
    refine ⟨v', w', hrun, ?_, h3, h5⟩
    unfold OwnP
    rw [flat_append, List.length_append]
    exact h2

theorem wpList_append_pts {P : Program} (w : World) {ops : Array Oper} {rest : List Oper} {o : Oper} {a : Act} {Q : Exit → Act → World → Prop} (hgd : o.guard = none) (s x : Operand) (t : TypeId)
    (ho : o.op = .call { callee := .builtin .append, args := #[s, x], argTypes := #[t, t] }) (lo : Nat) (ht : P.underlying t = some (.slice 22))
    (hinfo : (P.info? 22).map (fun i => (i.zero, i.size, i.bytes)) = some (some (.agg #[.int .i64 0, .int .i64 0]), 2, 16))
    (v : Value) (xs : List Pt) (hs : a.eval s = v) (hown : OwnP lo w v xs) (v2 : Value) (hx : a.eval x = v2) (ys : List Pt) (h2 : Pts w v2 ys) (hb : xs.length + ys.length ≤ 1000000) (hlo : lo ≤ w.heap.size)
    (h : ∀ v' w', OwnP lo w' v' (xs ++ ys) → Below lo w w' → w.grownBy w' v.ownBlock → lies w v v' → wpList P ops Q rest (a.put o.dst v') w') : wpList P ops Q (o :: rest) a w := by
  obtain ⟨i, hi, hz0, hz1, hz2⟩ := info_parts hinfo
  refine wpList_plain hgd fun K hK => ?_
  obtain ⟨v', w', hrun, r2, r3, r4⟩ := run_append_pts (P := P) w lo t o.type i ht hi hz0 hz1 hz2 v xs hown v2 ys h2 hb hlo
  unfold Oper.wp execOp
  simp only [ho, resolve, invoke, builtin, Sem.run_bind, Sem.run_pure, Result.andThen_ok, List.map_toArray, List.map_cons, List.map_nil, hs, hx, hrun]
  exact hK _ _ (h v' w' r2 (below_of_grown r3 hlo fun k hk => (hown.lt k hk).1) r3 r4)

/-- one point in a new block -/
theorem pts_one {w : World} {g : Nat} {p : Pt} (h : Blk w g 22 #[.int .i64 p.1, .int .i64 p.2]) : Pts w (.slice (some ⟨g, 0, none⟩) 1 1) [p] := by
  refine ⟨_, 1, rfl, by simp, by decide, (fun h => by cases h), fun i hi => ⟨g, 0, rfl, ?_, ?_⟩⟩
  · obtain rfl : i = 0 := by simp at hi; omega
    have := h.cell 0; simpa [ptA] using this
  · obtain rfl : i = 0 := by simp at hi; omega
    have := h.cell 1; simpa [ptA] using this
theorem Pts.take {w : World} {A : Option Addr} {n cap : Nat} {l : List Pt} (h : Pts w (.slice A n cap) l) (k : Nat) (hk : k ≤ l.length) : Pts w (.slice A k cap) (l.take k) := by
  obtain ⟨A, cap, e, hl, hm, hn, hat⟩ := h
  cases e
  refine ⟨A, cap, by simp [hk], by simp; omega, hm, hn, fun i hi => ?_⟩
  simp at hi
  obtain ⟨b, off, hA, hx, hy⟩ := hat i (by omega)
  have e : ptA (l.take k) i = ptA l i := by rw [ptA_eq (by simp; omega), ptA_eq (by omega)]; simp
  rw [e]
  exact ⟨b, off, hA, hx, hy⟩
end Go.Proofs.Ythnabheibacbcaa
