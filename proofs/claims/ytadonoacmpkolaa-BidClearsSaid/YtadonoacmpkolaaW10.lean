/- Clone, Delete, payments. -/
import Derived.Test.YtadonoacmpkolaaW9
import Derived.Shelf.RegionOpenPlain
import Derived.Deep.RegionLaw
import Derived.Lib.SliceRun
namespace Go.Proofs.Ytadonoacmpkolaa
open Go.RowKit

def rowI (w : World) (c : Value) (x : List Int) : Prop := Ints w c x

theorem own_empty {α : Type} {R : Value → α → Prop} (w : World) (e : Nat) : OwnL w.heap.size e R (w.alloc (.cells #[] e)) (.slice (some ⟨w.heap.size, 0, none⟩) 0 0) [] :=
  ⟨[], rfl, ⟨rfl, .inr ⟨w.heap.size, 0, #[], rfl, Nat.le_refl _, heap_alloc_new w _, Nat.le_refl _, Nat.zero_le _, rfl, rfl⟩⟩, fun _ h => by simp at h⟩
theorem rowI_one {w : World} (c : Value) (x : List Int) (h : rowI w c x) : c.oneCell' = true := slc_one' c x h

set_option maxHeartbeats 400000 in
theorem clone_any (w : World) (v : Value) (xs : List (List Int)) (h : Rows2 w v xs) (hl : xs.length ≤ 1000) :
    Calls Try.prog 60 #[v] w fun e w' => ∃ v', e = .returned v' ∧ OwnL w.heap.size 27 (rowI w) w' v' xs ∧ Below w.heap.size w w' := by
  have hh : Hid (Slc anyB (rowI w) w v xs) := h
  obtain ⟨A, n, cap, rfl, hn⟩ := Slc.shape h
  have he := fun W => Lib.run_eql_slice_nil (P := Try.prog) W 22 27 A n cap 0 0 Try.underlying22
  clear h
  cases A with
  | none =>
    go_enter Try.func60, Try.ntmps60
    have e0 : xs = [] := by
      obtain ⟨A, cap, e, h1, _, h3, _⟩ := hh.out
      have hn0 : A = none := by injection e with e _ _; exact e.symm
      rw [h3 hn0] at h1
      exact List.length_eq_zero_iff.1 (by omega)
    subst e0
    go_wp2_with fail
    go_ret
    exact ⟨_, rfl, own_nil _ _ _, Below.refl _ _⟩
  | some p =>
    go_enter Try.func60, Try.ntmps60
    have hB : Hid (Below w.heap.size w (w.alloc (.cells #[] 27))) := (Below.refl _ _).alloc (Nat.le_refl _) _
    have hS : Hid (Slc anyB (rowI w) (w.alloc (.cells #[] 27)) (.slice (some p) n cap) xs) := Slc.keep hh.out (fun b _ hb => ⟨trivial, hB.out.block b hb⟩) (fun _ _ _ h => h)
    go_wp2_with (at_builtin; refine wpList_append_slc _ rfl (.tmp 5) (.tmp 6) 22 rfl w.heap.size 27 Try.underlying22 info27 rfl (by omega) rowI_one _ [] rfl (own_empty w 27) _ rfl _ hS.out (by simp; omega) hB.out.size ?_; intro v' w' h1 h2 _ _)
    go_ret
    exact ⟨_, rfl, h1, hB.out.trans h2⟩

theorem Blk.setCells {g t : Nat} : ∀ (vs : List Value) (o : Nat) {w : World} {cs : Array Value}, Blk w g t cs → ∃ cs' : Array Value, Blk (w.setCells g o vs) g t cs' ∧ cs'.size = cs.size ∧ ∀ j, j < cs.size → cs'[j]? = if o ≤ j ∧ j < o + vs.length then vs[j - o]? else cs[j]?
  | [], o, w, cs, h => ⟨cs, h, rfl, fun j hj => by rw [if_neg (by simp)]⟩
  | v :: r, o, w, cs, h => by
    obtain ⟨cs', h1, h2, h3⟩ := Blk.setCells r (o + 1) (h.set o v)
    refine ⟨cs', h1, by simpa using h2, fun j hj => ?_⟩
    rw [h3 j (by simpa using hj)]
    by_cases c : o = j
    · subst c
      rw [if_neg (by omega), if_pos (by simp)]
      simp [hj]
    · by_cases c2 : o + 1 ≤ j ∧ j < o + 1 + r.length
      · rw [if_pos c2, if_pos (by simp; omega)]
        obtain ⟨k, hk⟩ : ∃ k, j = o + 1 + k := ⟨j - (o + 1), by omega⟩
        subst hk
        rw [show o + 1 + k - o = k + 1 by omega, show o + 1 + k - (o + 1) = k by omega]
        simp
      · rw [if_neg c2, if_neg (by simp; omega)]
        simp [Array.getElem?_setIfInBounds, c]

theorem belowSetCells {B b : Nat} {a : World} (hb : B ≤ b) : ∀ (vs : List Value) (o : Nat) {w : World}, Below B a w → Below B a (w.setCells b o vs)
  | [], _, _, h => h
  | v :: r, o, _, h => belowSetCells hb r (o + 1) (h.setCell (p := ⟨b, o, none⟩) hb v)

set_option maxHeartbeats 1000000 in
set_option maxRecDepth 1000000 in
theorem delete_any (lo : Nat) (w w0 : World) (v : Value) (xs : List (List Int)) (h : OwnL lo 27 (rowI w0) w v xs) (hl : xs.length ≤ 1000) (i j : Nat) (hi : i < xs.length) (hij : j = i + 1) :
    Calls Try.prog 70 #[v, .int .i64 (i : Int), .int .i64 (j : Int)] w fun e w' => ∃ v', e = .returned v' ∧ OwnL lo 27 (rowI w0) w' v' (xs.eraseIdx i) ∧ Below lo w w' := by
  obtain ⟨cs, hlen, ho, hR⟩ := h
  rcases ho.2 with ⟨rfl, h0⟩ | ⟨g, cap, cur, rfl, hlo, hblk, hnc, hcm, hcs, htake⟩
  · omega
  have hcs' : cur.size = cap := by simpa using hcs
  have htake' : cur.toList.take xs.length = cs := by simpa using htake
  clear htake hcs ho
  have hb0 : Blk w g 27 cur := hblk
  clear hblk
  obtain ⟨news, hnews⟩ : ∃ news, news = cs.drop (j) := ⟨_, rfl⟩
  have hnl : news.length = xs.length - (j) := by rw [hnews]; simp; omega
  have hcur : ∀ j, j < xs.length → cur[j]? = cs[j]? := fun j hj => by rw [← htake']; simp [List.getElem?_take, hj]
  have hone : ∀ u ∈ cs, u.oneCell' = true := by
    intro u hu
    obtain ⟨k, hk, rfl⟩ := List.getElem_of_mem hu
    exact rowI_one _ _ (hR k hk (by omega))
  obtain ⟨A, hA, hsrc⟩ : ∃ A : Addr, (if cap = j then some (⟨g, 0, none⟩ : Addr) else some ⟨g, j, none⟩) = some A ∧ Hid (∀ t u, news[t]? = some u → w.drew.cell? (A.add t) = some u) := by
    by_cases h : cap = j
    · refine ⟨⟨g, 0, none⟩, by simp [h], fun t u hu => ?_⟩
      have h0 : news.length = 0 := by rw [hnl]; omega
      rw [List.length_eq_zero_iff.1 h0] at hu
      simp at hu
    · refine ⟨⟨g, j, none⟩, by simp [h], fun t u hu => ?_⟩
      have ht : t < news.length := (List.getElem?_eq_some_iff.1 hu).1
      rw [Addr.add_lit]
      show w.cell? _ = _
      rw [hb0.cell, hcur _ (by omega), ← hu, hnews, List.getElem?_drop]
  have s1 : Hid (news.length = (xs.length - (j)) * 1) := by rw [Nat.mul_one]; exact hnl
  have s2 : Hid (∀ u ∈ news, u.oneCell' = true) := fun u hu => hone u (List.drop_subset _ _ (hnews ▸ hu))
  have s3 : Hid (∀ t, t < news.length → (w.drew.cell? ⟨g, 0 + i * 1 + t, none⟩).isSome = true ∧ w.drew.frozen? ⟨g, 0 + i * 1 + t, none⟩ = false) := by
    intro t ht
    refine ⟨?_, (hb0.drewN 1).free _⟩
    show (w.cell? _).isSome = true
    rw [hb0.cell, hcur _ (by omega), List.getElem?_eq_getElem (by omega)]
    rfl
  obtain ⟨c1, k1, k2, k3⟩ := Blk.setCells news (0 + i * 1) (hb0.drewN 1)
  replace k1 : Blk (w.drew.setCells g (0 + i * 1) news) g 27 c1 := k1
  obtain ⟨W1, hW1⟩ : ∃ W1, W1 = w.drew.setCells g (0 + i * 1) news := ⟨_, rfl⟩
  have hB1 : Hid (Below lo w W1) := by rw [hW1]; exact belowSetCells hlo _ _ (below_drewN (Below.refl lo w) 1)
  rw [← hW1] at k1
  have hz : ∀ W, (zeroValue 27).run Try.prog W = .ok (.slice none 0 0) W := fun W => by kernel_rfl
  have hcl : ∀ ty, (Builtin.clear_ #[22] ty #[.slice (some ⟨g, i + (xs.length - (j)), none⟩) (xs.length - (i + (xs.length - (j)))) (cap - (i + (xs.length - (j))))]).run Try.prog W1 = .ok (.tuple #[]) (W1.setCells g (i + (xs.length - (j))) (List.replicate (xs.length - (i + (xs.length - (j)))) (.slice none 0 0))) :=
    fun ty => Lib.run_clear_slice W1 _ _ ty _ Try.underlying22 hz rfl rfl g (i + (xs.length - (j))) _ _ (by omega) (fun t ht => by
      rw [k1.cell, Array.getElem?_eq_getElem (by omega)]; rfl) (fun t ht => k1.free _)
  obtain ⟨c2, l1, l2, l3⟩ := Blk.setCells (List.replicate (xs.length - (i + (xs.length - (j)))) (.slice none 0 0)) (i + (xs.length - (j))) k1
  obtain ⟨W2, hW2⟩ : ∃ W2, W2 = W1.setCells g (i + (xs.length - (j))) (List.replicate (xs.length - (i + (xs.length - (j)))) (.slice none 0 0)) := ⟨_, rfl⟩
  rw [← hW2] at l1
  have hB2 : Hid (Below lo w W2) := by rw [hW2]; exact belowSetCells hlo _ _ hB1.out
  have hfin : Hid (OwnL lo 27 (rowI w0) W2 (.slice (some ⟨g, 0, none⟩) (i + (xs.length - (j))) cap) (xs.eraseIdx i)) := by
    have e1 : (xs.eraseIdx i).length = i + (xs.length - (j)) := by rw [List.length_eraseIdx]; simp [hi]; omega
    refine ⟨cs.eraseIdx i, by rw [List.length_eraseIdx, List.length_eraseIdx, hlen], ?_, fun k h1 h2 => ?_⟩
    · rw [e1]
      refine ⟨by rw [List.length_eraseIdx, if_pos (by omega)]; omega, .inr ⟨g, cap, c2, rfl, hlo, l1, by omega, hcm, by omega, ?_⟩⟩
      refine List.ext_getElem? fun k => ?_
      rw [Nat.mul_one, List.getElem?_take, List.getElem?_eraseIdx]
      by_cases hk : k < i + (xs.length - (j))
      · rw [if_pos hk, Array.getElem?_toList, l3 k (by omega), if_neg (by omega), k3 k (by omega)]
        by_cases hki : k < i
        · rw [if_neg (by omega), if_pos hki, hcur k (by omega)]
        · rw [if_pos (by omega), if_neg hki, hnews, List.getElem?_drop]
          congr 1
          omega
      · rw [if_neg hk]
        split
        · omega
        · rw [List.getElem?_eq_none (by omega)]
    · rw [List.getElem_eraseIdx, List.getElem_eraseIdx]
      split
      · exact hR _ _ _
      · exact hR _ _ _
  have hW : Hid (W1 = w.drew.setCells g (0 + i * 1) news) := hW1
  have hic : i ≤ cap := by omega
  have hjc : j ≤ cap := by omega
  obtain ⟨i0, hi0, hz0, hz1, hz2⟩ := info_parts info27
  rw [← hW2] at hcl
  have hij2 : i ≤ j := by omega
  have hjn : j ≤ xs.length := by omega
  have hbne : ((i : Int) == (j : Int)) = false := by simp; omega
  have e1 : xs.length - (j - i) = i + (xs.length - j) := by omega
  have hne2 : ¬ cap = i + (xs.length - j) := by omega
  clear hij
  clear hnews k1 k2 k3 l1 l2 l3 hR hcur hone hb0 htake' hlen hW2 hnl hW1 hz hcs' hlo
  unfold maxLen at hcm
  have mixed : Try.prog.follows .mixedOrders = true := by kernel_rfl
  go_enter Try.func70, Try.ntmps70
  go_wp2_with fail
  go_region_law_o (refine step_append_room rfl (.tmp 22) (.tmp 25) 22 rfl 27 i0 1 Try.underlying22 hi0 hz1 g 0 i cap (by simp [Act.eval, Act.put]) A (xs.length - (j)) (cap - (j)) news (by simp [Act.eval, Act.put]) s1.out hsrc.out s2.out (by omega) s3.out ?_; rw [← hW.out])
  go_wp2
  go_ret
  exact ⟨_, rfl, hfin.out, hB2.out⟩

end Go.Proofs.Ytadonoacmpkolaa
