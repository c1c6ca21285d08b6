/- cups.IsPolygon, IsEmpty. No condition. -/
import Derived.Test.YthnabheibacbcaaF11
import Derived.Test.YthnabheibacbcaaF2
import Derived.Test.YthnabheibacbcaaA1
namespace Go.Proofs.Ythnabheibacbcaa
open Go.RowKit Go.Shelf

theorem idx_nats {n : Nat} {xs : List Int} (h : idxB n xs = true) : xs = nats (xs.map Int.toNat) ∧ (xs.map Int.toNat).Nodup ∧ ∀ k ∈ xs.map Int.toNat, k < n := by
  have hk : ∀ k, k < xs.length → 0 ≤ at0 xs k ∧ at0 xs k < n ∧ memB (xs.take k) (at0 xs k) = false := fun k hk => by
    unfold idxB at h
    have := List.all_eq_true.1 h k (List.mem_range.2 hk)
    unfold idxOk at this
    simp at this
    exact ⟨this.1.1, this.1.2, this.2⟩
  have h0 : ∀ x ∈ xs, 0 ≤ x ∧ x < n := fun x hx => by
    obtain ⟨k, hk', rfl⟩ := List.getElem_of_mem hx
    have := hk k hk'
    rw [at0_eq hk'] at this
    exact ⟨this.1, this.2.1⟩
  refine ⟨?_, ?_, ?_⟩
  · unfold nats
    rw [List.map_map]
    conv => lhs; rw [← List.map_id xs]
    refine List.map_congr_left fun x hx => ?_
    have := (h0 x hx).1
    simp only [id, Function.comp]
    omega
  · unfold List.Nodup
    rw [List.pairwise_map, List.pairwise_iff_getElem]
    intro i j hi hj hij e
    have h1 := hk j hj
    rw [at0_eq hj] at h1
    have h2 : memB (xs.take j) xs[j] = true := by
      unfold memB
      rw [List.any_eq_true]
      refine ⟨xs[i], ?_, ?_⟩
      · rw [List.mem_take_iff_getElem]; exact ⟨i, by omega, rfl⟩
      · have a := (h0 xs[i] (List.getElem_mem hi)).1
        have b := (h0 xs[j] (List.getElem_mem hj)).1
        simp; omega
    rw [h2] at h1
    cases h1.2.2
  · intro k hk'
    obtain ⟨x, hx, rfl⟩ := List.mem_map.1 hk'
    have := h0 x hx
    omega
def polyB (l : List Pt) (xs : List Int) : Bool := idxB l.length xs && hullB (tur l) (ordR l l.length) xs
def freeB (l : List Pt) (xs : List Int) : Bool := polyB l xs && !(ordR l l.length).any (insB (tur l) (xs.map Int.toNat))
theorem pobj_facts {w : World} {g : Nat} {l : List Pt} {os : List Nat} (h : PObj w g l os) (hn : l.length ≤ 14) :
    ∃ Al cl Ao no co, w.cell? ⟨g, 0, none⟩ = some (.slice Al l.length cl) ∧ w.cell? ⟨g, 2745, none⟩ = some (.slice Ao no co) ∧ (∀ i j k, i < l.length → j < l.length → k < l.length → w.cell? ⟨g, 1 + i * 196 + j * 14 + k, none⟩ = some (.int .i8 (tur l i j k))) ∧ Ints w (.slice Ao no co) (nats os) := by
  obtain ⟨v, o, hT, hp, ho⟩ := h
  obtain ⟨Al, nl, cl, rfl, hnl⟩ := hp.shape
  obtain ⟨Ao, no, co, rfl, hno⟩ := OwnL.shape ho
  refine ⟨Al, cl, Ao, no, co, by rw [← hnl.out]; exact hT.list, hT.order, fun i j k a b c => ?_, OwnI.ints ho⟩
  have := hT.turn i j k (by omega) (by omega) (by omega)
  rwa [if_pos ⟨a, b, c⟩] at this
theorem ord_lt {l : List Pt} {os : List Nat} (h : Ordd l os) : ∀ k ∈ os, k < l.length := fun k hk => by simpa using h.1.mem_iff.1 hk

set_option maxHeartbeats 2000000 in
theorem IsPolygon_ok (w : World) (v vx : Value) (l : List Pt) (xs : List Int) (h : Pts w v l) (hc : checkB l = true) (hg : genB l = true) (hx : Ints w vx xs) :
    Calls Try.prog 40 #[v, vx] w fun e w' => e = .returned (.bool (polyB l xs)) ∧ Below w.heap.size w w' := by
  have hopen := Lib.hid (open_ok w v l 1 h hc hg (by have := len_of hc; omega))
  have h14 := (len_of hc).2
  have hor := Lib.hid (ordR_ord (dist_of hc))
  have hol := Lib.hid (ordR_len l l.length)
  obtain ⟨A, n, cap, rfl, hn⟩ := h.shape
  obtain ⟨Ax, nx, cx, rfl, hnx⟩ := hx.shape
  have hxW := Lib.hid (fun W (hb : Below w.heap.size w W) => Ints.below hx (Nat.le_refl _) hb)
  obtain ⟨ib, hib⟩ : ∃ ib, idxB l.length xs = ib := ⟨_, rfl⟩
  have hr := Lib.hid (show polyB l xs = (ib && hullB (tur l) (ordR l l.length) xs) by unfold polyB; rw [hib])
  replace hib := Lib.hid hib
  clear h hx hc hg
  cases ib with
  | false =>
    go_enter Try.func40, Try.ntmps40
    go_wp2_with (first
      | (go_at_call 54; refine hopen.out.mono ?_; rintro e w1 ⟨g, os, rfl, hg1, hord, hP, hb⟩; obtain rfl := Ordd.unique hord hor.out; obtain ⟨Al, cl, Ao, no, co, f1, f2, f3, f4⟩ := pobj_facts hP h14; have f3 := Lib.hid f3; have f4 := Lib.hid f4; have hb := Lib.hid hb; clear hP hord)
      | (go_at_call 74; refine (areIndices_any _ g Al l.length cl _ xs f1 (hxW.out _ hb.out)).mono ?_; rintro e w2 ⟨rfl, rfl⟩; rw [hib.out]))
    go_ret
    exact ⟨ret_bool (by rw [hr.out]; rfl), hb.out⟩
  | true =>
    go_enter Try.func40, Try.ntmps40
    go_wp2_with (first
      | (go_at_call 54; refine hopen.out.mono ?_; rintro e w1 ⟨g, os, rfl, hg1, hord, hP, hb⟩; obtain rfl := Ordd.unique hord hor.out; obtain ⟨Al, cl, Ao, no, co, f1, f2, f3, f4⟩ := pobj_facts hP h14; have f3 := Lib.hid f3; have f4 := Lib.hid f4; have hb := Lib.hid hb; clear hP hord)
      | (go_at_call 74; refine (areIndices_any _ g Al l.length cl _ xs f1 (hxW.out _ hb.out)).mono ?_; rintro e w2 ⟨rfl, rfl⟩; rw [hib.out])
      | (go_at_call 75; refine (isHull_any _ g l.length (tur l) _ _ xs _ f2 f3.out h14 (hxW.out _ hb.out) f4.out (ord_lt hor.out) (by have := hol.out; omega)).mono ?_; rintro e w2 ⟨rfl, hb2⟩; replace hb := Lib.hid (bthen hb.out hb2)))
    go_ret
    exact ⟨ret_bool (by rw [hr.out, Bool.true_and]), hb.out⟩
set_option maxHeartbeats 2000000 in
theorem IsEmpty_ok (w : World) (v vx : Value) (l : List Pt) (xs : List Int) (h : Pts w v l) (hc : checkB l = true) (hg : genB l = true) (hx : Ints w vx xs) (hlen : xs.length ≤ 1000) :
    Calls Try.prog 42 #[v, vx] w fun e w' => e = .returned (.bool (freeB l xs)) ∧ Below w.heap.size w w' := by
  have hopen := Lib.hid (open_ok w v l 1 h hc hg (by have := len_of hc; omega))
  have h14 := (len_of hc).2
  have hor := Lib.hid (ordR_ord (dist_of hc))
  have hol := Lib.hid (ordR_len l l.length)
  obtain ⟨A, n, cap, rfl, hn⟩ := h.shape
  obtain ⟨Ax, nx, cx, rfl, hnx⟩ := hx.shape
  have hxW := Lib.hid (fun W (hb : Below w.heap.size w W) => Ints.below hx (Nat.le_refl _) hb)
  obtain ⟨ib, hib⟩ : ∃ ib, idxB l.length xs = ib := ⟨_, rfl⟩
  obtain ⟨hbv, hhb⟩ : ∃ hbv, hullB (tur l) (ordR l l.length) xs = hbv := ⟨_, rfl⟩
  have hr := Lib.hid (show freeB l xs = ((ib && hbv) && !(ordR l l.length).any (insB (tur l) (xs.map Int.toNat))) by unfold freeB polyB; rw [hib, hhb])
  replace hib := Lib.hid hib
  replace hhb := Lib.hid hhb
  clear h hx hc hg
  cases ib with
  | false =>
    go_enter Try.func42, Try.ntmps42
    go_wp2_with (first
      | (go_at_call 54; refine hopen.out.mono ?_; rintro e w1 ⟨g, os, rfl, hg1, hord, hP, hb⟩; obtain rfl := Ordd.unique hord hor.out; obtain ⟨Al, cl, Ao, no, co, f1, f2, f3, f4⟩ := pobj_facts hP h14; have f3 := Lib.hid f3; have f4 := Lib.hid f4; have hb := Lib.hid hb; clear hP hord)
      | (go_at_call 74; refine (areIndices_any _ g Al l.length cl _ xs f1 (hxW.out _ hb.out)).mono ?_; rintro e w2 ⟨rfl, rfl⟩; rw [hib.out]))
    go_ret
    exact ⟨ret_bool (by rw [hr.out]; rfl), hb.out⟩
  | true =>
    have hns := Lib.hid (idx_nats hib.out)
    cases hbv with
    | false =>
      go_enter Try.func42, Try.ntmps42
      go_wp2_with (first
        | (go_at_call 54; refine hopen.out.mono ?_; rintro e w1 ⟨g, os, rfl, hg1, hord, hP, hb⟩; obtain rfl := Ordd.unique hord hor.out; obtain ⟨Al, cl, Ao, no, co, f1, f2, f3, f4⟩ := pobj_facts hP h14; have f3 := Lib.hid f3; have f4 := Lib.hid f4; have hb := Lib.hid hb; clear hP hord)
        | (go_at_call 74; refine (areIndices_any _ g Al l.length cl _ xs f1 (hxW.out _ hb.out)).mono ?_; rintro e w2 ⟨rfl, rfl⟩; rw [hib.out])
        | (go_at_call 75; refine (isHull_any _ g l.length (tur l) _ _ xs _ f2 f3.out h14 (hxW.out _ hb.out) f4.out (ord_lt hor.out) (by have := hol.out; omega)).mono ?_; rintro e w2 ⟨rfl, hb2⟩; rw [hhb.out]; replace hb := Lib.hid (bthen hb.out hb2)))
      go_ret
      exact ⟨ret_bool (by rw [hr.out]; rfl), hb.out⟩
    | true =>
      go_enter Try.func42, Try.ntmps42
      go_wp2_with (first
        | (go_at_call 54; refine hopen.out.mono ?_; rintro e w1 ⟨g, os, rfl, hg1, hord, hP, hb⟩; obtain rfl := Ordd.unique hord hor.out; obtain ⟨Al, cl, Ao, no, co, f1, f2, f3, f4⟩ := pobj_facts hP h14; have f3 := Lib.hid f3; have f4 := Lib.hid f4; have hb := Lib.hid hb; have hb0 := Lib.hid (Below.refl w1.heap.size w1); clear hP hord)
        | (go_at_call 74; refine (areIndices_any _ g Al l.length cl _ xs f1 (hxW.out _ hb.out)).mono ?_; rintro e w2 ⟨rfl, rfl⟩; rw [hib.out])
        | (go_at_call 75; refine (isHull_any _ g l.length (tur l) _ _ xs _ f2 f3.out h14 (hxW.out _ hb.out) f4.out (ord_lt hor.out) (by have := hol.out; omega)).mono ?_; rintro e w2 ⟨rfl, hb2⟩; rw [hhb.out]; have hb1 := Lib.hid hb2; have hb3 := Lib.hid (bthen hb.out hb2))
        | (go_at_call 76; refine (isEmpty_any _ g l.length (tur l) _ _ (xs.map Int.toNat) _ (cell_below f2 hb1.out) (fun i j k a b c => cell_below (f3.out i j k a b c) hb1.out) h14 (by rw [← hns.out.1]; exact hxW.out _ hb3.out) hns.out.2.2 (by rw [List.length_map]; exact hlen) (Ints.below f4.out (Nat.le_refl _) hb1.out) (ord_lt hor.out)).mono ?_; rintro e w3 ⟨rfl, hb4⟩; replace hb3 := Lib.hid (bthen hb3.out hb4)))
      go_ret
      exact ⟨ret_bool (by rw [hr.out]; rfl), hb3.out⟩
end Go.Proofs.Ythnabheibacbcaa
