/- cups.IsPolygon, IsEmpty. No condition. R.IsPolygon. No condition. R.IsEmpty; list. No condition. -/
import Derived.Test.YthnabheibacbcaaF11
import Derived.Test.YthnabheibacbcaaF2
import Derived.Test.YthnabheibacbcaaA1
import Derived.Test.YthnabheibacbcaaF8
namespace Go.Proofs.Ythnabheibacbcaa
section
open Go.RowKit Go.Shelf

theorem idx_nats {n : Nat} {xs : List Int} (h : idxB n xs = true) : xs = nats (xs.map Int.toNat) ∧ (xs.map Int.toNat).Nodup ∧ ∀ k ∈ xs.map Int.toNat, k < n := by
  have hk : ∀ k, k < xs.length → 0 ≤ at0 xs k ∧ at0 xs k < n ∧ memB (xs.take k) (at0 xs k) = false := fun k hk => by
    unfold idxB at h
    have := List.all_eq_true.1 h k (List.mem_range.2 hk)
    unfold idxOk at this
    simp at this
    exact ⟨this.1.1, this.1.2, this.2⟩
  have h0 : ∀ x ∈ xs, 0 ≤ x ∧ x < n := fun x hx => by
    obtain ⟨k, hk', rfl⟩ := List.getElem_of_mem hx
    have := hk k hk'
    rw [at0_eq hk'] at this
    exact ⟨this.1, this.2.1⟩
  refine ⟨?_, ?_, ?_⟩
  · unfold nats
    rw [List.map_map]
    conv => lhs; rw [← List.map_id xs]
    refine List.map_congr_left fun x hx => ?_
    have := (h0 x hx).1
    simp only [id, Function.comp]
    omega
  · unfold List.Nodup
    rw [List.pairwise_map, List.pairwise_iff_getElem]
    intro i j hi hj hij e
    have h1 := hk j hj
    rw [at0_eq hj] at h1
    have h2 : memB (xs.take j) xs[j] = true := by
      unfold memB
      rw [List.any_eq_true]
      refine ⟨xs[i], ?_, ?_⟩
      · rw [List.mem_take_iff_getElem]; exact ⟨i, by omega, rfl⟩
      · have a := (h0 xs[i] (List.getElem_mem hi)).1
        have b := (h0 xs[j] (List.getElem_mem hj)).1
        simp; omega
    rw [h2] at h1
    cases h1.2.2
  · intro k hk'
    obtain ⟨x, hx, rfl⟩ := List.mem_map.1 hk'
    have := h0 x hx
    omega
def polyB (l : List Pt) (xs : List Int) : Bool := idxB l.length xs && hullB (tur l) (ordR l l.length) xs
def freeB (l : List Pt) (xs : List Int) : Bool := polyB l xs && !(ordR l l.length).any (insB (tur l) (xs.map Int.toNat))
theorem pobj_facts {w : World} {g : Nat} {l : List Pt} {os : List Nat} (h : PObj w g l os) (hn : l.length ≤ 14) :
    ∃ Al cl Ao no co, w.cell? ⟨g, 0, none⟩ = some (.slice Al l.length cl) ∧ w.cell? ⟨g, 2745, none⟩ = some (.slice Ao no co) ∧ (∀ i j k, i < l.length → j < l.length → k < l.length → w.cell? ⟨g, 1 + i * 196 + j * 14 + k, none⟩ = some (.int .i8 (tur l i j k))) ∧ Ints w (.slice Ao no co) (nats os) := by
  obtain ⟨v, o, hT, hp, ho⟩ := h
  obtain ⟨Al, nl, cl, rfl, hnl⟩ := hp.shape
  obtain ⟨Ao, no, co, rfl, hno⟩ := OwnL.shape ho
  refine ⟨Al, cl, Ao, no, co, by rw [← hnl.out]; exact hT.list, hT.order, fun i j k a b c => ?_, OwnI.ints ho⟩
  have := hT.turn i j k (by omega) (by omega) (by omega)
  rwa [if_pos ⟨a, b, c⟩] at this

set_option maxHeartbeats 2000000 in
theorem IsPolygon_ok (w : World) (v vx : Value) (l : List Pt) (xs : List Int) (h : Pts w v l) (hc : checkB l = true) (hg : genB l = true) (hx : Ints w vx xs) :
    Calls Try.prog 40 #[v, vx] w fun e w' => e = .returned (.bool (polyB l xs)) ∧ Below w.heap.size w w' := by
  have hopen := Lib.hid (open_ok w v l 1 h hc hg (by have := len_of hc; omega))
  have h14 := (len_of hc).2
  have hor := Lib.hid (ordR_ord (dist_of hc))
  have hol := Lib.hid (ordR_len l l.length)
  obtain ⟨A, n, cap, rfl, hn⟩ := h.shape
  obtain ⟨Ax, nx, cx, rfl, hnx⟩ := hx.shape
  have hxW := Lib.hid (fun W (hb : Below w.heap.size w W) => Ints.below hx (Nat.le_refl _) hb)
  obtain ⟨ib, hib⟩ : ∃ ib, idxB l.length xs = ib := ⟨_, rfl⟩
  have hr := Lib.hid (show polyB l xs = (ib && hullB (tur l) (ordR l l.length) xs) by unfold polyB; rw [hib])
  replace hib := Lib.hid hib
  clear h hx hc hg
  cases ib with
  | false =>
    go_enter Try.func40, Try.ntmps40
    go_wp2_with (first
      | (go_at_call 54; refine hopen.out.mono ?_; rintro e w1 ⟨g, os, rfl, hg1, hord, hP, hb⟩; obtain rfl := Ordd.unique hord hor.out; obtain ⟨Al, cl, Ao, no, co, f1, f2, f3, f4⟩ := pobj_facts hP h14; have f3 := Lib.hid f3; have f4 := Lib.hid f4; have hb := Lib.hid hb; clear hP hord)
      | (go_at_call 74; refine (areIndices_any _ g Al l.length cl _ xs f1 (hxW.out _ hb.out)).mono ?_; rintro e w2 ⟨rfl, rfl⟩; rw [hib.out]))
    go_ret
    exact ⟨ret_bool (by rw [hr.out]; rfl), hb.out⟩
  | true =>
    go_enter Try.func40, Try.ntmps40
    go_wp2_with (first
      | (go_at_call 54; refine hopen.out.mono ?_; rintro e w1 ⟨g, os, rfl, hg1, hord, hP, hb⟩; obtain rfl := Ordd.unique hord hor.out; obtain ⟨Al, cl, Ao, no, co, f1, f2, f3, f4⟩ := pobj_facts hP h14; have f3 := Lib.hid f3; have f4 := Lib.hid f4; have hb := Lib.hid hb; clear hP hord)
      | (go_at_call 74; refine (areIndices_any _ g Al l.length cl _ xs f1 (hxW.out _ hb.out)).mono ?_; rintro e w2 ⟨rfl, rfl⟩; rw [hib.out])
      | (go_at_call 75; refine (isHull_any _ g l.length (tur l) _ _ xs _ f2 f3.out h14 (hxW.out _ hb.out) f4.out (ord_lt hor.out) (by have := hol.out; omega)).mono ?_; rintro e w2 ⟨rfl, hb2⟩; replace hb := Lib.hid (bthen hb.out hb2)))
    go_ret
    exact ⟨ret_bool (by rw [hr.out, Bool.true_and]), hb.out⟩
set_option maxHeartbeats 2000000 in
theorem IsEmpty_ok (w : World) (v vx : Value) (l : List Pt) (xs : List Int) (h : Pts w v l) (hc : checkB l = true) (hg : genB l = true) (hx : Ints w vx xs) (hlen : xs.length ≤ 1000) :
    Calls Try.prog 42 #[v, vx] w fun e w' => e = .returned (.bool (freeB l xs)) ∧ Below w.heap.size w w' := by
  have hopen := Lib.hid (open_ok w v l 1 h hc hg (by have := len_of hc; omega))
  have h14 := (len_of hc).2
  have hor := Lib.hid (ordR_ord (dist_of hc))
  have hol := Lib.hid (ordR_len l l.length)
  obtain ⟨A, n, cap, rfl, hn⟩ := h.shape
  obtain ⟨Ax, nx, cx, rfl, hnx⟩ := hx.shape
  have hxW := Lib.hid (fun W (hb : Below w.heap.size w W) => Ints.below hx (Nat.le_refl _) hb)
  obtain ⟨ib, hib⟩ : ∃ ib, idxB l.length xs = ib := ⟨_, rfl⟩
  obtain ⟨hbv, hhb⟩ : ∃ hbv, hullB (tur l) (ordR l l.length) xs = hbv := ⟨_, rfl⟩
  have hr := Lib.hid (show freeB l xs = ((ib && hbv) && !(ordR l l.length).any (insB (tur l) (xs.map Int.toNat))) by unfold freeB polyB; rw [hib, hhb])
  replace hib := Lib.hid hib
  replace hhb := Lib.hid hhb
  clear h hx hc hg
  cases ib with
  | false =>
    go_enter Try.func42, Try.ntmps42
    go_wp2_with (first
      | (go_at_call 54; refine hopen.out.mono ?_; rintro e w1 ⟨g, os, rfl, hg1, hord, hP, hb⟩; obtain rfl := Ordd.unique hord hor.out; obtain ⟨Al, cl, Ao, no, co, f1, f2, f3, f4⟩ := pobj_facts hP h14; have f3 := Lib.hid f3; have f4 := Lib.hid f4; have hb := Lib.hid hb; clear hP hord)
      | (go_at_call 74; refine (areIndices_any _ g Al l.length cl _ xs f1 (hxW.out _ hb.out)).mono ?_; rintro e w2 ⟨rfl, rfl⟩; rw [hib.out]))
    go_ret
    exact ⟨ret_bool (by rw [hr.out]; rfl), hb.out⟩
  | true =>
    have hns := Lib.hid (idx_nats hib.out)
    cases hbv with
    | false =>
      go_enter Try.func42, Try.ntmps42
      go_wp2_with (first
        | (go_at_call 54; refine hopen.out.mono ?_; rintro e w1 ⟨g, os, rfl, hg1, hord, hP, hb⟩; obtain rfl := Ordd.unique hord hor.out; obtain ⟨Al, cl, Ao, no, co, f1, f2, f3, f4⟩ := pobj_facts hP h14; have f3 := Lib.hid f3; have f4 := Lib.hid f4; have hb := Lib.hid hb; clear hP hord)
        | (go_at_call 74; refine (areIndices_any _ g Al l.length cl _ xs f1 (hxW.out _ hb.out)).mono ?_; rintro e w2 ⟨rfl, rfl⟩; rw [hib.out])
        | (go_at_call 75; refine (isHull_any _ g l.length (tur l) _ _ xs _ f2 f3.out h14 (hxW.out _ hb.out) f4.out (ord_lt hor.out) (by have := hol.out; omega)).mono ?_; rintro e w2 ⟨rfl, hb2⟩; rw [hhb.out]; replace hb := Lib.hid (bthen hb.out hb2)))
      go_ret
      exact ⟨ret_bool (by rw [hr.out]; rfl), hb.out⟩
    | true =>
      go_enter Try.func42, Try.ntmps42
      go_wp2_with (first
        | (go_at_call 54; refine hopen.out.mono ?_; rintro e w1 ⟨g, os, rfl, hg1, hord, hP, hb⟩; obtain rfl := Ordd.unique hord hor.out; obtain ⟨Al, cl, Ao, no, co, f1, f2, f3, f4⟩ := pobj_facts hP h14; have f3 := Lib.hid f3; have f4 := Lib.hid f4; have hb := Lib.hid hb; have hb0 := Lib.hid (Below.refl w1.heap.size w1); clear hP hord)
        | (go_at_call 74; refine (areIndices_any _ g Al l.length cl _ xs f1 (hxW.out _ hb.out)).mono ?_; rintro e w2 ⟨rfl, rfl⟩; rw [hib.out])
        | (go_at_call 75; refine (isHull_any _ g l.length (tur l) _ _ xs _ f2 f3.out h14 (hxW.out _ hb.out) f4.out (ord_lt hor.out) (by have := hol.out; omega)).mono ?_; rintro e w2 ⟨rfl, hb2⟩; rw [hhb.out]; have hb1 := Lib.hid hb2; have hb3 := Lib.hid (bthen hb.out hb2))
        | (go_at_call 76; refine (isEmpty_any _ g l.length (tur l) _ _ (xs.map Int.toNat) _ (cell_below f2 hb1.out) (fun i j k a b c => cell_below (f3.out i j k a b c) hb1.out) h14 (by rw [← hns.out.1]; exact hxW.out _ hb3.out) hns.out.2.2 (by rw [List.length_map]; exact hlen) (Ints.below f4.out (Nat.le_refl _) hb1.out) (ord_lt hor.out)).mono ?_; rintro e w3 ⟨rfl, hb4⟩; replace hb3 := Lib.hid (bthen hb3.out hb4)))
      go_ret
      exact ⟨ret_bool (by rw [hr.out]; rfl), hb3.out⟩
end
section
open Go.RowKit Go.Shelf

theorem sel_mem {l : List Pt} {os : List Nat} (ho : Ordd l os) {xs : List Int} (hi : idxB l.length xs = true) (x : Nat) : x ∈ selX os xs ↔ x ∈ xs.map Int.toNat := by
  obtain ⟨h1, h2, h3⟩ := idx_nats hi
  unfold selX
  rw [List.mem_filter]
  constructor
  · rintro ⟨_, h⟩
    unfold memB at h
    obtain ⟨y, hy, e⟩ := List.any_eq_true.1 h
    simp at e
    exact List.mem_map.2 ⟨y, hy, by omega⟩
  · intro h
    refine ⟨ho.1.mem_iff.2 (by simpa using h3 x h), ?_⟩
    obtain ⟨y, hy, e⟩ := List.mem_map.1 h
    unfold memB
    refine List.any_eq_true.2 ⟨y, hy, ?_⟩
    rw [h1] at hy
    obtain ⟨z, _, rfl⟩ := List.mem_map.1 hy
    simp at e ⊢
    omega
theorem sel_sorted {l : List Pt} {os : List Nat} (ho : Ordd l os) (xs : List Int) : (selX os xs).Pairwise (befI l) := ho.2.sublist List.filter_sublist
theorem sel_nodup {l : List Pt} {os : List Nat} (ho : Ordd l os) (xs : List Int) : (selX os xs).Nodup := (ho.1.nodup_iff.2 List.nodup_range).sublist List.filter_sublist
theorem sel_len {l : List Pt} {os : List Nat} (ho : Ordd l os) {xs : List Int} (hi : idxB l.length xs = true) : xs.length = (selX os xs).length := by
  obtain ⟨h1, h2, h3⟩ := idx_nats hi
  have hp : (selX os xs).Perm (xs.map Int.toNat) := (List.perm_ext_iff_of_nodup (sel_nodup ho xs) h2).2 fun x => sel_mem ho hi x
  rw [hp.length_eq, List.length_map]
theorem sel_isH {l : List Pt} {os : List Nat} (ho : Ordd l os) (hgen : Gen l) {xs : List Int} (hi : idxB l.length xs = true) (h0 : 0 < xs.length) : IsH (tur l) (befI l) (xs.map Int.toNat) (hullL (tur l) (selX os xs)) :=
  (hull_isH (l := selX os xs) (chi_of hgen) (by have := sel_len ho hi; omega) (fun p hp => ord_lt ho p (List.mem_filter.1 hp).1) (sel_sorted ho xs)).congr fun x => sel_mem ho hi x

set_option maxRecDepth 100000 in
set_option maxHeartbeats 2000000 in
theorem isPolygonR_any (w : World) (v vx : Value) (l : List Pt) (xs : List Int) (h : Pts w v l) (hc : checkB l = true) (hg : genB l = true) (hx : Ints w vx xs) :
    Calls Try.prog 41 #[v, vx] w fun e w' => e = .returned (.bool (polyB l xs)) ∧ Below w.heap.size w w' := by
  have hor := ordR_ord (dist_of hc)
  have hgen := gen_of hc hg
  obtain ⟨A, N, cap, rfl, hN⟩ := h.shape
  obtain ⟨Ax, n, cx, rfl, hn⟩ := hx.shape
  have hxo := hx.open
  obtain ⟨_, cx', e, hlx, hcmx, _, hatx⟩ := hxo
  injection e with e1 e2 e3
  subst e1 e3
  unfold maxLen at hcmx
  rw [← e2] at hlx
  clear e2
  have hatx := Lib.hid hatx
  have hidx := Lib.hid (indices_any w A N cap _ xs hx)
  by_cases h3 : n < 3
  · have hr := Lib.hid (show polyB l xs = false by unfold polyB hullB; rw [show decide (3 ≤ xs.length) = false by rw [← hn.out]; simp; omega]; simp)
    have h3' : (n : Int) < 3 := by omega
    clear h hx
    go_enter Try.func41, Try.ntmps41
    go_wp2
    go_ret
    exact ⟨ret_bool (by rw [hr.out]), Below.refl _ _⟩
  have h3' : ¬ (n : Int) < 3 := by omega
  have h3d : decide (n < 3) = false := by simp; omega
  obtain ⟨ib, hib⟩ : ∃ ib, idxB N xs = ib := ⟨_, rfl⟩
  cases ib with
  | false =>
    have hr := Lib.hid (show polyB l xs = false by unfold polyB; rw [← hN.out, hib]; rfl)
    replace hib := Lib.hid hib
    clear h hx
    go_enter Try.func41, Try.ntmps41
    go_wp2_with (go_at_call 56; refine hidx.out.mono ?_; rintro e w1 ⟨rfl, hb⟩; rw [hib.out]; have hb := Lib.hid hb)
    go_ret
    exact ⟨ret_bool (by rw [hr.out]), hb.out⟩
  | true =>
    have hib' : idxB l.length xs = true := by rw [← hN.out]; exact hib
    obtain ⟨n1, n2, n3⟩ := idx_nats hib'
    have hsl := sel_len hor hib'
    have hsl2 : (selX (ordR l l.length) xs).length ≤ 14 := by
      unfold selX
      have h1 := List.length_filter_le (fun i => memB xs ((i : Nat) : Int)) (ordR l l.length)
      rw [ordR_len] at h1
      have := (len_of hc).2
      omega
    have hH := sel_isH hor hgen hib' (by rw [← hn.out]; omega)
    have hHl := hullL_len (t := tur l) (selX (ordR l l.length) xs)
    have hr := Lib.hid (show polyB l xs = decide (nats (hullL (tur l) (selX (ordR l l.length) xs)) = xs) by
      unfold polyB hullB
      rw [hib', show decide (3 ≤ xs.length) = true by rw [← hn.out]; simp; omega]
      simp)
    have hRH := Lib.hid (fun W (hb : Below w.heap.size w W) => hullR_any W _ _ l (xs.map Int.toNat) (hullL (tur l) (selX (ordR l l.length) xs)) (h.then hb) (okL_of hc) hgen (by rw [← n1]; exact Ints.below hx (Nat.le_refl _) hb) n3 (by rw [List.length_map]; omega) hH (by omega))
    generalize hullL (tur l) (selX (ordR l l.length) xs) = H at *
    replace hib := Lib.hid hib
    clear h hx hor hgen n1 n2 n3 hsl hsl2 hH hHl hib'
    go_enter Try.func41, Try.ntmps41
    go_upto_region 4 with (first
      | (go_at_call 56; refine hidx.out.mono ?_; rintro e w1 ⟨rfl, hb⟩; rw [hib.out]; have hb := Lib.hid hb)
      | (go_at_call 45; refine (hRH.out _ hb.out).mono ?_; rintro e w2 ⟨v2, rfl, ho2, hb2⟩; have hi2 := OwnI.ints ho2; obtain ⟨A2, m, c2, rfl, hm⟩ := hi2.shape; obtain ⟨_, c2', e2, hl2, hcm2, _, hat2⟩ := hi2.open; injection e2 with e1 e2' e3; subst e1 e3; unfold maxLen at hcm2; rw [← e2'] at hl2; clear e2'; have hat2 := Lib.hid hat2; have hb2 := Lib.hid (bthen hb.out hb2); clear ho2 hi2))
    by_cases hmn : m = n
    case neg =>
      have hr := Lib.hid (show polyB l xs = false by
        rw [hr.out, decide_eq_false_iff_not]
        intro e
        have h1 := hm.out
        rw [e, ← hn.out] at h1
        exact hmn h1)
      have hne : ((m : Int) == (n : Int)) = false := by simp; omega
      go_wp2
      go_ret
      exact ⟨ret_bool (by rw [hr.out]), hb2.out⟩
    subst hmn
    go_wp2
    go_loopw [6] (fun c wr => ∃ k : Nat, k ≤ m ∧ c = .int .i64 (k : Int) ∧ Hid ((nats H).take k = xs.take k) ∧ Hid (Below w2.heap.size w2 wr)) (fun c _ => m - (intOf c).toNat)
    case atStart => exact ⟨0, Nat.zero_le _, rfl, by unfold Hid; simp, Below.refl _ _⟩
    case round =>
      obtain ⟨k, hk, rfl, he, hB⟩ := hrel
      by_cases hlt : k < m
      case neg =>
        obtain rfl : m = k := by omega
        have hr := Lib.hid (show polyB l xs = true by
          rw [hr.out, decide_eq_true_eq]
          have := he.out
          rwa [List.take_of_length_le (by rw [← hm.out]; exact Nat.le_refl _), List.take_of_length_le (by rw [← hn.out]; exact Nat.le_refl _)] at this)
        go_wp2
        go_ret
        exact ⟨ret_bool (by rw [hr.out]), bthen hb2.out hB.out⟩
      have hkx : k < (nats H).length := by rw [← hm.out]; exact hlt
      have hky : k < xs.length := by rw [← hn.out]; exact hlt
      obtain ⟨b, o, rfl, hcc⟩ := hat2.out k hkx
      obtain ⟨b2, o2, rfl, hcc2⟩ := hatx.out k hky
      have hcc := cell_below hcc hB.out
      have hcc2 := cell_below hcc2 (bthen hb2.out hB.out)
      have hst := Lib.hid (fun e => take_eq_step hkx hky he.out e)
      have hnot := Lib.hid (show at0 (nats H) k ≠ at0 xs k → polyB l xs = false from fun h => by
        rw [hr.out, decide_eq_false_iff_not]; intro e; rw [e] at h; exact h rfl)
      generalize at0 (nats H) k = a at *
      generalize at0 xs k = b' at *
      by_cases hab : a = b'
      · have hst := Lib.hid (hst.out hab)
        have hab' : (a == b') = true := by simp [hab]
        clear hnot
        go_wp2
        go_quiet (fail)
        go_wp2
        go_roundw
        case rel => exact ⟨k + 1, by omega, by go_num, hst, Lib.hid (below_drewN hB.out nq)⟩
        case measure => simp [intOf]; omega
      · have hr := Lib.hid (hnot.out hab)
        have hab' : (a == b') = false := by simp [hab]
        clear hnot hst
        go_wp2
        go_quiet (fail)
        go_wp2
        go_ret
        exact ⟨ret_bool (by rw [hr.out]), below_drewN (bthen hb2.out hB.out) nq⟩

set_option maxHeartbeats 2000000 in
theorem insideR_any (w : World) (v vx : Value) (l : List Pt) (ns : List Nat) (p : Nat) (h : Pts w v l) (hok : OkL l) (hx : Ints w vx (nats ns)) (hns : ∀ k ∈ ns, k < l.length) (hp : p < l.length) (hlen : ns.length ≤ 1000) :
    Calls Try.prog 77 #[v, vx, .int .i64 (p : Int)] w fun e w' => e = .returned (.bool (insB (tur l) ns p)) ∧ Below w.heap.size w w' := by
  obtain ⟨A, N, cap, rfl, hN⟩ := h.shape
  obtain ⟨_, cap', e, hl, hcm, _, hat⟩ := h.open
  injection e with e1 e2 e3
  subst e1 e3
  unfold maxLen at hcm
  rw [← e2] at hl
  clear e2
  have hat := Lib.hid hat
  obtain ⟨bp, op, rfl, _⟩ := hat.out p hp
  have hpt := Lib.hid (show ∀ q, q < N → w.cell? ⟨bp, op + q * 2, none⟩ = some (.int .i64 (ptA l q).1) ∧ w.cell? ⟨bp, op + q * 2 + 1, none⟩ = some (.int .i64 (ptA l q).2) from fun q hq => by
    obtain ⟨b, o, e, h0, h1⟩ := hat.out q (by rw [← hN.out]; exact hq)
    cases e
    exact ⟨h0, h1⟩)
  obtain ⟨Ax, cx, rfl, hlx, hcmx, _, hatx⟩ := hx.open
  have hatx := Lib.hid (show ∀ i, i < ns.length → ∃ b off, Ax = some ⟨b, off, none⟩ ∧ w.cell? ⟨b, off + i, none⟩ = some (.int .i64 ((natAt ns i : Nat) : Int)) from fun i hi => by
    obtain ⟨b, off, hA, hc⟩ := hatx i (by rw [nats_length]; exact hi)
    exact ⟨b, off, hA, by rwa [at0_nats] at hc⟩)
  unfold maxLen at hcmx
  rw [nats_length] at hlx ⊢
  obtain ⟨m, hm⟩ : ∃ m, ns.length = m := ⟨_, rfl⟩
  have hnL := Lib.hid (show ∀ i, i < m → natAt ns i < N from fun i hi => by rw [hN.out]; exact hns _ (by rw [natAt_eq (by omega)]; exact List.getElem_mem _))
  rw [hm] at hlx hlen ⊢
  replace hm := Lib.hid hm
  replace hok := Lib.hid hok
  have hpN : p < N := by rw [hN.out]; exact hp
  clear h hx hns hp
  go_enter Try.func77, Try.ntmps77
  go_wp2
  go_loopw [7] (fun c wr => ∃ k : Nat, k ≤ m ∧ c = .int .i64 (k : Int) ∧ Hid (insUpto (tur l) ns p k = true) ∧ Hid (Below w.heap.size w wr)) (fun c _ => m - (intOf c).toNat)
  case atStart => exact ⟨0, Nat.zero_le _, rfl, rfl, Below.refl _ _⟩
  case round =>
    obtain ⟨k, hk, rfl, hi, hB⟩ := hrel
    by_cases hlt : k < m
    case neg =>
      obtain rfl : m = k := by omega
      have hr := Lib.hid (show insB (tur l) ns p = true by unfold insB; rw [hm.out]; exact hi.out)
      go_wp2
      go_ret
      exact ⟨ret_bool (by rw [hr.out]), hB.out⟩
    obtain ⟨b, o, rfl, hc⟩ := hatx.out k (by rw [hm.out]; exact hlt)
    have hmod : (k + 1) % m < m := Nat.mod_lt _ (by omega)
    obtain ⟨b2, o2, e, hc2⟩ := hatx.out ((k + 1) % m) (by rw [hm.out]; exact hmod)
    cases e
    have h1 := hnL.out k hlt
    have h2 := hnL.out _ hmod
    have hst := Lib.hid (show insUpto (tur l) ns p (k + 1) = decide (0 < trn (ptA l (natAt ns k)) (ptA l (natAt ns ((k + 1) % m))) (ptA l p)) by
      have : insUpto (tur l) ns p (k + 1) = (insUpto (tur l) ns p k && decide (0 < tur l (natAt ns k) (natAt ns ((k + 1) % ns.length)) p)) := rfl
      rw [this, hi.out, Bool.true_and, hm.out]; rfl)
    have hmi : ((k : Int) + 1).tmod (m : Int) = (((k + 1) % m : Nat) : Int) := by
      rw [Int.tmod_eq_emod_of_nonneg (by omega), Int.natCast_emod]
      rfl
    obtain ⟨q, hq⟩ : ∃ q, (k + 1) % m = q := ⟨_, rfl⟩
    rw [hq] at hmi hc2 h2 hst hmod
    replace hq := Lib.hid hq
    have hmne : ¬ (m : Int) = 0 := by omega
    obtain ⟨px0, px1⟩ := hpt.out _ h1
    obtain ⟨py0, py1⟩ := hpt.out _ h2
    obtain ⟨pp0, pp1⟩ := hpt.out _ hpN
    have o1 := hok.out (natAt ns k) (by rw [← hN.out]; exact h1)
    have o2' := hok.out (natAt ns q) (by rw [← hN.out]; exact h2)
    have o3 := hok.out p (by rw [← hN.out]; exact hpN)
    have t0 := fun g : Gr wr => g.cell (cell_below hc hB.out)
    have t1 := fun g : Gr wr => g.cell (cell_below hc2 hB.out)
    have t2 := fun g : Gr wr => g.cell (cell_below px0 hB.out)
    have t3 := fun g : Gr wr => g.cell (cell_below px1 hB.out)
    have t4 := fun g : Gr wr => g.cell (cell_below py0 hB.out)
    have t5 := fun g : Gr wr => g.cell (cell_below py1 hB.out)
    have t6 := fun g : Gr wr => g.cell (cell_below pp0 hB.out)
    have t7 := fun g : Gr wr => g.cell (cell_below pp1 hB.out)
    have hTu := Lib.hid (fun g : Gr wr => grow_of (g := g) (turnR_any g.w1 (ptA l (natAt ns k)) (ptA l (natAt ns q)) (ptA l p) o1 o2' o3))
    clear hc hc2 px0 px1 py0 py1 pp0 pp1 o1 o2' o3
    generalize natAt ns k = x at *
    generalize natAt ns q = y at *
    generalize ptA l x = qx at *
    generalize ptA l y = qy at *
    generalize ptA l p = qp at *
    generalize trn qx qy qp = T at *
    obtain ⟨qx1, qx2⟩ := qx
    obtain ⟨qy1, qy2⟩ := qy
    obtain ⟨qp1, qp2⟩ := qp
    by_cases hTt : 0 < T
    · have hst := Lib.hid (show insUpto (tur l) ns p (k + 1) = true by rw [hst.out]; simp [hTt])
      have hTd : decide (T ≤ 0) = false := by simp; omega
      go_wp2
      refine wp_region_grow (by kernel_rfl) (by kernel_rfl) ?_
      repeat (go_big_quiet_step ((go_at_call 15; exact hTu.out _)))
      refine wpQuiet_nil ?_
      rintro _ ⟨g, rfl⟩
      go_wp2
      go_roundw
      case rel => exact ⟨k + 1, by omega, by go_num, hst, Lib.hid (bthen hB.out g.h)⟩
      case measure => simp [intOf]; omega
    · have hr := Lib.hid (show insB (tur l) ns p = false by
        unfold insB
        rw [hm.out]
        exact insUpto_false (k := k + 1) (by rw [hst.out]; simp [hTt]) _ (by omega))
      have hTd : decide (T ≤ 0) = true := by simp; omega
      go_wp2
      refine wp_region_grow (by kernel_rfl) (by kernel_rfl) ?_
      repeat (go_big_quiet_step ((go_at_call 15; exact hTu.out _)))
      refine wpQuiet_nil ?_
      rintro _ ⟨g, rfl⟩
      go_wp2
      go_ret
      exact ⟨ret_bool (by rw [hr.out]), bthen hB.out g.h⟩
end
section
open Go.RowKit Go.Shelf

theorem any_ord {l : List Pt} {os : List Nat} (h : Ordd l os) (f : Nat → Bool) : os.any f = (List.range l.length).any f := by
  rw [Bool.eq_iff_iff, List.any_eq_true, List.any_eq_true]
  constructor
  · rintro ⟨x, hx, hf⟩; exact ⟨x, h.1.mem_iff.1 hx, hf⟩
  · rintro ⟨x, hx, hf⟩; exact ⟨x, h.1.mem_iff.2 hx, hf⟩
theorem any_range_step (f : Nat → Bool) (k : Nat) : (List.range (k + 1)).any f = ((List.range k).any f || f k) := by
  rw [List.range_succ, List.any_append]; simp
theorem any_range_hit {f : Nat → Bool} {k n : Nat} (hk : k < n) (h : f k = true) : (List.range n).any f = true := List.any_eq_true.2 ⟨k, List.mem_range.2 hk, h⟩

set_option maxHeartbeats 2000000 in
theorem isEmptyR_any (w : World) (v vx : Value) (l : List Pt) (xs : List Int) (h : Pts w v l) (hc : checkB l = true) (hg : genB l = true) (hx : Ints w vx xs) (hlen : xs.length ≤ 1000) :
    Calls Try.prog 43 #[v, vx] w fun e w' => e = .returned (.bool (freeB l xs)) ∧ Below w.heap.size w w' := by
  have hor := ordR_ord (dist_of hc)
  have hP := Lib.hid (isPolygonR_any w v vx l xs h hc hg hx)
  obtain ⟨A, N, cap, rfl, hN⟩ := h.shape
  obtain ⟨Ax, n, cx, rfl, hn⟩ := hx.shape
  obtain ⟨pb, hpb⟩ : ∃ pb, polyB l xs = pb := ⟨_, rfl⟩
  have hr := Lib.hid (show freeB l xs = (pb && !(List.range N).any (insB (tur l) (xs.map Int.toNat))) by unfold freeB; rw [hpb, any_ord hor, hN.out])
  cases pb with
  | false =>
    replace hpb := Lib.hid hpb
    clear h hx
    go_enter Try.func43, Try.ntmps43
    go_wp2_with (go_at_call 41; refine hP.out.mono ?_; rintro e w1 ⟨rfl, hb⟩; rw [hpb.out]; have hb := Lib.hid hb)
    go_ret
    exact ⟨ret_bool (by rw [hr.out]; rfl), hb.out⟩
  | true =>
    have hib : idxB l.length xs = true := by unfold polyB at hpb; simp only [Bool.and_eq_true] at hpb; exact hpb.1
    obtain ⟨n1, n2, n3⟩ := idx_nats hib
    have hin := Lib.hid (fun W (hb : Below w.heap.size w W) p (hp : p < N) => insideR_any W _ _ l (xs.map Int.toNat) p (h.then hb) (okL_of hc) (by rw [← n1]; exact Ints.below hx (Nat.le_refl _) hb) n3 (by rw [← hN.out]; exact hp) (by rw [List.length_map]; exact hlen))
    generalize insB (tur l) (xs.map Int.toNat) = f at *
    replace hpb := Lib.hid hpb
    have hN14 : N ≤ 14 := by rw [hN.out]; exact (len_of hc).2
    clear h hx n1 n2 n3 hor hib
    go_enter Try.func43, Try.ntmps43
    go_wp2_with (go_at_call 41; refine hP.out.mono ?_; rintro e w1 ⟨rfl, hb⟩; rw [hpb.out]; have hb := Lib.hid hb)
    go_loopw [5] (fun c wr => ∃ k : Nat, k ≤ N ∧ c = .int .i64 (k : Int) ∧ Hid ((List.range k).any f = false) ∧ Hid (Below w.heap.size w wr)) (fun c _ => N - (intOf c).toNat)
    case atStart => exact ⟨0, Nat.zero_le _, rfl, by unfold Hid; simp, hb⟩
    case round =>
      clear hb
      obtain ⟨k, hk, rfl, hno, hB⟩ := hrel
      by_cases hlt : k < N
      case neg =>
        obtain rfl : N = k := by omega
        go_wp2
        go_ret
        exact ⟨ret_bool (by rw [hr.out, hno.out]; rfl), hB.out⟩
      have hX := Lib.hid (hin.out _ hB.out k hlt)
      have hst := Lib.hid (show (List.range (k + 1)).any f = f k by rw [any_range_step, hno.out, Bool.false_or])
      have hhit := Lib.hid (show f k = true → (List.range N).any f = true from fun h => any_range_hit hlt h)
      generalize f k = b0 at *
      cases b0 with
      | true =>
        have hh := Lib.hid (hhit.out rfl)
        clear hhit
        go_wp2_with (go_at_call 77; refine hX.out.mono ?_; rintro e w1 ⟨rfl, hb⟩; have hb := Lib.hid (bthen hB.out hb))
        go_ret
        exact ⟨ret_bool (by rw [hr.out, hh.out]; rfl), hb.out⟩
      | false =>
        clear hhit
        go_wp2_with (go_at_call 77; refine hX.out.mono ?_; rintro e w1 ⟨rfl, hb⟩; have hb := Lib.hid (bthen hB.out hb))
        go_roundw
        case rel => exact ⟨k + 1, by omega, by go_num, hst, hb⟩
        case measure => simp [intOf]; omega

def cut16 (l : List Int) : List Int := l.take 16
theorem cut16_len (l : List Int) : (cut16 l).length ≤ 16 := by unfold cut16; rw [List.length_take]; omega
set_option maxHeartbeats 1000000 in
theorem list_any (w : World) (v : Value) (l : List Int) (h : Ints w v l) :
    Calls Try.prog 39 #[v] w fun e w' => ∃ v', e = .returned v' ∧ OwnI w.heap.size 3 w' v' (cut16 l) ∧ Below w.heap.size w w' := by
  obtain ⟨A, n, cap, rfl, hn⟩ := h.shape
  obtain ⟨_, cap', e, hl, hcm, hnone, _⟩ := h.open
  injection e with e1 e2 e3
  subst e1 e3
  unfold maxLen at hcm
  have hl' : n ≤ cap := by rw [e2]; exact hl
  rw [← e2] at hl
  by_cases h15 : n ≤ 16
  · have hmin : min (n : Int) 16 = n := by omega
    have ht : cut16 l = l := List.take_of_length_le (by have := hn.out; omega)
    rw [ht]
    rcases A with _ | ad
    · have hc0 := hnone rfl
      have hn0 : n = 0 := by omega
      have hll : l = [] := List.length_eq_zero_iff.1 (by rw [← hn.out]; exact hn0)
      subst hll hc0 hn0
      clear hmin hnone e2
      have h := Lib.hid h
      go_enter Try.func39, Try.ntmps39
      go_wp2_with (at_builtin; refine wpList_append_slc _ rfl (.tmp 4) (.tmp 9) 33 rfl w.heap.size 3 Try.underlying33 info3 rfl (by omega) isI_one _ [] rfl (own_nil _ _ _) _ rfl [] h.out (by simp) (Nat.le_refl _) ?_; intro v' w' h1 h2 _ _)
      go_ret
      exact ⟨_, rfl, h1, h2⟩
    · clear hnone e2
      have h := Lib.hid h
      go_enter Try.func39, Try.ntmps39
      go_wp2_with (at_builtin; refine wpList_append_slc _ rfl (.tmp 4) (.tmp 9) 33 rfl w.heap.size 3 Try.underlying33 info3 rfl (by omega) isI_one _ [] rfl (own_nil _ _ _) _ rfl l h.out (by have := hn.out; simp; omega) (Nat.le_refl _) ?_; intro v' w' h1 h2 _ _)
      go_ret
      exact ⟨_, rfl, h1, h2⟩
  · have hmin : min (n : Int) 16 = 16 := by omega
    rcases A with _ | ad
    · have hc0 := hnone rfl
      omega
    have h := Lib.hid (h.take 16 (by have := hn.out; omega))
    clear hnone e2
    go_enter Try.func39, Try.ntmps39
    go_wp2_with (at_builtin; refine wpList_append_slc _ rfl (.tmp 4) (.tmp 9) 33 rfl w.heap.size 3 Try.underlying33 info3 rfl (by omega) isI_one _ [] rfl (own_nil _ _ _) _ rfl (l.take 16) h.out (by simp; omega) (Nat.le_refl _) ?_; intro v' w' h1 h2 _ _)
    go_ret
    exact ⟨_, rfl, h1, h2⟩
end
end Go.Proofs.Ythnabheibacbcaa
