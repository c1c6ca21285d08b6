/- R.IsPolygon. No condition. -/
import Derived.Test.YthnabheibacbcaaF12
import Derived.Test.YthnabheibacbcaaF8
namespace Go.Proofs.Ythnabheibacbcaa
open Go.RowKit Go.Shelf

theorem sel_mem {l : List Pt} {os : List Nat} (ho : Ordd l os) {xs : List Int} (hi : idxB l.length xs = true) (x : Nat) : x ∈ selX os xs ↔ x ∈ xs.map Int.toNat := by
  obtain ⟨h1, h2, h3⟩ := idx_nats hi
  unfold selX
  rw [List.mem_filter]
  constructor
  · rintro ⟨_, h⟩
    unfold memB at h
    obtain ⟨y, hy, e⟩ := List.any_eq_true.1 h
    simp at e
    exact List.mem_map.2 ⟨y, hy, by omega⟩
  · intro h
    refine ⟨ho.1.mem_iff.2 (by simpa using h3 x h), ?_⟩
    obtain ⟨y, hy, e⟩ := List.mem_map.1 h
    unfold memB
    refine List.any_eq_true.2 ⟨y, hy, ?_⟩
    rw [h1] at hy
    obtain ⟨z, _, rfl⟩ := List.mem_map.1 hy
    simp at e ⊢
    omega
theorem sel_sorted {l : List Pt} {os : List Nat} (ho : Ordd l os) (xs : List Int) : (selX os xs).Pairwise (befI l) := ho.2.sublist List.filter_sublist
theorem sel_nodup {l : List Pt} {os : List Nat} (ho : Ordd l os) (xs : List Int) : (selX os xs).Nodup := (ho.1.nodup_iff.2 List.nodup_range).sublist List.filter_sublist
theorem sel_len {l : List Pt} {os : List Nat} (ho : Ordd l os) {xs : List Int} (hi : idxB l.length xs = true) : xs.length = (selX os xs).length := by
  obtain ⟨h1, h2, h3⟩ := idx_nats hi
  have hp : (selX os xs).Perm (xs.map Int.toNat) := (List.perm_ext_iff_of_nodup (sel_nodup ho xs) h2).2 fun x => sel_mem ho hi x
  rw [hp.length_eq, List.length_map]
theorem hullL_len {t : Nat → Nat → Nat → Int} (l : List Nat) : (hullL t l).length ≤ 2 * l.length := by
  unfold hullL
  split
  · omega
  · have h1 := half_len (t := t) l
    have h2 := half_len (t := t) l.reverse
    rw [List.length_reverse] at h2
    rw [List.length_append]
    omega
theorem sel_isH {l : List Pt} {os : List Nat} (ho : Ordd l os) (hgen : Gen l) {xs : List Int} (hi : idxB l.length xs = true) (h0 : 0 < xs.length) : IsH (tur l) (befI l) (xs.map Int.toNat) (hullL (tur l) (selX os xs)) :=
  (hull_isH (l := selX os xs) (chi_of hgen) (by have := sel_len ho hi; omega) (fun p hp => ord_lt ho p (List.mem_filter.1 hp).1) (sel_sorted ho xs)).congr fun x => sel_mem ho hi x

set_option maxRecDepth 100000 in
set_option maxHeartbeats 2000000 in
theorem isPolygonR_any (w : World) (v vx : Value) (l : List Pt) (xs : List Int) (h : Pts w v l) (hc : checkB l = true) (hg : genB l = true) (hx : Ints w vx xs) :
    Calls Try.prog 41 #[v, vx] w fun e w' => e = .returned (.bool (polyB l xs)) ∧ Below w.heap.size w w' := by
  have hor := ordR_ord (dist_of hc)
  have hgen := gen_of hc hg
  obtain ⟨A, N, cap, rfl, hN⟩ := h.shape
  obtain ⟨Ax, n, cx, rfl, hn⟩ := hx.shape
  have hxo := hx.open
  obtain ⟨_, cx', e, hlx, hcmx, _, hatx⟩ := hxo
  injection e with e1 e2 e3
  subst e1 e3
  unfold maxLen at hcmx
  rw [← e2] at hlx
  clear e2
  have hatx := Lib.hid hatx
  have hidx := Lib.hid (indices_any w A N cap _ xs hx)
  by_cases h3 : n < 3
  · have hr := Lib.hid (show polyB l xs = false by unfold polyB hullB; rw [show decide (3 ≤ xs.length) = false by rw [← hn.out]; simp; omega]; simp)
    have h3' : (n : Int) < 3 := by omega
    clear h hx
    go_enter Try.func41, Try.ntmps41
    go_wp2
    go_ret
    exact ⟨ret_bool (by rw [hr.out]), Below.refl _ _⟩
  have h3' : ¬ (n : Int) < 3 := by omega
  have h3d : decide (n < 3) = false := by simp; omega
  obtain ⟨ib, hib⟩ : ∃ ib, idxB N xs = ib := ⟨_, rfl⟩
  cases ib with
  | false =>
    have hr := Lib.hid (show polyB l xs = false by unfold polyB; rw [← hN.out, hib]; rfl)
    replace hib := Lib.hid hib
    clear h hx
    go_enter Try.func41, Try.ntmps41
    go_wp2_with (go_at_call 56; refine hidx.out.mono ?_; rintro e w1 ⟨rfl, hb⟩; rw [hib.out]; have hb := Lib.hid hb)
    go_ret
    exact ⟨ret_bool (by rw [hr.out]), hb.out⟩
  | true =>
    have hib' : idxB l.length xs = true := by rw [← hN.out]; exact hib
    obtain ⟨n1, n2, n3⟩ := idx_nats hib'
    have hsl := sel_len hor hib'
    have hsl2 : (selX (ordR l l.length) xs).length ≤ 14 := by
      unfold selX
      have h1 := List.length_filter_le (fun i => memB xs ((i : Nat) : Int)) (ordR l l.length)
      rw [ordR_len] at h1
      have := (len_of hc).2
      omega
    have hH := sel_isH hor hgen hib' (by rw [← hn.out]; omega)
    have hHl := hullL_len (t := tur l) (selX (ordR l l.length) xs)
    have hr := Lib.hid (show polyB l xs = decide (nats (hullL (tur l) (selX (ordR l l.length) xs)) = xs) by
      unfold polyB hullB
      rw [hib', show decide (3 ≤ xs.length) = true by rw [← hn.out]; simp; omega]
      simp)
    have hRH := Lib.hid (fun W (hb : Below w.heap.size w W) => hullR_any W _ _ l (xs.map Int.toNat) (hullL (tur l) (selX (ordR l l.length) xs)) (h.then hb) (okL_of hc) hgen (by rw [← n1]; exact Ints.below hx (Nat.le_refl _) hb) n3 (by rw [List.length_map]; omega) hH (by omega))
    generalize hullL (tur l) (selX (ordR l l.length) xs) = H at *
    replace hib := Lib.hid hib
    clear h hx hor hgen n1 n2 n3 hsl hsl2 hH hHl hib'
    go_enter Try.func41, Try.ntmps41
    go_upto_region 4 with (first
      | (go_at_call 56; refine hidx.out.mono ?_; rintro e w1 ⟨rfl, hb⟩; rw [hib.out]; have hb := Lib.hid hb)
      | (go_at_call 45; refine (hRH.out _ hb.out).mono ?_; rintro e w2 ⟨v2, rfl, ho2, hb2⟩; have hi2 := OwnI.ints ho2; obtain ⟨A2, m, c2, rfl, hm⟩ := hi2.shape; obtain ⟨_, c2', e2, hl2, hcm2, _, hat2⟩ := hi2.open; injection e2 with e1 e2' e3; subst e1 e3; unfold maxLen at hcm2; rw [← e2'] at hl2; clear e2'; have hat2 := Lib.hid hat2; have hb2 := Lib.hid (bthen hb.out hb2); clear ho2 hi2))
    by_cases hmn : m = n
    case neg =>
      have hr := Lib.hid (show polyB l xs = false by
        rw [hr.out, decide_eq_false_iff_not]
        intro e
        have h1 := hm.out
        rw [e, ← hn.out] at h1
        exact hmn h1)
      have hne : ((m : Int) == (n : Int)) = false := by simp; omega
      go_wp2
      go_ret
      exact ⟨ret_bool (by rw [hr.out]), hb2.out⟩
    subst hmn
    go_wp2
    go_loopw [6] (fun c wr => ∃ k : Nat, k ≤ m ∧ c = .int .i64 (k : Int) ∧ Hid ((nats H).take k = xs.take k) ∧ Hid (Below w2.heap.size w2 wr)) (fun c _ => m - (intOf c).toNat)
    case atStart => exact ⟨0, Nat.zero_le _, rfl, by unfold Hid; simp, Below.refl _ _⟩
    case round =>
      obtain ⟨k, hk, rfl, he, hB⟩ := hrel
      by_cases hlt : k < m
      case neg =>
        obtain rfl : m = k := by omega
        have hr := Lib.hid (show polyB l xs = true by
          rw [hr.out, decide_eq_true_eq]
          have := he.out
          rwa [List.take_of_length_le (by rw [← hm.out]; exact Nat.le_refl _), List.take_of_length_le (by rw [← hn.out]; exact Nat.le_refl _)] at this)
        go_wp2
        go_ret
        exact ⟨ret_bool (by rw [hr.out]), bthen hb2.out hB.out⟩
      have hkx : k < (nats H).length := by rw [← hm.out]; exact hlt
      have hky : k < xs.length := by rw [← hn.out]; exact hlt
      obtain ⟨b, o, rfl, hcc⟩ := hat2.out k hkx
      obtain ⟨b2, o2, rfl, hcc2⟩ := hatx.out k hky
      have hcc := cell_below hcc hB.out
      have hcc2 := cell_below hcc2 (bthen hb2.out hB.out)
      have hst := Lib.hid (fun e => take_eq_step hkx hky he.out e)
      have hnot := Lib.hid (show at0 (nats H) k ≠ at0 xs k → polyB l xs = false from fun h => by
        rw [hr.out, decide_eq_false_iff_not]; intro e; rw [e] at h; exact h rfl)
      generalize at0 (nats H) k = a at *
      generalize at0 xs k = b' at *
      by_cases hab : a = b'
      · have hst := Lib.hid (hst.out hab)
        have hab' : (a == b') = true := by simp [hab]
        clear hnot
        go_wp2
        go_quiet (fail)
        go_wp2
        go_roundw
        case rel => exact ⟨k + 1, by omega, by go_num, hst, Lib.hid (below_drewN hB.out nq)⟩
        case measure => simp [intOf]; omega
      · have hr := Lib.hid (hnot.out hab)
        have hab' : (a == b') = false := by simp [hab]
        clear hnot hst
        go_wp2
        go_quiet (fail)
        go_wp2
        go_ret
        exact ⟨ret_bool (by rw [hr.out]), below_drewN (bthen hb2.out hB.out) nq⟩

set_option maxHeartbeats 2000000 in
theorem insideR_any (w : World) (v vx : Value) (l : List Pt) (ns : List Nat) (p : Nat) (h : Pts w v l) (hok : OkL l) (hx : Ints w vx (nats ns)) (hns : ∀ k ∈ ns, k < l.length) (hp : p < l.length) (hlen : ns.length ≤ 1000) :
    Calls Try.prog 77 #[v, vx, .int .i64 (p : Int)] w fun e w' => e = .returned (.bool (insB (tur l) ns p)) ∧ Below w.heap.size w w' := by
  obtain ⟨A, N, cap, rfl, hN⟩ := h.shape
  obtain ⟨_, cap', e, hl, hcm, _, hat⟩ := h.open
  injection e with e1 e2 e3
  subst e1 e3
  unfold maxLen at hcm
  rw [← e2] at hl
  clear e2
  have hat := Lib.hid hat
  obtain ⟨bp, op, rfl, _⟩ := hat.out p hp
  have hpt := Lib.hid (show ∀ q, q < N → w.cell? ⟨bp, op + q * 2, none⟩ = some (.int .i64 (ptA l q).1) ∧ w.cell? ⟨bp, op + q * 2 + 1, none⟩ = some (.int .i64 (ptA l q).2) from fun q hq => by
    obtain ⟨b, o, e, h0, h1⟩ := hat.out q (by rw [← hN.out]; exact hq)
    cases e
    exact ⟨h0, h1⟩)
  obtain ⟨Ax, cx, rfl, hlx, hcmx, _, hatx⟩ := hx.open
  have hatx := Lib.hid (show ∀ i, i < ns.length → ∃ b off, Ax = some ⟨b, off, none⟩ ∧ w.cell? ⟨b, off + i, none⟩ = some (.int .i64 ((natAt ns i : Nat) : Int)) from fun i hi => by
    obtain ⟨b, off, hA, hc⟩ := hatx i (by rw [nats_length]; exact hi)
    exact ⟨b, off, hA, by rwa [at0_nats] at hc⟩)
  unfold maxLen at hcmx
  rw [nats_length] at hlx ⊢
  obtain ⟨m, hm⟩ : ∃ m, ns.length = m := ⟨_, rfl⟩
  have hnL := Lib.hid (show ∀ i, i < m → natAt ns i < N from fun i hi => by rw [hN.out]; exact hns _ (by rw [natAt_eq (by omega)]; exact List.getElem_mem _))
  rw [hm] at hlx hlen ⊢
  replace hm := Lib.hid hm
  replace hok := Lib.hid hok
  have hpN : p < N := by rw [hN.out]; exact hp
  clear h hx hns hp
  go_enter Try.func77, Try.ntmps77
  go_wp2
  go_loopw [7] (fun c wr => ∃ k : Nat, k ≤ m ∧ c = .int .i64 (k : Int) ∧ Hid (insUpto (tur l) ns p k = true) ∧ Hid (Below w.heap.size w wr)) (fun c _ => m - (intOf c).toNat)
  case atStart => exact ⟨0, Nat.zero_le _, rfl, rfl, Below.refl _ _⟩
  case round =>
    obtain ⟨k, hk, rfl, hi, hB⟩ := hrel
    by_cases hlt : k < m
    case neg =>
      obtain rfl : m = k := by omega
      have hr := Lib.hid (show insB (tur l) ns p = true by unfold insB; rw [hm.out]; exact hi.out)
      go_wp2
      go_ret
      exact ⟨ret_bool (by rw [hr.out]), hB.out⟩
    obtain ⟨b, o, rfl, hc⟩ := hatx.out k (by rw [hm.out]; exact hlt)
    have hmod : (k + 1) % m < m := Nat.mod_lt _ (by omega)
    obtain ⟨b2, o2, e, hc2⟩ := hatx.out ((k + 1) % m) (by rw [hm.out]; exact hmod)
    cases e
    have h1 := hnL.out k hlt
    have h2 := hnL.out _ hmod
    have hst := Lib.hid (show insUpto (tur l) ns p (k + 1) = decide (0 < trn (ptA l (natAt ns k)) (ptA l (natAt ns ((k + 1) % m))) (ptA l p)) by
      have : insUpto (tur l) ns p (k + 1) = (insUpto (tur l) ns p k && decide (0 < tur l (natAt ns k) (natAt ns ((k + 1) % ns.length)) p)) := rfl
      rw [this, hi.out, Bool.true_and, hm.out]; rfl)
    have hmi : ((k : Int) + 1).tmod (m : Int) = (((k + 1) % m : Nat) : Int) := by
      rw [Int.tmod_eq_emod_of_nonneg (by omega), Int.natCast_emod]
      rfl
    obtain ⟨q, hq⟩ : ∃ q, (k + 1) % m = q := ⟨_, rfl⟩
    rw [hq] at hmi hc2 h2 hst hmod
    replace hq := Lib.hid hq
    have hmne : ¬ (m : Int) = 0 := by omega
    obtain ⟨px0, px1⟩ := hpt.out _ h1
    obtain ⟨py0, py1⟩ := hpt.out _ h2
    obtain ⟨pp0, pp1⟩ := hpt.out _ hpN
    have o1 := hok.out (natAt ns k) (by rw [← hN.out]; exact h1)
    have o2' := hok.out (natAt ns q) (by rw [← hN.out]; exact h2)
    have o3 := hok.out p (by rw [← hN.out]; exact hpN)
    have t0 := fun g : Gr wr => g.cell (cell_below hc hB.out)
    have t1 := fun g : Gr wr => g.cell (cell_below hc2 hB.out)
    have t2 := fun g : Gr wr => g.cell (cell_below px0 hB.out)
    have t3 := fun g : Gr wr => g.cell (cell_below px1 hB.out)
    have t4 := fun g : Gr wr => g.cell (cell_below py0 hB.out)
    have t5 := fun g : Gr wr => g.cell (cell_below py1 hB.out)
    have t6 := fun g : Gr wr => g.cell (cell_below pp0 hB.out)
    have t7 := fun g : Gr wr => g.cell (cell_below pp1 hB.out)
    have hTu := Lib.hid (fun g : Gr wr => grow_of (g := g) (turnR_any g.w1 (ptA l (natAt ns k)) (ptA l (natAt ns q)) (ptA l p) o1 o2' o3))
    clear hc hc2 px0 px1 py0 py1 pp0 pp1 o1 o2' o3
    generalize natAt ns k = x at *
    generalize natAt ns q = y at *
    generalize ptA l x = qx at *
    generalize ptA l y = qy at *
    generalize ptA l p = qp at *
    generalize trn qx qy qp = T at *
    obtain ⟨qx1, qx2⟩ := qx
    obtain ⟨qy1, qy2⟩ := qy
    obtain ⟨qp1, qp2⟩ := qp
    by_cases hTt : 0 < T
    · have hst := Lib.hid (show insUpto (tur l) ns p (k + 1) = true by rw [hst.out]; simp [hTt])
      have hTd : decide (T ≤ 0) = false := by simp; omega
      go_wp2
      refine wp_region_grow (by kernel_rfl) (by kernel_rfl) ?_
      repeat (go_big_quiet_step ((go_at_call 15; exact hTu.out _)))
      refine wpQuiet_nil ?_
      rintro _ ⟨g, rfl⟩
      go_wp2
      go_roundw
      case rel => exact ⟨k + 1, by omega, by go_num, hst, Lib.hid (bthen hB.out g.h)⟩
      case measure => simp [intOf]; omega
    · have hr := Lib.hid (show insB (tur l) ns p = false by
        unfold insB
        rw [hm.out]
        exact insUpto_false (k := k + 1) (by rw [hst.out]; simp [hTt]) _ (by omega))
      have hTd : decide (T ≤ 0) = true := by simp; omega
      go_wp2
      refine wp_region_grow (by kernel_rfl) (by kernel_rfl) ?_
      repeat (go_big_quiet_step ((go_at_call 15; exact hTu.out _)))
      refine wpQuiet_nil ?_
      rintro _ ⟨g, rfl⟩
      go_wp2
      go_ret
      exact ⟨ret_bool (by rw [hr.out]), bthen hB.out g.h⟩
end Go.Proofs.Ythnabheibacbcaa
