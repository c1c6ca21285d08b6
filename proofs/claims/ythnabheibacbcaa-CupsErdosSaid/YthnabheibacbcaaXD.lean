/- CupsErdos: the walk. No condition. -/
import Derived.Test.YthnabheibacbcaaXE
import Derived.Test.YthnabheibacbcaaQC
import Derived.Test.YthnabheibacbcaaEC
import Derived.Test.YthnabheibacbcaaC15
import Derived.Test.YthnabheibacbcaaE2
namespace Go.Proofs.Ythnabheibacbcaa
open Go.RowKit Go.Shelf

theorem choN_bi : ∀ n : Nat, n < 29 → ∀ i : Nat, i < 15 → choN n i = ((bi n i : Nat) : Int) := by decide +kernel
theorem RC.le {T : Nat → Nat → Nat → Int} {s : Int} : ∀ {r : List Nat} {d c : Nat}, RC T s (d :: c :: r) → (d :: c :: r).length ≤ d + 1
  | [], d, c, h => by have : c < d := h; simp; omega
  | e :: r, d, c, h => by
    have h1 := RC.le (r := r) (d := c) (c := e) h.2.2
    have := h.1
    simp only [List.length_cons] at *
    omega
theorem best_len {l : List Pt} {os ps : List Nat} {s : Int} (h : BestRC l os s ps) (h14 : os.length ≤ 14) : 2 ≤ ps.length ∧ ps.length ≤ 14 := by
  obtain ⟨d, c, r, rfl, _⟩ := h.1.two
  have h1 := RC.le h.1
  have h2 := h.2.1 d (by simp)
  exact ⟨by simp, by omega⟩
theorem Cup_len (w : World) (v : Value) (y : List Pt) (h : Pts w v y) (hc : checkB y = true) (hg : genB y = true) (h2 : 2 ≤ y.length) :
    Calls Try.prog 18 #[v] w fun e w' => ∃ A n c, e = .returned (.tuple #[.slice A n c, .int .i64 0]) ∧ (2 ≤ n ∧ n ≤ 14) ∧ (∀ ps, RC (tp y (ordR y y.length)) 1 ps → (∀ d ∈ ps, d < (ordR y y.length).length) → ps.length ≤ n) ∧ Below w.heap.size w w' := by
  refine (Cup_ok w v y h hc hg h2).mono ?_
  rintro e w2 ⟨va, os, ps, rfl, hord, ho, hq, hb⟩
  obtain rfl := Ordd.unique hord (ordR_ord (dist_of hc))
  obtain ⟨Aa, na, ca, rfl, hna⟩ := OwnL.shape ho
  have e1 : na = ps.length := by rw [hna.out, nats_length, List.length_reverse, List.length_map]
  have h14 := best_len hq (by rw [hord.1.length_eq, List.length_range]; exact (len_of hc).2)
  exact ⟨Aa, na, ca, rfl, by omega, fun qs h1 h2 => by rw [e1]; exact hq.2.2 qs h1 h2, hb⟩
theorem Cap_len (w : World) (v : Value) (y : List Pt) (h : Pts w v y) (hc : checkB y = true) (hg : genB y = true) (h2 : 2 ≤ y.length) :
    Calls Try.prog 19 #[v] w fun e w' => ∃ A n c, e = .returned (.tuple #[.slice A n c, .int .i64 0]) ∧ (2 ≤ n ∧ n ≤ 14) ∧ (∀ ps, RC (tp y (ordR y y.length)) (-1) ps → (∀ d ∈ ps, d < (ordR y y.length).length) → ps.length ≤ n) ∧ Below w.heap.size w w' := by
  refine (Cap_ok w v y h hc hg h2).mono ?_
  rintro e w2 ⟨va, os, ps, rfl, hord, ho, hq, hb⟩
  obtain rfl := Ordd.unique hord (ordR_ord (dist_of hc))
  obtain ⟨Aa, na, ca, rfl, hna⟩ := OwnL.shape ho
  have e1 : na = ps.length := by rw [hna.out, nats_length, List.length_reverse, List.length_map]
  have h14 := best_len hq (by rw [hord.1.length_eq, List.length_range]; exact (len_of hc).2)
  exact ⟨Aa, na, ca, rfl, by omega, fun qs h1 h2 => by rw [e1]; exact hq.2.2 qs h1 h2, hb⟩
theorem Polygon_len (w : World) (v : Value) (y : List Pt) (h : Pts w v y) (hc : checkB y = true) (hg : genB y = true) (h3 : 3 ≤ y.length) :
    Calls Try.prog 46 #[v] w fun e w' => ∃ A n c, e = .returned (.tuple #[.slice A n c, .int .i64 0]) ∧ (∃ ys, IsPoly y ys ∧ ys.length = n) ∧ (∀ H, IsPoly y H → H.length ≤ n) ∧ Below w.heap.size w w' := by
  refine (Polygon_ok w v y h hc hg h3).mono ?_
  rintro e w2 ⟨va, os, ys, rfl, hord, ho, hq, hb⟩
  obtain rfl := Ordd.unique hord (ordR_ord (dist_of hc))
  obtain ⟨q1, q2⟩ := best_poly (gen_of hc hg) hord h3 hq
  obtain ⟨Aa, na, ca, rfl, hna⟩ := OwnL.shape ho
  have e1 : na = ys.length := by rw [hna.out, nats_length]
  exact ⟨Aa, na, ca, rfl, ⟨ys, q1, e1.symm⟩, fun H hH => by rw [e1]; exact q2 H hH, hb⟩
theorem Empty_len (w : World) (v : Value) (y : List Pt) (h : Pts w v y) (hc : checkB y = true) (hg : genB y = true) (h3 : 3 ≤ y.length) :
    Calls Try.prog 47 #[v] w fun e w' => ∃ A n c, e = .returned (.tuple #[.slice A n c, .int .i64 0]) ∧ (∃ ys, IsPoly y ys ∧ ys.length = n) ∧ (∀ H, IsPoly y H → (∀ p ∈ ordR y y.length, insB (tur y) H p = false) → H.length ≤ n) ∧ Below w.heap.size w w' := by
  refine (Empty_ok w v y h hc hg h3).mono ?_
  rintro e w2 ⟨va, os, ys, rfl, hord, ho, hq, hb⟩
  obtain rfl := Ordd.unique hord (ordR_ord (dist_of hc))
  obtain ⟨⟨q1, q2⟩, q3⟩ := best_free (gen_of hc hg) hord h3 hq
  obtain ⟨Aa, na, ca, rfl, hna⟩ := OwnL.shape ho
  have e1 : na = ys.length := by rw [hna.out, nats_length]
  exact ⟨Aa, na, ca, rfl, ⟨ys, q1, e1.symm⟩, fun H hH hF => by rw [e1]; exact q3 H hH hF, hb⟩
theorem choose_int (w : World) (a b : Int) (N K : Nat) (hN : N < 29) (hK : K < 15) (ha : a = N) (hb : b = K) : Calls Try.prog 32 #[.int .i64 a, .int .i64 b] w fun e w' => e = .returned (.int .i64 ((bi N K : Nat) : Int)) ∧ w = w' := by
  subst ha hb
  have := choose_any w N K hN hK
  rwa [choN_bi N hN K hK] at this
/-- there are not too many points -/
theorem es_le {y : List Pt} (hg : Gen y) (ho : Ordd y (ordR y y.length)) {a b : Nat} (h2 : 2 ≤ a ∧ a ≤ 14) (h2' : 2 ≤ b ∧ b ≤ 14) (hA : ∀ ps, RC (tp y (ordR y y.length)) 1 ps → (∀ d ∈ ps, d < (ordR y y.length).length) → ps.length ≤ a) (hB : ∀ ps, RC (tp y (ordR y y.length)) (-1) ps → (∀ d ∈ ps, d < (ordR y y.length).length) → ps.length ≤ b) :
    y.length ≤ bi (a + b - 2) (a - 1) := by
  have hl := ho.1.length_eq
  rw [List.length_range] at hl
  have hnd : (ordR y y.length).Nodup := ho.1.nodup_iff.2 List.nodup_range
  have h := es (T := tp y (ordR y y.length)) (n := y.length) (fun e c d h1 h2 h3 => by
      have hm : ∀ k, k < y.length → natAt (ordR y y.length) k < y.length := fun k hk => ord_lt ho _ (by rw [natAt_eq (by omega)]; exact List.getElem_mem _)
      have hd : ∀ i j, i < j → j < y.length → natAt (ordR y y.length) i ≠ natAt (ordR y y.length) j := fun i j hij hj e => by
        rw [natAt_eq (by omega), natAt_eq (by omega)] at e
        have := (List.getElem_inj hnd).1 e
        omega
      exact tur_pm hg (hm e (by omega)) (hm c (by omega)) (hm d h3) (hd e c h1 (by omega)) (hd c d h2 h3) (hd e d (by omega) h3)) _ (a + 1) (b + 1) rfl (by omega) (by omega) (List.range y.length) List.pairwise_lt_range (fun x hx => List.mem_range.1 hx)
    (fun ps h1 h2 => by have := hA ps h1 (fun d hd => by rw [hl]; exact List.mem_range.1 (h2 d hd)); omega) (fun ps h1 h2 => by have := hB ps h1 (fun d hd => by rw [hl]; exact List.mem_range.1 (h2 d hd)); omega)
  rw [List.length_range, show a + 1 + (b + 1) - 4 = a + b - 2 by omega, show a + 1 - 2 = a - 1 by omega] at h
  exact h

set_option maxRecDepth 100000 in
set_option maxHeartbeats 4000000 in
theorem CupsErdos_walk (w : World) (v : Value) (l : List Pt) (x : Int) (h : Pts w v l) : Calls Try.prog 9 #[v, .int .i64 x] w fun e w' => e = .returned (.bool true) ∧ Below w.heap.size w w' := by
  obtain ⟨W, hW, hW1, hW2⟩ := wide_nat x
  have htm : Hid (Calls Try.prog 17 #[v, .int .i64 14, .int .i64 (W : Int)] w fun e w' => ∃ v' y, e = .returned v' ∧ OwnP w.heap.size w' v' y ∧ checkB y = true ∧ genB y = true ∧ y.length ≤ 14 ∧ Below w.heap.size w w') := tame_any w v l h 14 W (by omega) (by omega) hW1 (by omega)
  clear h
  go_enter Try.func9, Try.ntmps9
  go_upto_region 2 with (
    (go_at_call 17; refine htm.out.mono ?_; rintro e w1 ⟨v1, y, rfl, ho, hc, hg, hl14, hb0⟩; obtain ⟨A1, n1, c1, rfl, hn1⟩ := OwnP.shape ho; have hp := Lib.hid (OwnP.pts ho); replace hb0 := Lib.hid hb0; have hb := Lib.hid (Below.refl w1.heap.size w1); clear ho))
  clear htm
  by_cases h2 : y.length < 2
  · have hE := Lib.hid (show openE y 2 = 1 by unfold openE; rw [if_pos hc, if_neg (fun h => by omega)])
    have hn2 : (n1 : Int) < 2 := by rw [hn1.out]; omega
    clear hc hg
    go_wp2_with (first
      | (go_at_call 18; refine (Cup_err _ _ y 1 (hp.out.then hb.out) hE.out (.inr rfl)).mono ?_; rintro e w2 ⟨rfl, h2⟩; replace hb := Lib.hid (bthen hb.out h2); clear h2)
      | (go_at_call 19; refine (Cap_err _ _ y 1 (hp.out.then hb.out) hE.out (.inr rfl)).mono ?_; rintro e w2 ⟨rfl, h2⟩; replace hb := Lib.hid (bthen hb.out h2); clear h2)
      | (go_at_call 16; refine (awake_any _).mono ?_; rintro e w2 ⟨rfl, h2⟩; replace hb := Lib.hid (bthen hb.out h2); clear h2))
    go_ret
    exact ⟨rfl, bthen hb0.out hb.out⟩
  have h2' : 2 ≤ y.length := by omega
  have hn2 : ¬ (n1 : Int) < 2 := by rw [hn1.out]; omega
  have h18 := Lib.hid (fun W hb => Cup_len W _ y (hp.out.then (w' := W) hb) hc hg h2')
  have h19 := Lib.hid (fun W hb => Cap_len W _ y (hp.out.then (w' := W) hb) hc hg h2')
  have h46 := Lib.hid (fun h3 W hb => Polygon_len W _ y (hp.out.then (w' := W) hb) hc hg h3)
  have h47 := Lib.hid (fun h3 W hb => Empty_len W _ y (hp.out.then (w' := W) hb) hc hg h3)
  have hES := Lib.hid (fun a b h1 h2 h3 h4 => es_le (gen_of hc hg) (ordR_ord (dist_of hc)) (a := a) (b := b) h1 h2 h3 h4)
  have hPC := Lib.hid (fun H (hH : IsPoly y H) a b h3 h4 => poly_cups (gen_of hc hg) (ordR_ord (dist_of hc)) hH (a := a) (b := b) h3 h4)
  have hH4 := Lib.hid (fun h5 => hole4 (gen_of hc hg) (ordR_ord (dist_of hc)) h5)
  have hH5 := Lib.hid (fun h10 => hole5 (gen_of hc hg) (ordR_ord (dist_of hc)) h10)
  have hn14 : n1 ≤ 14 := by rw [hn1.out]; exact hl14
  clear hc hg h2 h2'
  go_upto_region 8 with (first
    | (go_at_call 18; refine (h18.out _ hb.out).mono ?_; rintro e w2 ⟨Aa, na, ca, rfl, hna, hRa, h2⟩; obtain ⟨na1, na2⟩ := hna; replace hRa := Lib.hid hRa; replace hb := Lib.hid (bthen hb.out h2); clear h2)
    | (go_at_call 19; refine (h19.out _ hb.out).mono ?_; rintro e w3 ⟨Ab, nb, cb, rfl, hnb, hRb, h2⟩; obtain ⟨nb1, nb2⟩ := hnb; replace hRb := Lib.hid hRb; replace hb := Lib.hid (bthen hb.out h2); clear h2))
  have hle := hES.out na nb ⟨na1, na2⟩ ⟨nb1, nb2⟩ hRa.out hRb.out
  rw [← hn1.out] at hle
  have hch := Lib.hid (fun W a b ha hb => choose_int W a b (na + nb - 2) (na - 1) (by omega) (by omega) ha hb)
  generalize bi (na + nb - 2) (na - 1) = C at *
  have hcmp : (n1 : Int) ≤ (C : Int) := by omega
  by_cases h5 : n1 < 5
  · have h5' : (n1 : Int) < 5 := by omega
    go_wp2_with (first
      | (go_at_call 32; refine (hch.out _ _ _ (by omega) (by omega)).mono ?_; rintro e w4 ⟨rfl, rfl⟩)
      | (go_at_call 16; refine (awake_any _).mono ?_; rintro e w2 ⟨rfl, h2⟩; replace hb := Lib.hid (bthen hb.out h2); clear h2))
    go_ret
    exact ⟨rfl, bthen hb0.out hb.out⟩
  have h5' : decide ((n1 : Int) < 5) = false := by simp; omega
  have hy5 : 5 ≤ y.length := by rw [← hn1.out]; omega
  have hfact := Lib.hid (show ∀ lc ld, (∃ ys, IsPoly y ys ∧ ys.length = lc) → (∀ H, IsPoly y H → H.length ≤ lc) → (∃ ys, IsPoly y ys ∧ ys.length = ld) → (∀ H, IsPoly y H → (∀ p ∈ ordR y y.length, insB (tur y) H p = false) → H.length ≤ ld) →
      4 ≤ lc ∧ 4 ≤ ld ∧ (10 ≤ n1 → 5 ≤ ld) ∧ ld ≤ lc ∧ lc + 2 ≤ na + nb from fun lc ld ⟨yc, q1, q2⟩ q3 ⟨yd, q4, q5⟩ q6 => by
    obtain ⟨H4, p1, p2, p3⟩ := hH4.out hy5
    have u1 := q6 H4 p1 p3
    have u2 := q3 yd q4
    have u3 := hPC.out yc q1 na nb hRa.out hRb.out
    refine ⟨by omega, by omega, fun h10 => ?_, by omega, by omega⟩
    obtain ⟨H5, r1, r2, r3⟩ := hH5.out (by rw [← hn1.out]; exact h10)
    have := q6 H5 r1 r3
    omega)
  have h46' := Lib.hid (fun W hb => h46.out (by omega) W hb)
  have h47' := Lib.hid (fun W hb => h47.out (by omega) W hb)
  clear hH4 hH5 hPC hES h46 h47 hRa hRb hy5
  go_upto_region 15 with (first
    | (go_at_call 32; refine (hch.out _ _ _ (by omega) (by omega)).mono ?_; rintro e w4 ⟨rfl, rfl⟩)
    | (go_at_call 46; refine (h46'.out _ hb.out).mono ?_; rintro e w5 ⟨Ac, nc, cc, rfl, hc1, hc2, h2⟩; replace hc1 := Lib.hid hc1; replace hc2 := Lib.hid hc2; replace hb := Lib.hid (bthen hb.out h2); clear h2)
    | (go_at_call 47; refine (h47'.out _ hb.out).mono ?_; rintro e w6 ⟨Ad, nd, cd, rfl, hd1, hd2, h2⟩; replace hd1 := Lib.hid hd1; replace hd2 := Lib.hid hd2; replace hb := Lib.hid (bthen hb.out h2); clear h2))
  obtain ⟨f1, f2, f3, f4, f5⟩ := hfact.out nc nd hc1.out hc2.out hd1.out hd2.out
  have g1 : (4 : Int) ≤ (nc : Int) := by omega
  have g2 : (4 : Int) ≤ (nd : Int) := by omega
  have g4 : (nd : Int) ≤ (nc : Int) := by omega
  have g5 : (nc : Int) ≤ (na : Int) + (nb : Int) - 2 := by omega
  by_cases h10 : n1 < 10
  · have h10' : (n1 : Int) < 10 := by omega
    clear f3 hfact
    go_wp2_with (go_at_call 16; refine (awake_any _).mono ?_; rintro e w2 ⟨rfl, h2⟩; replace hb := Lib.hid (bthen hb.out h2); clear h2)
    go_ret
    exact ⟨rfl, bthen hb0.out hb.out⟩
  · have h10' : decide ((n1 : Int) < 10) = false := by simp; omega
    have g3 : (5 : Int) ≤ (nd : Int) := by have := f3 (by omega); omega
    clear f3 hfact
    go_wp2_with (go_at_call 16; refine (awake_any _).mono ?_; rintro e w2 ⟨rfl, h2⟩; replace hb := Lib.hid (bthen hb.out h2); clear h2)
    go_ret
    exact ⟨rfl, bthen hb0.out hb.out⟩
end Go.Proofs.Ythnabheibacbcaa
