/- choose: n over k. Condition: n below 29, k below 15. CupsAbrego: the walk. No condition. CupsAbrego: the walk. No condition. -/
import Derived.Test.YthnabheibacbcaaC14
import Derived.Test.YthnabheibacbcaaGA
import Derived.Test.YthnabheibacbcaaE5
namespace Go.Proofs.Ythnabheibacbcaa
section
open Go.RowKit Go.Shelf

theorem choN_bd : ∀ n : Nat, n < 29 → ∀ i : Nat, i < 15 → 0 ≤ choN n i ∧ choN n i ≤ 1000000000 ∧ 0 ≤ choN n i * ((n : Int) - i) ∧ choN n i * ((n : Int) - i) ≤ 1000000000 := by decide +kernel

set_option maxHeartbeats 1000000 in
theorem choose_any (w : World) (n k : Nat) (hn : n < 29) (hk : k < 15) : Calls Try.prog 32 #[.int .i64 (n : Int), .int .i64 (k : Int)] w fun e w' => e = .returned (.int .i64 (choN n k)) ∧ w = w' := by
  have hbd := Lib.hid (choN_bd n hn)
  go_enter Try.func32, Try.ntmps32
  go_wp2
  go_loop [5, 6] (fun c5 c6 => ∃ i : Nat, i ≤ k ∧ c6 = .int .i64 (i : Int) ∧ c5 = .int .i64 (choN n i)) (fun _ c => k - (intOf c).toNat)
  case atStart => exact ⟨0, Nat.zero_le _, rfl, rfl⟩
  case round =>
    obtain ⟨i, hi, rfl, rfl⟩ := hrel
    obtain ⟨b1, b2, b3, b4⟩ := hbd.out i (by omega)
    have hs := Lib.hid (show choN n (i + 1) = choN n i * ((n : Int) - i) / ((i : Int) + 1) from rfl)
    by_cases hlt : i < k
    · generalize choN n i = c at *
      go_wp2
      go_round
      case rel => exact ⟨i + 1, by omega, by go_num, by rw [hs.out]⟩
      case measure => simp [intOf]; omega
    · obtain rfl : i = k := by omega
      go_wp2
      go_ret
      exact ⟨rfl, rfl⟩
end
section
open Go.RowKit Go.Shelf

def ptsN (rows : List (List Int)) (i : Nat) : Nat := ((rows.take i).map List.length).sum
theorem ptsN_step {rows : List (List Int)} {i : Nat} (h : i < rows.length) : ptsN rows (i + 1) = ptsN rows i + (rowAt rows i).length := by
  unfold ptsN; rw [take_rowAt h, List.map_append, List.sum_append]; simp
theorem ptsN_all (rows : List (List Int)) : ptsN rows rows.length = (rows.map List.length).sum := by unfold ptsN; rw [List.take_length]
theorem ptsN_le (rows : List (List Int)) : ∀ (d i : Nat), i + d = rows.length → ptsN rows i ≤ ptsN rows rows.length
  | 0, i, h => by obtain rfl : i = rows.length := by omega
                  exact Nat.le_refl _
  | d + 1, i, h => by have := ptsN_le rows d (i + 1) (by omega); rw [ptsN_step (by omega)] at this; omega
def wS (n : Nat) (eds : List Int) (k : Nat) : Int := sI (fun j => at0 eds j * (j : Int) * ((n : Int) - 2 - j)) k

/-- what is said of the layers -/
structure LayF (n : Nat) (rows : List (List Int)) : Prop where
  all : ptsN rows rows.length = n
  three : ∀ i, i + 1 < rows.length → 3 ≤ (rowAt rows i).length
/-- what is said of the edges -/
structure EdgF (n : Nat) (eds : List Int) (cr : Int) : Prop where
  len : eds.length ≤ (n - 2) / 2 + 1
  lo : ∀ k, k < eds.length → 0 ≤ at0 eds k ∧ at0 eds k ≤ 196
  sum : sI (at0 eds) eds.length = (n : Int) * ((n : Int) - 1) / 2
  cross : 3 * choN n 4 - wS n eds eds.length = cr
/-- what is said of both -/
structure BothF (n : Nat) (rows : List (List Int)) (eds : List Int) : Prop where
  a : 0 < rows.length
  b : 0 < eds.length
  eq : at0 eds 0 = ((rowAt rows 0).length : Int)

theorem layF_of {y : List Pt} (hc : checkB y = true) (hg : genB y = true) : LayF y.length (layR y) := by
  have ho := ordR_ord (dist_of hc)
  obtain ⟨h1, h2⟩ := lays_all (gen_of hc hg) ho _ _ (List.Sublist.refl _) (Nat.le_refl _)
  have hl := ho.1.length_eq
  rw [List.length_range] at hl
  have e : ∀ rows : List (List Nat), ((rows.map nats).map List.length).sum = (rows.map List.length).sum := fun rows => by rw [List.map_map]; congr 1; exact List.map_congr_left fun r _ => nats_length r
  refine ⟨?_, fun i hi => ?_⟩
  · rw [ptsN_all]; unfold layR; rw [e, h1, hl]
  · unfold layR at hi ⊢
    rw [List.length_map] at hi
    rw [rowAt_eq (by rw [List.length_map]; omega), List.getElem_map, nats_length]
    exact h2 i hi (by omega)
theorem tab_at {n : Nat} {f : Nat → Int} {i : Nat} (h : i < n) : at0 (tab n f) i = f i := by
  rw [at0_eq (by unfold tab; simpa using h)]; unfold tab; simp
theorem tab_len {α : Type} (n : Nat) (f : Nat → α) : (tab n f).length = n := by unfold tab; simp
theorem half_cast (n : Nat) (h : 1 ≤ n) : ((n * (n - 1) / 2 : Nat) : Int) = (n : Int) * ((n : Int) - 1) / 2 := by
  rw [Int.natCast_ediv, Int.natCast_mul, Int.natCast_sub h]; rfl
theorem edgF_of {y : List Pt} (hc : checkB y = true) (hg : genB y = true) : EdgF y.length (edgR y) (cA y y.length y.length : Nat) := by
  have hG := gen_of hc hg
  have hn := len_of hc
  have hcr := edges_cross hG hn.2
  unfold edgR
  by_cases h2 : y.length < 2
  · rw [if_pos h2]
    have e1 : y.length = 1 := by omega
    refine ⟨by simp, fun k hk => by simp at hk, ?_, ?_⟩
    · rw [e1]; rfl
    · rw [← hcr, e1]
      simp [wS, sI]
  · rw [if_neg h2]
    have hle : ∀ k, k < (y.length - 2) / 2 + 1 → at0 (tab ((y.length - 2) / 2 + 1) (edgeC y (rpA y.length y.length))) k = edgeC y (rpA y.length y.length) k := fun k hk => tab_at hk
    refine ⟨by rw [tab_len]; exact Nat.le_refl _, fun k hk => ?_, ?_, ?_⟩
    · rw [tab_len] at hk
      rw [hle k hk]
      have h1 := rpA_len hn.2 y.length
      have h3 : (rpA y.length y.length).countP (fun p => decide (edgeK y p = k)) ≤ (rpA y.length y.length).length := List.countP_le_length
      unfold edgeC
      omega
    · rw [tab_len, sI_congr hle, edges_all y hn.2, half_cast _ hn.1]
    · rw [tab_len, ← hcr]
      unfold wS
      congr 1
      exact sI_congr fun k hk => by rw [hle k hk, Int.mul_assoc]
theorem bothF_of {y : List Pt} (hc : checkB y = true) (hg : genB y = true) (h3 : 3 ≤ y.length) : BothF y.length (layR y) (edgR y) := by
  have hG := gen_of hc hg
  have ho := ordR_ord (dist_of hc)
  have hl := ho.1.length_eq
  rw [List.length_range] at hl
  have hne : ordR y y.length ≠ [] := fun e => by rw [e] at hl; simp at hl; omega
  have hz := zero_edges hG ho h3
  have e : layR y = nats (hullL (tur y) (ordR y y.length)) :: (laysL (tur y) ((ordR y y.length).length - 1) (restL (hullL (tur y) (ordR y y.length)) (ordR y y.length))).map nats := by
    unfold layR; rw [laysL_step (tur y) hne (Nat.le_refl _)]; rfl
  have e2 : edgR y = tab ((y.length - 2) / 2 + 1) (edgeC y (rpA y.length y.length)) := by unfold edgR; rw [if_neg (by omega)]
  refine ⟨by rw [e]; simp, by rw [e2, tab_len]; omega, ?_⟩
  rw [e2, tab_at (by omega), hz, e]
  simp [rowAt, nats_length]
end
section
open Go.RowKit Go.Shelf

theorem prod_bd {T : Int} {k m : Int} (h0 : 0 ≤ T) (h1 : T ≤ 196) (k0 : 0 ≤ k) (k1 : k ≤ 14) (m0 : 0 ≤ m) (m1 : m ≤ 14) : 0 ≤ T * k ∧ T * k ≤ 2744 ∧ 0 ≤ T * k * m ∧ T * k * m ≤ 38416 := by
  have a1 := Int.mul_nonneg h0 k0
  have a2 : T * k ≤ 196 * 14 := Int.mul_le_mul h1 k1 k0 (by omega)
  have a3 := Int.mul_nonneg a1 m0
  have a4 : T * k * m ≤ 2744 * 14 := Int.mul_le_mul (by omega) m1 m0 (by omega)
  omega
theorem sI_bd {f : Nat → Int} {B : Int} : ∀ {k : Nat}, (∀ i, i < k → 0 ≤ f i ∧ f i ≤ B) → 0 ≤ sI f k ∧ sI f k ≤ k * B
  | 0, _ => by simp [sI]
  | k + 1, h => by
    have h1 := sI_bd fun i hi => h i (Nat.lt_succ_of_lt hi)
    have h2 := h k (Nat.lt_succ_self k)
    simp only [sI]
    rw [Int.natCast_succ, Int.add_mul]
    omega
theorem sI_bd14 {f : Nat → Int} {B : Int} {k : Nat} (hB : 0 ≤ B) (hk : k ≤ 14) (h : ∀ i, i < k → 0 ≤ f i ∧ f i ≤ B) : 0 ≤ sI f k ∧ sI f k ≤ 14 * B := by
  obtain ⟨h1, h2⟩ := sI_bd h
  have := Int.mul_le_mul_of_nonneg_right (show (k : Int) ≤ 14 by omega) hB
  omega
theorem EdgF.bds {n : Nat} {eds : List Int} {cr : Int} (h : EdgF n eds cr) (h1 : 1 ≤ n) (h14 : n ≤ 14) (k : Nat) (hk : k ≤ eds.length) :
    0 ≤ sI (at0 eds) k ∧ sI (at0 eds) k ≤ 2744 ∧ 0 ≤ wS n eds k ∧ wS n eds k ≤ 600000 ∧
    (k < eds.length → 0 ≤ at0 eds k ∧ at0 eds k ≤ 196 ∧ 0 ≤ at0 eds k * (k : Int) ∧ at0 eds k * (k : Int) ≤ 2744 ∧ 0 ≤ at0 eds k * (k : Int) * ((n : Int) - 2 - k) ∧ at0 eds k * (k : Int) * ((n : Int) - 2 - k) ≤ 38416) := by
  have hl := h.len
  have hp : ∀ i, i < eds.length → 2 ≤ n → 0 ≤ at0 eds i * (i : Int) ∧ at0 eds i * (i : Int) ≤ 2744 ∧ 0 ≤ at0 eds i * (i : Int) * ((n : Int) - 2 - i) ∧ at0 eds i * (i : Int) * ((n : Int) - 2 - i) ≤ 38416 := fun i hi h2 => by
    have := h.lo i hi
    exact prod_bd this.1 this.2 (by omega) (by omega) (by omega) (by omega)
  have hq : ∀ i, i < eds.length → 0 ≤ at0 eds i * (i : Int) ∧ at0 eds i * (i : Int) ≤ 2744 ∧ 0 ≤ at0 eds i * (i : Int) * ((n : Int) - 2 - i) ∧ at0 eds i * (i : Int) * ((n : Int) - 2 - i) ≤ 38416 := fun i hi => by
    rcases Nat.lt_or_ge n 2 with c | c
    · obtain rfl : i = 0 := by omega
      simp
    · exact hp i hi c
  have b1 := sI_bd14 (f := at0 eds) (B := 196) (by omega) (show k ≤ 14 by omega) fun i hi => h.lo i (by omega)
  have b2 := sI_bd14 (f := fun j => at0 eds j * (j : Int) * ((n : Int) - 2 - j)) (B := 38416) (by omega) (show k ≤ 14 by omega) fun i hi => (hq i (by omega)).2.2
  unfold wS
  exact ⟨b1.1, by omega, b2.1, by omega, fun hk2 => ⟨(h.lo k hk2).1, (h.lo k hk2).2, hq k hk2⟩⟩

set_option maxRecDepth 100000 in
set_option maxHeartbeats 4000000 in
theorem CupsAbrego_walk (w : World) (v : Value) (l : List Pt) (x : Int) (h : Pts w v l) : Calls Try.prog 6 #[v, .int .i64 x] w fun e w' => e = .returned (.bool true) ∧ Below w.heap.size w w' := by
  obtain ⟨W, hW, hW1, hW2⟩ := wide_nat x
  have htm : Hid (Calls Try.prog 17 #[v, .int .i64 14, .int .i64 (W : Int)] w fun e w' => ∃ v' y, e = .returned v' ∧ OwnP w.heap.size w' v' y ∧ checkB y = true ∧ genB y = true ∧ y.length ≤ 14 ∧ Below w.heap.size w w') := tame_any w v l h 14 W (by omega) (by omega) hW1 (by omega)
  clear h
  go_enter Try.func6, Try.ntmps6
  go_upto_region 2 with (
    (go_at_call 17; refine htm.out.mono ?_; rintro e w1 ⟨v1, y, rfl, ho, hc, hg, hl14, hb0⟩; obtain ⟨A1, n1, c1, rfl, hn1⟩ := OwnP.shape ho; have hp := Lib.hid (OwnP.pts ho); replace hb0 := Lib.hid hb0; have hb := Lib.hid (Below.refl w1.heap.size w1); clear ho))
  clear htm
  have h24 := Lib.hid (fun W hb => Layers_row W _ y (hp.out.then (w' := W) hb) hc hg)
  have h25 := Lib.hid (fun W hb => Edges_row W _ y (hp.out.then (w' := W) hb) hc hg)
  have h26 := Lib.hid (fun W hb => Crossings_row W _ y (hp.out.then (w' := W) hb) hc hg)
  have h27 := Lib.hid (fun W hb => Squares_row W _ y (hp.out.then (w' := W) hb) hc hg)
  have hn1' : 1 ≤ n1 := by rw [hn1.out]; exact (len_of hc).1
  have hn14 : n1 ≤ 14 := by rw [hn1.out]; exact hl14
  have hLF := Lib.hid (layF_of hc hg)
  have hEF := Lib.hid (edgF_of hc hg)
  have hBF := Lib.hid (bothF_of hc hg)
  have hcs : cA y y.length y.length = sA4 y (ordR y y.length) y.length y.length := cross_square (gen_of hc hg) (ordR_ord (dist_of hc))
  rw [← hcs] at h27
  clear hcs
  generalize cA y y.length y.length = nc at h26 h27 hEF
  generalize layR y = rows at h24 hLF hBF
  generalize edgR y = eds at h25 hEF hBF
  rw [← hn1.out] at hLF hEF hBF
  have hch := Lib.hid (fun W => choose_any W n1 4 (by omega) (by omega))
  clear hc hg hn1 hl14
  go_upto_region 9 with (first
    | (go_at_call 24; refine (h24.out _ hb.out).mono ?_; rintro e w2 ⟨Aa, na, ca, rfl, hra, h2⟩; replace hra := Lib.hid hra; replace hb := Lib.hid (bthen hb.out h2); clear h2)
    | (go_at_call 25; refine (h25.out _ hb.out).mono ?_; rintro e w2 ⟨Ab, nb, cb, rfl, hib, h2⟩; replace hib := Lib.hid hib; replace hra := Lib.hid (Rows2.below hra.out (Nat.le_refl _) h2); replace hb := Lib.hid (bthen hb.out h2); clear h2)
    | (go_at_call 26; refine (h26.out _ hb.out).mono ?_; rintro e w2 ⟨rfl, h2⟩; replace hib := Lib.hid (Ints.below hib.out (Nat.le_refl _) h2); replace hra := Lib.hid (Rows2.below hra.out (Nat.le_refl _) h2); replace hb := Lib.hid (bthen hb.out h2); clear h2)
    | (go_at_call 27; refine (h27.out _ hb.out).mono ?_; rintro e w2 ⟨rfl, h2⟩; replace hib := Lib.hid (Ints.below hib.out (Nat.le_refl _) h2); replace hra := Lib.hid (Rows2.below hra.out (Nat.le_refl _) h2); replace hb := Lib.hid (bthen hb.out h2); clear h2))
  clear h24 h25 h26 h27
  obtain ⟨_, ca', ea, hal, hacm, _, haat⟩ := Rows2.open hra.out
  injection ea with ea1 ea2 ea3
  subst ea1 ea3
  rw [← ea2] at hal
  unfold maxLen at hacm
  have hnr := Lib.hid ea2
  replace haat := Lib.hid haat
  obtain ⟨_, cb', eb, hbl, hbcm, _, hbat⟩ := Ints.open hib.out
  injection eb with eb1 eb2 eb3
  subst eb1 eb3
  rw [← eb2] at hbl
  unfold maxLen at hbcm
  have hnb := Lib.hid eb2
  replace hbat := Lib.hid hbat
  clear ea2 eb2
  have hbds := Lib.hid (hEF.out.bds hn1' hn14)
  have hW0 := choN_bd n1 (by omega) 4 (by omega)
  obtain ⟨W0, hW0e⟩ : ∃ W0, W0 = choN n1 4 := ⟨_, rfl⟩
  rw [← hW0e] at hW0
  replace hW0e := Lib.hid hW0e
  obtain ⟨w01, w02, _, _⟩ := hW0
  go_upto_region 10 with (go_at_call 32; refine (hch.out _).mono ?_; rintro e w3 ⟨rfl, rfl⟩; rw [← hW0e.out])
  go_wp2
  go_loop [15, 16, 17] (fun c15 c16 c17 => ∃ k : Nat, k ≤ nb ∧ c17 = .int .i64 (k : Int) ∧ c15 = .int .i64 (sI (at0 eds) k) ∧ c16 = .int .i64 (3 * W0 - wS n1 eds k)) (fun _ _ c => nb - (intOf c).toNat)
  case atStart => exact ⟨0, Nat.zero_le _, rfl, rfl, by simp [wS, sI]⟩
  case round =>
    obtain ⟨k, hk, rfl, rfl, rfl⟩ := hrel
    obtain ⟨s1, s2, s3, s4, s5⟩ := hbds.out k (by rw [← hnb.out]; exact hk)
    have st1 := Lib.hid (show sI (at0 eds) (k + 1) = sI (at0 eds) k + at0 eds k from rfl)
    have st2 := Lib.hid (show wS n1 eds (k + 1) = wS n1 eds k + at0 eds k * (k : Int) * ((n1 : Int) - 2 - k) from rfl)
    by_cases hlt : k < nb
    · have hkr : k < eds.length := by rw [← hnb.out]; exact hlt
      obtain ⟨t1, t2, t3, t4, t5, t6⟩ := s5 hkr
      clear s5
      obtain ⟨b1, o1, rfl, hc1⟩ := hbat.out k hkr
      generalize at0 eds k = T at *
      generalize sI (at0 eds) k = S at *
      generalize wS n1 eds k = V at *
      go_wp2
      go_round
      case rel => exact ⟨k + 1, by omega, by go_num, by rw [st1.out], by rw [st2.out]; go_num⟩
      case measure => simp [intOf]; omega
    obtain rfl : k = nb := by omega
    clear s5 st1 st2 hlt
    have hS := hEF.out.sum
    have hV := hEF.out.cross
    rw [← hnb.out] at hS hV
    rw [← hW0e.out] at hV
    rw [hS, hV]
    clear s1 s2 s3 s4 hS hV hbds hch
    have hle := Lib.hid (fun i d hd => ptsN_le rows d i hd)
    go_wp2
    go_loop [18, 19] (fun c18 c19 => ∃ i : Nat, i ≤ na ∧ c19 = .int .i64 (i : Int) ∧ c18 = .int .i64 ((ptsN rows i : Nat) : Int)) (fun _ c => na - (intOf c).toNat)
    case atStart => exact ⟨0, Nat.zero_le _, rfl, rfl⟩
    case round =>
      obtain ⟨i, hi, rfl, rfl⟩ := hrel
      by_cases hlt : i < na
      · have hir : i < rows.length := by rw [← hnr.out]; exact hlt
        obtain ⟨ba, oa, A1', c1', rfl, hca, hia⟩ := haat.out i hir
        have hst := Lib.hid (ptsN_step hir)
        have hle1 := hle.out (i + 1) (rows.length - (i + 1)) (by omega)
        rw [hst.out, hLF.out.all] at hle1
        have h3 : i + 1 < na → 3 ≤ (rowAt rows i).length := fun h => hLF.out.three i (by rw [← hnr.out]; exact h)
        clear hia
        generalize (rowAt rows i).length = m at *
        generalize ptsN rows i = P at *
        by_cases hlt2 : i + 1 < na
        · have h3' := h3 hlt2
          clear h3
          go_wp2
          go_round
          case rel => exact ⟨i + 1, by omega, by go_num, by rw [hst.out]; go_num⟩
          case measure => simp [intOf]; omega
        · clear h3
          go_wp2
          go_round
          case rel => exact ⟨i + 1, by omega, by go_num, by rw [hst.out]; go_num⟩
          case measure => simp [intOf]; omega
      obtain rfl : i = na := by omega
      clear hle hlt
      have hP : ptsN rows i = n1 := by rw [← hLF.out.all, hnr.out]
      rw [hP]
      clear hP
      have hn2a : 0 ≤ (n1 : Int) * ((n1 : Int) - 1) := Int.mul_nonneg (by omega) (by omega)
      have hn2b : (n1 : Int) * ((n1 : Int) - 1) ≤ 14 * 13 := Int.mul_le_mul (by omega) (by omega) (by omega) (by omega)
      have haw := Lib.hid (fun g : Gr w2 => grow_of (awake_any g.w1))
      by_cases hn3 : n1 < 3
      · have hn3' : decide ((n1 : Int) < 3) = true := decide_eq_true (by omega)
        go_wp2
        refine wp_region_grow (by kernel_rfl) (by kernel_rfl) ?_
        repeat (go_big_quiet_step ((go_at_call 16; exact haw.out _)))
        refine wpQuiet_nil ?_
        rintro _ ⟨g, rfl⟩
        go_wp2
        go_ret
        exact ⟨rfl, bthen hb0.out (bthen hb.out g.h)⟩
      · obtain ⟨f1, f2, f3⟩ := hBF.out (by omega)
        obtain ⟨ba, oa, A1', c1', rfl, hca, hia⟩ := haat.out 0 f1
        obtain ⟨b1, o1, rfl, hc1⟩ := hbat.out 0 f2
        rw [f3] at hc1
        have hn3' : decide ((n1 : Int) < 3) = false := decide_eq_false (by omega)
        have ka : ∀ g : Gr w2, g.w1.cell? ⟨ba, oa, none⟩ = some (.slice A1' (rowAt rows 0).length c1') := fun g => g.cell hca
        have kb : ∀ g : Gr w2, g.w1.cell? ⟨b1, o1, none⟩ = some (.int .i64 ((rowAt rows 0).length : Int)) := fun g => g.cell hc1
        have g1 : 0 < i := by rw [hnr.out]; exact f1
        have g2 : 0 < k := by rw [hnb.out]; exact f2
        have g1' : (0 : Int) < i := by omega
        have g2' : (0 : Int) < k := by omega
        clear hca hc1 hia f1 f2 f3
        generalize (rowAt rows 0).length = m at *
        go_wp2
        refine wp_region_grow (by kernel_rfl) (by kernel_rfl) ?_
        repeat (go_big_quiet_step ((go_at_call 16; exact haw.out _)))
        refine wpQuiet_nil ?_
        rintro _ ⟨g, rfl⟩
        go_wp2
        go_ret
        exact ⟨rfl, bthen hb0.out (bthen hb.out g.h)⟩
end
end Go.Proofs.Ythnabheibacbcaa
