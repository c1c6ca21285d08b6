/- The reference: IsAllocation; Clears, where the lists are no allocation or no prices. -/
import Derived.Test.YtadonoacmpkolaaW24
namespace Go.Proofs.Ytadonoacmpkolaa
open Go.RowKit
attribute [local go_sem high] walk_shl walk_shr walk_bit walk_rem walk_and walk_or walk_andNot

set_option maxRecDepth 100000 in
set_option maxHeartbeats 1600000 in
theorem rialloc_any (w : World) (v u : Value) (xs : List (List Int)) (l : List Int) (m : Nat) (h : Rows2 w v xs) (hu : Ints w u l) (hm : m ≤ 6) :
    Calls Try.prog 43 #[.int .i64 (m : Int), v, u] w fun e w' => e = .returned (.bool (allocB m xs.length l)) ∧ ∃ d, w.drewN d = w' := by
  have hsm : smallS m := smallS_of (by omega)
  have h64 := p2_le64 hm
  obtain ⟨A, cap, rfl, _, hcap, _, _⟩ := h.open
  obtain ⟨B, cu, rfl, hlu, hcu, _, hau⟩ := hu.open
  clear h hu
  unfold maxLen at hcap hcu
  replace hau := Lib.hid hau
  have hno := Lib.hid (fun k (hk : k < l.length) h => allocB_no (m := m) (n := xs.length) hk h)
  have hys := Lib.hid (fun (h : ∀ k, k < l.length → alOne m l k = true) => (show allocB m xs.length l = ((l.length : Int) == (xs.length : Int)) by
    unfold allocB; rw [all_yes h, Bool.and_true]
    by_cases e : l.length = xs.length
    · simp [e]
    · have : ((l.length : Int) == (xs.length : Int)) = false := by simp; omega
      rw [this]; simp [e]))
  generalize allocB m xs.length l = R at *
  go_enter Try.func43, Try.ntmps43
  go_wp2
  go_loopw [7, 8] (fun t i wr => ∃ k : Nat, k ≤ l.length ∧ i = .int .i64 (k : Int) ∧ t = .int .i64 ((tk l k : Nat) : Int) ∧ Hid (∀ j, j < k → alOne m l j = true) ∧ ∃ d, wr = w.drewN d) (fun _ i _ => l.length - (intOf i).toNat)
  case atStart => exact ⟨0, Nat.zero_le _, rfl, rfl, (fun j hj => absurd hj (by omega)), 0, rfl⟩
  case round =>
    obtain ⟨k, hk, rfl, rfl, hok, d, rfl⟩ := hrel
    by_cases hlt : k < l.length
    · obtain ⟨b1, o1, rfl, hc1⟩ := hau.out k hlt
      have htl := tk_lt k hok.out
      have hts : small (tk l k) := small_of (by omega)
      have hone : Hid (alOne m l k = (decide (0 ≤ at0 l k) && decide (at0 l k < ((p2 m : Nat) : Int)) && decide ((at0 l k).toNat &&& tk l k = 0))) := rfl
      have htk : Hid (tk l (k + 1) = tk l k ||| (at0 l k).toNat) := rfl
      have hno1 := Lib.hid (hno.out k hlt)
      have hok1 : Hid (alOne m l k = true → ∀ j, j < k + 1 → alOne m l j = true) := fun h j hj => by
        by_cases e : j = k
        · rw [e]; exact h
        · exact hok.out j (by omega)
      generalize tk l k = t at *
      generalize alOne m l k = one at *
      generalize at0 l k = x at *
      by_cases hx0 : x < 0
      · have hr := Lib.hid (hno1.out (by rw [hone.out]; simp; omega))
        go_wp2_with fail
        go_quiet (fail)
        go_wp2
        go_ret
        exact ⟨ret_bool hr.out.symm, _, (World.drewN_drewN ..).symm⟩
      · obtain ⟨s, rfl⟩ : ∃ s : Nat, x = s := ⟨x.toNat, by omega⟩
        rw [Int.toNat_natCast] at hone htk
        by_cases hx1 : ((p2 m : Nat) : Int) ≤ (s : Int)
        · have hr := Lib.hid (hno1.out (by rw [hone.out]; simp; omega))
          go_wp2_with fail
          go_quiet (fail)
          go_wp2
          go_ret
          exact ⟨ret_bool hr.out.symm, _, (World.drewN_drewN ..).symm⟩
        · have hss : small s := small_of (by omega)
          have hd1 : decide (((p2 m : Nat) : Int) ≤ (s : Int)) = false := decide_eq_false hx1
          have hd2 : decide (p2 m ≤ s) = false := decide_eq_false (by omega)
          by_cases hand : s &&& t = 0
          · have hz : ((((s &&& t : Nat)) : Int) != 0) = false := by rw [hand]; rfl
            have hr := Lib.hid (hok1.out (by rw [hone.out, hand]; simp; omega))
            replace hand := Lib.hid hand
            go_wp2_with fail
            go_quiet (fail)
            go_wp2
            go_roundw
            case rel => exact ⟨k + 1, by omega, by go_num, by rw [htk.out], hr.out, _, rfl⟩
            case measure => simp [intOf]; try omega
          · have hz : ((((s &&& t : Nat)) : Int) != 0) = true := by simp; omega
            have hr := Lib.hid (hno1.out (by rw [hone.out]; simp [hand]))
            replace hand := Lib.hid hand
            go_wp2_with fail
            go_quiet (fail)
            go_wp2
            go_ret
            exact ⟨ret_bool hr.out.symm, _, (World.drewN_drewN ..).symm⟩
    · obtain rfl : k = l.length := by omega
      have hr := Lib.hid (hys.out hok.out)
      go_wp2
      go_ret
      exact ⟨ret_bool hr.out.symm, _, rfl⟩

/-- a price that may not be -/
def badP (ps : List Int) (i : Nat) : Bool := decide (at0 ps i < 0) || decide (1000000000 < at0 ps i)
def badAt (b : Bool) (ps : List Int) (k : Nat) : Bool := b || (List.range k).any (badP ps)
theorem badAt_zero (b : Bool) (ps : List Int) : badAt b ps 0 = b := by unfold badAt; simp
theorem badAt_succ (b : Bool) (ps : List Int) (k : Nat) : badAt b ps (k + 1) = (badAt b ps k || badP ps k) := by
  unfold badAt; rw [List.range_succ, List.any_append]; simp [Bool.or_assoc]
theorem badAt_no {ps : List Int} {k : Nat} (h : badAt false ps k = false) (i : Nat) (hi : i < k) : 0 ≤ at0 ps i ∧ at0 ps i ≤ 1000000000 := by
  unfold badAt at h
  rw [Bool.false_or, List.any_eq_false] at h
  have := h i (List.mem_range.2 hi)
  unfold badP at this
  simp at this
  omega
theorem priced_of {ps : List Int} (h : badAt false ps ps.length = false) : priced ps.length ps := ⟨rfl, fun i => by
  by_cases hi : i < ps.length
  · exact badAt_no h i hi
  · have : at0 ps i = 0 := by unfold at0; simp [List.getD, List.getElem?_eq_none (show ps.length ≤ i by omega)]
    rw [this]; decide⟩

set_option maxRecDepth 100000 in
set_option maxHeartbeats 800000 in
theorem Clears_arg (w : World) (v u q : Value) (xs : List (List Int)) (l ps : List Int) (m : Nat) (h : Rows2 w v xs) (hu : Ints w u l) (hq : Ints w q ps) (hE : Bids m xs)
    (hb : allocB m xs.length l = false ∨ ps.length ≠ m ∨ badAt false ps ps.length = true) :
    Calls Try.prog 42 #[.int .i64 (m : Int), v, u, q] w fun e w' => e = .returned (.tuple #[.bool false, .int .i64 1]) ∧ Below w.heap.size w w' := by
  have hc := check_any w v xs m h
  rw [hE.check] at hc
  replace hc := Lib.hid hc
  have hsa := fun W (hB : Below w.heap.size w W) => isAlloc_any W v u xs l m (Rows2.below h (Nat.le_refl _) hB) (Ints.below hu (Nat.le_refl _) hB) hE.m6 (by have := hE.l6; omega)
  have hm1 := hE.m1
  cases hal : allocB m xs.length l
  · rw [hal] at hsa
    replace hsa := Lib.hid hsa
    clear hal hb hE
    obtain ⟨A, cap, rfl, _, hcap, _, _⟩ := h.open
    obtain ⟨B, cu, rfl, _, hcu, _, _⟩ := hu.open
    obtain ⟨D, cq, rfl, _, hcq, _, _⟩ := hq.open
    clear h hu hq
    unfold maxLen at hcap hcu hcq
    go_enter Try.func42, Try.ntmps42
    go_wp2_with (first
      | (go_at_call 45; refine hc.out.mono ?_; rintro e w1 ⟨rfl, hB⟩; replace hB := Lib.hid hB)
      | (go_at_call 63; refine (hsa.out _ hB.out).mono ?_; rintro e w2 ⟨rfl, rfl⟩))
    go_ret2
    exact ⟨rfl, hB.out⟩
  · rw [hal] at hsa
    replace hsa := Lib.hid hsa
    by_cases hlm : ps.length = m
    · have hbt : badAt false ps ps.length = true := by
        rcases hb with hb | hb | hb
        · rw [hal] at hb; cases hb
        · exact absurd hlm hb
        · exact hb
      have hmin := Lib.hid (fun W (hB : Below w.heap.size w W) => min_any W q ps (Ints.below hq (Nat.le_refl _) hB) (by omega))
      have hmax := Lib.hid (fun W (hB : Below w.heap.size w W) => max_any W q ps (Ints.below hq (Nat.le_refl _) hB) (by omega))
      have hor : minUpto ps ps.length < 0 ∨ 1000000000 < maxUpto ps ps.length := by
        unfold badAt at hbt
        rw [Bool.false_or, List.any_eq_true] at hbt
        obtain ⟨i, hi, hb⟩ := hbt
        have h1 := min_le ps ps.length i (List.mem_range.1 hi)
        have h2 := le_max ps ps.length i (List.mem_range.1 hi)
        unfold badP at hb
        simp at hb
        omega
      have hne : ((ps.length : Int) != (m : Int)) = false := by simp [hlm]
      generalize minUpto ps ps.length = mn at *
      generalize maxUpto ps ps.length = mx at *
      clear hal hb hE hbt
      obtain ⟨A, cap, rfl, _, hcap, _, _⟩ := h.open
      obtain ⟨B, cu, rfl, _, hcu, _, _⟩ := hu.open
      obtain ⟨D, cq, rfl, _, hcq, _, _⟩ := hq.open
      clear h hu hq
      unfold maxLen at hcap hcu hcq
      replace hlm := Lib.hid hlm
      by_cases hmn : mn < 0
      · clear hor
        go_enter Try.func42, Try.ntmps42
        go_wp2_with (first
          | (go_at_call 45; refine hc.out.mono ?_; rintro e w1 ⟨rfl, hB⟩; replace hB := Lib.hid hB)
          | (go_at_call 63; refine (hsa.out _ hB.out).mono ?_; rintro e w2 ⟨rfl, rfl⟩)
          | (go_at_call 47; refine (hmin.out _ hB.out).mono ?_; rintro e w3 ⟨rfl, rfl⟩))
        go_ret2
        exact ⟨rfl, hB.out⟩
      · have hmx : 1000000000 < mx := by omega
        clear hor
        go_enter Try.func42, Try.ntmps42
        go_wp2_with (first
          | (go_at_call 45; refine hc.out.mono ?_; rintro e w1 ⟨rfl, hB⟩; replace hB := Lib.hid hB)
          | (go_at_call 63; refine (hsa.out _ hB.out).mono ?_; rintro e w2 ⟨rfl, rfl⟩)
          | (go_at_call 47; refine (hmin.out _ hB.out).mono ?_; rintro e w3 ⟨rfl, rfl⟩)
          | (go_at_call 48; refine (hmax.out _ hB.out).mono ?_; rintro e w4 ⟨rfl, rfl⟩))
        go_ret2
        exact ⟨rfl, hB.out⟩
    · have hne : ((ps.length : Int) != (m : Int)) = true := by simp; omega
      clear hal hb hE
      obtain ⟨A, cap, rfl, _, hcap, _, _⟩ := h.open
      obtain ⟨B, cu, rfl, _, hcu, _, _⟩ := hu.open
      obtain ⟨D, cq, rfl, _, hcq, _, _⟩ := hq.open
      clear h hu hq
      unfold maxLen at hcap hcu hcq
      replace hlm := Lib.hid hlm
      go_enter Try.func42, Try.ntmps42
      go_wp2_with (first
        | (go_at_call 45; refine hc.out.mono ?_; rintro e w1 ⟨rfl, hB⟩; replace hB := Lib.hid hB)
        | (go_at_call 63; refine (hsa.out _ hB.out).mono ?_; rintro e w2 ⟨rfl, rfl⟩))
      go_ret2
      exact ⟨rfl, hB.out⟩
end Go.Proofs.Ytadonoacmpkolaa
