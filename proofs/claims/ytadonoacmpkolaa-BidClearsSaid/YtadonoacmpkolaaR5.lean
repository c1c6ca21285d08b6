/- The reference: Payments. -/
import Derived.Test.YtadonoacmpkolaaR4
namespace Go.Proofs.Ytadonoacmpkolaa
open Go.RowKit
attribute [local go_sem high] walk_shl walk_shr walk_bit walk_rem walk_and walk_or walk_andNot

theorem selR_one (who : Nat) : ∀ (bs : List (List Int)) (k j : Nat), j < bs.length → (∀ i, i < bs.length → bitOf who (k + i) = if i = j then 0 else 1) → selR who k bs = bs.eraseIdx j
  | [], _, _, h, _ => absurd h (by simp)
  | b :: bs, k, 0, _, hb => by
    have h0 := hb 0 (by simp)
    rw [if_pos rfl, Nat.add_zero] at h0
    rw [selR, if_neg (by omega), List.eraseIdx_cons_zero]
    -- all the others
    have : ∀ (cs : List (List Int)) (q : Nat), (∀ i, i < cs.length → bitOf who (q + i) = 1) → selR who q cs = cs := by
      intro cs
      induction cs with
      | nil => intro q _; rfl
      | cons c cs ih =>
        intro q h
        have h1 := h 0 (by simp)
        rw [Nat.add_zero] at h1
        rw [selR, if_pos h1, ih (q + 1) fun i hi => by have := h (i + 1) (by simp; omega); rwa [← Nat.add_assoc, Nat.add_right_comm] at this]
    refine this bs (k + 1) fun i hi => ?_
    have := hb (i + 1) (by simp; omega)
    rw [if_neg (by omega)] at this
    rwa [← Nat.add_assoc, Nat.add_right_comm] at this
  | b :: bs, k, j + 1, h, hb => by
    have h0 := hb 0 (by simp)
    rw [if_neg (by omega), Nat.add_zero] at h0
    rw [selR, if_pos h0, List.eraseIdx_cons_succ, selR_one who bs (k + 1) j (by simpa using h) fun i hi => by
      have := hb (i + 1) (by simp; omega)
      rw [← Nat.add_assoc, Nat.add_right_comm] at this
      rw [this]
      by_cases e : i = j
      · rw [if_pos e, if_pos (by omega)]
      · rw [if_neg e, if_neg (by omega)]]
theorem tblAt_one (xs : List (List Int)) (i : Nat) (hi : i < xs.length) (S : Nat) : tblAt (andN (p2 xs.length - 1) (p2 i)) xs 0 S = wts (xs.eraseIdx i) S := by
  unfold tblAt
  rw [List.drop_zero, selR_one _ xs 0 i hi fun j hj => ?_]
  rw [Nat.zero_add, testBit_bitOf, testBit_andN, testBit_p2]
  have := bitOf_all hj
  rw [testBit_bitOf] at this
  by_cases e : j = i
  · subst e; simp
  · rw [if_neg e]
    split at this
    · rename_i h; rw [h]; simp; omega
    · omega

/-- the sum of the first k but one -/
def subUpto (os : List Int) (i : Nat) : Nat → Int
  | 0 => 0
  | k + 1 => if k = i then subUpto os i k else subUpto os i k + at0 os k
theorem subUpto_eq (os : List Int) (i : Nat) : ∀ k, subUpto os i k = sumUpto os k - (if i < k then at0 os i else 0)
  | 0 => by simp [subUpto, sumUpto]
  | k + 1 => by
    rw [subUpto, sumUpto, subUpto_eq os i k]
    by_cases e : k = i
    · subst e; rw [if_pos rfl, if_neg (by omega), if_pos (by omega)]; omega
    · rw [if_neg e]
      by_cases h : i < k
      · rw [if_pos h, if_pos (by omega)]; omega
      · rw [if_neg h, if_neg (by omega)]; omega
theorem subUpto_bd (os : List Int) (i : Nat) (h : ∀ i, 0 ≤ at0 os i ∧ at0 os i ≤ 1000000) : ∀ k : Nat, 0 ≤ subUpto os i k ∧ subUpto os i k ≤ 1000000 * k
  | 0 => by simp [subUpto]
  | k + 1 => by
    have ih := subUpto_bd os i h k
    have := h k
    rw [subUpto]
    split <;> (constructor <;> (push_cast; omega))
theorem at0_owns (m : Nat) (xs : List (List Int)) (k : Nat) (hk : k < xs.length) : at0 (ownsOf m xs) k = at0 (rowAt xs k) (natAt (alloc xs (p2 m - 1)) k) := by
  unfold ownsOf offersOf
  rw [at0_tab, if_pos (by rw [alloc_length]; exact hk)]

set_option maxRecDepth 100000 in
set_option maxHeartbeats 2000000 in
theorem rpayments_any (w : World) (v : Value) (xs : List (List Int)) (m : Nat) (h : Rows2 w v xs) (hE : Bids m xs) :
    Calls Try.prog 31 #[.int .i64 (m : Int), v] w fun e w' => ∃ v', e = .returned v' ∧ OwnI w.heap.size 2 w' v' (paysOf m xs) ∧ Below w.heap.size w w' := by
  have hbest := Lib.hid (rbest_any w v xs m h hE)
  have hev := Lib.hid (fun W (hB : Below w.heap.size w W) => everyone_any W v xs (Rows2.below h (Nat.le_refl _) hB) hE.l6)
  have hl6 := hE.l6
  have hwo := Lib.hid (fun W (hB : Below w.heap.size w W) (i : Nat) (hi : i < xs.length) => worth_any W v xs m (andN (p2 xs.length - 1) (p2 i)) (Rows2.below h (Nat.le_refl _) hB) hE (Nat.le_trans (andN_le _ _) (p2_all_le hE.l6)))
  have htb := Lib.hid (fun i (hi : i < xs.length) => tblAt_one xs i hi (p2 m - 1))
  have hrl : Hid (∀ k, k < xs.length → (rowAt xs k).length = p2 m) := fun k hk => (hE.row k hk).1
  have hwb : Hid (∀ k, k < xs.length → 0 ≤ wts (xs.eraseIdx k) (p2 m - 1) ∧ wts (xs.eraseIdx k) (p2 m - 1) ≤ 6000000) := fun k hk => by
    have := wts_bounds (xs.eraseIdx k) (fun b hb s => (hE.ok b (List.mem_of_mem_eraseIdx hb)).2 s) (p2 m - 1)
    refine ⟨this.1, Int.le_trans this.2 ?_⟩
    rw [List.length_eraseIdx_of_lt hk]
    omega
  have hown := Lib.hid (at0_owns m xs)
  have hob := Lib.hid (subUpto_bd (ownsOf m xs) · (ownsOf_bd hE))
  have hobd := Lib.hid (ownsOf_bd hE)
  have hsub := Lib.hid (subUpto_eq (ownsOf m xs))
  have hal := Lib.hid (fun i => alloc_le xs (p2 m - 1) i)
  have hall := alloc_length xs (p2 m - 1)
  have hpay : Hid (∀ i, payAt m xs i = wts (xs.eraseIdx i) (p2 m - 1) - (sumUpto (ownsOf m xs) xs.length - at0 (ownsOf m xs) i)) := fun i => rfl
  have hpp := p2_pos m
  have h64 := p2_le64 hE.m6
  have hp2l := p2_le64 hE.l6
  obtain ⟨A, cap, rfl, hl, hcap, hn, hat⟩ := h.open
  replace hat := Lib.hid hat
  clear hn h hE
  unfold maxLen at hcap
  unfold paysOf
  generalize payAt m xs = pf at *
  generalize ownsOf m xs = os at *
  generalize alloc xs (p2 m - 1) = ls at *
  obtain ⟨E, hE⟩ : ∃ E, E = p2 xs.length - 1 := ⟨_, rfl⟩
  rw [← hE] at hev hwo htb
  have hEs : small E := small_of (by omega)
  clear hE hp2l
  go_enter Try.func31, Try.ntmps31
  go_wp2_with (go_at_call 30; refine hbest.out.mono ?_; rintro e w1 ⟨v1, rfl, hol, hB1⟩; obtain ⟨A1, n1, c1, rfl, hn1⟩ := OwnL.shape hol; replace hol := Lib.hid hol; replace hB1 := Lib.hid hB1)
  clear hbest
  obtain ⟨A1', c1', e1, hl1, hcap1, _, hat1⟩ := (OwnI.ints hol.out).open
  rw [casts_length, hall] at e1 hl1 hat1
  cases e1
  replace hat1 := Lib.hid hat1
  unfold maxLen at hcap1
  clear hn1 hol
  replace hall := Lib.hid hall
  go_loopw [6, 7] (fun o i wr => ∃ k : Nat, k ≤ xs.length ∧ i = .int .i64 k ∧ Hid (OwnI w1.heap.size 2 wr o (tab k pf)) ∧ Hid (Below w1.heap.size w1 wr)) (fun _ i _ => xs.length - (intOf i).toNat)
  case atStart => exact ⟨0, Nat.zero_le _, rfl, own_nil _ _ _, Below.refl _ _⟩
  case round =>
    obtain ⟨k, hk, rfl, ho, hB⟩ := hrel
    by_cases hlt : k < xs.length
    · obtain ⟨A9, n9, c9, rfl, hn9⟩ := OwnL.shape ho.out
      have hks : smallS k := smallS_of (by omega)
      have hkp : small (p2 k) := small_of (by have := p2_le (m := k) (k := 6) (by omega); unfold p2 at *; omega)
      have hBB : Hid (Below w.heap.size w wr.drew) := below_drewN (bthen hB1.out hB.out) 1
      have hev1 := Lib.hid (hev.out _ hBB.out)
      have hwo1 := hwo.out _ hBB.out k hlt
      rw [htb.out k hlt] at hwo1
      replace hwo1 := Lib.hid hwo1
      have hwbk := hwb.out k hlt
      have hpk := hpay.out k
      generalize wts (xs.eraseIdx k) (p2 m - 1) = W0 at *
      replace hpk := Lib.hid hpk
      go_wp2_with fail
      go_region_with (first
        | (go_at_call 28; refine hev1.out.mono ?_; rintro e w3 ⟨rfl, rfl⟩)
        | (go_at_call 27; refine hwo1.out.mono ?_; rintro e w4 ⟨rfl, hB4⟩; replace hB4 := Lib.hid ((below_drewN (Below.refl wr.heap.size wr) 1).trans hB4)))
      go_wp2
      have hBw4 : Hid (Below w1.heap.size w1 w4) := bthen hB.out hB4.out
      have hBww4 : Hid (Below w.heap.size w w4) := bthen hB1.out hBw4.out
      have ho4 := Lib.hid (OwnL.below ho.out (Nat.le_refl _) hB4.out)
      clear hev1 hwo1 hBB hev hwo htb ho hB4 hB
      go_loopw [8, 9] (fun p i W => ∃ j : Nat, j ≤ xs.length ∧ i = .int .i64 (j : Int) ∧ p = .int .i64 (W0 - subUpto os k j) ∧ ∃ d, W = w4.drewN d) (fun _ i _ => xs.length - (intOf i).toNat)
      case atStart => exact ⟨0, Nat.zero_le _, rfl, by show _ = Value.int .i64 (W0 - 0); rw [Int.sub_zero], 0, rfl⟩
      case round =>
        obtain ⟨j, hj, rfl, rfl, d, rfl⟩ := hrel
        by_cases hjl : j < xs.length
        · have hsj : Hid (subUpto os k (j + 1) = if j = k then subUpto os k j else subUpto os k j + at0 os j) := rfl
          by_cases hjk : j = k
          · subst hjk
            rw [if_pos rfl] at hsj
            have hne : ((j : Int) != (j : Int)) = false := by simp
            go_wp2
            go_roundw
            case rel => exact ⟨j + 1, by omega, by go_num, by rw [hsj.out], d, rfl⟩
            case measure => simp [intOf]; try omega
          · rw [if_neg hjk] at hsj
            have hne : ((j : Int) != (k : Int)) = true := by simp; omega
            obtain ⟨b1, o1, A2, cap2, rfl, hc1, hi1⟩ := hat.out j hjl
            have hrj := hrl.out j hjl
            have hnj := hal.out j
            obtain ⟨A3, cap3, e3, hl3, hcap3, _, hat3⟩ := hi1.open
            cases e3
            obtain ⟨b4, o4, rfl, hc4⟩ := hat3 (natAt ls j) (by omega)
            obtain ⟨b5, o5, rfl, hc5⟩ := hat1.out j hjl
            rw [at0_casts] at hc5
            rw [← hown.out j hjl] at hc4
            clear hat3 hi1
            unfold maxLen at hcap3
            rw [hrj] at hc1 hl3
            replace hc1 : w4.cell? ⟨b1, o1 + j, none⟩ = some (.slice (some ⟨b4, o4, none⟩) (p2 m) cap2) := by rw [hBww4.out.cell (p := ⟨b1, o1 + j, none⟩) (lt_of_cell hc1)]; exact hc1
            replace hc4 : w4.cell? ⟨b4, o4 + natAt ls j, none⟩ = some (.int .i64 (at0 os j)) := by rw [hBww4.out.cell (p := ⟨b4, o4 + natAt ls j, none⟩) (lt_of_cell hc4)]; exact hc4
            replace hc5 : w4.cell? ⟨b5, o5 + j, none⟩ = some (.int .i64 ((natAt ls j : Nat) : Int)) := by rw [hBw4.out.cell (p := ⟨b5, o5 + j, none⟩) (lt_of_cell hc5)]; exact hc5
            have hsb := hob.out k j
            have hoj := hobd.out j
            have hnl : natAt ls j < p2 m := by omega
            generalize natAt ls j = nj at *
            generalize at0 os j = oj at *
            generalize subUpto os k j = sj at *
            have hwr : IntKind.i64.wrap (W0 - sj - oj) = W0 - sj - oj := IntWalk.i64_in _ (by omega)
            clear hsb hoj hnj
            go_wp2_with fail
            go_quiet (fail)
            go_wp2
            go_roundw
            case rel => exact ⟨j + 1, by omega, by go_num, by rw [hsj.out]; congr 1; omega, _, rfl⟩
            case measure => simp [intOf]; try omega
        · obtain rfl : j = xs.length := by omega
          have hfin : Hid (W0 - subUpto os k xs.length = pf k) := by
            show _ = _
            rw [hpk.out, hsub.out, if_pos hlt]
          rw [hfin.out]
          have hn9' := hn9.out
          rw [tab_length] at hn9'
          subst hn9'
          go_wp2_with (at_builtin; refine wpList_append_int rfl (.tmp 48) (.tmp 50) 27 rfl w1.heap.size 2 Try.underlying27 info2 _ _ rfl rfl (OwnL.drewN ho4.out _) rfl rfl (by rw [tab_length]; omega) hBw4.out.size ?_; intro v' w' h3 h4 _; replace h3 := Lib.hid h3; replace h4 := Lib.hid h4)
          go_roundw
          case rel => exact ⟨n9 + 1, by omega, by go_num, by rw [tab_succ]; exact h3.out, (below_drewN hBw4.out _).trans h4.out⟩
          case measure => simp [intOf]; try omega
    · obtain rfl : k = xs.length := by omega
      go_wp2
      go_ret
      exact ⟨_, rfl, ho.out.lo_le hB1.out.size, bthen hB1.out hB.out⟩
end Go.Proofs.Ytadonoacmpkolaa
