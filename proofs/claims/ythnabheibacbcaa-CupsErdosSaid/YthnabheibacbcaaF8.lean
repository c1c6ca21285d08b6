/- R.Hull. No condition. -/
import Derived.Test.YthnabheibacbcaaG3
import Derived.Test.YthnabheibacbcaaF2
import Derived.Deep.Cut
import Derived.Deep.CutRange
namespace Go.Proofs.Ythnabheibacbcaa
open Go.RowKit

def okUpto (t : Nat → Nat → Nat → Int) (ks : List Nat) (a x k : Nat) : Bool := decide (x ≠ a) && (ks.take k).all fun y => (y == a) || ((y == x) || decide (0 < t a x y))
theorem okUpto_step {t : Nat → Nat → Nat → Int} {ks : List Nat} {a x k : Nat} (hk : k < ks.length) : okUpto t ks a x (k + 1) = (okUpto t ks a x k && ((natAt ks k == a) || ((natAt ks k == x) || decide (0 < t a x (natAt ks k))))) := by
  unfold okUpto
  rw [List.take_succ_eq_append_getElem hk, List.all_append, natAt_eq hk, Bool.and_assoc]
  simp
theorem okUpto_all {t : Nat → Nat → Nat → Int} {ks : List Nat} {a x : Nat} (hx : x ∈ ks) : okUpto t ks a x ks.length = true ↔ nxt t ks a x := by
  unfold okUpto nxt
  rw [List.take_of_length_le (Nat.le_refl _)]
  simp only [Bool.and_eq_true, decide_eq_true_eq, List.all_eq_true, Bool.or_eq_true, beq_iff_eq]
  constructor
  · rintro ⟨h1, h2⟩
    refine ⟨hx, h1, fun y hy n1 n2 => ?_⟩
    rcases h2 y hy with h | h | h
    · exact absurd h n1
    · exact absurd h n2
    · exact h
  · rintro ⟨_, h1, h2⟩
    refine ⟨h1, fun y hy => ?_⟩
    by_cases e1 : y = a
    · exact .inl e1
    · by_cases e2 : y = x
      · exact .inr (.inl e2)
      · exact .inr (.inr (h2 y hy e1 e2))

set_option maxRecDepth 100000 in
set_option maxHeartbeats 40000000 in
theorem hullR_any (w : World) (v vx : Value) (l : List Pt) (ks H : List Nat) (h : Pts w v l) (hok : OkL l) (hgen : Gen l) (hx : Ints w vx (nats ks)) (hks : ∀ k ∈ ks, k < l.length) (h14 : ks.length ≤ 14) (hH : IsH (tur l) (befI l) ks H) (hHl : H.length ≤ 100) :
    Calls Try.prog 45 #[v, vx] w fun e w' => ∃ v', e = .returned v' ∧ OwnI w.heap.size 3 w' v' (nats H) ∧ Below w.heap.size w w' := by
  have hchi := Lib.hid (chi_of hgen)
  obtain ⟨A, N, cap, rfl, hN⟩ := h.shape
  obtain ⟨_, cap', e, hl, hcm, _, hat⟩ := h.open
  injection e with e1 e2 e3
  subst e1 e3
  unfold maxLen at hcm
  rw [← e2] at hl
  have hat := Lib.hid hat
  clear e2
  have hlen0 : 0 < ks.length := List.length_pos_of_mem hH.mem
  obtain ⟨_, bx, ox, hvx, hcx⟩ : ∃ cx bx ox, vx = .slice (some ⟨bx, ox, none⟩) ks.length cx ∧ ∀ i, i < ks.length → w.cell? ⟨bx, ox + i, none⟩ = some (.int .i64 ((natAt ks i : Nat) : Int)) := by
    obtain ⟨A1, c1, rfl, _, _, _, hat1⟩ := hx.open
    obtain ⟨b, off, rfl, _⟩ := hat1 0 (by rw [nats_length]; exact hlen0)
    refine ⟨c1, b, off, by rw [nats_length], fun i hi => ?_⟩
    obtain ⟨b', off', e, hc⟩ := hat1 i (by rw [nats_length]; exact hi)
    cases e
    rwa [at0_nats] at hc
  rename_i cx
  subst hvx
  obtain ⟨n, hn⟩ : ∃ n, ks.length = n := ⟨_, rfl⟩
  have hn0 : 0 < n := by omega
  have hn14 : n ≤ 14 := by omega
  have hksm := Lib.hid (show ∀ i, i < n → natAt ks i ∈ ks from fun i hi => by rw [natAt_eq (by omega)]; exact List.getElem_mem _)
  have hksN := Lib.hid (show ∀ i, i < n → natAt ks i < N from fun i hi => by rw [hN.out]; exact hks _ (hksm.out i hi))
  have hcx := Lib.hid (show ∀ i, i < n → w.cell? ⟨bx, ox + i, none⟩ = some (.int .i64 ((natAt ks i : Nat) : Int)) from fun i hi => hcx i (by omega))
  have hpt := Lib.hid (show ∀ p, p < N → w.cell? ⟨match A with | some a => a.block | none => 0, (match A with | some a => a.off | none => 0) + p * 2, none⟩ = some (.int .i64 (ptA l p).1) ∧ w.cell? ⟨match A with | some a => a.block | none => 0, (match A with | some a => a.off | none => 0) + p * 2 + 1, none⟩ = some (.int .i64 (ptA l p).2) from fun p hp => by
    obtain ⟨b, off, rfl, h0, h1⟩ := hat.out p (by rw [← hN.out]; exact hp)
    exact ⟨h0, h1⟩)
  obtain ⟨bp, op, rfl⟩ : ∃ bp op, A = some ⟨bp, op, none⟩ := by
    obtain ⟨b, off, rfl, _⟩ := hat.out (natAt ks 0) (hks _ (hksm.out 0 (by omega)))
    exact ⟨_, _, rfl⟩
  dsimp only at hpt
  rw [hn]
  clear hlen0 h14
  have hn := Lib.hid hn
  have hH := Lib.hid hH
  have hks := Lib.hid hks
  have hok := Lib.hid hok
  have hgen := Lib.hid hgen
  have hx0 := hcx.out 0 (by omega)
  rw [Nat.add_zero] at hx0
  obtain ⟨M, hM⟩ : ∃ M, w.heap.size = M := ⟨_, rfl⟩
  rw [hM]
  clear h hx hat
  go_enter Try.func45, Try.ntmps45
  go_wp2
  go_loopw [5, 6] (fun c5 c6 wr => ∃ (i x : Nat), i ≤ n ∧ c6 = .int .i64 (i : Int) ∧ c5 = .int .i64 (x : Int) ∧ x ∈ ks ∧ Hid (∀ j, j < i → natAt ks j = x ∨ befI l x (natAt ks j)) ∧ Hid (Below M w wr)) (fun _ c _ => n - (intOf c).toNat)
  case atStart => exact ⟨0, natAt ks 0, Nat.zero_le _, rfl, rfl, hksm.out 0 hn0, Lib.hid (fun j hj => absurd hj (Nat.not_lt_zero _)), Below.refl _ _⟩
  case round =>
    obtain ⟨i, x, hi, rfl, rfl, hxm, hlow, hB⟩ := hrel
    have hBw := (show Below w.heap.size w wr by rw [hM]; exact hB.out)
    have hzw : M ≤ wr.heap.size := by have := hB.out.size; omega
    have hxN : x < N := by rw [hN.out]; exact hks.out x hxm
    by_cases hlt : i < n
    case neg =>
      obtain rfl : n = i := by omega
      have hx0' : x = natAt H 0 := by
        rcases Decidable.em (x = natAt H 0) with e | e
        · exact e
        · exfalso
          have h1 := hH.out.low x hxm e
          obtain ⟨j, hj, he⟩ := List.getElem_of_mem hH.out.mem
          have hj' : j < n := by rw [← hn.out]; exact hj
          rcases hlow.out j hj' with h2 | h2
          · rw [natAt_eq hj, he] at h2; exact e h2.symm
          · rw [natAt_eq hj, he] at h2; exact hchi.out.asym h1 h2
      subst hx0'
      clear hlow
      have hHm := Lib.hid (show ∀ k, k < H.length → natAt H k ∈ ks from fun k hk => by
        rcases Nat.eq_zero_or_pos k with e | e
        · subst e; exact hH.out.mem
        · have := (hH.out.step (k - 1) (by omega)).1
          rwa [show k - 1 + 1 = k by omega] at this)
      have hHp := hH.out.pos
      obtain ⟨r, hr⟩ : ∃ r, H.length = r := ⟨_, rfl⟩
      rw [hr] at hHl hHp
      have hr := Lib.hid hr
      have hstart : OwnI M 3 (wr.alloc (.cells #[.int .i64 ((natAt H 0 : Nat) : Int)] 3)) (.slice (some ⟨wr.heap.size, 0, none⟩) 1 1) (nats (H.take 1)) := by
        have e : nats (H.take 1) = [((natAt H 0 : Nat) : Int)] := by
          have h0 : 0 < H.length := by rw [hr.out]; exact hHp
          rw [List.take_succ_eq_append_getElem h0, ← natAt_eq h0]; rfl
        rw [e]
        exact OwnI.mk ⟨rfl, .inr ⟨wr.heap.size, 1, #[.int .i64 ((natAt H 0 : Nat) : Int)], rfl, hzw, heap_alloc_new wr _, Nat.le_refl _, by unfold maxLen; decide, rfl, rfl⟩⟩
      have hstart := Lib.hid hstart
      have hBs := Lib.hid (hB.out.trans ((below1 wr (.cells #[.int .i64 ((natAt H 0 : Nat) : Int)] 3)).mono hzw))
      clear hBw
      generalize hfz : ((natAt H 0 : Nat) : Int) = fz at hstart hBs ⊢
      replace hfz := Lib.hid hfz
      go_wp2
      go_loopw [7] (fun c7 wr => ∃ (k : Nat) (A7 : Option Addr) (C7 : Nat), 1 ≤ k ∧ k ≤ r ∧ c7 = .slice A7 k C7 ∧ Hid (OwnI M 3 wr (.slice A7 k C7) (nats (H.take k))) ∧ Hid (Below M w wr)) (fun v _ => 200 - (match v with | .slice _ n _ => n | _ => 0))
      case atStart => exact ⟨1, _, _, Nat.le_refl _, hHp, rfl, hstart, hBs⟩
      case round =>
        clear hstart hBs hB hzw
        obtain ⟨k, A7, C7, hk1, hkr, rfl, hO, hB⟩ := hrel
        have hBw := (show Below w.heap.size w wr by rw [hM]; exact hB.out)
        have hzw : M ≤ wr.heap.size := by have := hB.out.size; omega
        have hkH : k ≤ H.length := by rw [hr.out]; exact hkr
        obtain ⟨b7, c7', e, _, _, hc71, hc72, hcell, _⟩ := OwnI.open hO.out (by rw [nats_length, List.length_take]; omega)
        injection e with e1 e2 e3
        subst e1 e3
        rw [← e2] at hc71
        clear e2
        unfold maxLen at hc72
        have hat := hcell (k - 1) (by rw [nats_length, List.length_take]; omega)
        have eat : at0 (nats (H.take k)) (k - 1) = ((natAt H (k - 1) : Nat) : Int) := by
          rw [at0_nats, natAt_eq (by rw [List.length_take]; omega), List.getElem_take, ← natAt_eq (by omega)]
        rw [eat] at hat
        clear hcell eat
        have hk1i : ((k : Int) - 1).toNat = k - 1 := by omega
        have haks := hHm.out (k - 1) (by omega)
        have haN : natAt H (k - 1) < N := by rw [hN.out]; exact hks.out _ haks
        obtain ⟨a, ha⟩ : ∃ a, natAt H (k - 1) = a := ⟨_, rfl⟩
        rw [ha] at hat haks haN
        have ha := Lib.hid ha
        obtain ⟨pa0, pa1⟩ := hpt.out a haN
        have hokA := hok.out a (by rw [← hN.out]; exact haN)
        have hnxt := Lib.hid (show (∀ x, nxt (tur l) ks a x → x = (if k < r then natAt H k else natAt H 0)) ∧ ((k < r ∨ 2 ≤ r) → nxt (tur l) ks a (if k < r then natAt H k else natAt H 0)) ∧ (k = r → r = 1 → ∀ x, ¬ nxt (tur l) ks a x) from by
          have hu : ∀ y, nxt (tur l) ks a y → ∀ x, nxt (tur l) ks a x → x = y := fun y hy x hx => nxt_unique hchi.out hx hy
          have hst : k < r → nxt (tur l) ks a (natAt H k) := fun h => by
            have := hH.out.step (k - 1) (by rw [hr.out]; omega)
            rwa [show k - 1 + 1 = k by omega, ha.out] at this
          have hlast : k = r → 2 ≤ r → nxt (tur l) ks a (natAt H 0) := fun h1 h2 => by
            rcases hH.out.last with ⟨h3, _⟩ | ⟨_, h3⟩
            · rw [hr.out] at h3; omega
            · rw [hr.out, ← h1, ha.out] at h3; exact h3
          have hone : k = r → r = 1 → ∀ x, ¬ nxt (tur l) ks a x := fun h1 h2 x hx => by
            rcases hH.out.last with ⟨_, h4⟩ | ⟨h3, _⟩
            · have e1 := h4 x hx.1
              have e2 := ha.out
              rw [h1, h2] at e2
              exact hx.2.1 (by rw [e1, ← e2])
            · rw [hr.out] at h3; omega
          refine ⟨fun x hx => ?_, fun h => ?_, hone⟩
          · by_cases h1 : k < r
            · rw [if_pos h1]; exact hu _ (hst h1) x hx
            · rw [if_neg h1]
              have h2 : k = r := by omega
              by_cases h3 : 2 ≤ r
              · exact hu _ (hlast h2 h3) x hx
              · exact absurd hx (hone h2 (by omega) x)
          · by_cases h1 : k < r
            · rw [if_pos h1]; exact hst h1
            · rw [if_neg h1]
              exact hlast (by omega) (by omega))
        go_wp2
        go_loopw [9, 10] (fun c9 c10 wr2 => ∃ (i : Nat) (nx : Int), i ≤ n ∧ c10 = .int .i64 (i : Int) ∧ c9 = .int .i64 nx ∧ ((nx = -1 ∧ ∀ j, j < i → ¬ nxt (tur l) ks a (natAt ks j)) ∨ (∃ x : Nat, nx = (x : Int) ∧ nxt (tur l) ks a x)) ∧ Hid (Below wr.heap.size wr wr2)) (fun _ c _ => n - (intOf c).toNat)
        case atStart => exact ⟨0, -1, Nat.zero_le _, rfl, rfl, .inl ⟨rfl, fun j hj => absurd hj (Nat.not_lt_zero _)⟩, Below.refl _ _⟩
        case round =>
          obtain ⟨i, nx, hi, rfl, rfl, hst, hB2⟩ := hrel
          by_cases hgo : i < n ∧ nx < 0
          case neg =>
            have hB3 := Lib.hid (hB.out.trans (hB2.out.mono hzw))
            have hO3 := Lib.hid (OwnL.below hO.out (Nat.le_refl _) hB2.out)
            have hz3 : M ≤ wr.heap.size := by have := hB3.out.size; omega
            rcases hst with ⟨rfl, hno⟩ | ⟨x, hnxe, hxn⟩
            · have hin : i = n := by
                rcases Nat.lt_or_ge i n with h | h
                · exact absurd ⟨h, by omega⟩ hgo
                · omega
              have hkr2 : k = r := by
                rcases Decidable.em (k < r ∨ 2 ≤ r) with h | h
                · exfalso
                  have h1 := hnxt.out.2.1 h
                  obtain ⟨j, hj, he⟩ := List.getElem_of_mem h1.1
                  refine hno j (by rw [hin, ← hn.out]; exact hj) ?_
                  rw [natAt_eq hj, he]
                  exact h1
                · omega
              have hfin := Lib.hid (show OwnI M 3 wr _ (nats H) by have := hO3.out; rwa [List.take_of_length_le (by rw [hr.out, hkr2]; exact Nat.le_refl _)] at this)
              subst hin
              clear hno hgo
              go_wp2
              go_ret
              exact ⟨_, rfl, hfin.out, hB3.out⟩
            · have hxe := hnxt.out.1 x hxn
              have hnx0 : ¬ nx < 0 := by omega
              have hnx1 : decide (nx < 0) = false := by simp; omega
              have hx0 : ¬ (x : Int) < 0 := by omega
              have hxd : decide ((x : Int) < 0) = false := by simp
              have hfst : (if k < r then natAt H k else natAt H 0) = x := hxe.symm
              by_cases hkr3 : k < r
              · rw [if_pos hkr3] at hfst
                have hne : x ≠ natAt H 0 := by rw [← hfst]; exact hH.out.nd k (by omega) (by rw [hr.out]; exact hkr3)
                have hneb : (nx == fz) = false := by have := hfz.out; simp; omega
                have hnew := Lib.hid (show nats (H.take (k + 1)) = nats (H.take k) ++ [nx] by
                  have h0 : k < H.length := by rw [hr.out]; exact hkr3
                  rw [List.take_succ_eq_append_getElem h0, ← natAt_eq h0, hfst, nats_append, hnxe]; rfl)
                replace hnxe := Lib.hid hnxe
                have hgi : ¬ (i : Int) < (n : Int) ∨ (i : Int) < (n : Int) := by omega
                rcases hgi with hgi | hgi
                all_goals
                  go_wp2_with (at_builtin; refine wpList_append_int rfl (.tmp 123) (.tmp 125) 33 rfl M 3 Try.underlying33 info3 _ _ rfl rfl hO3.out rfl rfl (by rw [nats_length, List.length_take]; omega) hz3 ?_; intro v' w4 ho4 hB4 hg4; obtain ⟨N4, C4', hv4, -⟩ := OwnL.open ho4 (by simp); rw [show (nats (H.take k) ++ [nx]).length = k + 1 by rw [List.length_append, nats_length, List.length_take, show min k H.length = k by omega]; rfl] at hv4; subst hv4; replace ho4 := Lib.hid ho4; replace hB4 := Lib.hid hB4)
                  go_roundw
                  case rel => exact ⟨k + 1, _, _, by omega, by omega, rfl, Lib.hid (by rw [hnew.out]; exact ho4.out), Lib.hid (hB3.out.trans hB4.out)⟩
                  case measure => simp; omega
              · rw [if_neg hkr3] at hfst
                have hkr2 : k = r := by omega
                have hfin := Lib.hid (show OwnI M 3 wr _ (nats H) by have := hO3.out; rwa [List.take_of_length_le (by rw [hr.out, hkr2]; exact Nat.le_refl _)] at this)
                rw [← hfst, hfz.out] at hnxe
                subst hnxe
                replace hkr2 := Lib.hid hkr2
                have hgi : ¬ (i : Int) < (n : Int) ∨ (i : Int) < (n : Int) := by omega
                rcases hgi with hgi | hgi
                all_goals
                  go_wp2
                  go_ret
                  exact ⟨_, rfl, hfin.out, hB3.out⟩
          have hi2 : i < n := hgo.1
          rcases hst with ⟨rfl, hno⟩ | ⟨x, rfl, hxn⟩
          case inr => exact absurd hgo.2 (by omega)
          have hBw2 := (show Below w.heap.size w wr by rw [hM]; exact hB.out.trans (hB2.out.mono hzw))
          have hci := hcx.out i hi2
          have hiN := hksN.out i hi2
          have hci := cell_below hci hBw2
          obtain ⟨px0, px1⟩ := hpt.out (natAt ks i) hiN
          have hokX := hok.out (natAt ks i) (by rw [← hN.out]; exact hiN)
          have hxks := hksm.out i hi2
          have hallx := Lib.hid (okUpto_all (t := tur l) (a := a) hxks)
          obtain ⟨x, hxv⟩ : ∃ x, natAt ks i = x := ⟨_, rfl⟩
          rw [hxv] at hci hiN px0 px1 hokX hxks hallx
          have hxv := Lib.hid hxv
          have hstartb : ∃ b0, okUpto (tur l) ks a x 0 = b0 ∧ b0 = decide (x ≠ a) := ⟨_, by unfold okUpto; simp, rfl⟩
          have hok0 := Lib.hid (show okUpto (tur l) ks a x 0 = decide (x ≠ a) by unfold okUpto; simp)
          clear hstartb
          have hgo2 := hgo.2
          have hgo3 := hgo2
          have hgo4 := hgo3
          go_wp2
          obtain ⟨wo, hwo⟩ : ∃ wo, wo = wr := ⟨_, rfl⟩
          rw [← hwo] at hBw2 hci
          go_loopw [11, 12] (fun c11 c12 wr => ∃ (kk : Nat) (b : Bool), kk ≤ n ∧ c12 = .int .i64 (kk : Int) ∧ c11 = .bool b ∧ Hid (okUpto (tur l) ks a x kk = b) ∧ Hid (Below wo.heap.size wo wr)) (fun _ c _ => n - (intOf c).toNat)
          case atStart => exact ⟨0, _, Nat.zero_le _, rfl, rfl, Lib.hid (by rw [hok0.out]; rcases Decidable.em (x = a) with hxa | hxa <;> simp [hxa] <;> omega), by rw [hwo]; exact Below.refl _ _⟩
          case round =>
            obtain ⟨kk, ob, hkk, rfl, rfl, hokk, hB4⟩ := hrel
            have hz4 : wo.heap.size ≤ wr.heap.size := hB4.out.size
            by_cases hlt4 : kk < n
            case neg =>
              obtain rfl : n = kk := by omega
              have hfull := Lib.hid (show okUpto (tur l) ks a x ks.length = ob by rw [hn.out]; exact hokk.out)
              cases ob with
              | true =>
                have hnx := Lib.hid (hallx.out.1 hfull.out)
                have hci := cell_below hci (show Below wo.heap.size wo wr from hB4.out)
                go_wp2
                go_roundw
                case rel => exact ⟨i + 1, (x : Int), by omega, by go_num, rfl, .inr ⟨x, rfl, hnx.out⟩, Lib.hid (by have h1 := hB2.out; rw [← hwo] at h1; exact h1.trans (hB4.out.mono h1.size))⟩
                case measure => simp [intOf]; omega
              | false =>
                have hnn := Lib.hid (show ∀ j, j < i + 1 → ¬ nxt (tur l) ks a (natAt ks j) from fun j hj => by
                  rcases Nat.lt_or_ge j i with h | h
                  · exact hno j h
                  · rw [show j = i by omega, hxv.out]
                    intro h2
                    have := hallx.out.2 h2
                    rw [hfull.out] at this
                    cases this)
                go_wp2
                go_roundw
                case rel => exact ⟨i + 1, -1, by omega, by go_num, rfl, .inl ⟨rfl, hnn.out⟩, Lib.hid (by have h1 := hB2.out; rw [← hwo] at h1; exact h1.trans (hB4.out.mono h1.size))⟩
                case measure => simp [intOf]; omega
            have hst4 : okUpto (tur l) ks a x (kk + 1) = (ob && ((natAt ks kk == a) || ((natAt ks kk == x) || decide (0 < trn (ptA l a) (ptA l x) (ptA l (natAt ks kk)))))) := by
              have := okUpto_step (t := tur l) (ks := ks) (a := a) (x := x) (k := kk) (by rw [hn.out]; exact hlt4)
              rw [hokk.out] at this
              exact this
            have hBw4 := (show Below w.heap.size w wr from bthen hBw2 hB4.out)
            have hyN := hksN.out kk hlt4
            have hyc := hcx.out kk hlt4
            obtain ⟨py0, py1⟩ := hpt.out (natAt ks kk) hyN
            have hokY := hok.out (natAt ks kk) (by rw [← hN.out]; exact hyN)
            generalize natAt ks kk = y at *
            have u0 := fun g : Gr wr => g.cell (cell_below hyc hBw4)
            have u1 := fun g : Gr wr => g.cell (cell_below hci hB4.out)
            have u2 := fun g : Gr wr => g.cell (cell_below pa0 hBw4)
            have u3 := fun g : Gr wr => g.cell (cell_below pa1 hBw4)
            have u4' := fun g : Gr wr => g.cell (cell_below px0 hBw4)
            have u5' := fun g : Gr wr => g.cell (cell_below px1 hBw4)
            have u6' := fun g : Gr wr => g.cell (cell_below py0 hBw4)
            have u7' := fun g : Gr wr => g.cell (cell_below py1 hBw4)
            have hTu := Lib.hid (fun g : Gr wr => grow_of (g := g) (turnR_any g.w1 (ptA l a) (ptA l x) (ptA l y) hokA hokX hokY))
            clear hBw4 hBw2
            generalize ptA l a = qa at *
            generalize ptA l x = qx at *
            generalize ptA l y = qy at *
            generalize trn qa qx qy = T at *
            obtain ⟨qa1, qa2⟩ := qa
            obtain ⟨qx1, qx2⟩ := qx
            obtain ⟨qy1, qy2⟩ := qy
            cases ob with
            | false =>
              replace hst4 := Lib.hid hst4
              go_wp2
              refine wp_region_grow (by kernel_rfl) (by kernel_rfl) ?_
              repeat (go_big_quiet_step ((go_at_call 15; exact hTu.out _)))
              refine wpQuiet_nil ?_
              rintro _ ⟨g, rfl⟩
              go_wp2
              go_roundw
              case rel => exact ⟨kk + 1, false, by omega, by go_num, rfl, Lib.hid (by rw [hst4.out]; rfl), Lib.hid (hB4.out.trans (g.h.mono hz4))⟩
              case measure => simp [intOf]; omega
            | true =>
              by_cases hya : y = a
              · have hyb : ((y : Int) == (a : Int)) = true := by simp [hya]
                rw [show (y == a) = true by simp [hya]] at hst4
                replace hst4 := Lib.hid hst4
                go_wp2
                refine wp_region_grow (by kernel_rfl) (by kernel_rfl) ?_
                repeat (go_big_quiet_step ((go_at_call 15; exact hTu.out _)))
                refine wpQuiet_nil ?_
                rintro _ ⟨g, rfl⟩
                go_wp2
                go_roundw
                case rel => exact ⟨kk + 1, true, by omega, by go_num, rfl, Lib.hid (by rw [hst4.out]; rfl), Lib.hid (hB4.out.trans (g.h.mono hz4))⟩
                case measure => simp [intOf]; omega
              · have hyb : ((y : Int) == (a : Int)) = false := by simp; omega
                rw [show (y == a) = false by simp [hya], Bool.false_or] at hst4
                by_cases hyx : y = x
                · rw [show (y == x) = true by simp [hyx]] at hst4
                  replace hst4 := Lib.hid hst4
                  clear u2 u3 u4' u5' u6' u7'
                  subst hyx
                  go_wp2
                  refine wp_region_grow (by kernel_rfl) (by kernel_rfl) ?_
                  repeat (go_big_quiet_step ((go_at_call 15; exact hTu.out _)))
                  refine wpQuiet_nil ?_
                  rintro _ ⟨g, rfl⟩
                  go_wp2
                  go_roundw
                  case rel => exact ⟨kk + 1, true, by omega, by go_num, rfl, Lib.hid (by rw [hst4.out]; rfl), Lib.hid (hB4.out.trans (g.h.mono hz4))⟩
                  case measure => simp [intOf]; omega
                · have hyxb : ((y : Int) == (x : Int)) = false := by simp; omega
                  rw [show (y == x) = false by simp [hyx], Bool.false_or, Bool.true_and] at hst4
                  by_cases hT : 0 < T
                  · have hTd : decide (0 < T) = true := by simp [hT]
                    rw [hTd] at hst4
                    replace hst4 := Lib.hid hst4
                    go_wp2
                    refine wp_region_grow (by kernel_rfl) (by kernel_rfl) ?_
                    repeat (go_big_quiet_step ((go_at_call 15; exact hTu.out _)))
                    refine wpQuiet_nil ?_
                    rintro _ ⟨g, rfl⟩
                    go_wp2
                    go_roundw
                    case rel => exact ⟨kk + 1, true, by omega, by go_num, rfl, Lib.hid (by rw [hst4.out]), Lib.hid (hB4.out.trans (g.h.mono hz4))⟩
                    case measure => simp [intOf]; omega
                  · have hTd : decide (0 < T) = false := by simp [hT]
                    rw [hTd] at hst4
                    replace hst4 := Lib.hid hst4
                    go_wp2
                    refine wp_region_grow (by kernel_rfl) (by kernel_rfl) ?_
                    repeat (go_big_quiet_step ((go_at_call 15; exact hTu.out _)))
                    refine wpQuiet_nil ?_
                    rintro _ ⟨g, rfl⟩
                    go_wp2
                    go_roundw
                    case rel => exact ⟨kk + 1, false, by omega, by go_num, rfl, Lib.hid (by rw [hst4.out]), Lib.hid (hB4.out.trans (g.h.mono hz4))⟩
                    case measure => simp [intOf]; omega
    have hc0 := hcx.out i hlt
    have hiN := hksN.out i hlt
    obtain ⟨pa0, pa1⟩ := hpt.out (natAt ks i) hiN
    obtain ⟨pb0, pb1⟩ := hpt.out x hxN
    have t0 := fun g : Gr wr => g.cell (cell_below hc0 hBw)
    have t1 := fun g : Gr wr => g.cell (cell_below pa0 hBw)
    have t2 := fun g : Gr wr => g.cell (cell_below pa1 hBw)
    have t3 := fun g : Gr wr => g.cell (cell_below pb0 hBw)
    have t4 := fun g : Gr wr => g.cell (cell_below pb1 hBw)
    have hnew := Lib.hid (show befB (ptA l (natAt ks i)) (ptA l x) = true → ∀ j, j < i + 1 → natAt ks j = natAt ks i ∨ befI l (natAt ks i) (natAt ks j) from fun hb j hj => by
      have hb' : befI l (natAt ks i) x := by unfold befB at hb; show bef _ _; exact of_decide_eq_true hb
      rcases Nat.lt_or_ge j i with h1 | h1
      · rcases hlow.out j h1 with h2 | h2
        · rw [h2]; exact .inr hb'
        · exact .inr (hchi.out.trans hb' h2)
      · rw [show j = i by omega]; exact .inl rfl)
    have hold := Lib.hid (show befB (ptA l (natAt ks i)) (ptA l x) = false → ∀ j, j < i + 1 → natAt ks j = x ∨ befI l x (natAt ks j) from fun hb j hj => by
      have hb' : ¬ befI l (natAt ks i) x := by unfold befB at hb; show ¬ bef _ _; exact of_decide_eq_false hb
      rcases Nat.lt_or_ge j i with h1 | h1
      · exact hlow.out j h1
      · rw [show j = i by omega]
        rcases Decidable.em (natAt ks i = x) with e | e
        · exact .inl e
        · rcases hchi.out.total (a := natAt ks i) (b := x) (by rw [← hN.out]; exact hiN) (by rw [← hN.out]; exact hxN) e with h2 | h2
          · exact absurd h2 hb'
          · exact .inr h2)
    have hkim := hksm.out i hlt
    generalize natAt ks i = a at *
    generalize ptA l a = pa at *
    generalize ptA l x = pb at *
    obtain ⟨pa1', pa2'⟩ := pa
    obtain ⟨pb1', pb2'⟩ := pb
    have hBf := Lib.hid (fun g : Gr wr => grow_of (g := g) (before_any g.w1 (pa1', pa2') (pb1', pb2')))
    obtain ⟨bb, hbb⟩ : ∃ bb, befB (pa1', pa2') (pb1', pb2') = bb := ⟨_, rfl⟩
    rw [hbb] at hnew hold hBf
    clear hbb hBw
    cases bb with
    | true =>
      have hn' := Lib.hid (hnew.out rfl)
      clear hnew hold
      go_wp2
      refine wp_region_grow (by kernel_rfl) (by kernel_rfl) ?_
      repeat (go_big_quiet_step ((go_at_call 57; exact hBf.out _)))
      refine wpQuiet_nil ?_
      rintro _ ⟨g, rfl⟩
      have t0' := t0 g
      go_wp2
      go_roundw
      case rel => exact ⟨i + 1, a, by omega, by go_num, rfl, hkim, hn', Lib.hid (hB.out.trans (g.h.mono hzw))⟩
      case measure => simp [intOf]; omega
    | false =>
      have hn' := Lib.hid (hold.out rfl)
      clear hnew hold
      go_wp2
      refine wp_region_grow (by kernel_rfl) (by kernel_rfl) ?_
      repeat (go_big_quiet_step ((go_at_call 57; exact hBf.out _)))
      refine wpQuiet_nil ?_
      rintro _ ⟨g, rfl⟩
      go_wp2
      go_roundw
      case rel => exact ⟨i + 1, x, by omega, by go_num, rfl, hxm, hn', Lib.hid (hB.out.trans (g.h.mono hzw))⟩
      case measure => simp [intOf]; omega
end Go.Proofs.Ythnabheibacbcaa
