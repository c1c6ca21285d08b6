/- The reference: Prices. -/
import Derived.Test.YtadonoacmpkolaaR7
import Derived.Test.YtadonoacmpkolaaR4
import Derived.Test.YtadonoacmpkolaaL7
namespace Go.Proofs.Ytadonoacmpkolaa
open Go.RowKit
attribute [local go_sem high] walk_shl walk_shr walk_bit walk_rem walk_and walk_or walk_andNot

theorem cost_set (ps : List Int) (s k : Nat) (x : Int) (hk : k < ps.length) (hb : ¬ bitOf s k = 1) : ∀ n, costUpto (ps.set k x) s n = costUpto ps s n
  | 0 => rfl
  | n + 1 => by
    rw [costUpto, costUpto, cost_set ps s k x hk hb n]
    by_cases e : n = k
    · subst e; rw [if_neg hb, if_neg hb]
    · rw [at0_set _ _ _ _ hk, if_neg e]
theorem gain_set {xs : List (List Int)} {ls : List Nat} {ps : List Int} {i k : Nat} (x : Int) (hk : k < ps.length) (hb : ¬ bitOf (natAt ls i) k = 1) : gainOf xs ls (ps.set k x) i = gainOf xs ls ps i := by
  unfold gainOf costOf
  rw [List.length_set, cost_set ps _ k x hk hb]
def muL (q ps : List Int) (m : Nat) : Nat := sumN (fun j => (at0 q j - at0 ps j).toNat) m
/-- the measure: prices may still rise, and the last round raised one -/
def muA (q : List Int) (G m : Nat) (a : Value) (W : World) : Nat := match a with | .bool true => muP q G m W + 1 | _ => 0
theorem low_eq {m : Nat} {xs : List (List Int)} {ls : List Nat} {a b : List Int} (h1 : Clr m xs ls a) (h2 : Low m xs ls a) (h3 : Clr m xs ls b) (h4 : Low m xs ls b) : a = b := by
  refine List.ext_getElem (by rw [h1.1, h3.1]) fun i u v => ?_
  rw [← at0_eq u, ← at0_eq v]
  have := h2.2.2 b h3 i
  have := h4.2.2 a h1 i
  omega

set_option maxRecDepth 100000 in
set_option maxHeartbeats 1500000 in
theorem rprices_any (w : World) (v : Value) (xs : List (List Int)) (m : Nat) (h : Rows2 w v xs) (hE : Bids m xs) (q0 : List Int) (hq0 : Clr m xs (alloc xs (p2 m - 1)) q0) :
    Calls Try.prog 33 #[.int .i64 (m : Int), v] w fun e w' => ∃ v' ps, e = .returned v' ∧ OwnI w.heap.size 2 w' v' ps ∧ Clr m xs (alloc xs (p2 m - 1)) ps ∧ Low m xs (alloc xs (p2 m - 1)) ps ∧ Below w.heap.size w w' := by
  have hbe := Lib.hid (rbest_any w v xs m h hE)
  have hm1 := hE.m1
  have hm6 := hE.m6
  have hl6 := hE.l6
  have hsm : smallS m := smallS_of (by omega)
  have h64 := p2_le64 hm6
  have hrow : Hid (∀ i, i < xs.length → (rowAt xs i).length = p2 m ∧ ∀ s, 0 ≤ at0 (rowAt xs i) s ∧ at0 (rowAt xs i) s ≤ 1000000) := fun i hi => hE.row i hi
  have hnl : Hid (∀ i, natAt (alloc xs (p2 m - 1)) i < p2 m) := fun i => natAt_lt' xs i
  have hal : (alloc xs (p2 m - 1)).length = xs.length := alloc_length _ _
  generalize alloc xs (p2 m - 1) = ls at *
  obtain ⟨A, cap, rfl, _, hcap, _, hat⟩ := h.open
  replace hat := Lib.hid hat
  clear h hE
  unfold maxLen at hcap
  replace hq0 := Lib.hid hq0
  go_enter Try.func33, Try.ntmps33
  go_wp2_with (first
    | (go_at_call 30; refine hbe.out.mono ?_; rintro e w1 ⟨v1, rfl, ho1, hB1⟩; obtain ⟨A1, c1, rfl, _, hcm1, _, hat1⟩ := (OwnI.ints ho1).open; rw [casts_length, hal] at hat1 ⊢; unfold maxLen at hcm1; replace hat1 := Lib.hid hat1; replace hB1 := Lib.hid hB1; clear ho1)
    | (at_make; refine wpList_make_ints rfl _ _ 27 rfl w1.heap.size 2 Try.underlying27 info2 m rfl rfl (by omega) (Nat.le_refl _) _ rfl ?_; intro w2 hT hg hsz; replace hT := Lib.hid hT; replace hg := Lib.hid hg))
  obtain ⟨G, hG⟩ : ∃ G, G = w1.heap.size := ⟨_, rfl⟩
  rw [← hG] at hT hg hsz ⊢
  have hcells : Hid (∀ i, i < xs.length → ∃ b1 o1 b4 o4 cap1 b5 o5, A = some ⟨b1, o1, none⟩ ∧ A1 = some ⟨b5, o5, none⟩ ∧ cap1 ≤ 2 ^ 63 - 1 ∧ p2 m ≤ cap1 ∧ w1.cell? ⟨b1, o1 + i, none⟩ = some (.slice (some ⟨b4, o4, none⟩) (p2 m) cap1) ∧ w1.cell? ⟨b5, o5 + i, none⟩ = some (.int .i64 ((natAt ls i : Nat) : Int)) ∧ ∀ s, s < p2 m → w1.cell? ⟨b4, o4 + s, none⟩ = some (.int .i64 (at0 (rowAt xs i) s))) := fun i hi => by
    obtain ⟨b1, o1, A2, cap2, e1, hc1, hi1⟩ := hat.out i hi
    have hrj := (hrow.out i hi).1
    have hNp := p2_pos m
    obtain ⟨b4, o4, e4, hc4⟩ := (hi1.addr (by omega)).2
    obtain ⟨A5, cap5, e5, hl5, hm5, _, _⟩ := hi1.open
    cases e5
    subst e4
    rw [hrj] at hc1 hl5
    obtain ⟨b5, o5, e5, hc5⟩ := hat1.out i hi
    rw [at0_casts] at hc5
    exact ⟨b1, o1, b4, o4, cap2, b5, o5, e1, e5, hm5, hl5, (hB1.out.cell (p := ⟨b1, o1 + i, none⟩) (lt_of_cell hc1)).trans hc1, hc5, fun s hs => (hB1.out.cell (p := ⟨b4, o4 + s, none⟩) (lt_of_cell (hc4 s (by omega)))).trans (hc4 s (by omega))⟩
  have hlow0 : Hid (Low m xs ls (tab m fun _ => 0)) := ⟨tab_length _ _, fun j => by rw [at0_tab]; split <;> omega, fun q hq j => by
    have := (hq.2.1 j).1
    rw [at0_tab]
    split <;> omega⟩
  clear hat hat1 hbe
  replace hG := Lib.hid hG
  replace hal := Lib.hid hal
  have hBG : Hid (Below G w1 w2) := hg.out
  go_loopw [7] (fun a wr => ∃ (ag : Bool) (ps : List Int), a = .bool ag ∧ Hid (OwnI G 2 wr (.slice (some ⟨G, 0, none⟩) m m) ps) ∧ Hid (Low m xs ls ps) ∧ Hid (ag = false → ∀ i, i < xs.length → ∀ j, j < m → ¬ wants xs ls ps i j) ∧ Hid (Below G w1 wr)) (fun a wr => muA q0 G m a wr)
  case atStart => exact ⟨true, _, rfl, hT.out, hlow0.out, (fun h => by cases h), hBG.out⟩
  case round =>
    clear hT hg hlow0 hsz hBG
    obtain ⟨ag, ps0, rfl, ho, hlow, hno, hB⟩ := hrel
    cases ag
    · go_wp2
      go_ret
      exact ⟨_, rfl, ps0, ho.out.lo_le (by rw [hG.out]; exact hB1.out.size), ⟨hlow.out.1, fun j => ⟨hlow.out.2.1 j, Int.le_trans (hlow.out.2.2 q0 hq0.out j) (hq0.out.2.1 j).2⟩, hno.out (by trivial)⟩, hlow.out, hB1.out.trans (hB.out.mono (by rw [hG.out]; exact hB1.out.size))⟩
    · clear hno
      have hmu0 : Hid (muA q0 G m (.bool true) wr = muL q0 ps0 m + 1) := by
        show muP q0 G m wr + 1 = _
        rw [muP_own ho.out hm1 hlow.out.1]; rfl
      obtain ⟨wo, hwo⟩ : ∃ wo : World, wo = wr := ⟨_, rfl⟩
      go_wp2
      go_loopw [7, 8] (fun a i wr => ∃ (i' : Nat) (ag : Bool) (ps : List Int), i' ≤ xs.length ∧ i = .int .i64 (i' : Int) ∧ a = .bool ag ∧ Hid (OwnI G 2 wr (.slice (some ⟨G, 0, none⟩) m m) ps) ∧ Hid (Low m xs ls ps) ∧ Hid ((ag = true ∧ muL q0 ps m < muL q0 ps0 m) ∨ (ag = false ∧ ps = ps0 ∧ ∀ t, t < i' → ∀ j, j < m → ¬ wants xs ls ps0 t j)) ∧ Hid (Below G w1 wr)) (fun _ i _ => xs.length - (intOf i).toNat)
      case atStart => exact ⟨0, false, ps0, Nat.zero_le _, rfl, rfl, ho.out, hlow.out, .inr ⟨rfl, rfl, fun t ht => absurd ht (by omega)⟩, hB.out⟩
      case round =>
        clear ho hlow hB
        obtain ⟨i, ag, ps, hi, rfl, rfl, ho, hlow, hst, hB⟩ := hrel
        by_cases hil : i < xs.length
        · obtain ⟨b1, o1, b4, o4, cap1, b5, o5, rfl, rfl, hcp1, hcl1, hc1, hc5, hcr⟩ := hcells.out i hil
          have hn1 := hnl.out i
          have hns : small (natAt ls i) := small_of (by omega)
          have hpl := hlow.out.1
          have hpb : ∀ j, 0 ≤ at0 ps j ∧ at0 ps j ≤ 1000000000 := fun j => ⟨hlow.out.2.1 j, Int.le_trans (hlow.out.2.2 q0 hq0.out j) (hq0.out.2.1 j).2⟩
          have hc4 := hcr (natAt ls i) hn1
          have e1 := (hB.out.cell (p := ⟨b1, o1 + i, none⟩) (by rw [hG.out]; exact lt_of_cell hc1)).trans hc1
          have e4 := (hB.out.cell (p := ⟨b4, o4 + natAt ls i, none⟩) (by rw [hG.out]; exact lt_of_cell hc4)).trans hc4
          have e5 := (hB.out.cell (p := ⟨b5, o5 + i, none⟩) (by rw [hG.out]; exact lt_of_cell hc5)).trans hc5
          have hs2 : Hid (∀ n, Calls Try.prog 58 #[.slice (some ⟨G, 0, none⟩) m m, .int .i64 ((natAt ls i : Nat) : Int)] (wr.drewN n) fun e w' => e = .returned (.int .i64 (costOf ps (natAt ls i))) ∧ wr.drewN n = w') := fun n =>
            rsum_any (wr.drewN n) _ ps (natAt ls i) (Ints.drewN (OwnI.ints ho.out) n) hns (by omega) (fun j => by have := hpb j; omega)
          have hcb := costUpto_bd ps (natAt ls i) 1000000000 (by decide) (fun i => by have := hpb i; omega) m
          have hm6' : (m : Int) ≤ 6 := by omega
          have hcb2 : -7000000000 ≤ costOf ps (natAt ls i) ∧ costOf ps (natAt ls i) ≤ 7000000000 := by unfold costOf; rw [hpl]; omega
          have hob := (hrow.out i hil).2 (natAt ls i)
          have hgd : Hid (gainOf xs ls ps i = at0 (rowAt xs i) (natAt ls i) - costOf ps (natAt ls i)) := rfl
          clear hcb
          generalize costOf ps (natAt ls i) = cv at *
          generalize at0 (rowAt xs i) (natAt ls i) = ov at *
          have hwr : IntKind.i64.wrap (ov - cv) = ov - cv := IntWalk.i64_in _ (by omega)
          have hgb : -8000000000 ≤ ov - cv ∧ ov - cv ≤ 8000000000 := by omega
          clear hob hcb2 hc4
          replace hc1 := Lib.hid hc1
          replace hc5 := Lib.hid hc5
          replace hcr := Lib.hid hcr
          replace hpb := Lib.hid hpb
          replace hpl := Lib.hid hpl
          go_wp2_with fail
          go_quiet ((go_at_call 58; exact quiet_left (hs2.out _)))
          clear hwr e1 e4 e5 hs2
          generalize hgk : ov - cv = gk at *
          clear hgk
          go_wp2
          have hstart : ∀ nq : Nat, Hid (OwnI G 2 (wr.drewN nq) (.slice (some ⟨G, 0, none⟩) m m) ps ∧ Below G w1 (wr.drewN nq)) := fun nq => ⟨OwnL.drewN ho.out nq, below_drewN hB.out nq⟩
          replace hstart := Lib.hid hstart
          go_loopw [7, 10] (fun a k wr => ∃ (k' : Nat) (ag : Bool) (ps : List Int), k' ≤ m ∧ k = .int .i64 (k' : Int) ∧ a = .bool ag ∧ Hid (OwnI G 2 wr (.slice (some ⟨G, 0, none⟩) m m) ps) ∧ Hid (Low m xs ls ps) ∧ Hid (gainOf xs ls ps i = gk) ∧ Hid ((ag = true ∧ muL q0 ps m < muL q0 ps0 m) ∨ (ag = false ∧ ps = ps0 ∧ (∀ t, t < i → ∀ j, j < m → ¬ wants xs ls ps0 t j) ∧ ∀ j, j < k' → ¬ wants xs ls ps0 i j)) ∧ Hid (Below G w1 wr)) (fun _ k _ => m - (intOf k).toNat)
          case atStart => exact ⟨0, ag, ps, Nat.zero_le _, rfl, rfl, (hstart.out _).1, hlow.out, hgd.out, (by
            rcases hst.out with h | ⟨h1, h2, h3⟩
            · exact .inl h
            · exact .inr ⟨h1, h2, h3, fun j hj => absurd hj (by omega)⟩), (hstart.out _).2⟩
          case round =>
            clear hstart ho hlow hst hB hgd hpb hpl
            obtain ⟨k, ag, ps, hk, rfl, rfl, ho, hlow, hgd, hst, hB⟩ := hrel
            by_cases hkl : k < m
            · have hpl := hlow.out.1
              have hpb := (⟨hlow.out.2.1 k, Int.le_trans (hlow.out.2.2 q0 hq0.out k) (hq0.out.2.1 k).2⟩ : 0 ≤ at0 ps k ∧ at0 ps k ≤ 1000000000)
              have hks : smallS k := smallS_of (by omega)
              have hpk := p2_lt hkl
              have hrb := (hrow.out i hil).2 (p2 k)
              have hc6 := hcr.out (p2 k) hpk
              have e1 := (hB.out.cell (p := ⟨b1, o1 + i, none⟩) (by rw [hG.out]; exact lt_of_cell hc1.out)).trans hc1.out
              have e6 := (hB.out.cell (p := ⟨b4, o4 + p2 k, none⟩) (by rw [hG.out]; exact lt_of_cell hc6)).trans hc6
              have e5 := (hB.out.cell (p := ⟨b5, o5 + i, none⟩) (by rw [hG.out]; exact lt_of_cell hc5.out)).trans hc5.out
              obtain ⟨e7, hfz⟩ := OwnI.cellI ho.out k (by omega)
              have hwd : Hid (wants xs ls ps i k ↔ (bitOf (natAt ls i) k ≠ 1 ∧ 0 < at0 (rowAt xs i) (p2 k) - at0 ps k - gk)) := by
                show _ ↔ _
                unfold wants moreOf
                rw [hgd.out]
              have hskip : Hid (¬ wants xs ls ps i k → (ag = true ∧ muL q0 ps m < muL q0 ps0 m) ∨ (ag = false ∧ ps = ps0 ∧ (∀ t, t < i → ∀ j, j < m → ¬ wants xs ls ps0 t j) ∧ ∀ j, j < k + 1 → ¬ wants xs ls ps0 i j)) := fun hnw => by
                rcases hst.out with h | ⟨h1, h2, h3, h4⟩
                · exact .inl h
                · refine .inr ⟨h1, h2, h3, fun j hj => ?_⟩
                  by_cases e : j = k
                  · rw [e, ← h2]; exact hnw
                  · exact h4 j (by omega)
              have hdo : Hid (wants xs ls ps i k → ∀ n : Nat, OwnI G 2 ((wr.drewN n).setCell ⟨G, k, none⟩ (.int .i64 (at0 (rowAt xs i) (p2 k) - gk))) (.slice (some ⟨G, 0, none⟩) m m) (ps.set k (at0 (rowAt xs i) (p2 k) - gk)) ∧ Low m xs ls (ps.set k (at0 (rowAt xs i) (p2 k) - gk)) ∧
                  gainOf xs ls (ps.set k (at0 (rowAt xs i) (p2 k) - gk)) i = gk ∧ muL q0 (ps.set k (at0 (rowAt xs i) (p2 k) - gk)) m < muL q0 ps0 m ∧ Below G w1 ((wr.drewN n).setCell ⟨G, k, none⟩ (.int .i64 (at0 (rowAt xs i) (p2 k) - gk)))) := fun hw n => by
                have hl2 := hlow.out.step hil hkl hw
                have e : at0 ps k + moreOf xs ls ps i k = at0 (rowAt xs i) (p2 k) - gk := by unfold moreOf; rw [hgd.out]; omega
                rw [e] at hl2
                refine ⟨OwnI.setN (OwnL.drewN ho.out n) hpl k _, hl2, by rw [gain_set _ (by omega) hw.1]; exact hgd.out, ?_, (below_drewN hB.out n).setCell (p := ⟨G, k, none⟩) (Nat.le_refl _) _⟩
                have hlt : muL q0 (ps.set k (at0 (rowAt xs i) (p2 k) - gk)) m < muL q0 ps m := by
                  unfold muL
                  refine sumN_lt (j := k) ?_ m hkl fun t ht hne => ?_
                  · have h3 := hl2.2.2 q0 hq0.out k
                    rw [at0_set _ _ _ _ (by omega), if_pos rfl] at h3 ⊢
                    have := (hwd.out.1 hw).2
                    omega
                  · rw [at0_set _ _ _ _ (by omega), if_neg hne]
                rcases hst.out with h | ⟨_, h2, _⟩
                · omega
                · rw [← h2]; exact hlt
              clear hc6 hst
              generalize natAt ls i = ni at *
              generalize at0 (rowAt xs i) (p2 k) = xk at *
              generalize at0 ps k = pk at *
              have hwr : IntKind.i64.wrap (xk - gk) = xk - gk := IntWalk.i64_in _ (by omega)
              clear hrb hpb
              by_cases hbit : bitOf ni k = 1
              · have hb0 : (((bitOf ni k : Nat) : Int) == 0) = false := by rw [hbit]; rfl
                have hr := Lib.hid (hskip.out fun hw => (hwd.out.1 hw).1 hbit)
                replace hbit := Lib.hid hbit
                clear hgb
                go_wp2_with fail
                go_quiet (fail)
                go_wp2
                go_roundw
                case rel => exact ⟨k + 1, ag, ps, by omega, by go_num, rfl, OwnL.drewN ho.out _, hlow.out, hgd.out, hr.out, below_drewN hB.out _⟩
                case measure => simp [intOf]; try omega
              · have hb0 : (((bitOf ni k : Nat) : Int) == 0) = true := by
                  have : bitOf ni k = 0 := by unfold bitOf at hbit ⊢; omega
                  rw [this]; rfl
                by_cases hgt : pk < xk - gk
                · have hw := hwd.out.2 ⟨hbit, by omega⟩
                  have hr := Lib.hid (hdo.out hw)
                  replace hbit := Lib.hid hbit
                  clear hgb hw
                  go_wp2_with fail
                  go_quiet (fail)
                  go_wp2
                  go_roundw
                  case rel =>
                    obtain ⟨a1, a2, a3, a4, a5⟩ := hr.out _
                    exact ⟨k + 1, true, _, by omega, by go_num, rfl, a1, a2, a3, .inl ⟨rfl, a4⟩, a5⟩
                  case measure => simp [intOf]; try omega
                · have hr := Lib.hid (hskip.out fun hw => by have := (hwd.out.1 hw).2; omega)
                  replace hbit := Lib.hid hbit
                  clear hgb
                  go_wp2_with fail
                  go_quiet (fail)
                  go_wp2
                  go_roundw
                  case rel => exact ⟨k + 1, ag, ps, by omega, by go_num, rfl, OwnL.drewN ho.out _, hlow.out, hgd.out, hr.out, below_drewN hB.out _⟩
                  case measure => simp [intOf]; try omega
            · obtain rfl : k = m := by omega
              go_wp2
              go_roundw
              case rel => exact ⟨i + 1, ag, ps, by omega, by go_num, rfl, ho.out, hlow.out, (by
                rcases hst.out with h | ⟨h1, h2, h3, h4⟩
                · exact .inl h
                · refine .inr ⟨h1, h2, fun t ht => ?_⟩
                  by_cases e : t = i
                  · rw [e]; exact h4
                  · exact h3 t (by omega)), hB.out⟩
              case measure => simp [intOf]; try omega
        · obtain rfl : i = xs.length := by omega
          go_wp2
          go_roundw
          case rel => exact ⟨ag, ps, rfl, ho.out, hlow.out, (by
            rcases hst.out with ⟨h1, _⟩ | ⟨_, h2, h3⟩
            · intro h; rw [h1] at h; cases h
            · intro _ t ht j hj; rw [h2]; exact h3 t ht j hj), hB.out⟩
          case measure =>
            have e2 : muP q0 G m wr = muL q0 ps m := muP_own ho.out hm1 hlow.out.1
            rw [hmu0.out]
            rcases hst.out with ⟨h1, h2⟩ | ⟨h1, _, _⟩
            · rw [h1]
              show muP q0 G m wr + 1 < _
              omega
            · rw [h1]
              show 0 < _
              omega
end Go.Proofs.Ytadonoacmpkolaa
