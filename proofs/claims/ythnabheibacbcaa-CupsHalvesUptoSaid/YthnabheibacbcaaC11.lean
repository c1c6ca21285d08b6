/- One chain of a hull: hull's inner function. No condition. -/
import Derived.Test.YthnabheibacbcaaC7
import Derived.Test.YthnabheibacbcaaG2
namespace Go.Proofs.Ythnabheibacbcaa
open Go.RowKit

theorem OwnI.take {lo : Nat} {w : World} {g n C : Nat} {xs : List Int} (h : OwnI lo 3 w (.slice (some ⟨g, 0, none⟩) n C) xs) (k : Nat) (hk : k ≤ n) : OwnI lo 3 w (.slice (some ⟨g, 0, none⟩) k C) (xs.take k) := by
  have hn : n = xs.length := by obtain ⟨A, n', cap, e, h1⟩ := OwnL.shape h; injection e with _ e2 _; rw [e2]; exact h1.out
  have hc := OwnI.cells h
  rcases hc.2 with ⟨e, _⟩ | ⟨g', cap, cur, e, hb, hg, hnc, hcm, h1, h2⟩
  · cases e
  · injection e with e1 e2 e3
    injection e1 with e1
    injection e1 with e1
    subst e1 e3
    refine OwnI.mk ?_
    have hl : (xs.take k).length = k := by simp; omega
    rw [hl]
    refine ⟨by simp; omega, .inr ⟨g, C, cur, rfl, hb, hg, by omega, hcm, h1, ?_⟩⟩
    rw [List.map_take, ← h2, List.take_take]
    congr 1
    omega
theorem mem_popw {t : Nat → Nat → Nat → Int} : ∀ (s : List Nat) (i : Nat), ∀ x ∈ popw t s i, x ∈ s
  | [], _, x, hx => hx
  | [_], _, x, hx => hx
  | v :: u :: r, i, x, hx => by
    unfold popw at hx
    split at hx
    · exact List.mem_cons_of_mem _ (mem_popw (u :: r) i x hx)
    · exact hx
theorem mem_chain {t : Nat → Nat → Nat → Int} (l : List Nat) : ∀ x ∈ chain t l, x ∈ l := by
  have : ∀ r : List Nat, ∀ x ∈ chain t r.reverse, x ∈ r.reverse := fun r => by
    induction r with
    | nil => intro x hx; simp [chain] at hx
    | cons a r ih =>
      intro x hx
      rw [List.reverse_cons, chain_snoc] at hx
      rw [List.reverse_cons]
      rcases List.mem_cons.1 hx with rfl | hx
      · simp
      · exact List.mem_append.2 (.inl (ih x (mem_popw _ _ x hx)))
  have := this l.reverse
  simpa using this
theorem popw_len {t : Nat → Nat → Nat → Int} : ∀ (s : List Nat) (i : Nat), (popw t s i).length ≤ s.length
  | [], _ => Nat.le_refl _
  | [_], _ => Nat.le_refl _
  | v :: u :: r, i => by
    unfold popw
    split
    · have := popw_len (t := t) (u :: r) i; simp only [List.length_cons] at *; omega
    · exact Nat.le_refl _
theorem chain_len {t : Nat → Nat → Nat → Int} (l : List Nat) : (chain t l).length ≤ l.length := by
  have : ∀ r : List Nat, (chain t r.reverse).length ≤ r.length := fun r => by
    induction r with
    | nil => simp [chain]
    | cons a r ih =>
      rw [List.reverse_cons, chain_snoc]
      have := popw_len (t := t) (chain t r.reverse) a
      simp only [List.length_cons]
      omega
  have := this l.reverse
  simpa using this
theorem chain_ne {t : Nat → Nat → Nat → Int} {l : List Nat} (h : l ≠ []) : 1 ≤ (chain t l).length := by
  obtain ⟨D, q, rfl⟩ : ∃ D q, l = D ++ [q] := ⟨l.dropLast, l.getLast h, (List.dropLast_concat_getLast h).symm⟩
  rw [chain_snoc]; simp

set_option maxRecDepth 100000 in
set_option maxHeartbeats 2000000 in
theorem half_any (w : World) (Bp g L : Nat) (t : Nat → Nat → Nat → Int) (vx : Value) (ks : List Nat) (hB : w.cell? ⟨Bp, 0, none⟩ = some (.pointer (some ⟨g, 0, none⟩)))
    (hT : ∀ i j k, i < L → j < L → k < L → w.cell? ⟨g, 1 + i * 196 + j * 14 + k, none⟩ = some (.int .i8 (t i j k))) (hL : L ≤ 14) (hx : Ints w vx (nats ks)) (hks : ∀ k ∈ ks, k < L) (h1 : 1 ≤ ks.length) (h2 : ks.length ≤ 1000) :
    Calls Try.prog 83 #[vx, .pointer (some ⟨Bp, 0, none⟩)] w fun e w' => ∃ v', e = .returned v' ∧ OwnI w.heap.size 3 w' v' (nats (half t ks)) ∧ Below w.heap.size w w' := by
  obtain ⟨A, n, cap, rfl, hn⟩ := hx.shape
  rw [nats_length] at hn
  obtain ⟨-, b0, o0, rfl, hat⟩ := hx.addr (by rw [nats_length]; omega)
  have hat := Lib.hid (show ∀ i, i < ks.length → w.cell? ⟨b0, o0 + i, none⟩ = some (.int .i64 (natAt ks i : Nat)) from fun i hi => by
      have := hat i (by rw [nats_length]; exact hi)
      rwa [at0_nats] at this)
  replace hT := Lib.hid hT
  replace hks := Lib.hid hks
  have hn1 : 1 ≤ n := by rw [hn.out]; exact h1
  have hn2 : n ≤ 1000 := by rw [hn.out]; exact h2
  obtain ⟨M, hM⟩ : ∃ M, w.heap.size = M := ⟨_, rfl⟩
  have hBM : Bp < M := by rw [← hM]; exact lt_of_cell hB
  rw [hM]
  clear hx h1 h2
  go_enter Try.func83, Try.ntmps83
  go_wp2
  go_loopw [4, 9] (fun c4 c9 wr => ∃ (k m : Nat) (A4 : Option Addr) (C4 : Nat), k ≤ n ∧ c9 = .int .i64 (k : Int) ∧ c4 = .slice A4 m C4 ∧ Hid (OwnI M 3 wr (.slice A4 m C4) (nats (chain t (ks.take k)).reverse)) ∧ Hid (Below M w wr)) (fun _ c _ => n - (intOf c).toNat)
  case atStart => exact ⟨0, 0, none, 0, Nat.zero_le _, rfl, rfl, by unfold Hid; exact own_nil _ _ _, Below.refl _ _⟩
  case round =>
    obtain ⟨k, m, A4, C4, hk, rfl, rfl, hO, hW⟩ := hrel
    have hm : m = (chain t (ks.take k)).length := by obtain ⟨A', n', cap', e, h1⟩ := OwnL.shape hO.out; injection e with _ e2 _; rw [e2, h1.out, nats_length, List.length_reverse]
    have hml := chain_len (t := t) (ks.take k)
    rw [← hm, List.length_take] at hml
    by_cases hlt : k < n
    case neg =>
      obtain rfl : k = n := by omega
      have htk : ks.take k = ks := List.take_of_length_le (by rw [hn.out]; exact Nat.le_refl _)
      rw [htk] at hO hm
      have hm1 : 1 ≤ m := by rw [hm]; exact chain_ne (by intro e; rw [e] at hn; have := hn.out; simp at this; omega)
      obtain ⟨b, cap', e, _, _, hc, hc2, _, _⟩ := OwnI.open hO.out (by rw [nats_length, List.length_reverse]; omega)
      injection e with e1 e2 e3
      subst e1 e3
      rw [← e2] at hc
      unfold maxLen at hc2
      have em : ((m : Int) - 1).toNat = m - 1 := by omega
      have h0 := OwnI.take hO.out (m - 1) (by omega)
      rw [show (nats (chain t ks).reverse).take (m - 1) = nats (half t ks) by
        unfold half nats
        rw [← List.map_take, ← List.dropLast_reverse, List.dropLast_eq_take, List.length_reverse, hm]] at h0
      replace h0 := Lib.hid h0
      clear hO hm hml htk e2
      go_wp2
      go_ret
      exact ⟨_, rfl, h0.out, hW.out⟩
    have hkl : k < ks.length := by have := hn.out; omega
    have hc := cell_below (hat.out k hkl) (show Below w.heap.size w wr by rw [hM]; exact hW.out)
    have hi : natAt ks k < L := hks.out _ (by rw [natAt_eq hkl]; exact List.getElem_mem _)
    have hst := Lib.hid (show chain t (ks.take (k + 1)) = natAt ks k :: popw t (chain t (ks.take k)) (natAt ks k) by
      rw [List.take_succ_eq_append_getElem hkl, ← natAt_eq hkl, chain_snoc])
    have hmem := Lib.hid (show ∀ x ∈ chain t (ks.take k), x < L from fun x hx => hks.out _ (List.mem_of_mem_take (mem_chain _ x hx)))
    generalize hiv : natAt ks k = i at *
    replace hiv := Lib.hid hiv
    generalize chain t (ks.take k) = s at *
    go_wp2
    go_loopw [4] (fun c4 wr => ∃ (s' : List Nat) (m : Nat) (A4 : Option Addr) (C4 : Nat), c4 = .slice A4 m C4 ∧ m = s'.length ∧ m ≤ 1000 ∧ Hid (popw t s' i = popw t s i) ∧ Hid (∀ x ∈ s', x < L) ∧ Hid (OwnI M 3 wr (.slice A4 m C4) (nats s'.reverse)) ∧ Hid (Below M w wr)) (fun v _ => (match v with | .slice _ n _ => n | _ => 0))
    case atStart => exact ⟨s, m, A4, C4, rfl, hm, by omega, rfl, hmem, hO, hW⟩
    case round =>
      clear hO hW hm hml hc
      obtain ⟨s', m, A4, C4, rfl, hm, hmb, hpop, hmem', hO, hW⟩ := hrel
      have hpB : wr.cell? ⟨Bp, 0, none⟩ = some (.pointer (some ⟨g, 0, none⟩)) := cell_below hB (show Below w.heap.size w wr by rw [hM]; exact hW.out)
      by_cases hm2 : m ≤ 1
      · have hps : popw t s' i = s' := by
          match s', hm with
          | [], _ => rfl
          | [x], _ => rfl
          | _ :: _ :: _, h => simp at h; omega
        have hm01 : m = 0 ∨ m = 1 := by omega
        rw [hps] at hpop
        have hgt : decide ((1 : Int) < (m : Int)) = false := by simp; omega
        have hgt2 : decide (1 < m) = false := by simp; omega
        have hml := Lib.hid hm
        clear hm hm01
        have hO1 := fun W (hb : Below wr.heap.size wr W) => OwnL.below hO.out (Nat.le_refl _) hb
        replace hO1 := Lib.hid hO1
        have hzr := hW.out.size
        go_wp2
        go_quiet (fail)
        go_wp2_with (
          (at_builtin; refine wpList_append_int rfl (.tmp 44) (.tmp 46) 33 rfl M 3 Try.underlying33 info3 _ _ rfl rfl (hO1.out _ (below_drewN (Below.refl _ _) _)) rfl rfl (by rw [nats_length, List.length_reverse]; have := hml.out; omega) (by have := hW.out.size; rw [hM] at this; exact this) ?_; intro v' w4 ho4 hB4 hg4; obtain ⟨N4, C4', hv4, -⟩ := OwnL.open ho4 (by simp); rw [show (nats s'.reverse ++ [((i : Nat) : Int)]).length = m + 1 by rw [List.length_append, nats_length, List.length_reverse, hml.out]; rfl] at hv4; subst hv4; replace ho4 := Lib.hid ho4; replace hB4 := Lib.hid hB4))
        go_wp2
        go_roundw
        case rel =>
          refine ⟨k + 1, _, _, _, by omega, by go_num, rfl, ?_, ?_⟩
          · unfold Hid
            rw [hst.out, ← hpop.out, List.reverse_cons]
            have := ho4.out
            rw [show nats s'.reverse ++ [(i : Int)] = nats (s'.reverse ++ [i]) by simp [nats]] at this
            exact this
          · exact Lib.hid ((below_drewN hW.out nq).trans hB4.out)
        case measure => simp [intOf]; omega
      · obtain ⟨v, u, r, rfl⟩ : ∃ v u r, s' = v :: u :: r := by
          match s', hm with
          | [], h => simp at h; omega
          | [x], h => simp at h; omega
          | v :: u :: r, _ => exact ⟨v, u, r, rfl⟩
        have hO' := hO.out
        obtain ⟨b, cap', e, _, _, hc1, hc2, hcl, _⟩ := OwnI.open hO' (by rw [nats_length, List.length_reverse]; omega)
        injection e with e1 e2 e3
        subst e1 e3
        rw [← e2] at hc1 hcl
        unfold maxLen at hc2
        have hlen : m = r.length + 2 := by rw [hm]; rfl
        have cu := hcl (m - 2) (by omega)
        have cv := hcl (m - 1) (by omega)
        rw [at0_nats, natAt_eq (by rw [List.length_reverse]; omega)] at cu cv
        have gu : (v :: u :: r).reverse[m - 2]'(by rw [List.length_reverse]; omega) = u := by
          rw [List.getElem_reverse]
          have e : (v :: u :: r).length - 1 - (m - 2) = 1 := by rw [← hm]; omega
          simp only [e]
          rfl
        have gv : (v :: u :: r).reverse[m - 1]'(by rw [List.length_reverse]; omega) = v := by
          rw [List.getElem_reverse]
          have e : (v :: u :: r).length - 1 - (m - 1) = 0 := by rw [← hm]; omega
          simp only [e]
          rfl
        rw [gu] at cu
        rw [gv] at cv
        have hu := hmem'.out u (by simp)
        have hv := hmem'.out v (by simp)
        have ct := cell_below (hT.out u v i hu hv hi) (show Below w.heap.size w wr by rw [hM]; exact hW.out)
        have em2 : ((m : Int) - 2).toNat = m - 2 := by omega
        have em1 : ((m : Int) - 1).toNat = m - 1 := by omega
        have hgt : (1 : Int) < (m : Int) := by omega
        generalize htv : t u v i = tv at *
        replace htv := Lib.hid htv
        have hml := Lib.hid hm
        clear e2 gu gv hcl hm hO' hlen
        by_cases hneg : tv < 0
        · have hp2 := Lib.hid (show popw t (v :: u :: r) i = popw t (u :: r) i by
            show (if t u v i < 0 then _ else _) = _
            rw [htv.out, if_pos hneg])
          go_wp2
          go_quiet (fail)
          go_wp2
          go_roundw
          case rel =>
            have hml' := hml.out
            simp only [List.length_cons] at hml'
            refine ⟨u :: r, _, _, _, rfl, ?_, ?_, ?_, ?_, ?_, ?_⟩
            · simp; omega
            · omega
            · exact Lib.hid (by rw [← hp2.out]; exact hpop.out)
            · exact Lib.hid (fun x hx => hmem'.out x (List.mem_cons_of_mem _ hx))
            · have h0 := OwnI.take hO.out (m - 1) (by omega)
              rw [show (nats (v :: u :: r).reverse).take (m - 1) = nats (u :: r).reverse by
                unfold nats
                rw [← List.map_take, List.reverse_cons, List.take_left' (by simp only [List.length_reverse, List.length_cons]; omega)]] at h0
              exact Lib.hid (OwnL.drewN h0 nq)
            · exact Lib.hid (below_drewN hW.out nq)
          case measure => simp; omega
        · have hp2 := Lib.hid (show popw t (v :: u :: r) i = v :: u :: r by
            show (if t u v i < 0 then _ else _) = _
            rw [htv.out, if_neg hneg])
          have hO1 := fun W (hb : Below wr.heap.size wr W) => OwnL.below hO.out (Nat.le_refl _) hb
          replace hO1 := Lib.hid hO1
          go_wp2
          go_quiet (fail)
          go_wp2_with (
            (at_builtin; refine wpList_append_int rfl (.tmp 44) (.tmp 46) 33 rfl M 3 Try.underlying33 info3 _ _ rfl rfl (hO1.out _ (below_drewN (Below.refl _ _) _)) rfl rfl (by rw [nats_length, List.length_reverse]; have := hml.out; omega) (by have := hW.out.size; rw [hM] at this; exact this) ?_; intro v' w4 ho4 hB4 hg4; obtain ⟨N4, C4', hv4, -⟩ := OwnL.open ho4 (by simp); rw [show (nats (v :: u :: r).reverse ++ [((i : Nat) : Int)]).length = m + 1 by rw [List.length_append, nats_length, List.length_reverse, hml.out]; rfl] at hv4; subst hv4; replace ho4 := Lib.hid ho4; replace hB4 := Lib.hid hB4))
          go_wp2
          go_roundw
          case rel =>
            refine ⟨k + 1, _, _, _, by omega, by go_num, rfl, ?_, ?_⟩
            · unfold Hid
              rw [hst.out, ← hpop.out, hp2.out, List.reverse_cons]
              have := ho4.out
              rw [show nats (v :: u :: r).reverse ++ [(i : Int)] = nats ((v :: u :: r).reverse ++ [i]) by simp [nats]] at this
              exact this
            · exact Lib.hid ((below_drewN hW.out nq).trans hB4.out)
          case measure => simp [intOf]; omega
end Go.Proofs.Ythnabheibacbcaa
