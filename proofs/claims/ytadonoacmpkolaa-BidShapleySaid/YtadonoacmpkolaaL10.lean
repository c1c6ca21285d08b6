/- BidShapley: the walk. -/
import Derived.Test.YtadonoacmpkolaaM7
import Derived.Test.YtadonoacmpkolaaW23
import Derived.Test.YtadonoacmpkolaaW21
namespace Go.Proofs.Ytadonoacmpkolaa
open Go.RowKit
attribute [local go_sem high] walk_shl walk_shr walk_bit walk_rem walk_and walk_or walk_andNot

set_option maxRecDepth 100000 in
set_option maxHeartbeats 3000000 in
theorem BidShapley_walk (w : World) (m : Int) (v : Value) (xs : List (List Int)) (kq : Int) (_ : -9223372036854775808 ≤ m ∧ m ≤ 9223372036854775807) (h : Rows2 w v xs) (_ : -9223372036854775808 ≤ kq ∧ kq ≤ 9223372036854775807) :
    Calls Try.prog 10 #[.int .i64 m, v, .int .i64 kq] w fun e w' => e = .returned (.bool true) ∧ Below w.heap.size w w' := by
  have ht := Lib.hid (tamed_any w v xs m h)
  clear h
  have haw := Lib.hid awake_any
  go_enter Try.func10, Try.ntmps10
  go_wp2_with (go_at_call 22; refine ht.out.mono ?_; rintro e w1 ⟨v1, k, ys, rfl, hSB, hr1, hB1⟩; obtain ⟨A1, c1, rfl, hlc1, hcm1, _, _⟩ := Rows2.open hr1; unfold maxLen at hcm1; replace hr1 := Lib.hid hr1; replace hB1 := Lib.hid hB1; replace hSB := Lib.hid hSB)
  clear ht
  have hE := hSB.out.bids
  have hS := hSB.out.sgl
  have hk1 := hE.m1
  have hk5 := hSB.out.k5
  have hn1 := hE.l1
  have hn5 := hSB.out.n5
  have hall := hSB.out.all
  have h23 := Lib.hid (fun W V (hV : Rows2 W V ys) => Best_ok W V ys k hV hE)
  have hcst : Hid ((alloc ys (p2 k - 1)).map (fun (s : Nat) => (s : Int)) = casts (alloc ys (p2 k - 1))) := rfl
  rw [hcst.out] at h23
  clear hcst
  have h24 := Lib.hid (fun W V (hV : Rows2 W V ys) => Payments_ok W V ys k hV hE)
  have h26 := Lib.hid (fun W V (hV : Rows2 W V ys) => Prices_ok W V ys k hV hE hall _ (addOf_clr hE hS))
  have h42 := Lib.hid (fun W V U Q ps (hV : Rows2 W V ys) (hU : Ints W U (casts (alloc ys (p2 k - 1)))) (hQ : Ints W Q ps) (hp : priced k ps) => Clears_ok W V U Q ys (alloc ys (p2 k - 1)) ps k hV hU hQ hE (allocB_alloc hE.pos) hp (alloc_length _ _) (fun i => natAt_lt' ys i))
  have hlc := Lib.hid (fun ps hC hL => least_clears hE hS (ps := ps) hC hL)
  have hcl := Lib.hid (fun ps hC hL lo hp hc => clears_low hE hS (ps := ps) hC hL (lo := lo) hp hc)
  have hpy := Lib.hid (fun ps hC hL i hi => least_pay hE hS (ps := ps) hC hL i hi)
  have hlen : (alloc ys (p2 k - 1)).length = ys.length := alloc_length _ _
  have hplen : (paysOf k ys).length = ys.length := tab_length ..
  have hpat : Hid (∀ i, i < ys.length → at0 (paysOf k ys) i = payAt k ys i) := fun i hi => by unfold paysOf; rw [at0_tab, if_pos hi]
  have hnl : Hid (∀ i, natAt (alloc ys (p2 k - 1)) i < p2 k) := fun i => natAt_lt' ys i
  have h64 := p2_le64 (m := k) (by omega)
  generalize alloc ys (p2 k - 1) = ls at *
  generalize paysOf k ys = pa at *
  generalize payAt k ys = pf at *
  generalize wts ys (p2 k - 1) = W0 at *
  replace hlen := Lib.hid hlen
  replace hplen := Lib.hid hplen
  replace hE := Lib.hid hE
  replace hS := Lib.hid hS
  replace hall := Lib.hid hall
  go_wp2_with (first
    | (go_at_call 23; refine (h23.out _ _ hr1.out).mono ?_; rintro e w2 ⟨v2, rfl, ho2, hB2⟩; have hya := Lib.hid (OwnI.ints ho2); obtain ⟨A2, c2, rfl, hlc2, hcm2, _, _⟩ := (OwnI.ints ho2).open; rw [casts_length, hlen.out] at hya hlc2 ⊢; unfold maxLen at hcm2; replace hr1 := Lib.hid (hr1.out.then hB2); replace hB1 := Lib.hid (bthen hB1.out hB2); clear ho2)
    | (go_at_call 24; refine (h24.out _ _ hr1.out).mono ?_; rintro e w3 ⟨v3, rfl, ho3, hB3⟩; have hyp := Lib.hid (OwnI.ints ho3); obtain ⟨A3, c3, rfl, hlc3, hcm3, _, _⟩ := (OwnI.ints ho3).open; rw [hplen.out] at hyp hlc3 ⊢; unfold maxLen at hcm3; replace hya := Lib.hid (Ints.below hya.out (Nat.le_refl _) hB3); replace hr1 := Lib.hid (hr1.out.then hB3); replace hB1 := Lib.hid (bthen hB1.out hB3); clear ho3)
    | (go_at_call 26; refine (h26.out _ _ hr1.out).mono ?_; rintro e w4 ⟨v4, ps, rfl, ho4, hC, hL, hB4⟩; have hyq := Lib.hid (OwnI.ints ho4); have hpl := hC.1; obtain ⟨A4, c4, rfl, hlc4, hcm4, _, _⟩ := (OwnI.ints ho4).open; rw [hpl] at hyq hlc4 ⊢; unfold maxLen at hcm4; replace hya := Lib.hid (Ints.below hya.out (Nat.le_refl _) hB4); replace hyp := Lib.hid (Ints.below hyp.out (Nat.le_refl _) hB4); replace hr1 := Lib.hid (hr1.out.then hB4); replace hB1 := Lib.hid (bthen hB1.out hB4); have hc42 := h42.out _ _ _ _ ps hr1.out hya.out hyq.out ⟨hC.1, hC.2.1⟩; rw [hlc.out ps hC hL] at hc42; replace hc42 := Lib.hid hc42; have hpay := Lib.hid (fun i hi => hpy.out ps hC hL i hi); have hlow := Lib.hid (fun lo hp hc => hcl.out ps hC hL lo hp hc); have hpb := Lib.hid hC.2.1; clear ho4 hC hL; replace hpl := Lib.hid hpl)
    | (go_at_call 42; refine hc42.out.mono ?_; rintro e w5 ⟨rfl, hB5⟩; replace hya := Lib.hid (Ints.below hya.out (Nat.le_refl _) hB5); replace hyp := Lib.hid (Ints.below hyp.out (Nat.le_refl _) hB5); replace hyq := Lib.hid (Ints.below hyq.out (Nat.le_refl _) hB5); replace hr1 := Lib.hid (hr1.out.then hB5); replace hB1 := Lib.hid (bthen hB1.out hB5)))
  clear h23 h24 h26 hlc hcl hpy hc42 hB2 hB3 hB4 hB5
  have hca : Hid (∀ i, i < ys.length → ∃ b1 o1 b2 o2, A2 = some ⟨b1, o1, none⟩ ∧ A3 = some ⟨b2, o2, none⟩ ∧ w5.cell? ⟨b1, o1 + i, none⟩ = some (.int .i64 ((natAt ls i : Nat) : Int)) ∧ w5.cell? ⟨b2, o2 + i, none⟩ = some (.int .i64 (pf i))) := fun i hi => by
    obtain ⟨_, _, e1, _, _, _, h1⟩ := hya.out.open
    rw [casts_length, hlen.out] at e1 h1
    cases e1
    obtain ⟨_, _, e2, _, _, _, h2⟩ := hyp.out.open
    rw [hplen.out] at e2 h2
    cases e2
    obtain ⟨b1, o1, e3, c1⟩ := h1 i hi
    obtain ⟨b2, o2, e4, c2⟩ := h2 i hi
    rw [at0_casts] at c1
    rw [hpat.out i hi] at c2
    exact ⟨b1, o1, b2, o2, e3, e4, c1, c2⟩
  have hcq : Hid (∀ j, j < k → ∃ b o, A4 = some ⟨b, o, none⟩ ∧ w5.cell? ⟨b, o + j, none⟩ = some (.int .i64 (at0 ps j))) := fun j hj => by
    obtain ⟨_, _, e1, _, _, _, h1⟩ := hyq.out.open
    rw [hpl.out] at e1 h1
    cases e1
    exact h1 j hj
  have hcb : Hid (∀ s (j : Nat), -(1000000000 * (j : Int)) ≤ costUpto ps s j ∧ costUpto ps s j ≤ 1000000000 * (j : Int)) := fun s j => costUpto_bd ps s 1000000000 (by decide) (fun i => by have := hpb.out i; omega) j
  go_loop [17] (fun i => ∃ a : Nat, a ≤ ys.length ∧ i = .int .i64 (a : Int)) (fun i => ys.length - (intOf i).toNat)
  case atStart => exact ⟨0, Nat.zero_le _, rfl⟩
  case round =>
    obtain ⟨a, ha, rfl⟩ := hrel
    by_cases hal : a < ys.length
    · obtain ⟨b1, o1, b2, o2, rfl, rfl, d1, d2⟩ := hca.out a hal
      have hn := hnl.out a
      have hpa := hpay.out a hal
      have hsm : small (natAt ls a) := small_of (by omega)
      generalize natAt ls a = s at *
      generalize pf a = pa1 at *
      replace hpa := Lib.hid hpa
      go_wp2
      go_loop [18, 19] (fun t i => ∃ j : Nat, j ≤ k ∧ i = .int .i64 (j : Int) ∧ t = .int .i64 (costUpto ps s j)) (fun _ i => k - (intOf i).toNat)
      case atStart => exact ⟨0, Nat.zero_le _, rfl, rfl⟩
      case round =>
        obtain ⟨j, hj, rfl, rfl⟩ := hrel
        by_cases hjl : j < k
        · obtain ⟨b3, o3, rfl, d3⟩ := hcq.out j hjl
          have hjs : smallS j := smallS_of (by omega)
          have hcs : Hid (costUpto ps s (j + 1) = if bitOf s j = 1 then costUpto ps s j + at0 ps j else costUpto ps s j) := rfl
          have hb1 := hcb.out s j
          have hb2 := hpb.out j
          generalize costUpto ps s j = cv at *
          generalize at0 ps j = pj at *
          have hj5 : (j : Int) ≤ 5 := by omega
          have hwr : IntKind.i64.wrap (cv + pj) = cv + pj := IntWalk.i64_in _ (by omega)
          clear hb1 hb2
          by_cases hb : bitOf s j = 1
          · rw [if_pos hb] at hcs
            have hbb := bitOf_is hb
            replace hb := Lib.hid hb
            go_wp2
            go_round
            case rel => exact ⟨j + 1, by omega, by go_num, by rw [hcs.out]⟩
            case measure => simp [intOf]; try omega
          · rw [if_neg hb] at hcs
            have hbb := bitOf_ne hb
            replace hb := Lib.hid hb
            go_wp2
            go_round
            case rel => exact ⟨j + 1, by omega, by go_num, by rw [hcs.out]⟩
            case measure => simp [intOf]; try omega
        · obtain rfl : j = k := by omega
          rw [hpa.out]
          have hne : (pa1 != pa1) = false := by simp
          go_wp2
          go_round
          case rel => exact ⟨a + 1, by omega, by go_num⟩
          case measure => simp [intOf]; try omega
    · obtain rfl : a = ys.length := by omega
      go_wp2
      generalize wrap64 ((IntKind.u64.wrap kq).tmod ((k : Int) + 1)) = kk at *
      clear hpay hca hcb
      go_loopw [20, 21, 22] (fun o b i wr => ∃ (j : Nat) (lo : List Int) (sb : Bool), j ≤ k ∧ i = .int .i64 (j : Int) ∧ b = .bool sb ∧ Hid (OwnI w5.heap.size 2 wr o lo) ∧ Hid (lo.length = j) ∧ Hid (∀ t, t < j → at0 lo t = at0 ps t ∨ (0 < at0 ps t ∧ at0 lo t = at0 ps t - 1)) ∧ Hid (sb = true → ∃ t, t < j ∧ at0 lo t < at0 ps t) ∧ Hid (Below w5.heap.size w5 wr)) (fun _ _ i _ => k - (intOf i).toNat)
      case atStart => exact ⟨0, [], false, Nat.zero_le _, rfl, rfl, own_nil _ _ _, rfl, (fun t ht => absurd ht (by omega)), (fun h => by cases h), Below.refl _ _⟩
      case round =>
        obtain ⟨j, lo, sb, hj, rfl, rfl, ho, hll, hf1, hf2, hB⟩ := hrel
        by_cases hjl : j < k
        · obtain ⟨b3, o3, rfl, d3⟩ := hcq.out j hjl
          replace d3 := (hB.out.cell (p := ⟨b3, o3 + j, none⟩) (lt_of_cell d3)).trans d3
          have hpj := hpb.out j
          obtain ⟨A9, n9, c9, rfl, hn9⟩ := OwnL.shape ho.out
          have hl1 : lo.length + 1 ≤ 1000000 := by rw [hll.out]; omega
          have hsn : Hid (∀ x, (x = at0 ps j ∨ (0 < at0 ps j ∧ x = at0 ps j - 1)) → (lo ++ [x]).length = j + 1 ∧ (∀ t, t < j + 1 → at0 (lo ++ [x]) t = at0 ps t ∨ (0 < at0 ps t ∧ at0 (lo ++ [x]) t = at0 ps t - 1)) ∧ (sb = true → ∃ t, t < j + 1 ∧ at0 (lo ++ [x]) t < at0 ps t) ∧ (x < at0 ps j → ∃ t, t < j + 1 ∧ at0 (lo ++ [x]) t < at0 ps t)) := fun x hx => by
            have hl := hll.out
            have hlast : at0 (lo ++ [x]) j = x := by
              unfold at0; rw [List.getD_eq_getElem?_getD, List.getElem?_append_right (by omega), hl]; simp
            have hold : ∀ t, t < j → at0 (lo ++ [x]) t = at0 lo t := fun t ht => by
              unfold at0; rw [List.getD_eq_getElem?_getD, List.getElem?_append_left (by omega), List.getD_eq_getElem?_getD]
            refine ⟨by rw [List.length_append, hl]; rfl, fun t ht => ?_, fun h => ?_, fun h => ⟨j, by omega, by rw [hlast]; exact h⟩⟩
            · by_cases e : t = j
              · subst e; rw [hlast]; exact hx
              · rw [hold t (by omega)]; exact hf1.out t (by omega)
            · obtain ⟨t, ht1, ht⟩ := hf2.out h
              exact ⟨t, by omega, by rw [hold t ht1]; exact ht⟩
          generalize at0 ps j = pj at *
          have hcs : ¬ 0 < pj ∨ (0 < pj ∧ (((j : Int) == kk) = true ∨ (((j : Int) == kk) = false ∧ (kk == (k : Int)) = true))) ∨ (0 < pj ∧ ((j : Int) == kk) = false ∧ (kk == (k : Int)) = false) := by
            by_cases hp : 0 < pj
            · cases ((j : Int) == kk) <;> cases (kk == (k : Int)) <;> simp [hp]
            · exact .inl hp
          have hwr : IntKind.i64.wrap (pj - 1) = pj - 1 := IntWalk.i64_in _ (by omega)
          clear hpj
          rcases hcs with hp | ⟨hp, hq⟩ | ⟨hp, hq1, hq2⟩
          · obtain ⟨e1, e2, e3, _⟩ := hsn.out pj (.inl rfl)
            replace e1 := Lib.hid e1
            replace e2 := Lib.hid e2
            replace e3 := Lib.hid e3
            clear hsn
            go_wp2_with (at_builtin; refine wpList_append_int rfl (.tmp 158) (.tmp 160) 27 rfl w5.heap.size 2 Try.underlying27 info2 _ _ rfl rfl ho.out rfl rfl hl1 hB.out.size ?_; intro v' w' h3 h4 _; replace h3 := Lib.hid h3; replace h4 := Lib.hid h4)
            go_roundw
            case rel => exact ⟨j + 1, _, sb, by omega, by go_num, rfl, h3.out, e1.out, e2.out, e3.out, hB.out.trans h4.out⟩
            case measure => simp [intOf]; try omega
          · obtain ⟨e1, e2, _, e3⟩ := hsn.out (pj - 1) (.inr ⟨hp, rfl⟩)
            replace e1 := Lib.hid e1
            replace e2 := Lib.hid e2
            replace e3 := Lib.hid (e3 (by omega))
            clear hsn
            rcases hq with hq | ⟨hq, hq2⟩
            all_goals (
              go_wp2_with (at_builtin; refine wpList_append_int rfl (.tmp 158) (.tmp 160) 27 rfl w5.heap.size 2 Try.underlying27 info2 _ _ rfl rfl ho.out rfl rfl hl1 hB.out.size ?_; intro v' w' h3 h4 _; replace h3 := Lib.hid h3; replace h4 := Lib.hid h4)
              go_roundw
              case rel => exact ⟨j + 1, _, true, by omega, by go_num, rfl, h3.out, e1.out, e2.out, fun _ => e3.out, hB.out.trans h4.out⟩
              case measure => simp [intOf]; try omega)
          · obtain ⟨e1, e2, e3, _⟩ := hsn.out pj (.inl rfl)
            replace e1 := Lib.hid e1
            replace e2 := Lib.hid e2
            replace e3 := Lib.hid e3
            clear hsn
            go_wp2_with (at_builtin; refine wpList_append_int rfl (.tmp 158) (.tmp 160) 27 rfl w5.heap.size 2 Try.underlying27 info2 _ _ rfl rfl ho.out rfl rfl hl1 hB.out.size ?_; intro v' w' h3 h4 _; replace h3 := Lib.hid h3; replace h4 := Lib.hid h4)
            go_roundw
            case rel => exact ⟨j + 1, _, sb, by omega, by go_num, rfl, h3.out, e1.out, e2.out, e3.out, hB.out.trans h4.out⟩
            case measure => simp [intOf]; try omega
        · obtain rfl : j = k := by omega
          have hpr : priced j lo := ⟨hll.out, fun t => by
            by_cases ht : t < j
            · have a := hpb.out t
              rcases hf1.out t ht with e | ⟨e1, e2⟩ <;> omega
            · have h0 : at0 lo t = 0 := by unfold at0; rw [List.getD_eq_getElem?_getD, List.getElem?_eq_none (by have := hll.out; omega)]; rfl
              rw [h0]; exact ⟨by decide, by decide⟩⟩
          have hlw := Lib.hid (hlow.out lo hpr)
          have hcall := Lib.hid (h42.out _ _ _ _ lo (Rows2.below hr1.out (Nat.le_refl _) hB.out) (Ints.below hya.out (Nat.le_refl _) hB.out) (OwnI.ints ho.out) hpr)
          have hres : sb = false ∨ (sb = true ∧ clearsB j ys ls lo = false) := by
            cases hs : sb
            · exact .inl rfl
            · refine .inr ⟨rfl, ?_⟩
              cases hc : clearsB j ys ls lo
              · rfl
              · obtain ⟨t, _, ht⟩ := hf2.out hs
                have := hlw.out hc t
                omega
          obtain ⟨A9, n9, c9, rfl, hn9⟩ := OwnL.shape ho.out
          generalize clearsB j ys ls lo = cb at *
          have hB1' := Lib.hid (bthen hB1.out hB.out)
          clear hlw hlow h42 hpb hf1 hf2
          rcases hres with rfl | ⟨rfl, rfl⟩
          all_goals (
            go_wp2_with (first
              | (go_at_call 42; refine hcall.out.mono ?_; rintro e w8 ⟨rfl, hB8⟩; replace hB8 := Lib.hid (bthen hB1'.out hB8))
              | (go_at_call 17; refine (haw.out _).mono ?_; rintro e w9 ⟨rfl, hB9⟩; replace hB9 := Lib.hid hB9))
            go_ret
            exact ⟨rfl, bthen hB8.out hB9.out⟩)
end Go.Proofs.Ytadonoacmpkolaa
