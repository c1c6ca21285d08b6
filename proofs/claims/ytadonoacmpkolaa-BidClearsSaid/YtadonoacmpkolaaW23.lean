/- tamed. -/
import Derived.Test.YtadonoacmpkolaaM6
import Derived.Test.YtadonoacmpkolaaR1
import Derived.Test.YtadonoacmpkolaaW19
import Derived.Test.YtadonoacmpkolaaW17
namespace Go.Proofs.Ytadonoacmpkolaa
open Go.RowKit
attribute [local go_sem high] walk_shl walk_shr walk_bit walk_rem walk_and walk_or walk_andNot

/-- small offers for single items -/
def smallRow (k : Nat) (r : List Int) : Prop := r.length = k ∧ ∀ i, 0 ≤ at0 r i ∧ at0 r i ≤ 19
theorem single_items {k : Nat} {r : List Int} (h : smallRow k r) : itemsOf k (singleOf r) = r := by
  refine List.ext_getElem (by rw [show (itemsOf k (singleOf r)).length = k from tab_length .., h.1]) fun i h1 h2 => ?_
  have hi : i < k := by rw [← h.1]; exact h2
  have hp := p2_lt hi
  have e1 : at0 (itemsOf k (singleOf r)) i = sglUpto r (p2 i) k := by
    unfold itemsOf
    rw [at0_tab, if_pos hi]
    unfold singleOf
    rw [h.1, at0_tab, if_pos hp]
  rw [← at0_eq h1, ← at0_eq h2, e1]
  have hb : ∀ j, bitOf (p2 i) j = if i = j then 1 else 0 := fun j => by
    rw [testBit_bitOf, testBit_p2]; by_cases e : i = j <;> simp [e]
  obtain ⟨a, b, c⟩ := sgl_spec r (p2 i) (fun j => (h.2 j).1) k
  have b1 := b i hi (by rw [hb, if_pos rfl])
  have := (h.2 i).1
  rcases c with c | ⟨j, _, c2, c3⟩
  · omega
  · rw [hb] at c2
    have : i = j := by
      by_cases e : i = j
      · exact e
      · rw [if_neg e] at c2; cases c2
    rw [c3, this]
theorem single_small {k : Nat} {r : List Int} (h : smallRow k r) : isBidB k (singleOf r) = true ∧ singleB k (singleOf r) = true := by
  have hl : (singleOf r).length = p2 k := by unfold singleOf; rw [tab_length, h.1]
  have hat : ∀ s, s < p2 k → at0 (singleOf r) s = sglUpto r s k := fun s hs => by unfold singleOf; rw [h.1, at0_tab, if_pos hs]
  have hsp := fun s => sgl_spec r s (fun j => (h.2 j).1) k
  refine ⟨isBidB_yes hl ?_ fun s hs => ?_, by unfold singleB; rw [single_items h]; simp⟩
  · rw [hat 0 (p2_pos k)]
    rcases (hsp 0).2.2 with e | ⟨j, _, e, _⟩
    · exact e
    · unfold bitOf at e; simp at e
  · rw [hl] at hs
    have hub : ∀ t, sglUpto r t k ≤ 19 := fun t => by
      rcases (hsp t).2.2 with e | ⟨j, _, _, e⟩
      · rw [e]; decide
      · rw [e]; exact (h.2 j).2
    refine offOk_yes (by rw [hat s hs]; exact (hsp s).1) (by rw [hat s hs]; have := hub s; omega) fun i hi hh => ?_
    have hlt := andN_lt hh.1
    have h2 := hh.2
    rw [hat s hs, hat _ (by omega)] at h2
    rcases (hsp (andN s (p2 i))).2.2 with e | ⟨j, hj, e1, e2⟩
    · have := (hsp s).1; omega
    · have hb : bitOf s j = 1 := by
        have := bit_tb.1 e1
        rw [testBit_andN] at this
        simp only [Bool.and_eq_true] at this
        exact bit_tb.2 this.1
      have := (hsp s).2.1 j hj hb
      omega

theorem items5 (x : Int) : ∃ k : Nat, 1 ≤ k ∧ k ≤ 5 ∧ wrap64 (1 + wrap64 ((IntKind.u64.wrap x).tmod 5)) = (k : Int) := by
  have h0 : 0 ≤ IntKind.u64.wrap x := by simp [IntKind.wrap, IntKind.signed, IntKind.bits]; omega
  have h1 : (IntKind.u64.wrap x).tmod 5 = IntKind.u64.wrap x % 5 := Int.tmod_eq_emod_of_nonneg h0
  rw [h1]
  generalize IntKind.u64.wrap x = y at *
  refine ⟨(1 + y % 5).toNat, by omega, by omega, ?_⟩
  unfold wrap64
  omega
theorem num20 (x : Int) : 0 ≤ wrap64 ((IntKind.u64.wrap x).tmod 20) ∧ wrap64 ((IntKind.u64.wrap x).tmod 20) ≤ 19 := by
  have h0 : 0 ≤ IntKind.u64.wrap x := by simp [IntKind.wrap, IntKind.signed, IntKind.bits]; omega
  have h1 : (IntKind.u64.wrap x).tmod 20 = IntKind.u64.wrap x % 20 := Int.tmod_eq_emod_of_nonneg h0
  rw [h1]
  generalize IntKind.u64.wrap x = y at *
  unfold wrap64
  omega

/-- single bids of a few items -/
structure SBids (k : Nat) (ys : List (List Int)) : Prop where
  bids : Bids k ys
  all : ys.all (singleB k) = true
  k5 : k ≤ 5
  n5 : ys.length ≤ 5
theorem SBids.sgl {k : Nat} {ys : List (List Int)} (h : SBids k ys) : SglAll k ys := fun b hb => sgl_of (List.all_eq_true.1 h.all b hb) (h.bids.all b hb)

set_option maxRecDepth 100000 in
set_option maxHeartbeats 1600000 in
theorem tamed_any (w : World) (v : Value) (xs : List (List Int)) (m : Int) (h : Rows2 w v xs) :
    Calls Try.prog 22 #[.int .i64 m, v] w fun e w' => ∃ (v' : Value) (k : Nat) (ys : List (List Int)), e = .returned (.tuple #[.int .i64 (k : Int), v']) ∧ SBids k ys ∧ Rows2 w' v' ys ∧ Below w.heap.size w w' := by
  obtain ⟨K, hK1, hK5, hK⟩ := items5 m
  obtain ⟨A, cap, rfl, hl, hcap, hn, hat⟩ := h.open
  replace hat := Lib.hid hat
  clear hn h
  unfold maxLen at hcap
  go_enter Try.func22, Try.ntmps22
  go_wp2
  rw [hK]
  replace hK := Lib.hid hK
  obtain ⟨L, hL⟩ : ∃ L : Nat, Hid ((xs.length = 0 ∧ L = 1) ∨ (1 ≤ xs.length ∧ L = xs.length)) := by
    by_cases e : xs.length = 0
    · exact ⟨1, .inl ⟨e, rfl⟩⟩
    · exact ⟨xs.length, .inr ⟨by omega, rfl⟩⟩
  go_loopw [6, 7] (fun o i wr => ∃ (j : Nat) (rs : List (List Int)), j ≤ 5 ∧ j ≤ L ∧ i = .int .i64 (j : Int) ∧ Hid (OwnRows w.heap.size 27 wr o rs) ∧ Hid (rs.length = j) ∧ Hid (∀ r ∈ rs, smallRow K r) ∧ Hid (Below w.heap.size w wr)) (fun _ i _ => 5 - (intOf i).toNat)
  case atStart => exact ⟨0, [], by omega, by omega, rfl, own_nil _ _ _, rfl, (fun r hr => by cases hr), Below.refl _ _⟩
  case round =>
    obtain ⟨j, rs, hj5, hjL, rfl, ho, hrl, hsm, hB⟩ := hrel
    obtain ⟨A9, n9, c9, rfl, hn9⟩ := OwnL.shape ho.out
    have hcs : (((¬ (1 : Int) < (xs.length : Int) ∧ (j : Int) < 1) ∨ ((1 : Int) < (xs.length : Int) ∧ (j : Int) < (xs.length : Int))) ∧ (j : Int) < (xs.length : Int) ∧ (j : Int) < 5) ∨
        (¬ (1 : Int) < (xs.length : Int) ∧ (j : Int) < 1 ∧ ¬ (j : Int) < (xs.length : Int) ∧ (j : Int) < 5) ∨
        ((¬ (1 : Int) < (xs.length : Int) ∧ ¬ (j : Int) < 1) ∨ ((1 : Int) < (xs.length : Int) ∧ ¬ (j : Int) < (xs.length : Int)) ∨ ((1 : Int) < (xs.length : Int) ∧ (j : Int) < (xs.length : Int) ∧ ¬ (j : Int) < 5)) ∧ 1 ≤ j := by
      have := hL.out
      omega
    have hjL' : (j : Int) < (xs.length : Int) ∨ xs.length = 0 → (j : Int) < 5 → ((1 : Int) < (xs.length : Int) ∨ (j : Int) < 1) → j + 1 ≤ L := by
      have := hL.out
      omega
    have hl9 : rs.length + 1 ≤ 1000000 := by rw [hrl.out]; omega
    rcases hcs with ⟨hmx, hjx, hj5'⟩ | ⟨hmx, hj1, hjx, hj5'⟩ | ⟨hmx, hj1⟩
    · have hjL2 := hjL' (.inl hjx) hj5' (by omega)
      clear hjL'
      obtain ⟨b1, o1, A1, cap1, rfl, hc1, hi1⟩ := hat.out j (by omega)
      obtain ⟨A2, cap2, e2, hl2, hcap2, _, hat2⟩ := hi1.open
      cases e2
      replace hat2 := Lib.hid hat2
      unfold maxLen at hcap2
      clear hi1
      generalize rowAt xs j = l at *
      obtain ⟨wo, rfl⟩ : ∃ wo : World, wo = wr := ⟨_, rfl⟩
      rcases hmx with ⟨hm1, hm2⟩ | ⟨hm1, hm2⟩
      all_goals (
        go_wp2_with (at_make; refine wpList_make_ints rfl _ _ 27 rfl wo.heap.size 2 Try.underlying27 info2 K rfl rfl (by omega) (Nat.le_refl _) _ rfl ?_; intro w1 hT hg hsz; replace hT := Lib.hid hT; replace hg := Lib.hid hg)
        go_loopw [9] (fun i W => ∃ (t : Nat) (f : Nat → Int), t ≤ K ∧ i = .int .i64 (t : Int) ∧ Hid (OwnT wo.heap.size 2 W wo.heap.size K K f) ∧ Hid (∀ s, 0 ≤ f s ∧ f s ≤ 19) ∧ Hid (Below wo.heap.size wo W)) (fun i _ => K - (intOf i).toNat)
        case atStart => exact ⟨0, _, by omega, rfl, hT.out, (fun s => ⟨Int.le_refl _, (by decide : (0 : Int) ≤ 19)⟩), hg.out⟩
        case round =>
          clear hT hg hsz
          obtain ⟨t, f, ht, rfl, hT, hf, hg⟩ := hrel
          have htc : ((t : Int) < (K : Int) ∧ (t : Int) < (l.length : Int)) ∨ ((t : Int) < (K : Int) ∧ ¬ (t : Int) < (l.length : Int)) ∨ ¬ (t : Int) < (K : Int) := by omega
          have hBB := Lib.hid (hB.out.trans (hg.out.mono hB.out.size))
          have hd1 : wr.cell? ⟨b1, o1 + j, none⟩ = some (.slice A1 l.length cap1) := by
            rw [hBB.out.cell (p := ⟨b1, o1 + j, none⟩) (lt_of_cell hc1)]; exact hc1
          rcases htc with ⟨h1, h2⟩ | h3
          · obtain ⟨b2, o2, rfl, hc2⟩ := hat2.out t (by omega)
            have hd2 : wr.cell? ⟨b2, o2 + t, none⟩ = some (.int .i64 (at0 l t)) := by
              rw [hBB.out.cell (p := ⟨b2, o2 + t, none⟩) (lt_of_cell hc2)]; exact hc2
            have hd3 : wr.cell? ⟨wo.heap.size, t, none⟩ = some (.int .i64 (f t)) := hT.out.at t (by omega)
            have hf3 := hT.out.free t (by omega)
            have hst := Lib.hid (fun x => hT.out.set t x)
            have hBs := Lib.hid (fun x => hg.out.setCell (p := ⟨wo.heap.size, t, none⟩) (Nat.le_refl _) x)
            have hx20 := Lib.hid (num20 (at0 l t))
            have hfu : Hid (∀ x, 0 ≤ x ∧ x ≤ 19 → ∀ s, 0 ≤ upd f t x s ∧ upd f t x s ≤ 19) := fun x hx s => by unfold upd; split; exact hx; exact hf.out s
            clear hT hg hc2
            go_wp2
            go_roundw
            case rel => exact ⟨t + 1, _, by omega, by go_num, hst.out _, hfu.out _ hx20.out, hBs.out _⟩
            case measure => simp [intOf]; try omega
          · have hrow : Hid (OwnI wo.heap.size 2 wr (.slice (some ⟨wo.heap.size, 0, none⟩) K K) (tab K f)) := hT.out
            have hsr : Hid (smallRow K (tab K f)) := ⟨tab_length .., fun s => by rw [at0_tab]; split; exact hf.out s; exact ⟨by decide, by decide⟩⟩
            rcases h3 with ⟨h1, h2⟩ | h1
            all_goals (
              go_wp2_with (at_builtin; refine wpList_append_row rfl (.tmp 61) (.tmp 63) 22 rfl w.heap.size 27 Try.underlying22 info27 _ _ rfl rfl (OwnRows.below ho.out (Nat.le_refl _) hg.out) rfl rfl (OwnL.slc hrow.out) (OwnL.apart ho.out) hl9 (Nat.le_trans hB.out.size hg.out.size) ?_; intro v' w' h3 h4 h5; replace h3 := Lib.hid h3; replace h4 := Lib.hid h4; clear h5)
              go_roundw
              case rel => exact ⟨j + 1, _, by omega, by omega, by go_num, h3.out, by show _ = _; rw [List.length_append, hrl.out]; rfl, (fun r hr => by
                rcases List.mem_append.1 hr with hr | hr
                · exact hsm.out r hr
                · rw [List.mem_singleton.1 hr]; exact hsr.out), (hB.out.trans (hg.out.mono hB.out.size)).trans h4.out⟩
              case measure => simp [intOf]; try omega))
    · have hjL2 := hjL' (.inr (by omega)) hj5' (by omega)
      clear hjL'
      obtain ⟨wo, rfl⟩ : ∃ wo : World, wo = wr := ⟨_, rfl⟩
      go_wp2_with (at_make; refine wpList_make_ints rfl _ _ 27 rfl wo.heap.size 2 Try.underlying27 info2 K rfl rfl (by omega) (Nat.le_refl _) _ rfl ?_; intro w1 hT hg hsz; replace hT := Lib.hid hT; replace hg := Lib.hid hg)
      go_loop [9] (fun i => i = .int .i64 0) (fun _ => 0)
      case atStart => rfl
      case round =>
        subst hrel
        have hrow : Hid (OwnI wo.heap.size 2 w1 (.slice (some ⟨wo.heap.size, 0, none⟩) K K) (tab K fun _ => 0)) := hT.out
        have hsr : Hid (smallRow K (tab K fun _ => 0)) := ⟨tab_length .., fun s => by rw [at0_tab]; split <;> exact ⟨by decide, by decide⟩⟩
        have hK0 : (0 : Int) < (K : Int) := by omega
        go_wp2_with (at_builtin; refine wpList_append_row rfl (.tmp 61) (.tmp 63) 22 rfl w.heap.size 27 Try.underlying22 info27 _ _ rfl rfl (OwnRows.below ho.out (Nat.le_refl _) hg.out) rfl rfl (OwnL.slc hrow.out) (OwnL.apart ho.out) hl9 (Nat.le_trans hB.out.size hg.out.size) ?_; intro v' w' h3 h4 h5; replace h3 := Lib.hid h3; replace h4 := Lib.hid h4; clear h5)
        go_roundw
        case rel => exact ⟨j + 1, _, by omega, by omega, by go_num, h3.out, by show _ = _; rw [List.length_append, hrl.out]; rfl, (fun r hr => by
          rcases List.mem_append.1 hr with hr | hr
          · exact hsm.out r hr
          · rw [List.mem_singleton.1 hr]; exact hsr.out), (hB.out.trans (hg.out.mono hB.out.size)).trans h4.out⟩
        case measure => simp [intOf]; try omega
    · clear hjL'
      have hcall := Lib.hid (rsingle_any wr _ rs K (OwnRows.rows ho.out) (by omega) (by rw [hrl.out]; omega) (fun i hi => by rw [rowAt_eq hi]; exact (hsm.out _ (List.getElem_mem hi)).1))
      have hsb : Hid (SBids K (rs.map singleOf)) := by
        refine ⟨⟨hK1, by omega, by rw [List.length_map, hrl.out]; exact hj1, by rw [List.length_map, hrl.out]; omega, fun l hl => ?_⟩, List.all_eq_true.2 fun l hl => ?_, hK5, by rw [List.length_map, hrl.out]; exact hj5⟩
        · obtain ⟨r, hr, rfl⟩ := List.mem_map.1 hl
          exact (single_small (hsm.out r hr)).1
        · obtain ⟨r, hr, rfl⟩ := List.mem_map.1 hl
          exact (single_small (hsm.out r hr)).2
      rcases hmx with ⟨h1, h2⟩ | ⟨h1, h2⟩ | ⟨h1, h2, h3⟩
      all_goals (
        go_wp2_with (go_at_call 15; refine hcall.out.mono ?_; rintro e w5 ⟨v5, rfl, ho5, hB5⟩; obtain ⟨A5, n5, c5, rfl, _⟩ := OwnL.shape ho5; replace ho5 := Lib.hid ho5; replace hB5 := Lib.hid hB5)
        go_ret2
        first
          | exact ⟨_, K, rfl, _, hsb.out, OwnRows.rows ho5.out, bthen hB.out hB5.out⟩
          | exact ⟨_, K, _, rfl, hsb.out, OwnRows.rows ho5.out, bthen hB.out hB5.out⟩)
end Go.Proofs.Ytadonoacmpkolaa
