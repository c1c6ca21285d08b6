/- BidWorth: the walk. -/
import Derived.Test.YtadonoacmpkolaaM5
import Derived.Test.YtadonoacmpkolaaOwnF
import Derived.Test.YtadonoacmpkolaaL7
import Derived.Test.YtadonoacmpkolaaW20
namespace Go.Proofs.Ytadonoacmpkolaa
open Go.RowKit

theorem FR.set {lo : Nat} {w : World} {v : Value} {b0 n0 c0 : Nat} {row : List Int} {L : List (Nat × List Int)} (h : FR lo w v b0 n0 c0 row L) (hl : row.length = n0) (i : Nat) (x : Int) :
    FR lo (w.setCell ⟨b0, i, none⟩ (.int .i64 x)) v b0 n0 c0 (row.set i x) L := by
  obtain ⟨ha, hne, ho⟩ := h
  have hg := (OwnI.set (xs := row) (by rw [hl]; exact ha) i x).2
  refine ⟨OwnI.setN ha hl i x, hne, ?_⟩
  have hk := OwnL.kept ho hg (.inr hne)
  exact OwnL.imp hk fun c y _ hc => ⟨hc.1, fun hx => Slc.keep (hc.2 hx) (fun b hb hlt => ⟨hb, hg.block b hlt fun e => by injection e with e; exact hb.2 e⟩) fun _ _ _ h => h⟩
theorem FR.rows {lo : Nat} {w : World} {v : Value} {b0 n0 c0 : Nat} {row : List Int} {n : Nat} {f : Nat → List Int} (h : FR lo w v b0 n0 c0 row (tab n fun i => (i, f i))) :
    Rows2 w v (tab n fun i => if i = 0 then row else f i) := by
  obtain ⟨ha, _, ho⟩ := h
  obtain ⟨A, cap, rfl, hl, hm, hn, hat⟩ := OwnL.slc ho
  rw [tab_length] at hl
  refine ⟨A, cap, by rw [tab_length, tab_length], by rw [tab_length]; exact hl, hm, hn, fun i hi => ?_⟩
  rw [tab_length] at hi
  obtain ⟨b, off, c, e1, _, e3, e4⟩ := hat i (by rw [tab_length]; exact hi)
  rw [tab_get] at e4
  refine ⟨b, off, c, e1, trivial, e3, ?_⟩
  rw [tab_get]
  by_cases h0 : i = 0
  · rw [if_pos h0, e4.1 h0]; exact OwnI.ints ha
  · rw [if_neg h0]; exact Slc.keep (e4.2 h0) (fun _ _ _ => ⟨trivial, rfl⟩) fun _ _ _ h => h
theorem FR.cell0 {lo : Nat} {w : World} {v : Value} {b0 n0 c0 : Nat} {row : List Int} {n : Nat} {f : Nat → List Int} (h : FR lo w v b0 n0 c0 row (tab n fun i => (i, f i))) (hn : 0 < n) :
    ∃ g cap, v = .slice (some ⟨g, 0, none⟩) n cap ∧ cap ≤ 2 ^ 63 - 1 ∧ n ≤ cap ∧ w.cell? ⟨g, 0, none⟩ = some (.slice (some ⟨b0, 0, none⟩) n0 c0) ∧ g ≠ b0 := by
  obtain ⟨_, hne, ho⟩ := h
  obtain ⟨g, cap, rfl, _, _, h1, h2, h3, _⟩ := OwnL.open ho (by rw [tab_length]; exact hn)
  obtain ⟨c, hc, hR⟩ := h3 0 (by rw [tab_length]; exact hn)
  rw [tab_get] at hR
  rw [hR.1 rfl] at hc
  rw [tab_length] at h1
  refine ⟨g, cap, by rw [tab_length], h2, h1, hc, fun e => hne ?_⟩
  rw [e]; rfl
theorem tab_self (xs : List (List Int)) (x : List Int) : tab xs.length (fun i => if i = 0 then x else rowAt xs i) = xs.set 0 x := by
  refine List.ext_getElem (by rw [tab_length, List.length_set]) fun i h1 h2 => ?_
  rw [tab_get, List.getElem_set]
  rw [tab_length] at h1
  by_cases e : i = 0
  · subst e; simp
  · rw [if_neg e, if_neg (fun h => e h.symm), rowAt_eq h1]
theorem tab_rows (b : List Int) (N : Nat) (h : b.length = N) : tab N (hiF b 1) = b := by
  refine List.ext_getElem (by rw [tab_length, h]) fun i h1 h2 => ?_
  rw [tab_get]
  unfold hiF
  by_cases e : i = 0
  · subst e; rw [if_pos rfl, at0_eq h2]
  · rw [if_neg e, if_neg (by omega), at0_eq h2]
theorem hiF_step (b : List Int) (N t : Nat) (h1 : 1 ≤ t) : (tab N (hiF b t)).set t (at0 b t + 3) = tab N (hiF b (t + 1)) := by
  rw [tab_set]
  refine tab_congr fun i _ => ?_
  unfold upd hiF
  by_cases e : i = t
  · subst e; rw [if_pos rfl, if_neg (by omega), if_pos (by omega)]
  · rw [if_neg e]
    by_cases e0 : i = 0
    · rw [if_pos e0, if_pos e0]
    · rw [if_neg e0, if_neg e0]
      by_cases c : i < t
      · rw [if_pos c, if_pos (by omega)]
      · rw [if_neg c, if_neg (by omega)]

set_option maxRecDepth 1000000 in
set_option maxHeartbeats 3000000 in
theorem BidWorth_walk (w : World) (m : Int) (v : Value) (xs : List (List Int)) (u : Value) (of : List Int) (_ : -9223372036854775808 ≤ m ∧ m ≤ 9223372036854775807) (h : Rows2 w v xs) (hu : Ints w u of) :
    Calls Try.prog 9 #[.int .i64 m, v, u] w fun e w' => e = .returned (.bool true) ∧ Below w.heap.size w w' := by
  have ht := Lib.hid (tame_any w v xs m h)
  clear h
  have haw := Lib.hid awake_any
  have hof := Lib.hid (fun W (hB : Below w.heap.size w W) (k : Nat) h1 h6 => offer_any W u of k (Ints.below hu (Nat.le_refl _) hB) h1 h6)
  clear hu
  go_enter Try.func9, Try.ntmps9
  go_wp2_with (first
    | (go_at_call 21; refine ht.out.mono ?_; rintro e w1 ⟨v1, k, ys, rfl, hk1, hk4, hoy, hy1, hy4, hT, hB1⟩; have hE := hT.bids hk1 (by omega) hy1 (by omega); have hr1 := OwnRows.rows hoy; obtain ⟨A1, c1, rfl, hlc1, hcm1, _, _⟩ := Rows2.open hr1; unfold maxLen at hcm1; replace hE := Lib.hid hE; replace hr1 := Lib.hid hr1; replace hB1 := Lib.hid hB1; replace hT := Lib.hid hT; clear hoy)
    | (go_at_call 23; refine (Best_ok _ _ ys k hr1.out hE.out).mono ?_; rintro e w2 ⟨v2, rfl, hoa, hB2⟩; have hya := Lib.hid (OwnI.ints hoa); replace hr1 := Lib.hid (hr1.out.then hB2); replace hB2 := Lib.hid (bthen hB1.out hB2); obtain ⟨A2, c2, rfl, hlc2, hcm2, _, _⟩ := (OwnI.ints hoa).open; rw [List.length_map, alloc_length] at hlc2 ⊢; rw [List.length_map, alloc_length] at hya; unfold maxLen at hcm2; clear hoa))
  clear ht hB1
  have hcells : Hid (∀ i, i < ys.length → ∃ b1 o1 b4 o4 cap1 b5 o5, A1 = some ⟨b1, o1, none⟩ ∧ A2 = some ⟨b5, o5, none⟩ ∧ cap1 ≤ 2 ^ 63 - 1 ∧ p2 k ≤ cap1 ∧ w2.cell? ⟨b1, o1 + i, none⟩ = some (.slice (some ⟨b4, o4, none⟩) (p2 k) cap1) ∧
      w2.cell? ⟨b4, o4 + natAt (alloc ys (p2 k - 1)) i, none⟩ = some (.int .i64 (at0 (ownsOf k ys) i)) ∧ w2.cell? ⟨b5, o5 + i, none⟩ = some (.int .i64 ((natAt (alloc ys (p2 k - 1)) i : Nat) : Int)) ∧ natAt (alloc ys (p2 k - 1)) i < p2 k) := fun i hi => by
    obtain ⟨A1', c1', e1, _, _, _, hatr⟩ := hr1.out.open
    cases e1
    obtain ⟨b1, o1, A9, cap2, e1, hc1, hi1⟩ := hatr i hi
    have hrj := (hE.out.row i hi).1
    obtain ⟨A4, cap4, e4, hl4, hcap4, _, hat4⟩ := hi1.open
    cases e4
    obtain ⟨b4, o4, rfl, hc4⟩ := hat4 (natAt (alloc ys (p2 k - 1)) i) (by rw [hrj]; exact natAt_lt' ys i)
    have hya' : Ints w2 (.slice A2 ys.length c2) (casts (alloc ys (p2 k - 1))) := hya.out
    obtain ⟨A5', c5', e5', _, _, _, hata⟩ := hya'.open
    rw [casts_length, alloc_length] at e5' hata
    cases e5'
    obtain ⟨b5, o5, e5, hc5⟩ := hata i hi
    rw [at0_casts] at hc5
    rw [← at0_owns k ys i hi] at hc4
    rw [hrj] at hc1 hl4
    exact ⟨b1, o1, b4, o4, cap2, b5, o5, e1, e5, hcap4, hl4, hc1, hc4, hc5, natAt_lt' ys i⟩
  clear hya
  have mixed : Try.prog.follows .mixedOrders = true := by kernel_rfl
  replace mixed := Lib.hid mixed
  have hol := ownsOf_length k ys
  have hfull : Hid (tab ys.length (fun i => at0 (ownsOf k ys) i) = ownsOf k ys) := by
    show _ = _
    refine List.ext_getElem (by rw [tab_length, hol]) fun i h1 h2 => ?_
    rw [tab_get, at0_eq h2]
  have hcore := Lib.hid (core_owns hE.out)
  have hkb : 0 ≤ wts ys (p2 k - 1) ∧ wts ys (p2 k - 1) ≤ 6000000 := by
    have := wts_bounds ys (fun b hb s => (hE.out.ok b hb).2 s) (p2 k - 1)
    have h6 : (ys.length : Int) ≤ 4 := by omega
    omega
  go_wp2
  go_loopw [11, 12] (fun o i wr => ∃ j : Nat, j ≤ ys.length ∧ i = .int .i64 (j : Int) ∧ Hid (OwnI w2.heap.size 2 wr o (tab j fun i => at0 (ownsOf k ys) i)) ∧ Hid (Below w2.heap.size w2 wr)) (fun _ i _ => ys.length - (intOf i).toNat)
  case atStart => exact ⟨0, Nat.zero_le _, rfl, own_nil _ _ _, Below.refl _ _⟩
  case round =>
    obtain ⟨j, hj, rfl, ho, hB⟩ := hrel
    by_cases hjl : j < ys.length
    · obtain ⟨b1, o1, b4, o4, cap1, b5, o5, rfl, rfl, hq1, hq2, hc1, hc4, hc5, hnj⟩ := hcells.out j hjl
      replace hc1 := (hB.out.cell (p := ⟨b1, o1 + j, none⟩) (lt_of_cell hc1)).trans hc1
      replace hc4 := (hB.out.cell (p := ⟨b4, o4 + natAt (alloc ys (p2 k - 1)) j, none⟩) (lt_of_cell hc4)).trans hc4
      replace hc5 := (hB.out.cell (p := ⟨b5, o5 + j, none⟩) (lt_of_cell hc5)).trans hc5
      have hts : Hid (tab (j + 1) (fun i => at0 (ownsOf k ys) i) = tab j (fun i => at0 (ownsOf k ys) i) ++ [at0 (ownsOf k ys) j]) := tab_succ ..
      obtain ⟨Aa, na, ca, rfl, _⟩ := OwnL.shape ho.out
      have hl1 : (tab j fun i => at0 (ownsOf k ys) i).length + 1 ≤ 1000000 := by rw [tab_length]; omega
      generalize natAt (alloc ys (p2 k - 1)) j = nj at *
      generalize at0 (ownsOf k ys) j = ow at *
      have ho6 : Hid (OwnI w2.heap.size 2 wr.drew (.slice Aa na ca) (tab j fun i => at0 (ownsOf k ys) i)) := OwnL.drewN ho.out 1
      have hB6 : Hid (Below w2.heap.size w2 wr.drew) := below_drewN hB.out 1
      have mixed := mixed.out
      go_wp2_with fail
      go_region_law_o
        (first
          | (refine step_append_int rfl (.tmp 52) (.tmp 63) 27 (by rfl) w2.heap.size 2 Try.underlying27 info2 _ _ rfl rfl ho6.out rfl rfl hl1 hB6.out.size ?_; intro v' w' h3 h4 _; replace h3 := Lib.hid h3; replace h4 := Lib.hid h4))
      all_goals
        go_wp2
        go_roundw
        case rel => exact ⟨j + 1, by omega, by go_num, by rw [hts.out]; exact h3.out, hB6.out.trans h4.out⟩
        case measure => simp [intOf]; try omega
    · obtain rfl : j = ys.length := by omega
      rw [hfull.out] at ho
      obtain ⟨Ap, np, cp, rfl, hnp⟩ := OwnL.shape ho.out
      have hrl : Hid (∀ i, i < ys.length → (rowAt ys i).length = p2 k) := fun i hi => (hE.out.row i hi).1
      have h64 : p2 k ≤ 64 := p2_le64 (by omega)
      have hN2 : 2 ≤ p2 k := by have := p2_le hk1; simpa [p2] using this
      have hcut : ∀ i, i < ys.length → cut ys i = rowAt ys i := fun i hi => by
        unfold cut
        exact List.take_of_length_le (by rw [hrl.out i hi]; omega)
      have hself : (ys.take 7).map (·.take 65) = ys := by
        rw [List.take_of_length_le (by omega)]
        refine List.ext_getElem (by simp) fun i h1 h2 => ?_
        have := hcut i h2
        unfold cut at this
        rw [rowAt_eq h2] at this
        simpa using this
      have hown : Hid (∀ W V, Rows2 W V ys → Calls Try.prog 13 #[V] W fun e w' => ∃ v', e = .returned v' ∧ OwnRows W.heap.size 27 w' v' ys ∧ Below W.heap.size W w') := fun W V hV => by
        have := own_any W V ys hV
        rwa [hself] at this
      have hoF : Hid (∀ W V, Rows2 W V ys → Calls Try.prog 13 #[V] W fun e w' => ∃ v' b0 n0 c0, e = .returned v' ∧ FR W.heap.size w' v' b0 n0 c0 (rowAt ys 0) (tab ys.length fun i => (i, rowAt ys i)) ∧ Below W.heap.size W w') := fun W V hV => by
        have := own_first W V ys hV hy1 (by omega) (by rw [hrl.out 0 (by omega)]; omega)
        rwa [hcut 0 (by omega), tab_congr (fun i hi => by show (i, cut ys i) = (i, rowAt ys i); rw [hcut i hi] : ∀ i, i < ys.length → (fun i => (i, cut ys i)) i = (fun i => (i, rowAt ys i)) i)] at this
      have hic := Lib.hid (fun W V U hV hU => IsCore_ok W V U ys (ownsOf k ys) k hV hU hE.out (ownsOf_length k ys))
      rw [hcore.out] at hic
      have hbm : Hid (∀ (o : List Int), offd k o → ∀ W V, Rows2 W V (ys ++ [o]) → Calls Try.prog 23 #[.int .i64 (k : Int), V] W fun e w' => ∃ A n c V1, e = .returned (.tuple #[.int .i64 V1, .slice A n c, .int .i64 0]) ∧ wts ys (p2 k - 1) ≤ V1 ∧ Below W.heap.size W w') := fun o hoo W V hV => by
        have hEm : Bids k (ys ++ [o]) := ⟨hk1, by omega, by simp, by simp; omega, fun l hl => by
          rcases List.mem_append.1 hl with h1 | h1
          · exact hE.out.all l h1
          · rw [List.mem_singleton.1 h1]; exact hoo.1⟩
        refine (Best_ok W V _ k hV hEm).mono ?_
        rintro e w' ⟨v', rfl, hov, hB'⟩
        obtain ⟨A, n, c, rfl, _⟩ := OwnL.shape hov
        exact ⟨A, n, c, _, rfl, wts_snoc ys o _ hE.out.pos fun s => ((isBidB_ok hoo.1).2 s).1, hB'⟩
      have hrow0 : rowAt ys 0 ∈ ys := by rw [rowAt_eq (by omega)]; exact List.getElem_mem _
      have hbh : Hid (∀ W V, Rows2 W V (ys.set 0 (hiRow k (rowAt ys 0))) → Calls Try.prog 23 #[.int .i64 (k : Int), V] W fun e w' => ∃ A n c V1, e = .returned (.tuple #[.int .i64 V1, .slice A n c, .int .i64 0]) ∧ wts ys (p2 k - 1) ≤ V1 ∧ V1 ≤ wts ys (p2 k - 1) + 3 ∧ Below W.heap.size W w') := fun W V hV => by
        have hb1 := hiRow_bid (hT.out _ hrow0)
        have hEh := hE.out.set 0 hb1
        refine (Best_ok W V _ k hV hEh).mono ?_
        rintro e w' ⟨v', rfl, hov, hB'⟩
        obtain ⟨A, n, c, rfl, _⟩ := OwnL.shape hov
        have hsp : ∃ bs, ys = rowAt ys 0 :: bs := by
          cases hys : ys with
          | nil => rw [hys] at hy1; simp at hy1
          | cons b bs => exact ⟨bs, rfl⟩
        obtain ⟨bs, hbs⟩ := hsp
        have e1 : ys.set 0 (hiRow k (rowAt ys 0)) = hiRow k (rowAt ys 0) :: bs := by
          generalize rowAt ys 0 = r at *
          rw [hbs]; rfl
        have hp : Pos (rowAt ys 0 :: bs) := by rw [← hbs]; exact hE.out.pos
        have := wts_high hp (hiRow_at (hrl.out 0 (by omega))) (p2 k - 1)
        rw [← hbs, ← e1] at this
        exact ⟨A, n, c, _, rfl, this.1, this.2, hB'⟩
      have hr3 := Lib.hid (Rows2.below hr1.out (Nat.le_refl _) hB.out)
      have hB3 := Lib.hid (bthen hB2.out hB.out)
      have hpi := Lib.hid (OwnI.ints ho.out)
      have hly : ys.length + 1 ≤ 1000000 := by omega
      clear hcells hfull hcore hself hcut hol ho hB hr1 hB2
      generalize wts ys (p2 k - 1) = W0 at *
      go_wp2_with (first
        | (go_at_call 39; refine (hic.out _ _ _ hr3.out hpi.out).mono ?_; rintro e w5 ⟨rfl, hB5⟩; have hr5 := Lib.hid (hr3.out.then hB5); replace hB3 := Lib.hid (bthen hB3.out hB5))
        | (go_at_call 13; have hx := h3; refine (hoF.out _ _ (Rows2.below hr5.out (Nat.le_refl _) hC.out)).mono ?_; rintro e w9 ⟨v9, b0, n0, c0, rfl, hF, hB9⟩; obtain ⟨g9, d9, rfl, hd9, hn9, hcell9, hg9⟩ := hF.cell0 (by omega); replace hF := Lib.hid hF; replace hB9 := Lib.hid hB9)
        | (go_at_call 13; refine (hown.out _ _ hr5.out).mono ?_; rintro e w6 ⟨v6, rfl, ho6, hB6⟩; obtain ⟨A6, n6, c6, rfl, hn6⟩ := OwnL.shape ho6; replace ho6 := Lib.hid ho6; have hC := Lib.hid hB6)
        | (go_at_call 38; refine (hof.out _ (bthen hB3.out hC.out) k hk1 (by omega)).mono ?_; rintro e w7 ⟨v7, o7, rfl, ho7, hof7, hB7⟩; obtain ⟨A7, n7, c7, rfl, hn7⟩ := OwnL.shape ho7; replace ho7 := Lib.hid ho7; replace hC := Lib.hid (bthen hC.out hB7); have ho67 := Lib.hid (OwnRows.below ho6.out (Nat.le_refl _) hB7); replace hof7 := Lib.hid hof7)
        | (at_builtin; refine wpList_append_row rfl (.tmp 73) (.tmp 77) 22 rfl w5.heap.size 27 Try.underlying22 info27 _ _ rfl rfl ho67.out rfl rfl (OwnL.slc ho7.out) (OwnL.apart ho6.out) hly hC.out.size ?_; intro v8 w8 h3 h4 h5; clear h5; obtain ⟨A8, n8, c8, rfl, hn8⟩ := OwnL.shape h3; replace hC := Lib.hid (hC.out.trans h4); replace h3 := Lib.hid (OwnRows.rows h3))
        | (go_at_call 23; refine (hbm.out o7 hof7.out _ _ h3.out).mono ?_; rintro e w10 ⟨A10, n10, c10, V1, rfl, hV1, hB10⟩; replace hC := Lib.hid (bthen hC.out hB10); replace hV1 := Lib.hid hV1))
      have hn0 : n0 = p2 k ∧ c0 ≤ 2 ^ 63 - 1 ∧ p2 k ≤ c0 := by
        have hl0 := hrl.out 0 (by omega)
        obtain ⟨g, cap, e, _, _, h8, h9, _, _⟩ := OwnI.open hF.out.1 (by rw [hl0]; omega)
        injection e with _ e2 e3
        rw [hl0] at e2 h8
        exact ⟨e2, by rw [e3]; exact h9, by rw [e3]; exact h8⟩
      obtain ⟨rfl, hc0m, hc0l⟩ := hn0
      have hrb : Hid (∀ s, 0 ≤ at0 (rowAt ys 0) s ∧ at0 (rowAt ys 0) s ≤ 39) := fun s => ⟨((isBidB_ok (hT.out _ hrow0).1).2 s).1, (hT.out _ hrow0).2 s⟩
      have hF1 : Hid (FR w10.heap.size w9 (.slice (some ⟨g9, 0, none⟩) ys.length d9) b0 (p2 k) c0 (tab (p2 k) (hiF (rowAt ys 0) 1)) (tab ys.length fun i => (i, rowAt ys i))) := by
        rw [tab_rows _ _ (hrl.out 0 (by omega))]; exact hF.out
      have hts := Lib.hid (tab_self ys (hiRow k (rowAt ys 0)))
      have hhr : Hid (hiRow k (rowAt ys 0) = tab (p2 k) (hiF (rowAt ys 0) (p2 k))) := rfl
      have hstp := Lib.hid (hiF_step (rowAt ys 0) (p2 k))
      clear hF hcell9 hic hown hoF hbm hof hT hE hrow0 hpi hr3 hB10 hx
      generalize hiRow k (rowAt ys 0) = hrw at *
      obtain ⟨N, hN⟩ : ∃ N, N = p2 k := ⟨_, rfl⟩
      rw [← hN] at h64 hN2 hc0l hF1 hhr hstp
      clear hrl hN
      generalize rowAt ys 0 = b at *
      have hW0b := hkb
      go_loopw [20] (fun i wr => ∃ t : Nat, 1 ≤ t ∧ t ≤ N ∧ i = .int .i64 (t : Int) ∧ Hid (FR w10.heap.size wr (.slice (some ⟨g9, 0, none⟩) ys.length d9) b0 N c0 (tab N (hiF b t)) (tab ys.length fun i => (i, rowAt ys i))) ∧ Hid (Below w10.heap.size w10 wr)) (fun i _ => N - (intOf i).toNat)
      case atStart => exact ⟨1, by omega, by omega, rfl, hF1.out, hB9.out⟩
      case round =>
        clear hF1 hB9
        obtain ⟨t, ht1, htN, rfl, hF, hB9⟩ := hrel
        obtain ⟨g, cap, e, _, _, hd0, _⟩ := hF.out.cell0 (by omega)
        obtain rfl : g9 = g := by injection e with e; injection e with e; injection e
        clear e
        by_cases htl : t < N
        · obtain ⟨hd1, hf1⟩ := OwnI.cellI hF.out.1 t (by rw [tab_length]; exact htl)
          have hbt := hrb.out t
          have hv : at0 (tab N (hiF b t)) t = at0 b t := by
            rw [at0_tab, if_pos htl]; unfold hiF
            rw [if_neg (by omega), if_neg (by omega)]
          rw [hv] at hd1
          clear hv
          have hset := hF.out.set (tab_length ..) t (at0 b t + 3)
          rw [hstp.out t ht1] at hset
          replace hset := Lib.hid hset
          have hBs := Lib.hid (hB9.out.setCell (p := ⟨b0, t, none⟩) (OwnL.lt hF.out.1 b0 rfl).1 (.int .i64 (at0 b t + 3)))
          generalize at0 b t = x at *
          have hwr : IntKind.i64.wrap (x + 3) = x + 3 := IntWalk.i64_in _ (by omega)
          clear hbt
          go_wp2
          go_region
          go_wp2
          go_roundw
          case rel => exact ⟨t + 1, by omega, by omega, by go_num, hset.out.below (Nat.le_refl _) (below_drewN (Below.refl _ _) 1), below_drewN hBs.out 1⟩
          case measure => simp [intOf]; try omega
        · obtain rfl : t = N := by omega
          have hR := hF.out.rows
          rw [← hhr.out, hts.out] at hR
          have hcall := Lib.hid (hbh.out _ _ hR)
          clear hF hbh hR hts hhr hstp
          have hV1' := hV1.out
          have hwr : IntKind.i64.wrap (W0 + 3) = W0 + 3 := IntWalk.i64_in _ (by omega)
          go_wp2_with (first
            | (go_at_call 23; refine hcall.out.mono ?_; rintro e w11 ⟨A11, n11, c11, V2, rfl, hV2, hV3, hB11⟩; replace hB11 := Lib.hid (bthen hB9.out hB11))
            | (go_at_call 17; refine (haw.out _).mono ?_; rintro e w12 ⟨rfl, hB12⟩; replace hB12 := Lib.hid hB12))
          go_ret
          exact ⟨rfl, bthen hB3.out (bthen hC.out (bthen hB11.out hB12.out))⟩
end Go.Proofs.Ytadonoacmpkolaa
