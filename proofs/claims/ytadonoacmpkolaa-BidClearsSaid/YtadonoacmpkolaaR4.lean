/- The reference: Everyone, Worth. -/
import Derived.Test.YtadonoacmpkolaaR3
import Derived.Test.YtadonoacmpkolaaW17
namespace Go.Proofs.Ytadonoacmpkolaa
open Go.RowKit
attribute [local go_sem high] walk_shl walk_shr walk_bit walk_rem walk_and walk_or walk_andNot

theorem Bids.tok {m : Nat} {xs : List (List Int)} (h : Bids m xs) : ∀ b ∈ xs, okRow m b ∧ at0 b 0 = 0 := fun b hb => ⟨h.ok b hb, by
  have := h.all b hb
  unfold isBidB at this
  simp only [Bool.and_eq_true, decide_eq_true_eq] at this
  exact this.1.2⟩

set_option maxHeartbeats 400000 in
theorem everyone_any (w : World) (v : Value) (xs : List (List Int)) (h : Rows2 w v xs) (hl : xs.length ≤ 6) :
    Calls Try.prog 28 #[v] w fun e w' => e = .returned (.int .i64 ((p2 xs.length - 1 : Nat) : Int)) ∧ w = w' := by
  obtain ⟨A, cap, rfl, hl, hcap, hn, hat⟩ := h.open
  clear hn h hat
  unfold maxLen at hcap
  have hs6 : smallS xs.length := smallS_of (by omega)
  have h64 := p2_le64 (m := xs.length) (by omega)
  have hp := p2_pos xs.length
  go_enter Try.func28, Try.ntmps28
  go_wp2
  go_ret
  exact ⟨ret_int (by omega), rfl⟩

/-- the tables, as they are read -/
theorem tables_cells (w : World) (v : Value) (xs : List (List Int)) (m who : Nat) (h : Rows2 w v xs) (hE : Bids m xs) (hwho : who ≤ 1000000) :
    Calls Try.prog 56 #[.int .i64 (m : Int), v, .int .i64 (who : Int)] w fun e w' => ∃ g cap, e = .returned (.slice (some ⟨g, 0, none⟩) (xs.length + 1) cap) ∧ xs.length + 1 ≤ cap ∧ cap ≤ 2 ^ 63 - 1 ∧
      Hid (∀ k, k ≤ xs.length → ∃ A' cap', w'.cell? ⟨g, k, none⟩ = some (.slice A' (p2 m) cap') ∧ p2 m ≤ cap' ∧ cap' ≤ 2 ^ 63 - 1 ∧ ∀ q, q < p2 m → ∃ b off, A' = some ⟨b, off, none⟩ ∧ w'.cell? ⟨b, off + q, none⟩ = some (.int .i64 (tblAt who xs k q))) ∧
      Below w.heap.size w w' := by
  refine (tables_any w v xs m who h hE.m6 hE.l1 hE.l6 hE.tok hwho).mono ?_
  rintro e w' ⟨v', rfl, ho, hB⟩
  obtain ⟨g, cap, rfl, _, _, hl, hm, _⟩ := OwnL.open ho (by rw [tabsFrom_length]; omega)
  rw [tabsFrom_length] at hl
  refine ⟨g, cap, by rw [tabsFrom_length], hl, hm, fun k hk => ?_, hB⟩
  exact (OwnRows.rows ho).rowCells k (by rw [tabsFrom_length]; omega) (tabsFrom_at who m xs 0 k (Nat.zero_le _) hk)

set_option maxRecDepth 100000 in
set_option maxHeartbeats 800000 in
theorem worth_any (w : World) (v : Value) (xs : List (List Int)) (m who : Nat) (h : Rows2 w v xs) (hE : Bids m xs) (hwho : who ≤ 1000000) :
    Calls Try.prog 27 #[.int .i64 (m : Int), v, .int .i64 (who : Int)] w fun e w' => e = .returned (.int .i64 (tblAt who xs 0 (p2 m - 1))) ∧ Below w.heap.size w w' := by
  have hc := Lib.hid (tables_cells w.drew v xs m who (h.drewN 1) hE hwho)
  have hs6 : smallS m := smallS_of (by have := hE.m6; omega)
  have h64 := p2_le64 hE.m6
  obtain ⟨M, hM⟩ : ∃ M, p2 m = M + 1 := ⟨p2 m - 1, by have := p2_pos m; omega⟩
  rw [hM] at hc h64 ⊢
  rw [Nat.add_sub_cancel]
  have hM2 : M < M + 1 := by omega
  have hwM : IntKind.i64.wrap (M : Int) = (M : Int) := IntWalk.i64_in _ (by omega)
  obtain ⟨A, n, cap, rfl, hn⟩ := Slc.shape h
  clear h hE
  go_enter Try.func27, Try.ntmps27
  go_wp2_with fail
  go_region_with (go_at_call 56; refine hc.out.mono ?_; rintro e w1 ⟨g, cap, rfl, hl, hcp, hat, hB⟩; obtain ⟨A', cap', hc1, hl1, hcap1, hat1⟩ := hat.out 0 (Nat.zero_le _); obtain ⟨b, off, rfl, hc2⟩ := hat1 M hM2; replace hat1 := Lib.hid hat1; replace hB := Lib.hid ((below_drewN (Below.refl w.heap.size w) 1).trans hB))
  go_wp2
  go_ret
  exact ⟨rfl, hB.out⟩

theorem bitOf_all {n k : Nat} (h : k < n) : bitOf (p2 n - 1) k = 1 := by
  rw [testBit_bitOf]
  unfold p2
  rw [Nat.testBit_two_pow_sub_one]
  simp [h]
theorem selR_all (n : Nat) : ∀ (bs : List (List Int)) (k : Nat), k + bs.length ≤ n → selR (p2 n - 1) k bs = bs
  | [], _, _ => rfl
  | b :: bs, k, h => by
    simp only [List.length_cons] at h
    rw [selR, if_pos (bitOf_all (by omega)), selR_all n bs (k + 1) (by omega)]
theorem tblAt_all (xs : List (List Int)) (k : Nat) (hk : k ≤ xs.length) (S : Nat) : tblAt (p2 xs.length - 1) xs k S = wts (xs.drop k) S := by
  unfold tblAt
  rw [selR_all _ _ _ (by simp; omega)]
theorem p2_all_le {n : Nat} (h : n ≤ 6) : p2 n - 1 ≤ 1000000 := by have := p2_le64 h; omega
theorem Bids.pos {m : Nat} {xs : List (List Int)} (h : Bids m xs) : Pos xs := fun b hb s => ((h.ok b hb).2 s).1
theorem Pos.drop {xs : List (List Int)} (h : Pos xs) (k : Nat) : Pos (xs.drop k) := fun b hb => h b (List.mem_of_mem_drop hb)

theorem casts_snoc (l : List Nat) (s : Nat) : casts (l ++ [s]) = casts l ++ [(s : Int)] := by simp [casts]

set_option maxRecDepth 100000 in
set_option maxHeartbeats 2000000 in
theorem rbest_any (w : World) (v : Value) (xs : List (List Int)) (m : Nat) (h : Rows2 w v xs) (hE : Bids m xs) :
    Calls Try.prog 30 #[.int .i64 (m : Int), v] w fun e w' => ∃ v', e = .returned v' ∧ OwnI w.heap.size 3 w' v' (casts (alloc xs (p2 m - 1))) ∧ Below w.heap.size w w' := by
  have hc := tables_cells w v xs m (p2 xs.length - 1) h hE (p2_all_le hE.l6)
  have hev := Lib.hid (everyone_any w v xs h hE.l6)
  have hs6 : smallS m := smallS_of (by have := hE.m6; omega)
  have h64 := p2_le64 hE.m6
  obtain ⟨M, hM⟩ : ∃ M, p2 m = M + 1 := ⟨p2 m - 1, by have := p2_pos m; omega⟩
  have htb := Lib.hid (fun k hk S => tblAt_all xs k hk S)
  have hl6 := hE.l6
  have hrl : Hid (∀ k, k < xs.length → (rowAt xs k).length = M + 1 ∧ ∀ s, 0 ≤ at0 (rowAt xs k) s ∧ at0 (rowAt xs k) s ≤ 1000000) := fun k hk => by
    rw [← hM]; exact hE.row k hk
  have hwb : Hid (∀ k S, 0 ≤ wts (xs.drop k) S ∧ wts (xs.drop k) S ≤ 6000000) := fun k S => by
    have := wts_bounds (xs.drop k) (fun b hb s => (hE.ok b (List.mem_of_mem_drop hb)).2 s) S
    refine ⟨this.1, Int.le_trans this.2 ?_⟩
    simp only [List.length_drop]
    omega
  have hpk : Hid (∀ k, k < xs.length → ∀ L, pickB (rowAt xs k) (xs.drop (k + 1)) L &&& L = pickB (rowAt xs k) (xs.drop (k + 1)) L ∧
      wts (xs.drop k) L = at0 (rowAt xs k) (pickB (rowAt xs k) (xs.drop (k + 1)) L) + wts (xs.drop (k + 1)) (andN L (pickB (rowAt xs k) (xs.drop (k + 1)) L)) ∧
      (∀ s, s &&& L = s → at0 (rowAt xs k) s + wts (xs.drop (k + 1)) (andN L s) = wts (xs.drop k) L → pickB (rowAt xs k) (xs.drop (k + 1)) L ≤ s) ∧
      alloc (xs.drop k) L = pickB (rowAt xs k) (xs.drop (k + 1)) L :: alloc (xs.drop (k + 1)) (andN L (pickB (rowAt xs k) (xs.drop (k + 1)) L))) := fun k hk L => by
    have hd : xs.drop k = rowAt xs k :: xs.drop (k + 1) := by rw [rowAt_eq hk]; exact List.drop_eq_getElem_cons hk
    have hp : Pos (rowAt xs k :: xs.drop (k + 1)) := by rw [← hd]; exact hE.pos.drop k
    obtain ⟨h1, h2, h3⟩ := wts_cons hp L
    rw [hd]
    exact ⟨h1, h2, fun s hs he => (h3 s hs).2 he, alloc_cons _ _ _⟩
  rw [hM] at hc
  replace hc := Lib.hid hc
  rw [hM] at h64 ⊢
  rw [Nat.add_sub_cancel]
  have hwM : IntKind.i64.wrap (M : Int) = (M : Int) := IntWalk.i64_in _ (by omega)
  obtain ⟨A, cap, rfl, hl, hcap, hn, hat⟩ := h.open
  replace hat := Lib.hid hat
  clear hn h hE
  unfold maxLen at hcap
  go_enter Try.func30, Try.ntmps30
  go_wp2_with (first
    | (go_at_call 28; refine hev.out.mono ?_; rintro e w1 ⟨rfl, rfl⟩)
    | (go_at_call 56; refine hc.out.mono ?_; rintro e w2 ⟨G, capG, rfl, hlG, hcG, hTC, hB2⟩; replace hB2 := Lib.hid hB2))
  clear hev hc
  replace hwM := Lib.hid hwM
  replace hM := Lib.hid hM
  go_loopw [6, 7, 8] (fun o l i wr => ∃ (k L : Nat) (pre : List Nat), k ≤ xs.length ∧ L ≤ M ∧ l = .int .i64 (L : Int) ∧ i = .int .i64 k ∧ Hid (pre.length = k) ∧ Hid (pre ++ alloc (xs.drop k) L = alloc xs M) ∧ Hid (OwnI w2.heap.size 3 wr o (casts pre)) ∧ Hid (Below w2.heap.size w2 wr)) (fun _ _ i _ => xs.length - (intOf i).toNat)
  case atStart => exact ⟨0, M, [], Nat.zero_le _, Nat.le_refl _, rfl, rfl, rfl, by show _ = _; simp, own_nil _ _ _, Below.refl _ _⟩
  case round =>
    obtain ⟨k, L, pre, hk, hLM, rfl, rfl, hpl, hpa, ho, hB⟩ := hrel
    by_cases hlt : k < xs.length
    · obtain ⟨hp1, hp2, hp3, hp4⟩ := hpk.out k hlt L
      rw [hp4] at hpa
      have hv1 : Hid (∀ q, 0 ≤ wts (xs.drop (k + 1)) q ∧ wts (xs.drop (k + 1)) q ≤ 6000000) := hwb.out (k + 1)
      have hv0 := hwb.out k L
      have hT0 := htb.out k (by omega) L
      have hT1 : Hid (∀ S, tblAt (p2 xs.length - 1) xs (k + 1) S = wts (xs.drop (k + 1)) S) := fun S => htb.out (k + 1) (by omega) S
      obtain ⟨hrk, hrb⟩ := hrl.out k hlt
      replace hrb := Lib.hid hrb
      obtain ⟨b1, o1, A1, cap1, rfl, hc1, hi1⟩ := hat.out k hlt
      obtain ⟨A2, cap2, e2, hl2, hcap2, _, hat2⟩ := hi1.open
      cases e2
      have hBB := Lib.hid (bthen hB2.out hB.out)
      have hat2' : Hid (∀ q, q < M + 1 → ∃ b off, A1 = some ⟨b, off, none⟩ ∧ wr.cell? ⟨b, off + q, none⟩ = some (.int .i64 (at0 (rowAt xs k) q))) := fun q hq => by
        obtain ⟨b, off, e, hc⟩ := hat2 q (by omega)
        exact ⟨b, off, e, by rw [hBB.out.cell (p := ⟨b, off + q, none⟩) (lt_of_cell hc)]; exact hc⟩
      replace hc1 : wr.cell? ⟨b1, o1 + k, none⟩ = some (.slice A1 (M + 1) cap1) := by
        rw [hBB.out.cell (p := ⟨b1, o1 + k, none⟩) (lt_of_cell hc1), hc1, hrk]
      rw [hrk] at hl2
      clear hi1 hat2 hat
      obtain ⟨A3, cap3, hc3, hl3, hcap3, hat3⟩ := hTC.out k (by omega)
      obtain ⟨A4, cap4, hc4, hl4, hcap4, hat4⟩ := hTC.out (k + 1) (by omega)
      replace hc3 : wr.cell? ⟨G, k, none⟩ = some (.slice A3 (M + 1) cap3) := by rw [hB.out.cell (p := ⟨G, k, none⟩) (lt_of_cell hc3), hc3]
      replace hc4 : wr.cell? ⟨G, k + 1, none⟩ = some (.slice A4 (M + 1) cap4) := by rw [hB.out.cell (p := ⟨G, k + 1, none⟩) (lt_of_cell hc4), hc4]
      obtain ⟨b3, o3, rfl, hc5⟩ := hat3 L (by omega)
      rw [hT0] at hc5
      replace hc5 : wr.cell? ⟨b3, o3 + L, none⟩ = some (.int .i64 (wts (xs.drop k) L)) := by rw [hB.out.cell (p := ⟨b3, o3 + L, none⟩) (lt_of_cell hc5), hc5]
      have hat4' : Hid (∀ q, q < M + 1 → ∃ b off, A4 = some ⟨b, off, none⟩ ∧ wr.cell? ⟨b, off + q, none⟩ = some (.int .i64 (wts (xs.drop (k + 1)) q))) := fun q hq => by
        obtain ⟨b, off, e, hc⟩ := hat4 q hq
        rw [hT1.out] at hc
        exact ⟨b, off, e, by rw [hB.out.cell (p := ⟨b, off + q, none⟩) (lt_of_cell hc)]; exact hc⟩
      clear hat3 hat4 hT1 hT0 hwb hpk htb hTC
      generalize rowAt xs k = row at *
      generalize hx : pickB row (xs.drop (k + 1)) L = x at *
      generalize wts (xs.drop k) L = W0 at *
      generalize wts (xs.drop (k + 1)) = W1 at *
      have hxL : x ≤ L := by rw [← hp1]; exact Nat.and_le_right
      replace hx := Lib.hid hx
      have hp1z := Lib.hid ((andN_zero x L).2 hp1)
      replace hp1 := Lib.hid hp1
      replace hp2 := Lib.hid hp2
      replace hp3 := Lib.hid hp3
      replace hp4 := Lib.hid hp4
      unfold maxLen at hcap2
      have hk1 : IntKind.i64.wrap ((k : Int) + 1) = (k : Int) + 1 := IntWalk.i64_in _ (by omega)
      replace hk1 := Lib.hid hk1
      have hLs : small L := small_of (by omega)
      obtain ⟨A9, n9, c9, rfl, hn9⟩ := OwnL.shape ho.out
      go_wp2
      go_loopw [9] (fun i W => ∃ q : Nat, q ≤ x ∧ i = .int .i64 (q : Int) ∧ ∃ d, W = wr.drewN d) (fun i _ => x - (intOf i).toNat)
      case atStart => exact ⟨0, Nat.zero_le _, rfl, 0, rfl⟩
      case round =>
        obtain ⟨q, hq, rfl, d, rfl⟩ := hrel
        have hqs : small q := small_of (by omega)
        have hSle := andN_le L q
        obtain ⟨b6, o6, rfl, hc6⟩ := hat2'.out q (by omega)
        obtain ⟨b7, o7, rfl, hc7⟩ := hat4'.out (andN L q) (by omega)
        have hb1 := hrb.out q
        have hb2 := hv1.out (andN L q)
        have hwr : IntKind.i64.wrap (at0 row q + W1 (andN L q)) = at0 row q + W1 (andN L q) := IntWalk.i64_in _ (by omega)
        by_cases hqx : q = x
        · subst hqx
          have hz : ((((andN q L : Nat) : Int)) != 0) = false := by rw [hp1z.out]; rfl
          have hne : ((at0 row q + W1 (andN L q)) != W0) = false := by rw [hp2.out]; simp
          clear hb1 hb2
          go_wp2_with fail
          go_quiet (fail)
          go_wp2_with (at_builtin; refine wpList_append_int rfl (.tmp 58) (.tmp 60) 40 rfl w2.heap.size 3 Try.underlying40 info3 _ _ rfl rfl (OwnL.drewN ho.out _) rfl rfl (by rw [casts_length, hpl.out]; omega) hB.out.size ?_; intro v' w' h3 h4 _; replace h3 := Lib.hid h3; replace h4 := Lib.hid h4)
          go_roundw
          case rel => exact ⟨k + 1, andN L q, pre ++ [q], by omega, by omega, by go_num, rfl, by show _ = _; rw [List.length_append, hpl.out]; rfl, by show _ = _; rw [List.append_assoc]; exact hpa.out, by rw [casts_snoc]; exact h3.out, (below_drewN hB.out _).trans h4.out⟩
          case measure => simp [intOf]; try omega
        · have hcs : (((((andN q L : Nat) : Int)) != 0) = true) ∨ ((((((andN q L : Nat) : Int)) != 0) = false) ∧ ((at0 row q + W1 (andN L q)) != W0) = true) := by
            by_cases hz : andN q L = 0
            · refine .inr ⟨by rw [hz]; rfl, ?_⟩
              simp only [bne_iff_ne, ne_eq]
              intro he
              have := hp3.out q ((andN_zero q L).1 hz) he
              omega
            · exact .inl (by simp; omega)
          clear hb1 hb2
          rcases hcs with hz | ⟨hz, hne⟩
          all_goals (
            go_wp2_with fail
            go_quiet (fail)
            go_wp2
            go_roundw
            case rel => exact ⟨q + 1, by omega, by go_num, _, rfl⟩
            case measure => simp [intOf]; try omega)
    · obtain rfl : k = xs.length := by omega
      go_wp2
      go_ret
      have := hpa.out
      rw [List.drop_length] at this
      simp only [alloc, List.append_nil] at this
      rw [this] at ho
      exact ⟨_, rfl, ho.out.lo_le hB2.out.size, bthen hB2.out hB.out⟩
end Go.Proofs.Ytadonoacmpkolaa
