/- The reference: Items, IsSingle. -/
import Derived.Test.YtadonoacmpkolaaR1
import Derived.Test.YtadonoacmpkolaaW5
import Derived.Test.YtadonoacmpkolaaW11
import Derived.Test.YtadonoacmpkolaaW17
import Derived.Test.YtadonoacmpkolaaR3
namespace Go.Proofs.Ytadonoacmpkolaa
open Go.RowKit
attribute [local go_sem high] walk_shl walk_shr walk_bit walk_rem walk_and walk_or walk_andNot

set_option maxRecDepth 1000000 in
set_option maxHeartbeats 1500000 in
theorem ritems_any (w : World) (v : Value) (xs : List (List Int)) (m : Nat) (h : Rows2 w v xs) (hm : m ≤ 6) (hx : xs.length ≤ 1000) (hr : ∀ i, i < xs.length → (rowAt xs i).length = p2 m) :
    Calls Try.prog 57 #[.int .i64 (m : Int), v] w fun e w' => ∃ v', e = .returned v' ∧ OwnRows w.heap.size 27 w' v' (xs.map (itemsOf m)) ∧ Below w.heap.size w w' := by
  have h64 := p2_le64 hm
  replace hr := Lib.hid hr
  obtain ⟨A, cap, rfl, hl, hcap, hn, hat⟩ := h.open
  replace hat := Lib.hid hat
  clear hn h
  unfold maxLen at hcap
  have mixed : Try.prog.follows .mixedOrders = true := by kernel_rfl
  replace mixed := Lib.hid mixed
  go_enter Try.func57, Try.ntmps57
  go_wp2
  go_loopw [5, 6] (fun o i wr => ∃ k : Nat, k ≤ xs.length ∧ i = .int .i64 (k : Int) ∧ Hid (OwnRows w.heap.size 27 wr o ((xs.take k).map (itemsOf m))) ∧ Hid (Below w.heap.size w wr)) (fun _ i _ => xs.length - (intOf i).toNat)
  case atStart => exact ⟨0, Nat.zero_le _, rfl, own_nil _ _ _, Below.refl _ _⟩
  case round =>
    obtain ⟨k, hk, rfl, ho, hB⟩ := hrel
    obtain ⟨wo, rfl⟩ : ∃ wo : World, wo = wr := ⟨_, rfl⟩
    by_cases hlt : k < xs.length
    · obtain ⟨b1, o1, A1, cap1, rfl, hc1, hi1⟩ := hat.out k hlt
      have hlm := hr.out k hlt
      have htk : Hid ((xs.take (k + 1)).map (itemsOf m) = (xs.take k).map (itemsOf m) ++ [itemsOf m (rowAt xs k)]) := by show _ = _; rw [take_rowAt hlt, List.map_append]; rfl
      have hl9 : ((xs.take k).map (itemsOf m)).length + 1 ≤ 1000000 := by simp; omega
      generalize rowAt xs k = l at *
      obtain ⟨A2, cap2, e2, hl2, hcap2, _, hat2⟩ := hi1.open
      cases e2
      replace hat2 := Lib.hid hat2
      clear hi1
      unfold maxLen at hcap2
      go_wp2
      go_loopw [7, 8] (fun o i wr => ∃ j : Nat, j ≤ m ∧ i = .int .i64 (j : Int) ∧ Hid (OwnI wo.heap.size 2 wr o (itemsOf j l)) ∧ Hid (Below wo.heap.size wo wr)) (fun _ i _ => m - (intOf i).toNat)
      case atStart => exact ⟨0, Nat.zero_le _, rfl, own_nil _ _ _, Below.refl _ _⟩
      case round =>
        obtain ⟨j, hj, rfl, hrw, hg⟩ := hrel
        by_cases hjl : j < m
        · have hpj : p2 j < l.length := by rw [hlm]; exact p2_lt hjl
          have hpj2 := p2_lt hjl
          obtain ⟨b2, o2, rfl, hc2⟩ := hat2.out (p2 j) hpj
          have hBB := Lib.hid (bthen hB.out hg.out)
          have hd1 : wr.cell? ⟨b1, o1 + k, none⟩ = some (.slice (some ⟨b2, o2, none⟩) l.length cap1) := (hBB.out.cell (p := ⟨b1, o1 + k, none⟩) (lt_of_cell hc1)).trans hc1
          have hd2 : wr.cell? ⟨b2, o2 + p2 j, none⟩ = some (.int .i64 (at0 l (p2 j))) := (hBB.out.cell (p := ⟨b2, o2 + p2 j, none⟩) (lt_of_cell hc2)).trans hc2
          have hks : smallS j := smallS_of (by omega)
          have hts : Hid (itemsOf (j + 1) l = itemsOf j l ++ [at0 l (p2 j)]) := tab_succ ..
          obtain ⟨Aa, na, ca, rfl, _⟩ := OwnL.shape hrw.out
          have hl1 : (itemsOf j l).length + 1 ≤ 1000000 := by unfold itemsOf; rw [tab_length]; omega
          have ho6 : Hid (OwnI wo.heap.size 2 wr.drew (.slice Aa na ca) (itemsOf j l)) := OwnL.drewN hrw.out 1
          have hB6 : Hid (Below wo.heap.size wo wr.drew) := below_drewN hg.out 1
          have mixed := mixed.out
          generalize at0 l (p2 j) = xv at *
          clear hc1 hc2
          go_wp2_with fail
          go_region_law_o
            (first
              | (refine step_append_int rfl (.tmp 20) (.tmp 29) 27 (by rfl) wo.heap.size 2 Try.underlying27 info2 _ _ rfl rfl ho6.out rfl rfl hl1 hB6.out.size ?_; intro v' w' h3 h4 _; replace h3 := Lib.hid h3; replace h4 := Lib.hid h4))
          all_goals
            go_wp2
            go_roundw
            case rel => exact ⟨j + 1, by omega, by go_num, by rw [hts.out]; exact h3.out, hB6.out.trans h4.out⟩
            case measure => simp [intOf]; try omega
        · obtain rfl : j = m := by omega
          obtain ⟨Aa, na, ca, rfl, _⟩ := OwnL.shape hrw.out
          go_wp2_with (at_builtin; refine wpList_append_row rfl (.tmp 31) (.tmp 33) 22 rfl w.heap.size 27 Try.underlying22 info27 _ _ rfl rfl (OwnRows.below ho.out (Nat.le_refl _) hg.out) rfl rfl (OwnL.slc hrw.out) (OwnL.apart ho.out) hl9 (Nat.le_trans hB.out.size hg.out.size) ?_; intro v' w' h3 h4 h5; replace h3 := Lib.hid h3; replace h4 := Lib.hid h4; clear h5)
          go_roundw
          case rel => exact ⟨k + 1, by omega, by go_num, by rw [htk.out]; exact h3.out, (hB.out.trans (hg.out.mono hB.out.size)).trans h4.out⟩
          case measure => simp [intOf]; try omega
    · obtain rfl : k = xs.length := by omega
      go_wp2
      go_ret
      refine ⟨_, rfl, ?_, hB.out⟩
      have := ho.out
      rwa [List.take_length] at this

set_option maxRecDepth 100000 in
set_option maxHeartbeats 1500000 in
theorem rissingle_any (w : World) (v : Value) (xs : List (List Int)) (m : Nat) (h : Rows2 w v xs) (hm : m ≤ 6) (hx : xs.length ≤ 1000) (hr : ∀ i, i < xs.length → (rowAt xs i).length = p2 m) :
    Calls Try.prog 32 #[.int .i64 (m : Int), v] w fun e w' => e = .returned (.bool (xs.all (singleB m))) ∧ Below w.heap.size w w' := by
  have h64 := p2_le64 hm
  have hs6 : smallS m := smallS_of (by omega)
  have h57 := Lib.hid (ritems_any w v xs m h hm hx hr)
  have h15 := Lib.hid (fun W V (hV : Rows2 W V (xs.map (itemsOf m))) => rsingle_any W V (xs.map (itemsOf m)) m hV hm (by simpa using hx) (fun i hi => by
    rw [rowAt_eq hi, List.getElem_map]; exact tab_length ..))
  obtain ⟨R, hR⟩ : ∃ R, R = xs.all (singleB m) := ⟨_, rfl⟩
  have hsr : Hid (∀ i, i < xs.length → rowAt ((xs.map (itemsOf m)).map singleOf) i = singleOf (itemsOf m (rowAt xs i))) := fun i hi => by
    rw [rowAt_eq (by simpa using hi), rowAt_eq hi]; simp
  have hsl : Hid (∀ l : List Int, (singleOf (itemsOf m l)).length = p2 m) := fun l => by
    unfold singleOf; rw [tab_length, show (itemsOf m l).length = m from tab_length ..]
  have hno : Hid (∀ i t, i < xs.length → at0 (singleOf (itemsOf m (rowAt xs i))) t ≠ at0 (rowAt xs i) t → R = false) := fun i t hi hne => by
    rw [hR, ← Bool.not_eq_true]
    intro h
    have := List.all_eq_true.1 h _ (show rowAt xs i ∈ xs by rw [rowAt_eq hi]; exact List.getElem_mem hi)
    unfold singleB at this
    simp only [decide_eq_true_eq] at this
    rw [this] at hne
    exact hne rfl
  have hyes : Hid ((∀ i, i < xs.length → ∀ t, t < p2 m → at0 (singleOf (itemsOf m (rowAt xs i))) t = at0 (rowAt xs i) t) → R = true) := fun hh => by
    rw [hR, List.all_eq_true]
    intro l hl
    obtain ⟨i, hi, rfl⟩ := List.getElem_of_mem hl
    unfold singleB
    rw [decide_eq_true_eq, ← rowAt_eq hi]
    refine List.ext_getElem (by rw [hsl.out, hr i hi]) fun t h1 h2 => ?_
    rw [← at0_eq h1, ← at0_eq h2]
    exact hh i hi t (by rw [← hr i hi]; exact h2)
  rw [← hR]
  clear hR
  obtain ⟨N, hN⟩ : ∃ N, N = p2 m := ⟨_, rfl⟩
  rw [← hN] at hsl hyes h64
  have hr' : Hid (∀ i, i < xs.length → (rowAt xs i).length = N) := fun i hi => by rw [hN]; exact hr i hi
  clear hr
  obtain ⟨A, cap, rfl, hl, hcap, hn, hat⟩ := h.open
  replace hat := Lib.hid hat
  clear hn h
  unfold maxLen at hcap
  replace hN := Lib.hid hN
  go_enter Try.func32, Try.ntmps32
  go_wp2_with (first
    | (go_at_call 57; refine h57.out.mono ?_; rintro e w1 ⟨v1, rfl, ho1, hB1⟩; obtain ⟨A1, n1, c1, rfl, _⟩ := OwnL.shape ho1; have hr1 := Lib.hid (OwnRows.rows ho1); replace hB1 := Lib.hid hB1; clear ho1)
    | (go_at_call 15; refine (h15.out _ _ hr1.out).mono ?_; rintro e w2 ⟨v2, rfl, ho2, hB2⟩; have hr2 := OwnRows.rows ho2; obtain ⟨A2, c2, rfl, _, hcm2, _, hat2⟩ := hr2.open; rw [List.length_map, List.length_map] at hat2 ⊢; unfold maxLen at hcm2; replace hat2 := Lib.hid hat2; replace hB2 := Lib.hid (bthen hB1.out hB2); clear ho2 hr2 hr1))
  go_loopw [6] (fun i wr => ∃ k : Nat, k ≤ xs.length ∧ i = .int .i64 (k : Int) ∧ Hid (∀ j, j < k → ∀ t, t < N → at0 (singleOf (itemsOf m (rowAt xs j))) t = at0 (rowAt xs j) t) ∧ Hid (∃ d, wr = w2.drewN d)) (fun i _ => xs.length - (intOf i).toNat)
  case atStart => exact ⟨0, Nat.zero_le _, rfl, (fun j hj => absurd hj (by omega)), 0, rfl⟩
  case round =>
    obtain ⟨k, hk, rfl, hok, hd⟩ := hrel
    by_cases hlt : k < xs.length
    · obtain ⟨b1, o1, B1, cap1, rfl, hc1, hi1⟩ := hat.out k hlt
      obtain ⟨b2, o2, B2, cap2, rfl, hc2, hi2⟩ := hat2.out k hlt
      rw [hsr.out k hlt] at hc2 hi2
      have hl2 := hsl.out (rowAt xs k)
      have hl1 := hr'.out k hlt
      have hno1 := Lib.hid (fun t => hno.out k t hlt)
      obtain ⟨_, ca, e1, hq1, hm1, _, ha1⟩ := hi1.open
      cases e1
      obtain ⟨_, cb, e2, hq2, hm2, _, ha2⟩ := hi2.open
      cases e2
      rw [hl1] at hc1 hq1 ha1
      rw [hl2] at hc2 hq2 ha2
      replace hc1 := (hB2.out.cell (p := ⟨b1, o1 + k, none⟩) (lt_of_cell hc1)).trans hc1
      have ha1' : Hid (∀ t, t < N → ∃ b off, B1 = some ⟨b, off, none⟩ ∧ w2.cell? ⟨b, off + t, none⟩ = some (.int .i64 (at0 (rowAt xs k) t))) := fun t ht => by
        obtain ⟨b, off, e, hc⟩ := ha1 t ht
        exact ⟨b, off, e, (hB2.out.cell (p := ⟨b, off + t, none⟩) (lt_of_cell hc)).trans hc⟩
      replace ha2 := Lib.hid ha2
      clear ha1 hi1 hi2 hl1 hl2
      unfold maxLen at hm1 hm2
      generalize hsrd : singleOf (itemsOf m (rowAt xs k)) = sr at *
      generalize hrwd : rowAt xs k = rw0 at *
      replace hsrd := Lib.hid hsrd
      replace hrwd := Lib.hid hrwd
      go_wp2
      go_loopw [7] (fun i W => ∃ s : Nat, s ≤ N ∧ i = .int .i64 (s : Int) ∧ Hid (∀ t, t < s → at0 sr t = at0 rw0 t) ∧ Hid (∃ d, W = w2.drewN d)) (fun i _ => N - (intOf i).toNat)
      case atStart => exact ⟨0, Nat.zero_le _, rfl, (fun j hj => absurd hj (by omega)), hd.out⟩
      case round =>
        clear hd
        obtain ⟨s, hs, rfl, hos, hd⟩ := hrel
        by_cases hsl2 : s < N
        · have hsl' : ((s : Int) < ((p2 m : Nat) : Int)) := by rw [← hN.out]; omega
          obtain ⟨b3, o3, rfl, hc3⟩ := ha1'.out s hsl2
          obtain ⟨b4, o4, rfl, hc4⟩ := ha2.out s hsl2
          have d1 : wr.cell? ⟨b1, o1 + k, none⟩ = some (.slice (some ⟨b3, o3, none⟩) N cap1) := by obtain ⟨d, rfl⟩ := hd.out; exact hc1
          have d2 : wr.cell? ⟨b2, o2 + k, none⟩ = some (.slice (some ⟨b4, o4, none⟩) N cap2) := by obtain ⟨d, rfl⟩ := hd.out; exact hc2
          have d3 : wr.cell? ⟨b3, o3 + s, none⟩ = some (.int .i64 (at0 rw0 s)) := by obtain ⟨d, rfl⟩ := hd.out; exact hc3
          have d4 : wr.cell? ⟨b4, o4 + s, none⟩ = some (.int .i64 (at0 sr s)) := by obtain ⟨d, rfl⟩ := hd.out; exact hc4
          have hn2 := Lib.hid (hno1.out s)
          have hnx : Hid (at0 sr s = at0 rw0 s → ∀ t, t < s + 1 → at0 sr t = at0 rw0 t) := fun h t ht => by
            by_cases e : t = s
            · rw [e]; exact h
            · exact hos.out t (by omega)
          clear hc1 hc2 hc3 hc4
          generalize at0 rw0 s = xa at *
          generalize at0 sr s = xb at *
          by_cases hxy : xb = xa
          · have hbb : (xb != xa) = false := by simp [hxy]
            have h3 := Lib.hid (hnx.out hxy)
            clear hxy hn2 hnx
            go_wp2_with fail
            go_quiet (fail)
            go_wp2
            go_roundw
            case rel => exact ⟨s + 1, by omega, by go_num, h3.out, by obtain ⟨d, rfl⟩ := hd.out; exact ⟨_, World.drewN_drewN ..⟩⟩
            case measure => simp [intOf]; try omega
          · have hbb : (xb != xa) = true := by simp [hxy]
            have h3 := Lib.hid (hn2.out hxy)
            clear hxy hn2 hnx
            go_wp2_with fail
            go_quiet (fail)
            go_wp2
            go_ret
            obtain ⟨d, rfl⟩ := hd.out
            exact ⟨by rw [h3.out]; rfl, below_drewN (below_drewN hB2.out d) _⟩
        · obtain rfl : s = N := by omega
          have hsl' : ¬ ((s : Int) < ((p2 m : Nat) : Int)) := by rw [← hN.out]; omega
          go_wp2
          go_roundw
          case rel => exact ⟨k + 1, by omega, by go_num, (fun j hj t ht => by
            by_cases e : j = k
            · rw [e, hrwd.out, hsrd.out]; exact hos.out t ht
            · exact hok.out j (by omega) t ht), hd.out⟩
          case measure => simp [intOf]; try omega
    · obtain rfl : k = xs.length := by omega
      have hr2 := Lib.hid (hyes.out hok.out)
      go_wp2
      go_ret
      obtain ⟨d, rfl⟩ := hd.out
      exact ⟨by rw [hr2.out]; rfl, below_drewN hB2.out d⟩
end Go.Proofs.Ytadonoacmpkolaa
