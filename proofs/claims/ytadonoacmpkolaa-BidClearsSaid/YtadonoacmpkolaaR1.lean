/- The reference: Single, Second. -/
import Derived.Test.YtadonoacmpkolaaW13
namespace Go.Proofs.Ytadonoacmpkolaa
open Go.RowKit
attribute [local go_sem high] walk_shl walk_shr walk_bit walk_rem walk_and walk_or walk_andNot

set_option maxRecDepth 100000 in
set_option maxHeartbeats 800000 in
theorem rsingle_any (w : World) (v : Value) (xs : List (List Int)) (m : Nat) (h : Rows2 w v xs) (hm6 : m ≤ 6) (hx6 : xs.length ≤ 1000) (hr : ∀ i, i < xs.length → (rowAt xs i).length = m) :
    Calls Try.prog 15 #[.int .i64 (m : Int), v] w fun e w' => ∃ v', e = .returned v' ∧ OwnRows w.heap.size 27 w' v' (xs.map singleOf) ∧ Below w.heap.size w w' := by
  have hs6 : smallS m := smallS_of (by omega)
  have h64 := p2_le64 hm6
  replace hr := Lib.hid hr
  obtain ⟨A, cap, rfl, hl, hcap, hn, hat⟩ := h.open
  replace hat := Lib.hid hat
  clear hn h
  unfold maxLen at hcap
  obtain ⟨N, hN⟩ : ∃ N, N = p2 m := ⟨_, rfl⟩
  rw [← hN] at h64
  go_enter Try.func15, Try.ntmps15
  go_wp2
  go_loopw [5, 6] (fun o i wr => ∃ k : Nat, k ≤ xs.length ∧ i = .int .i64 k ∧ Hid (OwnRows w.heap.size 27 wr o ((xs.take k).map singleOf)) ∧ Hid (Below w.heap.size w wr)) (fun _ i _ => xs.length - (intOf i).toNat)
  case atStart => exact ⟨0, Nat.zero_le _, rfl, own_nil _ _ _, Below.refl _ _⟩
  case round =>
    obtain ⟨k, hk, rfl, ho, hB⟩ := hrel
    obtain ⟨wo, rfl⟩ : ∃ wo : World, wo = wr := ⟨_, rfl⟩
    by_cases hlt : k < xs.length
    · obtain ⟨b1, o1, A1, cap1, rfl, hc1, hi1⟩ := hat.out k hlt
      have hlm := hr.out k hlt
      have hsl : Hid (singleOf (rowAt xs k) = tab N fun s => sglUpto (rowAt xs k) s m) := by show singleOf _ = _; unfold singleOf; rw [hlm, hN]
      have htk : Hid ((xs.take (k + 1)).map singleOf = (xs.take k).map singleOf ++ [singleOf (rowAt xs k)]) := by show _ = _; rw [take_rowAt hlt, List.map_append]; rfl
      rw [hsl.out] at htk
      generalize rowAt xs k = l at *
      clear hat hr hsl
      obtain ⟨A2, cap2, e2, hl2, hcap2, _, hat2⟩ := hi1.open
      cases e2
      replace hat2 := Lib.hid hat2
      clear hi1
      have hlm' : (l.length : Int) = (m : Int) := by rw [hlm]
      unfold maxLen at hcap2
      go_wp2_with (at_make; refine wpList_make_ints rfl _ _ 27 rfl wo.heap.size 2 Try.underlying27 info2 (p2 m) rfl rfl (by omega) (Nat.le_refl _) _ rfl ?_; intro w1 hT hg hsz; rw [← hN] at hT ⊢; replace hN := Lib.hid hN; replace hT := Lib.hid hT; replace hg := Lib.hid hg)
      go_loopw [8] (fun i wr => ∃ s : Nat, s ≤ N ∧ i = .int .i64 s ∧ Hid (OwnT wo.heap.size 2 wr wo.heap.size N N (fun j => if j < s then sglUpto l j m else 0)) ∧ Hid (Below wo.heap.size wo wr)) (fun i _ => N - (intOf i).toNat)
      case atStart => exact ⟨0, Nat.zero_le _, rfl, hT.out.congr (fun i _ => by simp), hg.out⟩
      case round =>
        clear hT hg hsz
        obtain ⟨s, hs, rfl, hT, hg⟩ := hrel
        by_cases hlt2 : s < N
        · have hss : small s := small_of (by omega)
          have hlt2' : ((s : Int) < ((p2 m : Nat) : Int)) := by rw [← hN.out]; omega
          go_wp2
          go_loopw [9] (fun i wr => ∃ k : Nat, k ≤ m ∧ i = .int .i64 k ∧ Hid (OwnT wo.heap.size 2 wr wo.heap.size N N (fun j => if j < s then sglUpto l j m else if j = s then sglUpto l s k else 0)) ∧ Hid (Below wo.heap.size wo wr)) (fun i _ => m - (intOf i).toNat)
          case atStart => exact ⟨0, Nat.zero_le _, rfl, hT.out.congr (fun i _ => by by_cases h : i = s <;> simp [h, sglUpto]), hg.out⟩
          case round =>
            clear hT hg
            obtain ⟨j, hj, rfl, hT, hg⟩ := hrel
            by_cases hkl : j < m
            · have hjl : j < l.length := by omega
              obtain ⟨b2, o2, rfl, hc2⟩ := hat2.out j hjl
              have hBB := Lib.hid (hB.out.trans (hg.out.mono hB.out.size))
              have hd1 : wr.cell? ⟨b1, o1 + k, none⟩ = some (.slice (some ⟨b2, o2, none⟩) l.length cap1) := by
                rw [hBB.out.cell (p := ⟨b1, o1 + k, none⟩) (lt_of_cell hc1)]; exact hc1
              have hd2 : wr.cell? ⟨b2, o2 + j, none⟩ = some (.int .i64 (at0 l j)) := by
                rw [hBB.out.cell (p := ⟨b2, o2 + j, none⟩) (lt_of_cell hc2)]; exact hc2
              have hd3 : wr.cell? ⟨wo.heap.size, s, none⟩ = some (.int .i64 (sglUpto l s j)) := by
                rw [hT.out.at s hlt2]; simp
              have hf2 := hT.out.free s (by omega)
              have hks : smallS j := smallS_of (by omega)
              have hst := Lib.hid (fun x => (hT.out.set s x))
              have hB2 := Lib.hid (fun x => hg.out.setCell (p := ⟨wo.heap.size, s, none⟩) (Nat.le_refl _) x)
              clear hc1 hc2
              by_cases hb : bitOf s j = 1
              · have hbb : (((bitOf s j : Nat) : Int) == 1) = true := by rw [hb]; rfl
                replace hb := Lib.hid hb
                have hmx : sglUpto l s (j + 1) = if sglUpto l s j < at0 l j then at0 l j else sglUpto l s j := by simp [sglUpto, hb.out]
                replace hmx := Lib.hid hmx
                go_wp2
                go_region
                go_wp2
                go_roundw
                case rel => exact ⟨j + 1, by omega, by go_num, (hst.out _).congr (fun i _ => by unfold upd; by_cases h : i = s <;> simp [h, hmx.out]), below_drewN (hB2.out _) 1⟩
                case measure => simp [intOf]; omega
              · have hbb : (((bitOf s j : Nat) : Int) == 1) = false := by simp; omega
                replace hb := Lib.hid hb
                go_wp2
                go_roundw
                case rel => exact ⟨j + 1, by omega, by go_num, hT.out.congr (fun i _ => by by_cases h : i = s <;> simp [h, sglUpto, hb.out]), hg.out⟩
                case measure => simp [intOf]; omega
            · obtain rfl : j = m := by omega
              go_wp2
              go_roundw
              case rel => exact ⟨s + 1, by omega, by go_num, hT.out.congr (fun i _ => by by_cases h : i = s <;> simp [h]; by_cases h2 : i < s <;> simp [h2] <;> omega), hg.out⟩
              case measure => simp [intOf]; omega
        · obtain rfl : s = N := by omega
          have hlt2' : ¬ ((s : Int) < ((p2 m : Nat) : Int)) := by rw [← hN.out]; omega
          have hrow : Hid (OwnI wo.heap.size 2 wr (.slice (some ⟨wo.heap.size, 0, none⟩) s s) (tab s fun j => sglUpto l j m)) := hT.out.congr (fun i hi => by simp [hi])
          go_wp2_with (at_builtin; refine wpList_append_row rfl (.tmp 50) (.tmp 52) 22 rfl w.heap.size 27 Try.underlying22 info27 _ _ rfl rfl (OwnRows.below ho.out (Nat.le_refl _) hg.out) rfl rfl (OwnL.slc hrow.out) (OwnL.apart ho.out) (by simp; omega) (Nat.le_trans hB.out.size hg.out.size) ?_; intro v' w' h3 h4 h5; replace h3 := Lib.hid h3; replace h4 := Lib.hid h4; clear h5)
          go_roundw
          case rel => exact ⟨k+1, by omega, by go_num, by rw [htk.out]; exact h3.out, (hB.out.trans (hg.out.mono hB.out.size)).trans h4.out⟩
          case measure => simp [intOf]; omega
    · obtain rfl : k = xs.length := by omega
      go_wp2
      go_ret
      refine ⟨_, rfl, ?_, hB.out⟩
      have := ho.out
      rwa [List.take_length] at this

/-- the first index of the greatest of the first k (of one at least) -/
def bestUpto (xs : List Int) : Nat → Nat
  | 0 => 0
  | k + 1 => if at0 xs (bestUpto xs k) < at0 xs k then k else bestUpto xs k
theorem bestUpto_lt (xs : List Int) : ∀ k, 0 < k → bestUpto xs k < k
  | 0, h => absurd h (by omega)
  | k + 1, _ => by
    rw [bestUpto]
    split
    · omega
    · by_cases hk : 0 < k
      · have := bestUpto_lt xs k hk; omega
      · obtain rfl : k = 0 := by omega
        show 0 < 0 + 1
        omega

set_option maxHeartbeats 400000 in
theorem rsecond_any (w : World) (v : Value) (xs : List Int) (h : Ints w v xs) (h1 : 1 ≤ xs.length) :
    Calls Try.prog 20 #[v] w fun e w' => e = .returned (.tuple #[.int .i64 ((bestUpto xs xs.length : Nat) : Int), .int .i64 (secUpto xs ((bestUpto xs xs.length : Nat) : Int) xs.length)]) ∧ ∃ d, w.drewN d = w' := by
  obtain ⟨A, cap, rfl, hl, hcap, hn, hat⟩ := h.open
  replace hat := Lib.hid hat
  clear hn h
  unfold maxLen at hcap
  go_enter Try.func20, Try.ntmps20
  go_wp2
  go_loopw [4, 5] (fun b i wr => ∃ k : Nat, k ≤ xs.length ∧ i = .int .i64 k ∧ b = .int .i64 ((bestUpto xs k : Nat) : Int) ∧ ∃ d, wr = w.drewN d) (fun _ i _ => xs.length - (intOf i).toNat)
  case atStart => exact ⟨0, Nat.zero_le _, rfl, rfl, 0, rfl⟩
  case round =>
    obtain ⟨k, hk, rfl, rfl, d, rfl⟩ := hrel
    by_cases hlt : k < xs.length
    · obtain ⟨b2, o2, rfl, hc⟩ := hat.out k hlt
      have hbl : bestUpto xs k < xs.length := by
        by_cases h0 : 0 < k
        · have := bestUpto_lt xs k h0; omega
        · obtain rfl : k = 0 := by omega
          exact hlt
      obtain ⟨b3, o3, e3, hc3⟩ := hat.out _ hbl
      cases e3
      have hs2 : Hid (bestUpto xs (k + 1) = if at0 xs (bestUpto xs k) < at0 xs k then k else bestUpto xs k) := rfl
      generalize bestUpto xs k = b at *
      by_cases hkf : at0 xs b < at0 xs k
      · replace hs2 := Lib.hid (show bestUpto xs (k + 1) = k by rw [hs2.out, if_pos hkf])
        go_wp2_with fail
        go_quiet (fail)
        go_wp2
        go_roundw
        case rel => exact ⟨k + 1, by omega, by go_num, by rw [hs2.out], _, rfl⟩
        case measure => simp [intOf]; omega
      · replace hs2 := Lib.hid (show bestUpto xs (k + 1) = b by rw [hs2.out, if_neg hkf])
        go_wp2_with fail
        go_quiet (fail)
        go_wp2
        go_roundw
        case rel => exact ⟨k + 1, by omega, by go_num, by rw [hs2.out], _, rfl⟩
        case measure => simp [intOf]; omega
    · obtain rfl : k = xs.length := by omega
      generalize hf : bestUpto xs xs.length = f at *
      replace hf := Lib.hid hf
      go_wp2
      go_loop [6, 7] (fun s i => ∃ k : Nat, k ≤ xs.length ∧ i = .int .i64 k ∧ s = .int .i64 (secUpto xs f k)) (fun _ i => xs.length - (intOf i).toNat)
      case atStart => exact ⟨0, Nat.zero_le _, rfl, rfl⟩
      case round =>
        obtain ⟨k, hk, rfl, rfl⟩ := hrel
        by_cases hlt : k < xs.length
        · obtain ⟨b2, o2, rfl, hc⟩ := hat.out k hlt
          have hs2 : Hid (secUpto xs f (k + 1) = if (k : Int) = f then secUpto xs f k else if secUpto xs f k < at0 xs k then at0 xs k else secUpto xs f k) := rfl
          by_cases hkf : (k : Int) = f
          · have hb1 : ((k : Int) != (f : Int)) = false := by simp [hkf]
            replace hs2 := Lib.hid (show secUpto xs f (k + 1) = secUpto xs f k by rw [hs2.out, if_pos hkf])
            replace hkf := Lib.hid hkf
            go_wp2
            go_round
            case rel => exact ⟨k + 1, by omega, by go_num, by rw [hs2.out]⟩
            case measure => simp [intOf]; omega
          · have hb1 : ((k : Int) != (f : Int)) = true := by simp [hkf]
            replace hs2 := Lib.hid (show secUpto xs f (k + 1) = if secUpto xs f k < at0 xs k then at0 xs k else secUpto xs f k by rw [hs2.out, if_neg hkf])
            replace hkf := Lib.hid hkf
            by_cases hmx : secUpto xs f k < at0 xs k
            · go_wp2
              go_round
              case rel => exact ⟨k + 1, by omega, by go_num, by rw [hs2.out, if_pos hmx]⟩
              case measure => simp [intOf]; omega
            · go_wp2
              go_round
              case rel => exact ⟨k + 1, by omega, by go_num, by rw [hs2.out, if_neg hmx]⟩
              case measure => simp [intOf]; omega
        · obtain rfl : k = xs.length := by omega
          go_wp2
          go_ret2
          exact ⟨by rw [hf.out]; rfl, d, rfl⟩

end Go.Proofs.Ytadonoacmpkolaa
