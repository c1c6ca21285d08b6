/- BidGains: the walk. -/
import Derived.Test.YtadonoacmpkolaaW19
import Derived.Test.YtadonoacmpkolaaW20
namespace Go.Proofs.Ytadonoacmpkolaa
open Go.RowKit

set_option maxRecDepth 100000 in
set_option maxHeartbeats 4000000 in
theorem BidGains_walk (w : World) (m : Int) (v : Value) (xs : List (List Int)) (u : Value) (of : List Int) (_ : -9223372036854775808 ≤ m ∧ m ≤ 9223372036854775807) (h : Rows2 w v xs) (hu : Ints w u of) :
    Calls Try.prog 6 #[.int .i64 m, v, u] w fun e w' => e = .returned (.bool true) ∧ Below w.heap.size w w' := by
  have ht := Lib.hid (tame_any w v xs m h)
  clear h
  have haw := Lib.hid awake_any
  have hli := Lib.hid (fun W (hB : Below w.heap.size w W) => list_any W u of 65 (Ints.below hu (Nat.le_refl _) hB) (by omega) (by omega))
  have hof := Lib.hid (fun W (hB : Below w.heap.size w W) (k : Nat) h1 h6 => offer_any W u of k (Ints.below hu (Nat.le_refl _) hB) h1 h6)
  clear hu
  go_enter Try.func6, Try.ntmps6
  go_wp2_with (first
    | (go_at_call 21; refine ht.out.mono ?_; rintro e w1 ⟨v1, k, ys, rfl, hk1, hk4, hoy, hy1, hy4, hT, hB1⟩; have hE := hT.bids hk1 (by omega) hy1 (by omega); have hr1 := OwnRows.rows hoy; obtain ⟨A1, c1, rfl, hlc1, hcm1, _, _⟩ := Rows2.open hr1; unfold maxLen at hcm1; replace hE := Lib.hid hE; replace hr1 := Lib.hid hr1; replace hB1 := Lib.hid hB1; clear hoy hT)
    | (go_at_call 18; refine (hli.out _ hB1.out).mono ?_; rintro e w2 ⟨v2, rfl, hoy, hB2⟩; obtain ⟨A2, n2, c2, rfl, hn2⟩ := OwnL.shape hoy; have hy := Lib.hid (OwnI.ints hoy); replace hr1 := Lib.hid (hr1.out.then hB2); replace hB2 := Lib.hid (bthen hB1.out hB2); clear hoy hn2))
  clear ht hB1
  obtain ⟨l0, hl0⟩ : ∃ l0, l0 = List.take (65 : Int).toNat of := ⟨_, rfl⟩
  rw [← hl0] at hy
  clear hl0
  go_loopw [8, 9] (fun y i wr => ∃ (who : Int) (A : Option Addr) (n c : Nat) (l : List Int), -1 ≤ who ∧ who ≤ (ys.length : Int) + 1 ∧ i = .int .i64 who ∧ y = .slice A n c ∧ Hid (Ints wr (.slice A n c) l) ∧ Hid (Below w2.heap.size w2 wr)) (fun _ i _ => ((ys.length : Int) + 1 - intOf i).toNat)
  case atStart => exact ⟨-1, _, _, _, _, by omega, by omega, rfl, rfl, hy.out, Below.refl _ _⟩
  case round =>
    clear hy
    obtain ⟨who, A3, n3, c3, l, hw1, hw2, rfl, rfl, hy, hB⟩ := hrel
    by_cases hwl : who ≤ (ys.length : Int)
    · go_wp2
      go_loopw [8, 10] (fun y i wr => ∃ (r : Nat) (A : Option Addr) (n c : Nat) (l : List Int), r ≤ 2 ∧ i = .int .i64 (r : Int) ∧ y = .slice A n c ∧ Hid (Ints wr (.slice A n c) l) ∧ Hid (Below w2.heap.size w2 wr)) (fun _ i _ => 2 - (intOf i).toNat)
      case atStart => exact ⟨0, _, _, _, _, by omega, rfl, rfl, hy.out, hB.out⟩
      case round =>
        clear hy hB
        obtain ⟨r, A4, n4, c4, l, hr, rfl, rfl, hy, hB⟩ := hrel
        by_cases hr2 : (r : Int) < 2
        · have hRx := Lib.hid (Rows2.below hr1.out (Nat.le_refl _) hB.out)
          have hBw := Lib.hid (bthen hB2.out hB.out)
          have hcs : (who < 0 ∨ (¬ who < 0 ∧ (ys.length : Int) ≤ who)) ∨ (¬ who < 0 ∧ ¬ (ys.length : Int) ≤ who ∧ isBidB k l = false) ∨ (¬ who < 0 ∧ ¬ (ys.length : Int) ≤ who ∧ isBidB k l = true) := by
            cases isBidB k l <;> simp <;> omega
          rcases hcs with hcs | ⟨hc1, hc2, hcb⟩ | ⟨hc1, hc2, hcb⟩
          · have hg := Lib.hid (Gain_who wr _ ys k who (.slice A4 n4 c4) hRx.out hE.out (by omega))
            rcases hcs with hcs | ⟨hcs, hcs2⟩
            all_goals (
              go_wp2_with (first
                | (go_at_call 35; refine hg.out.mono ?_; rintro e w5 ⟨rfl, hB5⟩; replace hB5 := Lib.hid hB5)
                | (go_at_call 38; refine (hof.out _ (bthen hBw.out hB5.out) k hk1 (by omega)).mono ?_; rintro e w6 ⟨v6, l6, rfl, ho6, _, hB6⟩; obtain ⟨A6, n6, c6, rfl, _⟩ := OwnL.shape ho6; replace ho6 := Lib.hid (OwnI.ints ho6); replace hB6 := Lib.hid (bthen hB5.out hB6)))
              go_roundw
              case rel => exact ⟨r + 1, _, _, _, _, by omega, by go_num, rfl, ho6.out, bthen hB.out hB6.out⟩
              case measure => simp [intOf]; try omega)
          · have hg := Lib.hid (Gain_offer wr _ ys k who (.slice A4 n4 c4) l hRx.out hy.out hE.out hc1 hc2 hcb)
            have hro := Lib.hid (fun W (hW : Below wr.heap.size wr W) => roffer_any W (.slice A4 n4 c4) l k (Ints.below hy.out (Nat.le_refl _) hW) (by omega))
            rw [hcb] at hro
            clear hcb
            go_wp2_with (first
              | (go_at_call 35; refine hg.out.mono ?_; rintro e w5 ⟨rfl, hB5⟩; replace hB5 := Lib.hid hB5)
              | (go_at_call 36; refine (hro.out _ hB5.out).mono ?_; rintro e w7 ⟨rfl, d7, rfl⟩; replace hB5 := Lib.hid (below_drewN hB5.out d7))
              | (go_at_call 38; refine (hof.out _ (bthen hBw.out hB5.out) k hk1 (by omega)).mono ?_; rintro e w6 ⟨v6, l6, rfl, ho6, _, hB6⟩; obtain ⟨A6, n6, c6, rfl, _⟩ := OwnL.shape ho6; replace ho6 := Lib.hid (OwnI.ints ho6); replace hB6 := Lib.hid (bthen hB5.out hB6)))
            go_roundw
            case rel => exact ⟨r + 1, _, _, _, _, by omega, by go_num, rfl, ho6.out, bthen hB.out hB6.out⟩
            case measure => simp [intOf]; try omega
          · obtain ⟨q, rfl⟩ : ∃ q : Nat, who = q := ⟨who.toNat, by omega⟩
            have hg := Lib.hid (Gain_ok wr _ (.slice A4 n4 c4) ys l k q hRx.out hy.out hE.out (by omega) hcb)
            have hrg := Lib.hid (fun W (hW : Below wr.heap.size wr W) => rgain_any W _ (.slice A4 n4 c4) ys l k q (Rows2.below hRx.out (Nat.le_refl _) hW) (Ints.below hy.out (Nat.le_refl _) hW) hE.out (by omega) hcb)
            have hro := Lib.hid (fun W (hW : Below wr.heap.size wr W) => roffer_any W (.slice A4 n4 c4) l k (Ints.below hy.out (Nat.le_refl _) hW) (by omega))
            rw [hcb] at hro
            clear hcb
            generalize gainF k ys q l = G at *
            go_wp2_with (first
              | (go_at_call 35; refine hg.out.mono ?_; rintro e w5 ⟨rfl, hB5⟩; replace hB5 := Lib.hid hB5)
              | (go_at_call 36; refine (hro.out _ hB5.out).mono ?_; rintro e w7 ⟨rfl, d7, rfl⟩; replace hB5 := Lib.hid (below_drewN hB5.out d7))
              | (go_at_call 37; refine (hrg.out _ hB5.out).mono ?_; rintro e w8 ⟨rfl, hB8⟩; replace hB5 := Lib.hid (bthen hB5.out hB8))
              | (go_at_call 38; refine (hof.out _ (bthen hBw.out hB5.out) k hk1 (by omega)).mono ?_; rintro e w6 ⟨v6, l6, rfl, ho6, _, hB6⟩; obtain ⟨A6, n6, c6, rfl, _⟩ := OwnL.shape ho6; replace ho6 := Lib.hid (OwnI.ints ho6); replace hB6 := Lib.hid (bthen hB5.out hB6)))
            go_roundw
            case rel => exact ⟨r + 1, _, _, _, _, by omega, by go_num, rfl, ho6.out, bthen hB.out hB6.out⟩
            case measure => simp [intOf]; try omega
        · go_wp2_with (go_at_call 18; refine (hli.out _ (bthen hB2.out hB.out)).mono ?_; rintro e w9 ⟨v9, rfl, ho9, hB9⟩; obtain ⟨A9, n9, c9, rfl, _⟩ := OwnL.shape ho9; replace ho9 := Lib.hid (OwnI.ints ho9); replace hB9 := Lib.hid hB9)
          go_roundw
          case rel => exact ⟨who + 1, _, _, _, _, by omega, by omega, by go_num, rfl, ho9.out, bthen hB.out hB9.out⟩
          case measure => simp [intOf]; try omega
    · go_wp2_with (go_at_call 17; refine (haw.out _).mono ?_; rintro e w4 ⟨rfl, hB4⟩; replace hB4 := Lib.hid hB4)
      go_ret
      exact ⟨rfl, bthen hB2.out (bthen hB.out hB4.out)⟩
end Go.Proofs.Ytadonoacmpkolaa
