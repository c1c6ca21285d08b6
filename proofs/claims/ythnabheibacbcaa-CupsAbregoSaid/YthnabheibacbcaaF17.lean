/- R.Edges. No condition. -/
import Derived.Test.YthnabheibacbcaaF16
import Derived.Test.YthnabheibacbcaaC9
namespace Go.Proofs.Ythnabheibacbcaa
open Go.RowKit Go.Shelf

/-- the pairs of numbers, in their order -/
def rpB (a : Nat) : Nat → List (Nat × Nat)
  | 0 => []
  | b + 1 => rpB a b ++ if a < b then [(a, b)] else []
def rpA (n : Nat) : Nat → List (Nat × Nat)
  | 0 => []
  | a + 1 => rpA n a ++ rpB a n
theorem rpB_len (a : Nat) : ∀ b, (rpB a b).length ≤ b
  | 0 => Nat.le_refl _
  | b + 1 => by have := rpB_len a b; simp only [rpB, List.length_append]; split <;> simp <;> omega
theorem rpA_len {n : Nat} (hn : n ≤ 14) : ∀ a, (rpA n a).length ≤ a * 14
  | 0 => Nat.le_refl _
  | a + 1 => by have := rpA_len hn a; have := rpB_len a n; simp only [rpA, List.length_append]; omega
theorem rpB_zero (a : Nat) : ∀ b, b ≤ a + 1 → rpB a b = []
  | 0, _ => rfl
  | b + 1, h => by simp only [rpB]; rw [rpB_zero a b (by omega), if_neg (by omega)]; rfl
theorem edgeC_bd (l : List Pt) (ps : List (Nat × Nat)) (e : Nat) (h : ps.length < 1000) : 0 ≤ edgeC l ps e ∧ edgeC l ps e < 1000 := by
  unfold edgeC
  have h1 := List.countP_le_length (p := fun p => decide (edgeK l p = e)) (l := ps)
  omega

set_option maxRecDepth 100000 in
set_option maxHeartbeats 4000000 in
theorem EdgesR_ok (w : World) (v : Value) (l : List Pt) (h : Pts w v l) (hok : OkL l) (h2 : 2 ≤ l.length) (h14 : l.length ≤ 14) :
    Calls Try.prog 29 #[v] w fun e w' => ∃ v', e = .returned v' ∧ OwnI w.heap.size 3 w' v' (tab ((l.length - 2) / 2 + 1) (edgeC l (rpA l.length l.length))) ∧ Below w.heap.size w w' := by
  obtain ⟨A, n, cap, rfl, hN⟩ := h.shape
  obtain ⟨_, cap', e, hl, hcm, _, hat⟩ := h.open
  injection e with e1 e2 e3
  subst e1 e3
  unfold maxLen at hcm
  rw [← e2] at hl h2 h14
  clear e2
  have hat := Lib.hid (show ∀ i, i < n → ∃ b off, A = some ⟨b, off, none⟩ ∧ w.cell? ⟨b, off + i * 2, none⟩ = some (.int .i64 (ptA l i).1) ∧ w.cell? ⟨b, off + i * 2 + 1, none⟩ = some (.int .i64 (ptA l i).2) from fun i hi => by
    obtain ⟨b, o, e, h0, h1⟩ := hat i (by rw [← hN.out]; exact hi)
    exact ⟨b, o, e, h0, h1⟩)
  have hokn := Lib.hid (show ∀ i, i < n → okP (ptA l i) from fun i hi => hok i (by rw [← hN.out]; exact hi))
  clear h hok
  have hm : ¬ (n : Int) < 2 := by omega
  have hq : ((n : Int) - 2) / 2 + 1 = (((n - 2) / 2 + 1 : Nat) : Int) := by omega
  go_enter Try.func29, Try.ntmps29
  go_wp2_with (at_make; refine wpList_make_ints rfl (.tmp 17) (.tmp 17) 33 rfl w.heap.size 3 Try.underlying33 info3 ((n - 2) / 2 + 1) rfl rfl (by omega) (Nat.le_refl _) _ rfl ?_; intro w1 hT hB1 hz1; replace hT := Lib.hid hT; replace hB1 := Lib.hid hB1)
  obtain ⟨M, hM⟩ : ∃ M, w.heap.size = M := ⟨_, rfl⟩
  rw [hM] at hT hB1 hz1 ⊢
  clear hq
  go_loopw [5] (fun c5 wr => ∃ a : Nat, a ≤ n ∧ c5 = .int .i64 (a : Int) ∧ Hid (OwnT M 3 wr M ((n - 2) / 2 + 1) ((n - 2) / 2 + 1) (edgeC l (rpA n a))) ∧ Hid (Below M w wr)) (fun c _ => n - (intOf c).toNat)
  case atStart => exact ⟨0, Nat.zero_le _, rfl, Lib.hid (hT.out.congr fun i _ => by simp [edgeC, rpA]), hB1⟩
  case round =>
    obtain ⟨a, ha, rfl, hO, hBa⟩ := hrel
    have lA := rpA_len h14 a
    by_cases hlta : a < n
    case neg =>
      obtain rfl : n = a := by omega
      go_wp2
      go_ret
      exact ⟨_, rfl, by rw [← hN.out, hM]; exact hO.out, by rw [hM]; exact hBa.out⟩
    have sA := Lib.hid (show rpA n (a + 1) = rpA n a ++ rpB a n from rfl)
    have zB := Lib.hid (rpB_zero a (a + 1) (Nat.le_refl _))
    go_wp2
    go_loopw [6] (fun c6 wr => ∃ b : Nat, a + 1 ≤ b ∧ b ≤ n ∧ c6 = .int .i64 (b : Int) ∧ Hid (OwnT M 3 wr M ((n - 2) / 2 + 1) ((n - 2) / 2 + 1) (edgeC l (rpA n a ++ rpB a b))) ∧ Hid (Below M w wr)) (fun c _ => n - (intOf c).toNat)
    case atStart => exact ⟨a + 1, Nat.le_refl _, by omega, by go_num, by rw [zB.out, List.append_nil]; exact hO, hBa⟩
    case round =>
      obtain ⟨b, hab, hb, rfl, hO, hBb⟩ := hrel
      have lB := rpB_len a b
      by_cases hltb : b < n
      case neg =>
        obtain rfl : n = b := by omega
        go_wp2
        go_roundw
        case rel => exact ⟨a + 1, by omega, by go_num, by rw [sA.out]; exact hO, hBb⟩
        case measure => simp [intOf]; omega
      have sB := Lib.hid (show rpA n a ++ rpB a (b + 1) = (rpA n a ++ rpB a b) ++ [(a, b)] by simp only [rpB]; rw [if_pos (by omega), List.append_assoc])
      obtain ⟨bp, op, rfl, pa0, pa1⟩ := hat.out a hlta
      obtain ⟨_, _, e, pb0, pb1⟩ := hat.out b hltb
      cases e
      go_wp2
      go_loopw [7, 8] (fun c7 c8 wr => ∃ k : Nat, k ≤ n ∧ c8 = .int .i64 (k : Int) ∧ c7 = .int .i64 ((leftN l a b k : Nat) : Int) ∧ Hid (OwnT M 3 wr M ((n - 2) / 2 + 1) ((n - 2) / 2 + 1) (edgeC l (rpA n a ++ rpB a b))) ∧ Hid (Below M w wr)) (fun _ c _ => n - (intOf c).toNat)
      case atStart => exact ⟨0, Nat.zero_le _, rfl, rfl, hO, hBb⟩
      case round =>
        obtain ⟨k, hk, rfl, rfl, hO, hBk⟩ := hrel
        by_cases hltk : k < n
        case neg =>
          obtain rfl : k = n := by omega
          have hle := leftAll_le (l := l) (i := a) (j := b) (by have := hN.out; omega) (by have := hN.out; omega)
          have hek : edgeK l (a, b) = min (leftAll l a b) (k - 2 - leftAll l a b) := by unfold edgeK; rw [hN.out]
          have hL : leftAll l a b = leftN l a b k := by unfold leftAll; rw [hN.out]
          rw [hL] at hek hle
          rw [← hN.out] at hle
          generalize leftN l a b k = L at *
          obtain ⟨e, he⟩ : ∃ e, e = edgeK l (a, b) := ⟨_, rfl⟩
          have hek2 : e < (k - 2) / 2 + 1 := by rw [he, hek]; omega
          have hsub : IntKind.i64.wrap ((k : Int) - 2 - (L : Int)) = (k : Int) - 2 - (L : Int) := wrap_small _ (by omega) (by omega)
          have hmn : min (L : Int) ((k : Int) - 2 - (L : Int)) = (e : Int) := by rw [he, hek]; omega
          have hin : 0 ≤ (e : Int) ∧ (e : Int) < ((k - 2 : Nat) : Int) / 2 + 1 := by omega
          have mO := hO.out.at e hek2
          have mF := hO.out.free e (by omega)
          have hcb := edgeC_bd l (rpA k a ++ rpB a b) e (by rw [List.length_append]; omega)
          have hst := Lib.hid (edgeC_snoc l (rpA k a ++ rpB a b) (a, b))
          rw [← he] at hst
          generalize hcv : edgeC l (rpA k a ++ rpB a b) e = c at *
          replace hcv := Lib.hid hcv
          replace hM := Lib.hid hM
          clear hek hL he hle hT hB1
          go_wp2
          go_roundw
          case rel => exact ⟨b + 1, by omega, by omega, by go_num, by rw [sB.out, hst.out]; exact Lib.hid (hO.out.set e (c + 1)), Lib.hid (hBk.out.setCell (p := ⟨M, e, none⟩) (Nat.le_refl _) _)⟩
          case measure => simp [intOf]; omega
        have hkl : leftN l a b k ≤ k := leftN_le0 l a b k
        have hst := Lib.hid (show leftN l a b (k + 1) = leftN l a b k + if 0 < trn (ptA l a) (ptA l b) (ptA l k) then 1 else 0 from rfl)
        obtain ⟨_, _, e, pk0, pk1⟩ := hat.out k hltk
        cases e
        have hcl := fun x y (h : w.cell? x = some y) => cell_below h (hM ▸ hBk.out)
        have t0 := fun g : Gr wr => g.cell (hcl _ _ pa0)
        have t1 := fun g : Gr wr => g.cell (hcl _ _ pa1)
        have t2 := fun g : Gr wr => g.cell (hcl _ _ pb0)
        have t3 := fun g : Gr wr => g.cell (hcl _ _ pb1)
        have t4 := fun g : Gr wr => g.cell (hcl _ _ pk0)
        have t5 := fun g : Gr wr => g.cell (hcl _ _ pk1)
        have hTu := Lib.hid (fun g : Gr wr => grow_of (g := g) (turnR_any g.w1 (ptA l a) (ptA l b) (ptA l k) (hokn.out a hlta) (hokn.out b hltb) (hokn.out k hltk)))
        clear pa0 pa1 pb0 pb1 pk0 pk1 hcl
        replace hM := Lib.hid hM
        have hMz : M ≤ wr.heap.size := by have := hBk.out.size; have := hM.out; omega
        generalize ptA l a = qa at *
        generalize ptA l b = qb at *
        generalize ptA l k = qk at *
        generalize trn qa qb qk = T at *
        obtain ⟨qa1, qa2⟩ := qa
        obtain ⟨qb1, qb2⟩ := qb
        obtain ⟨qk1, qk2⟩ := qk
        by_cases hTt : 0 < T
        all_goals
          go_wp2
          refine wp_region_grow (by kernel_rfl) (by kernel_rfl) ?_
          repeat (go_big_quiet_step ((go_at_call 15; exact hTu.out _)))
          refine wpQuiet_nil ?_
          rintro _ ⟨g, rfl⟩
          go_wp2
          go_roundw
          case rel => exact ⟨k + 1, by omega, by go_num, by (first | (rw [hst.out, if_pos hTt]; go_num; done) | (rw [hst.out, if_neg (show ¬ 0 < T by omega)]; go_num; done) | (rw [hst.out, if_neg (show ¬ 0 < T by omega), Nat.add_zero])), Lib.hid (hO.out.below (Nat.le_refl _) g.h), Lib.hid (hBk.out.trans (g.h.mono hMz))⟩
          case measure => simp [intOf]; omega
end Go.Proofs.Ythnabheibacbcaa
