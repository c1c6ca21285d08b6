/- BidChecks: the walk. -/
import Derived.Test.YtadonoacmpkolaaW17
import Derived.Test.YtadonoacmpkolaaW18
import Derived.Test.YtadonoacmpkolaaR2
namespace Go.Proofs.Ytadonoacmpkolaa
open Go.RowKit

theorem wpList_wanted {P : Program} {ops : Array Oper} {Q : Exit → Act → World → Prop} {a : Act} {w : World} {rest : List Oper} {o : Oper} (hg : Region.wanted o (yielded ops a.tmps) = true)
    (h : ∀ K : Act → World → Prop, (∀ a w, wpList P ops Q rest a w → K a w) → o.wp P a w K Q) : wpList P ops Q (o :: rest) a w :=
  wpList_step fun K hK => by simp only [hg, if_true]; exact h K hK

/-- 'make([]T, n)' behind a guard that holds -/
theorem wpList_make_guarded {P : Program} {w : World} {ops : Array Oper} {rest : List Oper} {o : Oper} {a : Act} {Q : Exit → Act → World → Prop}
    (hg : Region.wanted o (yielded ops a.tmps) = true) (l c : Operand) (t : TypeId) (hop : o.op = Op.makeSlice t l c) (e : TypeId) (ht : P.underlying t = some (.slice e))
    (hinfo : (P.info? e).map (fun i => (i.zero, i.size, i.bytes)) = some (some (.int .i64 0), 1, 8)) (n : Nat) (hl : a.eval l = .int .i64 (n : Int)) (hc : a.eval c = .int .i64 (n : Int))
    (hn : n ≤ 1000000)
    (hK : ∀ w' v', Below w.heap.size w w' → wpList P ops Q rest (a.put o.dst v') w') :
    wpList P ops Q (o :: rest) a w := by
  obtain ⟨i, hi, hz0, hz1, hz2⟩ := info_parts hinfo
  refine wpList_wanted hg fun K hK' => ?_
  obtain ⟨w', hrun, r1, r2⟩ := run_make_full (P := P) w w.heap.size t e i (.int .i64 0) 1 ht hi hz0 hz1 .i64 .i64 n (by rw [hz2]; omega) (by simp only [maxLen]; omega) (Nat.le_refl _)
  unfold Oper.wp
  simp [execOp, hop, hl, hc, hrun, Result.andThen]
  exact hK' _ _ (hK w' _ (below_of_grown r2 (Nat.le_refl _) (fun k hk => by cases hk)))

set_option maxRecDepth 100000 in
set_option maxHeartbeats 4000000 in
theorem BidChecks_walk (w : World) (m : Int) (v : Value) (xs : List (List Int)) (who : Int) (_ : -9223372036854775808 ≤ m ∧ m ≤ 9223372036854775807) (h : Rows2 w v xs) (_ : -9223372036854775808 ≤ who ∧ who ≤ 9223372036854775807) :
    Calls Try.prog 12 #[.int .i64 m, v, .int .i64 who] w fun e w' => e = .returned (.bool true) ∧ Below w.heap.size w w' := by
  have hl := own_any w v xs h
  obtain ⟨ys, hys⟩ : ∃ ys, ys = (xs.take 7).map (·.take 65) := ⟨_, rfl⟩
  have hyl : ys.length ≤ 7 := by rw [hys]; simp; omega
  rw [← hys] at hl
  clear h hys
  replace hl := Lib.hid hl
  have haw := Lib.hid awake_any
  have h44 := fun W u (hu : Rows2 W u ys) => rcheck_any W u ys m hu
  have h45 := fun W u (hu : Rows2 W u ys) => check_any W u ys m hu
  by_cases hE : checkE m ys = 0
  · rw [hE] at h44 h45
    replace h44 := Lib.hid h44
    replace h45 := Lib.hid h45
    clear hE
    go_enter Try.func12, Try.ntmps12
    go_wp2_with (first
      | (go_at_call 13; refine hl.out.mono ?_; rintro e w1 ⟨v1, rfl, ho, hB⟩; have hi := Lib.hid (OwnRows.rows ho); obtain ⟨A, cap, rfl, hle, hcap, _, hat⟩ := Rows2.open hi.out; clear hat; unfold maxLen at hcap; replace hB := Lib.hid hB; clear ho)
      | (go_at_call 44; refine (h44.out _ _ hi.out).mono ?_; rintro e w2 ⟨rfl, d, rfl⟩; replace hi := Lib.hid (hi.out.drewN d); replace hB := Lib.hid (below_drewN hB.out d))
      | (go_at_call 45; refine (h45.out _ _ hi.out).mono ?_; rintro e w3 ⟨rfl, hB3⟩; replace hB := Lib.hid (bthen hB.out hB3))
      | (go_at_call 17; refine (haw.out _).mono ?_; rintro e w4 ⟨rfl, hB4⟩; replace hB := Lib.hid (bthen hB.out hB4)))
    go_ret
    exact ⟨rfl, hB.out⟩
  · have h23 := fun W u (hu : Rows2 W u ys) => Best_bad W u ys m hu hE
    have h24 := fun W u (hu : Rows2 W u ys) => Payments_bad W u ys m hu hE
    have h35 := fun W u (hu : Rows2 W u ys) => Gain_bad W u ys m who (.slice none 0 0) hu hE
    have h25 := fun W u (hu : Rows2 W u ys) => IsSingle_bad W u ys m hu hE
    have h26 := fun W u (hu : Rows2 W u ys) => Prices_bad W u ys m hu hE
    have h42 := fun W u (hu : Rows2 W u ys) => Clears_bad W u ys m (.slice none 0 0) (.slice none 0 0) hu hE
    have h39 := fun W u (hu : Rows2 W u ys) => IsCore_bad W u ys m (.slice none 0 0) hu hE
    have h41 := fun W u a (hu : Rows2 W u ys) => IsAllocation_bad W u ys m a hu hE
    have hz : (checkE m ys == 0) = false := by simpa using hE
    generalize checkE m ys = E at *
    replace hE := Lib.hid hE
    replace h44 := Lib.hid h44
    replace h45 := Lib.hid h45
    replace h23 := Lib.hid h23
    replace h24 := Lib.hid h24
    replace h35 := Lib.hid h35
    replace h25 := Lib.hid h25
    replace h26 := Lib.hid h26
    replace h42 := Lib.hid h42
    replace h39 := Lib.hid h39
    replace h41 := Lib.hid h41
    go_enter Try.func12, Try.ntmps12
    go_wp2_with (first
      | (go_at_call 13; refine hl.out.mono ?_; rintro e w1 ⟨v1, rfl, ho, hB⟩; have hi := Lib.hid (OwnRows.rows ho); obtain ⟨A, cap, rfl, hle, hcap, _, hat⟩ := Rows2.open hi.out; clear hat; unfold maxLen at hcap; replace hB := Lib.hid hB; clear ho)
      | (go_at_call 44; refine (h44.out _ _ hi.out).mono ?_; rintro e w2 ⟨rfl, d, rfl⟩; replace hi := Lib.hid (hi.out.drewN d); replace hB := Lib.hid (below_drewN hB.out d))
      | (go_at_call 45; refine (h45.out _ _ hi.out).mono ?_; rintro e w3 ⟨rfl, hB3⟩; replace hi := Lib.hid (hi.out.then hB3); replace hB := Lib.hid (bthen hB.out hB3))
      | (go_at_call 23; refine (h23.out _ _ hi.out).mono ?_; rintro e w5 ⟨rfl, hB3⟩; replace hi := Lib.hid (hi.out.then hB3); replace hB := Lib.hid (bthen hB.out hB3))
      | (go_at_call 24; refine (h24.out _ _ hi.out).mono ?_; rintro e w6 ⟨rfl, hB3⟩; replace hi := Lib.hid (hi.out.then hB3); replace hB := Lib.hid (bthen hB.out hB3))
      | (go_at_call 35; refine (h35.out _ _ hi.out).mono ?_; rintro e w7 ⟨rfl, hB3⟩; replace hi := Lib.hid (hi.out.then hB3); replace hB := Lib.hid (bthen hB.out hB3))
      | (go_at_call 25; refine (h25.out _ _ hi.out).mono ?_; rintro e w8 ⟨rfl, hB3⟩; replace hi := Lib.hid (hi.out.then hB3); replace hB := Lib.hid (bthen hB.out hB3))
      | (go_at_call 26; refine (h26.out _ _ hi.out).mono ?_; rintro e w9 ⟨rfl, hB3⟩; replace hi := Lib.hid (hi.out.then hB3); replace hB := Lib.hid (bthen hB.out hB3))
      | (go_at_call 42; refine (h42.out _ _ hi.out).mono ?_; rintro e w10 ⟨rfl, hB3⟩; replace hi := Lib.hid (hi.out.then hB3); replace hB := Lib.hid (bthen hB.out hB3))
      | (go_at_call 39; refine (h39.out _ _ hi.out).mono ?_; rintro e w11 ⟨rfl, hB3⟩; replace hi := Lib.hid (hi.out.then hB3); replace hB := Lib.hid (bthen hB.out hB3))
      | (at_make; refine wpList_make_guarded rfl _ _ 40 rfl 3 Try.underlying40 info3 ys.length rfl rfl (by omega) ?_; intro w12 v12 hB3; replace hi := Lib.hid (hi.out.then hB3); replace hB := Lib.hid (bthen hB.out hB3))
      | (go_at_call 41; refine (h41.out _ _ _ hi.out).mono ?_; rintro e w13 ⟨rfl, hB3⟩; replace hB := Lib.hid (bthen hB.out hB3))
      | (go_at_call 17; refine (haw.out _).mono ?_; rintro e w4 ⟨rfl, hB4⟩; replace hB := Lib.hid (bthen hB.out hB4)))
    go_ret
    exact ⟨rfl, hB.out⟩

end Go.Proofs.Ytadonoacmpkolaa
