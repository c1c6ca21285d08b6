/- The reference's Line, General; cups.General. No condition. -/
import Derived.Test.YthnabheibacbcaaC4
namespace Go.Proofs.Ythnabheibacbcaa
open Go.RowKit

theorem Blk.three {w : World} {g t : Nat} {a b c : Value} (h : Blk w g t #[a, b, c]) : (w.cell? ⟨g, 0, none⟩ = some a ∧ w.cell? ⟨g, 1, none⟩ = some b ∧ w.cell? ⟨g, 2, none⟩ = some c) ∧ w.frozen? ⟨g, 0, none⟩ = false ∧ w.frozen? ⟨g, 1, none⟩ = false ∧ w.frozen? ⟨g, 2, none⟩ = false :=
  ⟨⟨by have := h.cell 0; simpa using this, by have := h.cell 1; simpa using this, by have := h.cell 2; simpa using this⟩, h.free 0, h.free 1, h.free 2⟩
def lineRV : Option (Nat × Nat × Nat) → Value
  | some (i, j, k) => .tuple #[.agg #[.int .i64 i, .int .i64 j, .int .i64 k], .bool true]
  | none => .tuple #[.agg #[.int .i64 0, .int .i64 0, .int .i64 0], .bool false]

set_option maxHeartbeats 1000000 in
theorem lineR_any (w : World) (v : Value) (l : List Pt) (h : Pts w v l) (hok : OkL l) :
    Calls Try.prog 50 #[v] w fun e w' => e = .returned (lineRV (lineOf l)) ∧ Below w.heap.size w w' := by
  obtain ⟨W0, hW0⟩ : ∃ W0, w.alloc (.cells #[I 0, I 0, I 0] 62) = W0 := ⟨_, rfl⟩
  have k0 : Blk W0 w.heap.size 62 #[I 0, I 0, I 0] := by rw [← hW0]; exact Blk.new w 62 _
  have hB0 := Lib.hid (show Below w.heap.size w W0 by rw [← hW0]; exact below1 _ _)
  replace h := h.then hB0.out
  replace k0 := Lib.hid k0
  obtain ⟨A, cap, rfl, hl, hcap, hn, hat⟩ := h.open
  replace hat := Lib.hid hat
  replace hok := Lib.hid hok
  clear hn h
  unfold maxLen at hcap
  go_enter Try.func50, Try.ntmps50
  go_wp2
  go_loopw [4] (fun c wr => ∃ i : Nat, i ≤ l.length ∧ c = .int .i64 i ∧ Hid (lineOf l = fsome (line3 l) i (l.length - i)) ∧ Hid (Below W0.heap.size W0 wr)) (fun c _ => l.length - (intOf c).toNat)
  case atStart => exact ⟨0, Nat.zero_le _, rfl, rfl, Below.refl _ _⟩
  case round =>
    obtain ⟨i, hi, rfl, hL, hB⟩ := hrel
    by_cases hlt : i < l.length
    case neg =>
      obtain rfl : i = l.length := by omega
      have hr := Lib.hid (show lineOf l = none by rw [hL.out, fsome_end])
      have kb := k0.out.then hB.out
      obtain ⟨⟨m1, m2, m3⟩, f1, f2, f3⟩ := kb.three
      have kb2 := ((kb.set 0 (I 0)).set 1 (I 0)).set 2 (I 0)
      have hBs := Lib.hid ((((bthen hB0.out hB.out).setCell (p := ⟨w.heap.size, 0, none⟩) (Nat.le_refl _) (I 0)).setCell (p := ⟨w.heap.size, 1, none⟩) (Nat.le_refl _) (I 0)).setCell (p := ⟨w.heap.size, 2, none⟩) (Nat.le_refl _) (I 0))
      simp at kb2
      replace kb2 := Lib.hid kb2
      clear kb
      go_wp2
      obtain ⟨⟨m4, m5, m6⟩, _⟩ := kb2.out.three
      refine bodyPost_ret (v := .tuple #[.agg #[.int .i64 0, .int .i64 0, .int .i64 0], .bool false]) (by simp [results, Try.results50, go_sem, m4, m5, m6]) rfl ⟨?_, hBs.out⟩
      rw [hr.out]; rfl
    obtain ⟨b, off, rfl, q1, q2⟩ := hat.out i hlt
    replace q1 := cell_below q1 hB.out
    replace q2 := cell_below q2 hB.out
    have hpi := Lib.hid (hok.out i hlt)
    obtain ⟨wo, rfl⟩ : ∃ wo : World, wo = wr := ⟨_, rfl⟩
    go_wp2
    go_loopw [5] (fun c W => ∃ j : Nat, i + 1 ≤ j ∧ j ≤ l.length ∧ c = .int .i64 j ∧ Hid (line3 l i = fsome (line2 l i) j (l.length - j)) ∧ Hid (Below wo.heap.size wo W)) (fun c _ => l.length - (intOf c).toNat)
    case atStart => exact ⟨i + 1, Nat.le_refl _, hlt, by go_num, rfl, Below.refl _ _⟩
    case round =>
      obtain ⟨j, hij, hj, rfl, hL2, hB2⟩ := hrel
      by_cases hlt2 : j < l.length
      case neg =>
        obtain rfl : j = l.length := by omega
        have hr := Lib.hid (show line3 l i = none by rw [hL2.out, fsome_end])
        have hL' := Lib.hid (show lineOf l = fsome (line3 l) (i + 1) (l.length - (i + 1)) by rw [hL.out, fsome_step hlt hr.out])
        go_wp2
        go_roundw
        case rel => exact ⟨i + 1, hlt, by go_num, hL', bthen hB.out hB2.out⟩
        case measure => simp [intOf]; omega
      obtain ⟨b', off', e, r1, r2⟩ := hat.out j hlt2
      cases e
      replace q1 := cell_below q1 hB2.out
      replace q2 := cell_below q2 hB2.out
      replace r1 := cell_below (cell_below r1 hB.out) hB2.out
      replace r2 := cell_below (cell_below r2 hB.out) hB2.out
      have hpj := Lib.hid (hok.out j hlt2)
      have hBm := Lib.hid (bthen hB.out hB2.out)
      obtain ⟨wm, rfl⟩ : ∃ wm : World, wm = wr := ⟨_, rfl⟩
      go_wp2
      go_loopw [6] (fun c W => ∃ k : Nat, j + 1 ≤ k ∧ k ≤ l.length ∧ c = .int .i64 k ∧ Hid (line2 l i j = fsome (line1 l i j) k (l.length - k)) ∧ Hid (Below wm.heap.size wm W)) (fun c _ => l.length - (intOf c).toNat)
      case atStart => exact ⟨j + 1, Nat.le_refl _, hlt2, by go_num, rfl, Below.refl _ _⟩
      case round =>
        obtain ⟨k, hjk, hk, rfl, hL3, hB3⟩ := hrel
        by_cases hlt3 : k < l.length
        case neg =>
          obtain rfl : k = l.length := by omega
          have hr := Lib.hid (show line2 l i j = none by rw [hL3.out, fsome_end])
          have hL' := Lib.hid (show line3 l i = fsome (line2 l i) (j + 1) (l.length - (j + 1)) by rw [hL2.out, fsome_step hlt2 hr.out])
          go_wp2
          go_roundw
          case rel => exact ⟨j + 1, by omega, hlt2, by go_num, hL', bthen hB2.out hB3.out⟩
          case measure => simp [intOf]; omega
        obtain ⟨b', off', e, s1, s2⟩ := hat.out k hlt3
        cases e
        replace s1 := cell_below (cell_below s1 hBm.out) hB3.out
        replace s2 := cell_below (cell_below s2 hBm.out) hB3.out
        replace q1 := cell_below q1 hB3.out
        replace q2 := cell_below q2 hB3.out
        replace r1 := cell_below r1 hB3.out
        replace r2 := cell_below r2 hB3.out
        have hT := Lib.hid (fun g : Gr wr => grow_of (turnR_any g.w1 _ _ _ hpi.out hpj.out (hok.out k hlt3)))
        have hf : Hid (line1 l i j k = if trn (ptA l i) (ptA l j) (ptA l k) = 0 then some (i, j, k) else none) := rfl
        have t1 := fun g : Gr wr => g.cell q1
        have t2 := fun g : Gr wr => g.cell q2
        have t3 := fun g : Gr wr => g.cell r1
        have t4 := fun g : Gr wr => g.cell r2
        have t5 := fun g : Gr wr => g.cell s1
        have t6 := fun g : Gr wr => g.cell s2
        have hB4 := Lib.hid (bthen hBm.out hB3.out)
        clear q1 q2 r1 r2 s1 s2
        generalize ptA l i = p1 at *
        generalize ptA l j = p2 at *
        generalize ptA l k = p3 at *
        generalize trn p1 p2 p3 = T at *
        by_cases hT0 : T = 0
        · have hr := Lib.hid (show lineOf l = some (i, j, k) by
            rw [hL.out, fsome_hit hlt (r := (i, j, k))]
            rw [hL2.out, fsome_hit hlt2 (r := (i, j, k))]
            rw [hL3.out, fsome_hit hlt3 (r := (i, j, k))]
            rw [hf.out, if_pos hT0])
          subst hT0
          go_wp2
          refine wp_region_grow (by kernel_rfl) (by kernel_rfl) ?_
          repeat (go_big_quiet_step ((go_at_call 15; exact hT.out _)))
          refine wpQuiet_nil ?_
          rintro _ ⟨g, rfl⟩
          have hBg := bthen hB4.out g.h
          have kb := k0.out.then hBg
          obtain ⟨⟨m1, m2, m3⟩, f1, f2, f3⟩ := kb.three
          have kb2 := ((kb.set 0 (I i)).set 1 (I j)).set 2 (I k)
          have hBs := Lib.hid ((((bthen hB0.out hBg).setCell (p := ⟨w.heap.size, 0, none⟩) (Nat.le_refl _) (I i)).setCell (p := ⟨w.heap.size, 1, none⟩) (Nat.le_refl _) (I j)).setCell (p := ⟨w.heap.size, 2, none⟩) (Nat.le_refl _) (I k))
          simp at kb2
          replace kb2 := Lib.hid kb2
          clear kb hBg
          go_wp2
          obtain ⟨⟨m4, m5, m6⟩, _⟩ := kb2.out.three
          refine bodyPost_ret (v := .tuple #[.agg #[.int .i64 i, .int .i64 j, .int .i64 k], .bool true]) (by simp [results, Try.results50, go_sem, m4, m5, m6]) rfl ⟨?_, hBs.out⟩
          rw [hr.out]; rfl
        · have hL' := Lib.hid (show line2 l i j = fsome (line1 l i j) (k + 1) (l.length - (k + 1)) by rw [hL3.out, fsome_step hlt3 (by rw [hf.out, if_neg hT0])])
          have hT1 : (T == 0) = false := by simpa using hT0
          go_wp2
          refine wp_region_grow (by kernel_rfl) (by kernel_rfl) ?_
          repeat (go_big_quiet_step ((go_at_call 15; exact hT.out _)))
          refine wpQuiet_nil ?_
          rintro _ ⟨g, rfl⟩
          have hBg := Lib.hid (bthen hB3.out g.h)
          go_wp2
          go_roundw
          case rel => exact ⟨k + 1, by omega, hlt3, by go_num, hL', hBg.out⟩
          case measure => simp [intOf]; omega

/-- no three points are on a line -/
def genB (l : List Pt) : Bool := (lineOf l).isNone

set_option maxHeartbeats 400000 in
theorem genR_any (w : World) (v : Value) (l : List Pt) (h : Pts w v l) (hok : OkL l) :
    Calls Try.prog 36 #[v] w fun e w' => e = .returned (.bool (genB l)) ∧ Below w.heap.size w w' := by
  have H := lineR_any w v l h hok
  unfold genB
  clear h hok
  generalize lineOf l = r at *
  rcases r with _ | ⟨i, j, k⟩
  · have H := Lib.hid H
    go_enter Try.func36, Try.ntmps36
    go_wp2_with (go_at_call 50; refine H.out.mono ?_; rintro e w1 ⟨rfl, hb⟩; unfold lineRV; replace hb := Lib.hid hb)
    go_ret
    refine ⟨rfl, ?_⟩
    exact hb.out.alloc hb.out.size _
  · have H := Lib.hid H
    go_enter Try.func36, Try.ntmps36
    go_wp2_with (go_at_call 50; refine H.out.mono ?_; rintro e w1 ⟨rfl, hb⟩; unfold lineRV; replace hb := Lib.hid hb)
    go_ret
    refine ⟨rfl, ?_⟩
    exact hb.out.alloc hb.out.size _

theorem okL_of {l : List Pt} (h : checkB l = true) : OkL l := by
  unfold checkB at h
  simp only [Bool.and_eq_true, List.all_eq_true, List.mem_range] at h
  intro i hi
  have := h.2 i hi
  unfold pOk at this
  simp only [Bool.and_eq_true] at this
  have h1 := this.1
  unfold okB at h1
  exact of_decide_eq_true h1

set_option maxHeartbeats 400000 in
theorem General_bad (w : World) (v : Value) (l : List Pt) (h : Pts w v l) (hc : checkB l = false) :
    Calls Try.prog 49 #[v] w fun e w' => e = .returned (.tuple #[.int .i64 0, .int .i64 0, .int .i64 0, .bool false, .int .i64 90]) ∧ Below w.heap.size w w' := by
  have H := check_any w v l h
  rw [show checkE l = 90 by unfold checkE; rw [hc]; rfl] at H
  replace H := Lib.hid H
  replace hc := Lib.hid hc
  clear h
  go_enter Try.func49, Try.ntmps49
  go_wp2_with (go_at_call 51; refine H.out.mono ?_; rintro e w1 ⟨rfl, hb⟩; replace hb := Lib.hid hb)
  exact bodyPost_ret (v := .tuple #[.int .i64 0, .int .i64 0, .int .i64 0, .bool false, .int .i64 90]) (by simp [results, Try.results49, go_sem]) rfl ⟨rfl, hb.out⟩

def genV : Option (Nat × Nat × Nat) → Value
  | some (i, j, k) => .tuple #[.int .i64 i, .int .i64 j, .int .i64 k, .bool false, .int .i64 0]
  | none => .tuple #[.int .i64 0, .int .i64 0, .int .i64 0, .bool true, .int .i64 0]
set_option maxHeartbeats 400000 in
theorem General_ok (w : World) (v : Value) (l : List Pt) (h : Pts w v l) (hc : checkB l = true) :
    Calls Try.prog 49 #[v] w fun e w' => e = .returned (genV (lineOf l)) ∧ Below w.heap.size w w' := by
  have H := check_any w v l h
  rw [show checkE l = 0 by unfold checkE; rw [hc]; rfl] at H
  replace H := Lib.hid H
  have H2 := fun W (hW : Below w.heap.size w W) => straight_any W v l (h.then hW) (okL_of hc)
  clear h hc
  generalize lineOf l = r at *
  rcases r with _ | ⟨i, j, k⟩
  · have H2 := Lib.hid H2
    go_enter Try.func49, Try.ntmps49
    go_wp2_with (first
      | (go_at_call 51; refine H.out.mono ?_; rintro e w1 ⟨rfl, hb⟩; replace hb := Lib.hid hb)
      | (go_at_call 67; refine (H2.out _ hb.out).mono ?_; rintro e w2 ⟨rfl, hb2⟩; unfold lineV; replace hb2 := Lib.hid hb2))
    exact bodyPost_ret (v := .tuple #[.int .i64 0, .int .i64 0, .int .i64 0, .bool true, .int .i64 0]) (by simp [results, Try.results49, go_sem]) rfl ⟨rfl, bthen hb.out hb2.out⟩
  · have H2 := Lib.hid H2
    go_enter Try.func49, Try.ntmps49
    go_wp2_with (first
      | (go_at_call 51; refine H.out.mono ?_; rintro e w1 ⟨rfl, hb⟩; replace hb := Lib.hid hb)
      | (go_at_call 67; refine (H2.out _ hb.out).mono ?_; rintro e w2 ⟨rfl, hb2⟩; unfold lineV; replace hb2 := Lib.hid hb2))
    exact bodyPost_ret (v := .tuple #[.int .i64 i, .int .i64 j, .int .i64 k, .bool false, .int .i64 0]) (by simp [results, Try.results49, go_sem]) rfl ⟨rfl, bthen hb.out hb2.out⟩
end Go.Proofs.Ythnabheibacbcaa
