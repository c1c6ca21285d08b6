/- Halve's second inner function; R.in, R.even. No condition. -/
import Derived.Test.YthnabheibacbcaaY4
import Derived.Test.YthnabheibacbcaaE1
namespace Go.Proofs.Ythnabheibacbcaa
open Go.RowKit
attribute [local go_sem high] eql22

theorem trnS_step {x : List Pt} {k : Nat} (hk : k < x.length) (a b : Pt) : trnS (x.take (k + 1)) a b = trnS (x.take k) a b + trn a b (ptA x k) := by
  unfold trnS; rw [take_ptA hk]; simp
theorem trnS_bd (a b : Pt) : ∀ S : List Pt, -(S.length : Int) ≤ trnS S a b ∧ trnS S a b ≤ S.length
  | [] => by simp [trnS]
  | c :: S => by
    have := trnS_bd a b S
    have h1 : -1 ≤ trn a b c ∧ trn a b c ≤ 1 := by unfold trn; split <;> (try split) <;> omega
    unfold trnS at *
    rw [List.map_cons, List.sum_cons, List.length_cons]
    omega
theorem boxed2 (w : World) (t1 t2 : Nat) (a b : Array Value) {W : World} (h : (w.alloc (.cells a t1)).alloc (.cells b t2) = W) :
    Below w.heap.size w W ∧ W.heap.size = w.heap.size + 2 ∧ Blk W w.heap.size t1 a ∧ Blk W (w.heap.size + 1) t2 b := by
  subst h
  have e : (w.alloc (.cells a t1)).heap.size = w.heap.size + 1 := by simp
  have B1 := below1 w (.cells a t1)
  have B2 := below1 (w.alloc (.cells a t1)) (.cells b t2)
  refine ⟨bthen B1 B2, by simp, (Blk.new w t1 a).then B2, ?_⟩
  have := Blk.new (w.alloc (.cells a t1)) t2 b
  rwa [e] at this

set_option maxHeartbeats 1000000 in
theorem halves2_any (w : World) (v : Value) (x : List Pt) (a b : Pt) (h : Pts w v x) (hok : OkL x) (ha : okP a) (hb : okP b) (hlen : x.length ≤ 1000) :
    Calls Try.prog 71 #[pv a, pv b, v] w fun e w' => e = .returned (.bool (trnS x a b == 0)) ∧ Below w.heap.size w w' := by
  obtain ⟨A, cap, rfl, hl, hcm, _, hat⟩ := h.open
  have hat := Lib.hid hat
  have hok := Lib.hid hok
  unfold maxLen at hcm
  obtain ⟨n, hn⟩ : ∃ n, x.length = n := ⟨_, rfl⟩
  rw [hn] at hl hlen ⊢
  replace hn := Lib.hid hn
  have ha := Lib.hid ha
  have hb := Lib.hid hb
  have hbd := fun k => Lib.hid (trnS_bd a b (x.take k))
  have hstep := Lib.hid (fun k (hk : k < x.length) => trnS_step hk a b)
  obtain ⟨W, hW⟩ : ∃ W, (w.alloc (.cells #[I a.1, I a.2] 22)).alloc (.cells #[I b.1, I b.2] 22) = W := ⟨_, rfl⟩
  obtain ⟨hB, hsz, k1, k2⟩ := boxed2 w _ _ _ _ hW
  obtain ⟨p1, p2⟩ := k1.two
  obtain ⟨p3, p4⟩ := k2.two
  replace hB := Lib.hid hB
  clear h k1 k2
  go_enter Try.func71, Try.ntmps71
  go_wp2
  go_loopw [7, 12] (fun c7 c12 wr => ∃ k : Nat, k ≤ n ∧ c7 = .int .i64 (trnS (x.take k) a b) ∧ c12 = .int .i64 (k : Int) ∧ Hid (Below W.heap.size W wr)) (fun _ c _ => n - (intOf c).toNat)
  case atStart => exact ⟨0, Nat.zero_le _, rfl, rfl, Below.refl _ _⟩
  case round =>
    obtain ⟨k, hk, rfl, rfl, hB2⟩ := hrel
    by_cases hlt : k < n
    case neg =>
      obtain rfl : n = k := by omega
      have hr := Lib.hid (show x.take n = x from List.take_of_length_le (by rw [hn.out]; exact Nat.le_refl _))
      rw [hr.out]
      go_wp2
      go_ret
      exact ⟨rfl, bthen hB.out hB2.out⟩
    have hkl : k < x.length := by rw [hn.out]; exact hlt
    obtain ⟨b', o, rfl, q1, q2⟩ := hat.out k hkl
    have hT := Lib.hid (fun W => turnP_any W a b _ ha.out hb.out (hok.out k hkl))
    have hs := Lib.hid (hstep.out k hkl)
    have bd := (hbd (k + 1)).out
    rw [hs.out] at bd
    have hlk : (x.take (k + 1)).length ≤ 1000 := by have := hn.out; rw [List.length_take]; omega
    replace p1 := cell_below p1 hB2.out
    replace p2 := cell_below p2 hB2.out
    replace p3 := cell_below p3 hB2.out
    replace p4 := cell_below p4 hB2.out
    have z0 := hB2.out.size
    have z1 : w.heap.size < wr.heap.size := by omega
    have z2 : w.heap.size + 1 < wr.heap.size := by omega
    have hLk := Lib.hid (show ((x.take (k + 1)).length : Int) ≤ 1000 by omega)
    have r1 := cell_below (cell_below q1 hB.out) hB2.out
    have r2 := cell_below (cell_below q2 hB.out) hB2.out
    clear q1 q2 hbd hstep hat hlk
    generalize ptA x k = p at *
    generalize trnS (x.take k) a b = s at *
    generalize trn a b p = T at *
    generalize ((x.take (k + 1)).length : Int) = L at *
    have b1 : -1000 ≤ s + T := by have := hLk.out; omega
    have b2 : s + T ≤ 1000 := by have := hLk.out; omega
    clear bd hLk
    have hal := Lib.hid (below1 wr (.cells #[.int .i64 p.1, .int .i64 p.2] 22))
    go_wp2_with (go_at_call 53; refine (hT.out _).mono ?_; rintro e w1 ⟨rfl, hb⟩; have hb := Lib.hid (bthen hB2.out (bthen hal.out hb)))
    go_roundw
    case rel => exact ⟨k + 1, by omega, by rw [hs.out], by go_num, hb⟩
    case measure => simp [intOf]; omega

set_option maxHeartbeats 400000 in
theorem in_any (w : World) (v : Value) (l : List Pt) (x y : Int) (h : Pts w v l) :
    Calls Try.prog 72 #[v, .agg #[.int .i64 x, .int .i64 y]] w fun e w' => e = .returned (.bool (hasPt l (x, y))) ∧ Below w.heap.size w w' := by
  obtain ⟨W, hW⟩ : ∃ W, w.alloc (.cells #[I x, I y] 22) = W := ⟨_, rfl⟩
  have hB : Below w.heap.size w W := by rw [← hW]; exact below1 _ _
  have k1 : Blk W w.heap.size 22 #[I x, I y] := by rw [← hW]; exact Blk.new w 22 _
  replace h := h.then hB
  obtain ⟨A, cap, rfl, hl, hcap, hn, hat⟩ := h.open
  obtain ⟨p1, p2⟩ := k1.two
  replace hat := Lib.hid hat
  replace hB := Lib.hid hB
  clear hn h k1
  unfold maxLen at hcap
  go_enter Try.func72, Try.ntmps72
  go_wp2
  go_loopw [5] (fun i wr => ∃ k : Nat, k ≤ l.length ∧ i = .int .i64 k ∧ Hid (hasPt (l.take k) (x, y) = false) ∧ Hid (Below W.heap.size W wr)) (fun i _ => l.length - (intOf i).toNat)
  case atStart => exact ⟨0, Nat.zero_le _, rfl, by unfold Hid hasPt; simp, Below.refl _ _⟩
  case round =>
    obtain ⟨k, hk, rfl, ht, hBW⟩ := hrel
    by_cases hlt : k < l.length
    · obtain ⟨b, off, rfl, q1, q2⟩ := hat.out k hlt
      replace q1 := cell_below q1 hBW.out
      replace q2 := cell_below q2 hBW.out
      replace p1 := cell_below p1 hBW.out
      replace p2 := cell_below p2 hBW.out
      have hst := hasPt_step l (x, y) k hlt
      rw [ht.out, Bool.false_or] at hst
      have hhit := Lib.hid (fun h => hasPt_mono (p := (x, y)) hlt (Nat.le_refl _) h)
      rw [List.take_length] at hhit
      generalize hp : ptA l k = p at *
      obtain ⟨x2, y2⟩ := p
      dsimp only at q1 q2
      have hE : eqPt (x, y) (x2, y2) = (x2 == x && y2 == y) := by rw [eqPt_iff, BEq.comm (a := x), BEq.comm (a := y)]
      rw [hE] at hst hhit
      by_cases hp2 : (x2 == x && y2 == y) = true
      · have hr := Lib.hid (show hasPt l (x, y) = true from hhit.out hp2)
        clear hst hhit hE
        go_wp2
        go_quiet (fail)
        go_wp2
        go_ret
        exact ⟨ret_bool (by rw [hr.out]), bthen hB.out (below_drewN hBW.out _)⟩
      · replace hp2 : (x2 == x && y2 == y) = false := by simpa using hp2
        have hr := Lib.hid (show hasPt (l.take (k + 1)) (x, y) = false by rw [hst, hp2])
        clear hst hhit hE
        go_wp2
        go_quiet (fail)
        go_wp2
        go_roundw
        case rel => exact ⟨k + 1, by omega, by go_num, hr, below_drewN hBW.out _⟩
        case measure => simp [intOf]; omega
    · obtain rfl : k = l.length := by omega
      have hr := Lib.hid (show hasPt l (x, y) = false by have := ht.out; rwa [List.take_length] at this)
      go_wp2
      go_ret
      exact ⟨ret_bool (by rw [hr.out]), bthen hB.out hBW.out⟩

set_option maxHeartbeats 1000000 in
theorem even_any (w : World) (v : Value) (x : List Pt) (a b : Pt) (h : Pts w v x) (hok : OkL x) (ha : okP a) (hb : okP b) (hlen : x.length ≤ 1000) :
    Calls Try.prog 73 #[v, .agg #[.int .i64 a.1, .int .i64 a.2, .int .i64 b.1, .int .i64 b.2]] w fun e w' => e = .returned (.bool (trnS x a b == 0)) ∧ Below w.heap.size w w' := by
  obtain ⟨W, hW⟩ : ∃ W, w.alloc (.cells #[I a.1, I a.2, I b.1, I b.2] 49) = W := ⟨_, rfl⟩
  have hB : Below w.heap.size w W := by rw [← hW]; exact below1 _ _
  have k1 : Blk W w.heap.size 49 #[I a.1, I a.2, I b.1, I b.2] := by rw [← hW]; exact Blk.new w 49 _
  replace h := h.then hB
  obtain ⟨A, cap, rfl, hl, hcm, _, hat⟩ := h.open
  have hat := Lib.hid hat
  have hok := Lib.hid hok
  unfold maxLen at hcm
  obtain ⟨n, hn⟩ : ∃ n, x.length = n := ⟨_, rfl⟩
  rw [hn] at hl hlen ⊢
  replace hn := Lib.hid hn
  have ha := Lib.hid ha
  have hb := Lib.hid hb
  have hbd := fun k => Lib.hid (trnS_bd a b (x.take k))
  have hstep := Lib.hid (fun k (hk : k < x.length) => trnS_step hk a b)
  have p1 := k1.cell 0
  have p2 := k1.cell 1
  have p3 := k1.cell 2
  have p4 := k1.cell 3
  simp at p1 p2 p3 p4
  replace hB := Lib.hid hB
  clear h k1
  go_enter Try.func73, Try.ntmps73
  go_wp2
  go_loopw [5, 6] (fun c7 c12 wr => ∃ k : Nat, k ≤ n ∧ c7 = .int .i64 (trnS (x.take k) a b) ∧ c12 = .int .i64 (k : Int) ∧ Hid (Below W.heap.size W wr)) (fun _ c _ => n - (intOf c).toNat)
  case atStart => exact ⟨0, Nat.zero_le _, rfl, rfl, Below.refl _ _⟩
  case round =>
    obtain ⟨k, hk, rfl, rfl, hB2⟩ := hrel
    by_cases hlt : k < n
    case neg =>
      obtain rfl : n = k := by omega
      have hr := Lib.hid (show x.take n = x from List.take_of_length_le (by rw [hn.out]; exact Nat.le_refl _))
      rw [hr.out]
      go_wp2
      go_ret
      exact ⟨rfl, bthen hB.out hB2.out⟩
    have hkl : k < x.length := by rw [hn.out]; exact hlt
    obtain ⟨b', o, rfl, q1, q2⟩ := hat.out k hkl
    have hT := Lib.hid (fun g : Gr wr => grow_of (turnR_any g.w1 a b _ ha.out hb.out (hok.out k hkl)))
    have hs := Lib.hid (hstep.out k hkl)
    have bd := (hbd (k + 1)).out
    rw [hs.out] at bd
    have hlk : (x.take (k + 1)).length ≤ 1000 := by have := hn.out; rw [List.length_take]; omega
    have t1 := fun g : Gr wr => g.cell (cell_below p1 hB2.out)
    have t2 := fun g : Gr wr => g.cell (cell_below p2 hB2.out)
    have t3 := fun g : Gr wr => g.cell (cell_below p3 hB2.out)
    have t4 := fun g : Gr wr => g.cell (cell_below p4 hB2.out)
    have t5 := fun g : Gr wr => g.cell (cell_below q1 hB2.out)
    have t6 := fun g : Gr wr => g.cell (cell_below q2 hB2.out)
    have hLk := Lib.hid (show ((x.take (k + 1)).length : Int) ≤ 1000 by omega)
    clear q1 q2 hbd hstep hat hlk p1 p2 p3 p4
    generalize ptA x k = p at *
    generalize trnS (x.take k) a b = s at *
    generalize trn a b p = T at *
    generalize ((x.take (k + 1)).length : Int) = L at *
    have b1 : -1000 ≤ s + T := by have := hLk.out; omega
    have b2 : s + T ≤ 1000 := by have := hLk.out; omega
    clear bd hLk
    go_wp2
    refine wp_region_grow (by kernel_rfl) (by kernel_rfl) ?_
    repeat (go_big_quiet_step ((go_at_call 15; exact hT.out _)))
    refine wpQuiet_nil ?_
    rintro _ ⟨g, rfl⟩
    have hBg := Lib.hid (bthen hB2.out g.h)
    go_wp2
    go_roundw
    case rel => exact ⟨k + 1, by omega, by rw [hs.out], by go_num, hBg⟩
    case measure => simp [intOf]; omega
end Go.Proofs.Ythnabheibacbcaa
