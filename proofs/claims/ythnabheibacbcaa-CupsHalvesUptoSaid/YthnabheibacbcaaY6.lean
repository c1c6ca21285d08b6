/- R.Halves, R.Halvable. No condition. -/
import Derived.Test.YthnabheibacbcaaY5
namespace Go.Proofs.Ythnabheibacbcaa
open Go.RowKit
attribute [local go_sem high] eql22

theorem okL_app {l m : List Pt} (e1 : OkL l) (e2 : OkL m) : OkL (l ++ m) := by
  intro i hi
  rw [List.length_append] at hi
  unfold ptA at *
  rw [List.getD_eq_getElem?_getD]
  by_cases h : i < l.length
  · rw [List.getElem?_append_left h]; have := e1 i h; unfold ptA at this; rwa [List.getD_eq_getElem?_getD] at this
  · rw [List.getElem?_append_right (by omega)]; have := e2 (i - l.length) (by omega); unfold ptA at this; rwa [List.getD_eq_getElem?_getD] at this
/-- all points are different -/
def distB (L : List Pt) : Bool := (List.range L.length).all fun i => !hasPt (L.take i) (ptA L i)
def halvB (l m : List Pt) : Bool := distB (l ++ m) && (((l.length % 2 == 1) && (m.length % 2 == 1)) && genB (l ++ m))
theorem distB_bad {L : List Pt} {i : Nat} (hi : i < L.length) (h : hasPt (L.take i) (ptA L i) = true) : distB L = false := by
  unfold distB; rw [List.all_eq_false]; exact ⟨i, List.mem_range.2 hi, by simp [h]⟩
theorem distB_good {L : List Pt} (h : ∀ i, i < L.length → hasPt (L.take i) (ptA L i) = false) : distB L = true := by
  unfold distB; rw [List.all_eq_true]; intro i hi; rw [h i (List.mem_range.1 hi)]; rfl

set_option maxRecDepth 100000 in
set_option maxHeartbeats 1000000 in
theorem halves_any (w : World) (v v2 : Value) (l m : List Pt) (a b : Pt) (h : Pts w v l) (h2 : Pts w v2 m) (ok1 : OkL l) (ok2 : OkL m) (ha : okP a) (hb' : okP b) (l1 : l.length ≤ 1000) (l2 : m.length ≤ 1000)
    (i1 : hasPt l a = true) (i2 : hasPt m b = true) (e1 : trnS l a b = 0) (e2 : trnS m a b = 0) :
    Calls Try.prog 38 #[v, v2, .agg #[.int .i64 a.1, .int .i64 a.2, .int .i64 b.1, .int .i64 b.2]] w fun e w' => e = .returned (.bool true) ∧ Below w.heap.size w w' := by
  obtain ⟨W, hW⟩ : ∃ W, w.alloc (.cells #[I a.1, I a.2, I b.1, I b.2] 49) = W := ⟨_, rfl⟩
  have hB : Below w.heap.size w W := by rw [← hW]; exact below1 _ _
  have k1 : Blk W w.heap.size 49 #[I a.1, I a.2, I b.1, I b.2] := by rw [← hW]; exact Blk.new w 49 _
  replace h := h.then hB
  replace h2 := h2.then hB
  have c1 := Lib.hid (fun W' (hb : Below W.heap.size W W') => show Calls Try.prog 72 _ W' fun e w' => e = .returned (.bool true) ∧ Below W'.heap.size W' w' by have := in_any W' v l a.1 a.2 (h.then hb); rwa [i1] at this)
  have c2 := Lib.hid (fun W' (hb : Below W.heap.size W W') => show Calls Try.prog 72 _ W' fun e w' => e = .returned (.bool true) ∧ Below W'.heap.size W' w' by have := in_any W' v2 m b.1 b.2 (h2.then hb); rwa [i2] at this)
  have c3 := Lib.hid (fun W' (hb : Below W.heap.size W W') => show Calls Try.prog 73 _ W' fun e w' => e = .returned (.bool true) ∧ Below W'.heap.size W' w' by have := even_any W' v l a b (h.then hb) ok1 ha hb' l1; rwa [e1] at this)
  have c4 := Lib.hid (fun W' (hb : Below W.heap.size W W') => show Calls Try.prog 73 _ W' fun e w' => e = .returned (.bool true) ∧ Below W'.heap.size W' w' by have := even_any W' v2 m a b (h2.then hb) ok2 ha hb' l2; rwa [e2] at this)
  have p1 := k1.cell 0
  have p2 := k1.cell 1
  have p3 := k1.cell 2
  have p4 := k1.cell 3
  simp at p1 p2 p3 p4
  replace hB := Lib.hid hB
  have hX : Hid (Below W.heap.size W W) := Below.refl _ _
  clear h h2 k1 i1 i2 e1 e2 ok1 ok2 ha hb'
  go_enter Try.func38, Try.ntmps38
  go_wp2_with (first
    | (go_at_call 72; refine (c1.out _ hX.out).mono ?_; clear c1; rintro e w1 ⟨rfl, hb⟩; replace p1 := cell_below p1 hb; replace p2 := cell_below p2 hb; replace p3 := cell_below p3 hb; replace p4 := cell_below p4 hb; replace hX := Lib.hid (bthen hX.out hb))
    | (go_at_call 72; refine (c2.out _ hX.out).mono ?_; clear c2; rintro e w1 ⟨rfl, hb⟩; replace p1 := cell_below p1 hb; replace p2 := cell_below p2 hb; replace p3 := cell_below p3 hb; replace p4 := cell_below p4 hb; replace hX := Lib.hid (bthen hX.out hb))
    | (go_at_call 73; refine (c3.out _ hX.out).mono ?_; clear c3; rintro e w1 ⟨rfl, hb⟩; replace p1 := cell_below p1 hb; replace p2 := cell_below p2 hb; replace p3 := cell_below p3 hb; replace p4 := cell_below p4 hb; replace hX := Lib.hid (bthen hX.out hb))
    | (go_at_call 73; refine (c4.out _ hX.out).mono ?_; clear c4; rintro e w1 ⟨rfl, hb⟩; replace hX := Lib.hid (bthen hX.out hb)))
  go_ret
  exact ⟨rfl, bthen hB.out hX.out⟩

set_option maxRecDepth 100000 in
set_option maxHeartbeats 1000000 in
theorem halvable_any (w : World) (v v2 : Value) (l m : List Pt) (h : Pts w v l) (h2 : Pts w v2 m) (ok1 : OkL l) (ok2 : OkL m) (l1 : l.length ≤ 1000) (l2 : m.length ≤ 1000) :
    Calls Try.prog 37 #[v, v2] w fun e w' => e = .returned (.bool (halvB l m)) ∧ Below w.heap.size w w' := by
  obtain ⟨A, n, cap, rfl, hn⟩ := h.shape
  obtain ⟨A2, n2, cap2, rfl, hn2⟩ := h2.shape
  have hok := Lib.hid (okL_app ok1 ok2)
  have hh := Lib.hid h
  have hh2 := Lib.hid h2
  have b1 : n ≤ 1000 := by rw [hn.out]; exact l1
  have b2 : n2 ≤ 1000 := by rw [hn2.out]; exact l2
  clear h h2 ok1 ok2
  go_enter Try.func37, Try.ntmps37
  go_wp2_with (at_builtin; first
    | (refine wpList_append_pts _ rfl (.tmp 8) (.tmp 9) 31 rfl w.heap.size Try.underlying31 info22 _ [] rfl (OwnP.nil _ _) _ rfl l hh.out (by simp; omega) (Nat.le_refl _) ?_; intro v' w' h1 hb1 _ _; obtain ⟨A3, n3, c3, rfl, hn3⟩ := OwnP.shape h1; replace h1 := Lib.hid h1; replace hb1 := Lib.hid hb1)
    | (refine wpList_append_pts _ rfl (.tmp 11) (.tmp 12) 31 rfl w.heap.size Try.underlying31 info22 _ l rfl h1.out _ rfl m (hh2.out.then hb1.out) (by omega) hb1.out.size ?_; intro v'' w'' h3 hb3 _ _; obtain ⟨A4, n4, c4, rfl, hn4⟩ := OwnP.shape h3; replace hb3 := Lib.hid hb3; replace h3 := Lib.hid (OwnP.pts h3)))
  obtain ⟨L, hL⟩ : ∃ L, l ++ m = L := ⟨_, rfl⟩
  rw [hL] at h3 hn4 hok
  have hhv := Lib.hid (show halvB l m = (distB L && (((l.length % 2 == 1) && (m.length % 2 == 1)) && genB L)) by unfold halvB; rw [hL])
  have hLn : n4 ≤ 2000 := by rw [hn4.out, ← hL, List.length_append]; omega
  obtain ⟨_, _, e, _, hcm, _, hat⟩ := h3.out.open
  injection e with e1 e2 e3
  subst e1 e3
  have hat := Lib.hid hat
  have hg := Lib.hid (fun W (hb : Below w''.heap.size w'' W) => genR_any W _ L (h3.out.then hb) hok.out)
  have hBB := Lib.hid (hb1.out.trans hb3.out)
  have hn4 : L.length = n4 := hn4.out.symm
  rw [hn4] at hat
  replace hn4 := Lib.hid hn4
  unfold maxLen at hcm
  clear hb1 hb3 h1 hh hh2 e2 hL
  go_loopw [6] (fun c wr => ∃ i : Nat, i ≤ n4 ∧ c = .int .i64 (i : Int) ∧ Hid (∀ j, j < i → hasPt (L.take j) (ptA L j) = false) ∧ Hid (Below w''.heap.size w'' wr)) (fun c _ => n4 - (intOf c).toNat)
  case atStart => exact ⟨0, Nat.zero_le _, rfl, Lib.hid (fun j hj => absurd hj (Nat.not_lt_zero _)), Below.refl _ _⟩
  case round =>
    obtain ⟨i, hi, rfl, hno, hB⟩ := hrel
    by_cases hlt : i < n4
    case neg =>
      obtain rfl : n4 = i := by omega
      have hd := Lib.hid (distB_good (L := L) fun j hj => hno.out j (by rw [← hn4.out]; exact hj))
      have hl := Lib.hid (show (l.length % 2 == 1) = ((n : Int) % 2 == 1) by rw [← hn.out, Bool.eq_iff_iff]; simp; omega)
      have hm := Lib.hid (show (m.length % 2 == 1) = ((n2 : Int) % 2 == 1) by rw [← hn2.out, Bool.eq_iff_iff]; simp; omega)
      rw [hd.out, Bool.true_and, hl.out, hm.out] at hhv
      clear hat hno
      have hgg := Lib.hid (hg.out wr hB.out)
      by_cases o1 : ((n : Int) % 2 == 1) = true
      case neg =>
        replace o1 : ((n : Int) % 2 == 1) = false := by simpa using o1
        rw [o1, Bool.false_and, Bool.false_and] at hhv
        go_wp2
        go_ret
        exact ⟨ret_bool (by rw [hhv.out]), hBB.out.trans (hB.out.mono hBB.out.size)⟩
      by_cases o2 : ((n2 : Int) % 2 == 1) = true
      case neg =>
        replace o2 : ((n2 : Int) % 2 == 1) = false := by simpa using o2
        rw [o2, Bool.and_false, Bool.false_and] at hhv
        go_wp2
        go_ret
        exact ⟨ret_bool (by rw [hhv.out]), hBB.out.trans (hB.out.mono hBB.out.size)⟩
      rw [o1, o2, Bool.true_and, Bool.true_and] at hhv
      generalize genB L = gb at *
      go_wp2_with (go_at_call 36; refine hgg.out.mono ?_; rintro e w1 ⟨rfl, hb⟩; replace hb := Lib.hid (bthen hB.out hb))
      go_ret
      exact ⟨ret_bool (by rw [hhv.out]), hBB.out.trans (hb.out.mono hBB.out.size)⟩
    obtain ⟨b, o, rfl, hx, hy⟩ := hat.out i hlt
    have hxw := cell_below hx hB.out
    have hyw := cell_below hy hB.out
    go_wp2
    go_loopw [7] (fun c wr => ∃ k : Nat, k ≤ i ∧ c = .int .i64 (k : Int) ∧ Hid (hasPt (L.take k) (ptA L i) = false) ∧ Hid (Below w''.heap.size w'' wr)) (fun c _ => i - (intOf c).toNat)
    case atStart => exact ⟨0, Nat.zero_le _, rfl, by unfold Hid hasPt; simp, hB⟩
    case round =>
      clear hxw hyw hB
      obtain ⟨k, hk, rfl, hnk, hB⟩ := hrel
      by_cases hlt2 : k < i
      case neg =>
        obtain rfl : k = i := by omega
        go_wp2
        go_roundw
        case rel => exact ⟨k + 1, by omega, by go_num, Lib.hid (fun j hj => by rcases Nat.lt_or_ge j k with h | h; exact hno.out j h; rw [show j = k by omega]; exact hnk.out), hB⟩
        case measure => simp [intOf]; omega
      have hkl : k < L.length := by rw [hn4.out]; omega
      have hxw := cell_below hx hB.out
      have hyw := cell_below hy hB.out
      obtain ⟨b', o', e, kx, ky⟩ := hat.out k (by omega)
      cases e
      have kx := cell_below kx hB.out
      have ky := cell_below ky hB.out
      have hst := hasPt_step L (ptA L i) k hkl
      rw [hnk.out, Bool.false_or] at hst
      have hbad := Lib.hid (fun h => distB_bad (L := L) (i := i) (by rw [hn4.out]; exact hlt) (hasPt_mono (k := k) hlt2 (by rw [hn4.out]; omega) h))
      obtain ⟨p, hp⟩ : ∃ p, ptA L i = p := ⟨_, rfl⟩
      obtain ⟨q, hq⟩ : ∃ q, ptA L k = q := ⟨_, rfl⟩
      rw [hp, hq] at hst hbad
      rw [hp] at hxw hyw
      rw [hq] at kx ky
      obtain ⟨p1, p2⟩ := p
      obtain ⟨q1, q2⟩ := q
      dsimp only at hxw hyw kx ky
      replace hp := Lib.hid hp
      clear hq
      rw [eqPt_iff] at hst hbad
      by_cases heq : (p1 == q1 && p2 == q2) = true
      · have hr := Lib.hid (show halvB l m = false by rw [hhv.out, hbad.out heq]; rfl)
        clear hst hbad
        go_wp2
        go_quiet (fail)
        go_wp2
        go_ret
        exact ⟨ret_bool (by rw [hr.out]), hBB.out.trans ((below_drewN hB.out nq).mono hBB.out.size)⟩
      · replace heq : (p1 == q1 && p2 == q2) = false := by simpa using heq
        have hst := Lib.hid (show hasPt (L.take (k + 1)) (ptA L i) = false by rw [hp.out, hst, heq])
        clear hbad
        go_wp2
        go_quiet (fail)
        go_wp2
        go_roundw
        case rel => exact ⟨k + 1, by omega, by go_num, hst, Lib.hid (below_drewN hB.out nq)⟩
        case measure => simp [intOf]; omega
end Go.Proofs.Ythnabheibacbcaa
