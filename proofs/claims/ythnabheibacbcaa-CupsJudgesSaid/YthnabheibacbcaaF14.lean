/- R.IsEmpty; list. No condition. -/
import Derived.Test.YthnabheibacbcaaF13
namespace Go.Proofs.Ythnabheibacbcaa
open Go.RowKit Go.Shelf

theorem any_ord {l : List Pt} {os : List Nat} (h : Ordd l os) (f : Nat → Bool) : os.any f = (List.range l.length).any f := by
  rw [Bool.eq_iff_iff, List.any_eq_true, List.any_eq_true]
  constructor
  · rintro ⟨x, hx, hf⟩; exact ⟨x, h.1.mem_iff.1 hx, hf⟩
  · rintro ⟨x, hx, hf⟩; exact ⟨x, h.1.mem_iff.2 hx, hf⟩
theorem any_range_step (f : Nat → Bool) (k : Nat) : (List.range (k + 1)).any f = ((List.range k).any f || f k) := by
  rw [List.range_succ, List.any_append]; simp
theorem any_range_hit {f : Nat → Bool} {k n : Nat} (hk : k < n) (h : f k = true) : (List.range n).any f = true := List.any_eq_true.2 ⟨k, List.mem_range.2 hk, h⟩

set_option maxHeartbeats 2000000 in
theorem isEmptyR_any (w : World) (v vx : Value) (l : List Pt) (xs : List Int) (h : Pts w v l) (hc : checkB l = true) (hg : genB l = true) (hx : Ints w vx xs) (hlen : xs.length ≤ 1000) :
    Calls Try.prog 43 #[v, vx] w fun e w' => e = .returned (.bool (freeB l xs)) ∧ Below w.heap.size w w' := by
  have hor := ordR_ord (dist_of hc)
  have hP := Lib.hid (isPolygonR_any w v vx l xs h hc hg hx)
  obtain ⟨A, N, cap, rfl, hN⟩ := h.shape
  obtain ⟨Ax, n, cx, rfl, hn⟩ := hx.shape
  obtain ⟨pb, hpb⟩ : ∃ pb, polyB l xs = pb := ⟨_, rfl⟩
  have hr := Lib.hid (show freeB l xs = (pb && !(List.range N).any (insB (tur l) (xs.map Int.toNat))) by unfold freeB; rw [hpb, any_ord hor, hN.out])
  cases pb with
  | false =>
    replace hpb := Lib.hid hpb
    clear h hx
    go_enter Try.func43, Try.ntmps43
    go_wp2_with (go_at_call 41; refine hP.out.mono ?_; rintro e w1 ⟨rfl, hb⟩; rw [hpb.out]; have hb := Lib.hid hb)
    go_ret
    exact ⟨ret_bool (by rw [hr.out]; rfl), hb.out⟩
  | true =>
    have hib : idxB l.length xs = true := by unfold polyB at hpb; simp only [Bool.and_eq_true] at hpb; exact hpb.1
    obtain ⟨n1, n2, n3⟩ := idx_nats hib
    have hin := Lib.hid (fun W (hb : Below w.heap.size w W) p (hp : p < N) => insideR_any W _ _ l (xs.map Int.toNat) p (h.then hb) (okL_of hc) (by rw [← n1]; exact Ints.below hx (Nat.le_refl _) hb) n3 (by rw [← hN.out]; exact hp) (by rw [List.length_map]; exact hlen))
    generalize insB (tur l) (xs.map Int.toNat) = f at *
    replace hpb := Lib.hid hpb
    have hN14 : N ≤ 14 := by rw [hN.out]; exact (len_of hc).2
    clear h hx n1 n2 n3 hor hib
    go_enter Try.func43, Try.ntmps43
    go_wp2_with (go_at_call 41; refine hP.out.mono ?_; rintro e w1 ⟨rfl, hb⟩; rw [hpb.out]; have hb := Lib.hid hb)
    go_loopw [5] (fun c wr => ∃ k : Nat, k ≤ N ∧ c = .int .i64 (k : Int) ∧ Hid ((List.range k).any f = false) ∧ Hid (Below w.heap.size w wr)) (fun c _ => N - (intOf c).toNat)
    case atStart => exact ⟨0, Nat.zero_le _, rfl, by unfold Hid; simp, hb⟩
    case round =>
      clear hb
      obtain ⟨k, hk, rfl, hno, hB⟩ := hrel
      by_cases hlt : k < N
      case neg =>
        obtain rfl : N = k := by omega
        go_wp2
        go_ret
        exact ⟨ret_bool (by rw [hr.out, hno.out]; rfl), hB.out⟩
      have hX := Lib.hid (hin.out _ hB.out k hlt)
      have hst := Lib.hid (show (List.range (k + 1)).any f = f k by rw [any_range_step, hno.out, Bool.false_or])
      have hhit := Lib.hid (show f k = true → (List.range N).any f = true from fun h => any_range_hit hlt h)
      generalize f k = b0 at *
      cases b0 with
      | true =>
        have hh := Lib.hid (hhit.out rfl)
        clear hhit
        go_wp2_with (go_at_call 77; refine hX.out.mono ?_; rintro e w1 ⟨rfl, hb⟩; have hb := Lib.hid (bthen hB.out hb))
        go_ret
        exact ⟨ret_bool (by rw [hr.out, hh.out]; rfl), hb.out⟩
      | false =>
        clear hhit
        go_wp2_with (go_at_call 77; refine hX.out.mono ?_; rintro e w1 ⟨rfl, hb⟩; have hb := Lib.hid (bthen hB.out hb))
        go_roundw
        case rel => exact ⟨k + 1, by omega, by go_num, hst, hb⟩
        case measure => simp [intOf]; omega

def cut16 (l : List Int) : List Int := l.take 16
theorem cut16_len (l : List Int) : (cut16 l).length ≤ 16 := by unfold cut16; rw [List.length_take]; omega
set_option maxHeartbeats 1000000 in
theorem list_any (w : World) (v : Value) (l : List Int) (h : Ints w v l) :
    Calls Try.prog 39 #[v] w fun e w' => ∃ v', e = .returned v' ∧ OwnI w.heap.size 3 w' v' (cut16 l) ∧ Below w.heap.size w w' := by
  obtain ⟨A, n, cap, rfl, hn⟩ := h.shape
  obtain ⟨_, cap', e, hl, hcm, hnone, _⟩ := h.open
  injection e with e1 e2 e3
  subst e1 e3
  unfold maxLen at hcm
  have hl' : n ≤ cap := by rw [e2]; exact hl
  rw [← e2] at hl
  by_cases h15 : n ≤ 16
  · have hmin : min (n : Int) 16 = n := by omega
    have ht : cut16 l = l := List.take_of_length_le (by have := hn.out; omega)
    rw [ht]
    rcases A with _ | ad
    · have hc0 := hnone rfl
      have hn0 : n = 0 := by omega
      have hll : l = [] := List.length_eq_zero_iff.1 (by rw [← hn.out]; exact hn0)
      subst hll hc0 hn0
      clear hmin hnone e2
      have h := Lib.hid h
      go_enter Try.func39, Try.ntmps39
      go_wp2_with (at_builtin; refine wpList_append_slc _ rfl (.tmp 4) (.tmp 9) 33 rfl w.heap.size 3 Try.underlying33 info3 rfl (by omega) isI_one _ [] rfl (own_nil _ _ _) _ rfl [] h.out (by simp) (Nat.le_refl _) ?_; intro v' w' h1 h2 _ _)
      go_ret
      exact ⟨_, rfl, h1, h2⟩
    · clear hnone e2
      have h := Lib.hid h
      go_enter Try.func39, Try.ntmps39
      go_wp2_with (at_builtin; refine wpList_append_slc _ rfl (.tmp 4) (.tmp 9) 33 rfl w.heap.size 3 Try.underlying33 info3 rfl (by omega) isI_one _ [] rfl (own_nil _ _ _) _ rfl l h.out (by have := hn.out; simp; omega) (Nat.le_refl _) ?_; intro v' w' h1 h2 _ _)
      go_ret
      exact ⟨_, rfl, h1, h2⟩
  · have hmin : min (n : Int) 16 = 16 := by omega
    rcases A with _ | ad
    · have hc0 := hnone rfl
      omega
    have h := Lib.hid (h.take 16 (by have := hn.out; omega))
    clear hnone e2
    go_enter Try.func39, Try.ntmps39
    go_wp2_with (at_builtin; refine wpList_append_slc _ rfl (.tmp 4) (.tmp 9) 33 rfl w.heap.size 3 Try.underlying33 info3 rfl (by omega) isI_one _ [] rfl (own_nil _ _ _) _ rfl (l.take 16) h.out (by simp; omega) (Nat.le_refl _) ?_; intro v' w' h1 h2 _ _)
    go_ret
    exact ⟨_, rfl, h1, h2⟩
end Go.Proofs.Ythnabheibacbcaa
