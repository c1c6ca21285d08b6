/- Halve's inner functions; R.in, R.even. No condition. -/
import Derived.Test.YthnabheibacbcaaF1
import Derived.Test.YthnabheibacbcaaY3
namespace Go.Proofs.Ythnabheibacbcaa
open Go.RowKit
attribute [local go_sem high] eql22

set_option maxHeartbeats 400000 in
theorem Halve1_any (w : World) (g : Nat) (v : Value) (m : List Pt) (x y : Int) (hc : w.cell? ⟨g, 0, none⟩ = some v) (h : Pts w v m) :
    Calls Try.prog 69 #[.agg #[.int .i64 x, .int .i64 y], .pointer (some ⟨g, 0, none⟩)] w fun e w' => e = .returned (.bool (hasPt m (x, y))) ∧ Below w.heap.size w w' := by
  obtain ⟨W, hW⟩ : ∃ W, w.alloc (.cells #[I x, I y] 22) = W := ⟨_, rfl⟩
  have hB : Below w.heap.size w W := by rw [← hW]; exact below1 _ _
  have k1 : Blk W w.heap.size 22 #[I x, I y] := by rw [← hW]; exact Blk.new w 22 _
  have H := Lib.hid (contains_any W v m x y (h.then hB))
  obtain ⟨A, n, cap, rfl, hn⟩ := h.shape
  obtain ⟨p1, p2⟩ := k1.two
  replace hc := cell_below hc hB
  replace hB := Lib.hid hB
  clear h k1
  go_enter Try.func69, Try.ntmps69
  go_wp2_with (go_at_call 70; refine H.out.mono ?_; rintro e w1 ⟨rfl, hb⟩; replace hb := Lib.hid hb)
  go_ret
  exact ⟨rfl, bthen hB.out hb.out⟩

set_option maxHeartbeats 400000 in
theorem indexH1_any (w : World) (v vm : Value) (l m : List Pt) (g : Nat) (h : Pts w v l) (hc : w.cell? ⟨g, 0, none⟩ = some vm) (hm : Pts w vm m) :
    Calls Try.prog 87 #[v, .func (.func 69) #[] #[.pointer (some ⟨g, 0, none⟩)]] w fun e w' => ∃ r : Int, e = .returned (.int .i64 r) ∧ decide (0 ≤ r) = l.any (hasPt m) ∧ Below w.heap.size w w' := by
  have hcf : ∀ (args : Array Value) (W : World), (callFunc 69 args).run Try.prog W = .ok (.enter 69 args) W := fun args W => by simp [go_sem]
  have H := Lib.hid (fun W (hb : Below w.heap.size w W) p => Halve1_any W g vm m (Prod.fst p) (Prod.snd p) (cell_below hc hb) (hm.then hb))
  obtain ⟨A, cap, rfl, hl, hcm, _, hat⟩ := h.open
  have hat := Lib.hid hat
  unfold maxLen at hcm
  obtain ⟨n, hn⟩ : ∃ n, l.length = n := ⟨_, rfl⟩
  rw [hn] at hl ⊢
  replace hn := Lib.hid hn
  clear h hc hm
  go_enter Try.func87, Try.ntmps87
  go_wp2
  go_loopw [8] (fun c wr => ∃ k : Nat, k ≤ n ∧ c = .int .i64 (k : Int) ∧ Hid ((l.take k).any (hasPt m) = false) ∧ Hid (Below w.heap.size w wr)) (fun c _ => n - (intOf c).toNat)
  case atStart => exact ⟨0, Nat.zero_le _, rfl, by unfold Hid; simp, Below.refl _ _⟩
  case round =>
    obtain ⟨k, hk, rfl, hno, hB⟩ := hrel
    by_cases hlt : k < n
    case neg =>
      obtain rfl : n = k := by omega
      have hr := Lib.hid (show l.any (hasPt m) = false by have := hno.out; rwa [List.take_of_length_le (by rw [hn.out]; exact Nat.le_refl _)] at this)
      go_wp2
      go_ret
      exact ⟨_, rfl, by rw [hr.out]; rfl, hB.out⟩
    have hkl : k < l.length := by rw [hn.out]; exact hlt
    obtain ⟨b, o, rfl, q1, q2⟩ := hat.out k hkl
    replace q1 := cell_below q1 hB.out
    replace q2 := cell_below q2 hB.out
    have hst := Lib.hid (show (l.take (k + 1)).any (hasPt m) = hasPt m (ptA l k) by
      rw [take_ptA hkl, List.any_append, hno.out]; simp)
    have hhit := Lib.hid (show hasPt m (ptA l k) = true → l.any (hasPt m) = true from fun h => List.any_eq_true.2 ⟨ptA l k, by rw [ptA_eq hkl]; exact List.getElem_mem _, h⟩)
    have hX := Lib.hid (H.out _ hB.out (ptA l k))
    obtain ⟨p, hp⟩ : ∃ p, ptA l k = p := ⟨_, rfl⟩
    rw [hp] at q1 q2 hst hhit hX
    obtain ⟨x, y⟩ := p
    dsimp only at q1 q2 hX
    clear hp
    obtain ⟨b0, hb0⟩ : ∃ b0, hasPt m (x, y) = b0 := ⟨_, rfl⟩
    rw [hb0] at hst hhit hX
    clear hb0
    cases b0 with
    | true =>
      have hr := Lib.hid (hhit.out rfl)
      clear hhit
      go_wp2_with (go_at_call 69; refine hX.out.mono ?_; rintro e w1 ⟨rfl, hb⟩; have hb := Lib.hid (bthen hB.out hb))
      go_ret
      exact ⟨_, rfl, by rw [hr.out]; simp, hb.out⟩
    | false =>
      clear hhit
      go_wp2_with (go_at_call 69; refine hX.out.mono ?_; rintro e w1 ⟨rfl, hb⟩; have hb := Lib.hid (bthen hB.out hb))
      go_roundw
      case rel => exact ⟨k + 1, by omega, by go_num, hst, hb⟩
      case measure => simp [intOf]; omega
set_option maxHeartbeats 400000 in
theorem containsH1_any (w : World) (v vm : Value) (l m : List Pt) (g : Nat) (h : Pts w v l) (hc : w.cell? ⟨g, 0, none⟩ = some vm) (hm : Pts w vm m) :
    Calls Try.prog 68 #[v, .func (.func 69) #[] #[.pointer (some ⟨g, 0, none⟩)]] w fun e w' => e = .returned (.bool (l.any (hasPt m))) ∧ Below w.heap.size w w' := by
  have H := Lib.hid (indexH1_any w v vm l m g h hc hm)
  clear h hc hm
  go_enter Try.func68, Try.ntmps68
  go_wp2_with (go_at_call 87; refine H.out.mono ?_; rintro e w1 ⟨r, rfl, hr, hb⟩; have hr := Lib.hid hr; have hb := Lib.hid hb)
  go_ret
  exact ⟨ret_bool (by rw [← hr.out]), hb.out⟩
end Go.Proofs.Ythnabheibacbcaa
