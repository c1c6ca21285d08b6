/- cups.Check. No condition. -/
import Derived.Test.YthnabheibacbcaaC2
import Derived.Test.YthnabheibacbcaaGrow
namespace Go.Proofs.Ythnabheibacbcaa
open Go.RowKit
attribute [local go_sem high] eql22

/-- point i is in range, and no point before it is the same -/
def pOk (l : List Pt) (i : Nat) : Bool := okB (ptA l i) && !hasPt (l.take i) (ptA l i)
/-- what is wrong with points -/
def checkB (l : List Pt) : Bool := decide (1 ≤ l.length) && decide (l.length ≤ 14) && (List.range l.length).all (pOk l)
def checkE (l : List Pt) : Int := if checkB l = true then 0 else 90

theorem checkE_len {l : List Pt} (h : l.length < 1 ∨ 14 < l.length) : checkE l = 90 := by
  unfold checkE checkB
  rw [if_neg]
  simp; omega
theorem checkE_bad {l : List Pt} {k : Nat} (hk : k < l.length) (h : pOk l k = false) : checkE l = 90 := by
  unfold checkE
  rw [if_neg]
  unfold checkB
  intro hh
  simp only [Bool.and_eq_true, List.all_eq_true, List.mem_range] at hh
  rw [hh.2 k hk] at h; cases h
theorem checkE_ok {l : List Pt} (h1 : 1 ≤ l.length) (h2 : l.length ≤ 14) (h : ∀ i, i < l.length → pOk l i = true) : checkE l = 0 := by
  unfold checkE
  rw [if_pos]
  unfold checkB
  simp only [Bool.and_eq_true, List.all_eq_true, List.mem_range, decide_eq_true_eq]
  exact ⟨⟨h1, h2⟩, h⟩

set_option maxHeartbeats 1000000 in
theorem check_any (w : World) (v : Value) (l : List Pt) (h : Pts w v l) :
    Calls Try.prog 51 #[v] w fun e w' => e = .returned (.int .i64 (checkE l)) ∧ Below w.heap.size w w' := by
  have hh := Lib.hid h
  obtain ⟨A, cap, rfl, hl, hcap, hn, hat⟩ := h.open
  replace hat := Lib.hid hat
  clear hn h
  unfold maxLen at hcap
  have hB0 := Lib.hid (Below.refl w.heap.size w)
  by_cases h1 : l.length < 1
  · have hr := Lib.hid (checkE_len (.inl h1))
    clear hat hh
    go_enter Try.func51, Try.ntmps51
    go_wp2
    go_ret
    exact ⟨ret_int hr.out.symm, hB0.out⟩
  by_cases h2 : 14 < l.length
  · have hr := Lib.hid (checkE_len (.inr h2))
    clear hat hh
    go_enter Try.func51, Try.ntmps51
    go_wp2
    go_ret
    exact ⟨ret_int hr.out.symm, hB0.out⟩
  go_enter Try.func51, Try.ntmps51
  go_wp2
  go_loopw [15] (fun i wr => ∃ k : Nat, k ≤ l.length ∧ i = .int .i64 k ∧ Hid (∀ i, i < k → pOk l i = true) ∧ Hid (Below w.heap.size w wr)) (fun i _ => l.length - (intOf i).toNat)
  case atStart => exact ⟨0, Nat.zero_le _, rfl, fun i hi => by omega, Below.refl _ _⟩
  case round =>
    obtain ⟨k, hk, rfl, hok, hB⟩ := hrel
    by_cases hlt : k < l.length
    · obtain ⟨b, off, rfl, q1, q2⟩ := hat.out k hlt
      replace q1 := cell_below q1 hB.out
      replace q2 := cell_below q2 hB.out
      have hbad := Lib.hid (checkE_bad (l := l) hlt)
      have hpk : Hid (pOk l k = (okB (ptA l k) && !hasPt (l.take k) (ptA l k))) := rfl
      generalize hp : ptA l k = p at *
      obtain ⟨x, y⟩ := p
      dsimp only at q1 q2
      obtain ⟨W1, hW1⟩ : ∃ W1, wr.alloc (.cells #[I x, I y] 22) = W1 := ⟨_, rfl⟩
      have k1 : Blk W1 wr.heap.size 22 #[I x, I y] := by rw [← hW1]; exact Blk.new wr 22 _
      have hBW := Lib.hid (show Below w.heap.size w W1 by rw [← hW1]; exact bthen hB.out (below1 _ _))
      have c0 : ∀ g : Gr W1, g.w1.cell? ⟨wr.heap.size, 0, none⟩ = some (I x) := fun g => g.cell k1.two.1
      have c1 : ∀ g : Gr W1, g.w1.cell? ⟨wr.heap.size, 1, none⟩ = some (I y) := fun g => g.cell k1.two.2
      have hIs := Lib.hid (fun g : Gr W1 => grow_of (isPoint_any2 g.w1 x y))
      have hCon := Lib.hid (fun g : Gr W1 => by have := grow_of (contains_any g.w1 _ (l.take k) x y ((hh.out.then (bthen hBW.out g.h)).take k (by omega))); exact this)
      clear k1
      cases e1 : okB (x, y)
      · have hr := Lib.hid (hbad.out (by rw [hpk.out, e1]; rfl))
        rw [e1] at hIs
        replace e1 := Lib.hid e1
        clear hCon
        go_wp2
        refine wp_region_grow (by kernel_rfl) (by kernel_rfl) ?_
        repeat (go_big_quiet_step ((go_at_call 52; exact hIs.out _)))
        refine wpQuiet_nil ?_
        rintro _ ⟨g, rfl⟩
        have hBg := Lib.hid (bthen hBW.out g.h)
        go_wp2
        go_ret
        exact ⟨ret_int hr.out.symm, hBg.out⟩
      · rw [e1] at hIs
        cases e2 : hasPt (l.take k) (x, y)
        · have hok2 := Lib.hid (show pOk l k = true by rw [hpk.out, e1, e2]; rfl)
          rw [e2] at hCon
          replace e1 := Lib.hid e1
          replace e2 := Lib.hid e2
          go_wp2
          refine wp_region_grow (by kernel_rfl) (by kernel_rfl) ?_
          repeat (go_big_quiet_step (first | (go_at_call 52; exact hIs.out _) | (go_at_call 70; exact hCon.out _)))
          refine wpQuiet_nil ?_
          rintro _ ⟨g, rfl⟩
          have hBg := Lib.hid (bthen hBW.out g.h)
          go_wp2
          go_roundw
          case rel => exact ⟨k + 1, by omega, by go_num, fun j hj => by
            by_cases hjk : j < k
            · exact hok.out j hjk
            · obtain rfl : j = k := by omega
              exact hok2.out, hBg.out⟩
          case measure => simp [intOf]; omega
        · have hr := Lib.hid (hbad.out (by rw [hpk.out, e1, e2]; rfl))
          rw [e2] at hCon
          replace e1 := Lib.hid e1
          replace e2 := Lib.hid e2
          go_wp2
          refine wp_region_grow (by kernel_rfl) (by kernel_rfl) ?_
          repeat (go_big_quiet_step (first | (go_at_call 52; exact hIs.out _) | (go_at_call 70; exact hCon.out _)))
          refine wpQuiet_nil ?_
          rintro _ ⟨g, rfl⟩
          have hBg := Lib.hid (bthen hBW.out g.h)
          go_wp2
          go_ret
          exact ⟨ret_int hr.out.symm, hBg.out⟩
    · obtain rfl : k = l.length := by omega
      have hr := Lib.hid (checkE_ok (by omega) (by omega) hok.out)
      go_wp2
      go_ret
      exact ⟨ret_int hr.out.symm, hB.out⟩
end Go.Proofs.Ythnabheibacbcaa
