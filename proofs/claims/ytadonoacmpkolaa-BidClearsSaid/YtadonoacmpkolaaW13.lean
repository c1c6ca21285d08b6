/- Single. -/
import Derived.Test.YtadonoacmpkolaaW12
namespace Go.Proofs.Ytadonoacmpkolaa
open Go.RowKit
attribute [local go_sem high] walk_shl walk_shr walk_bit walk_rem walk_and walk_or walk_andNot

def wrongB (m : Nat) (l : List Int) : Bool := decide (l.length ≠ m) || (decide (minUpto l l.length < 0) || decide (1000000 < maxUpto l l.length))

set_option maxHeartbeats 400000 in
theorem single1_any (w : World) (v : Value) (l : List Int) (m b : Nat) (h : Ints w v l) (hm1 : 1 ≤ m) (hm : m ≤ 6) (hb : w.cell? ⟨b, 0, none⟩ = some (.int .i64 (m : Int))) :
    Calls Try.prog 46 #[v, .pointer (some ⟨b, 0, none⟩)] w fun e w' => e = .returned (.bool (wrongB m l)) ∧ w = w' := by
  have hmin := Lib.hid (min_any w v l h)
  have hmax := Lib.hid (max_any w v l h)
  obtain ⟨A, n, cap, rfl, hn⟩ := Slc.shape h
  have hcap : cap ≤ 2 ^ 63 - 1 ∧ n ≤ cap := by
    obtain ⟨_, _, e, h1, h2, _⟩ := h
    injection e with _ e1 e2
    subst e1 e2
    exact ⟨h2, h1⟩
  obtain ⟨hcap1, hcap2⟩ := hcap
  clear h
  have hwr : Hid (wrongB m l = (decide (n ≠ m) || (decide (minUpto l n < 0) || decide (1000000 < maxUpto l n)))) := by rw [hn.out]; rfl
  rw [← hn.out] at hmin hmax
  clear hn
  generalize wrongB m l = r at *
  generalize minUpto l n = mn at *
  generalize maxUpto l n = mx at *
  by_cases h1 : n = m
  · subst h1
    replace hmin := Lib.hid (hmin.out (by omega))
    replace hmax := Lib.hid (hmax.out (by omega))
    have hne : ((n : Int) != (n : Int)) = false := by simp
    by_cases h3 : mn < 0
    · obtain rfl : r = true := by rw [hwr.out]; simp [h3]
      go_enter Try.func46, Try.ntmps46
      go_wp2_with (first | (go_at_call 47; refine hmin.out.mono ?_; rintro e w1 ⟨rfl, rfl⟩) | (go_at_call 48; refine hmax.out.mono ?_; rintro e w1 ⟨rfl, rfl⟩))
      go_ret
      exact ⟨rfl, rfl⟩
    · by_cases h4 : 1000000 < mx
      · obtain rfl : r = true := by rw [hwr.out]; simp [h4]
        go_enter Try.func46, Try.ntmps46
        go_wp2_with (first | (go_at_call 47; refine hmin.out.mono ?_; rintro e w1 ⟨rfl, rfl⟩) | (go_at_call 48; refine hmax.out.mono ?_; rintro e w1 ⟨rfl, rfl⟩))
        go_ret
        exact ⟨rfl, rfl⟩
      · obtain rfl : r = false := by rw [hwr.out]; simp [h3, h4]
        go_enter Try.func46, Try.ntmps46
        go_wp2_with (first | (go_at_call 47; refine hmin.out.mono ?_; rintro e w1 ⟨rfl, rfl⟩) | (go_at_call 48; refine hmax.out.mono ?_; rintro e w1 ⟨rfl, rfl⟩))
        go_ret
        exact ⟨ret_bool (by simp [h3, h4]), rfl⟩
  · obtain rfl : r = true := by rw [hwr.out]; simp [h1]
    have hne : ((n : Int) != (m : Int)) = true := by simp; omega
    clear hmin hmax hwr
    go_enter Try.func46, Try.ntmps46
    go_wp2
    go_ret
    exact ⟨rfl, rfl⟩

/-- what is wrong with offers -/
def singleE (m : Int) (xs : List (List Int)) : Int :=
  if m < 1 ∨ 6 < m then 1 else if xs.length < 1 ∨ 6 < xs.length ∨ (xs.any fun l => wrongB m.toNat l) = true then 80 else 0

set_option maxHeartbeats 800000 in
theorem Single_bad (w : World) (v : Value) (xs : List (List Int)) (m : Int) (h : Rows2 w v xs) (hE : singleE m xs ≠ 0) :
    Calls Try.prog 14 #[.int .i64 m, v] w fun e w' => e = .returned (.tuple #[.slice none 0 0, .int .i64 (singleE m xs)]) ∧ Below w.heap.size w w' := by
  have hB0 := Lib.hid ((Below.refl w.heap.size w).alloc (Nat.le_refl _) (.cells #[.int .i64 m] 3))
  by_cases h1 : m < 1
  · have hr := Lib.hid (show singleE m xs = 1 by simp [singleE, h1])
    rw [hr.out]
    clear h hr hE
    go_enter Try.func14, Try.ntmps14
    go_wp2
    go_ret2
    exact ⟨rfl, hB0.out⟩
  by_cases h2 : 6 < m
  · have hr := Lib.hid (show singleE m xs = 1 by simp [singleE, h2])
    rw [hr.out]
    clear h hr hE
    go_enter Try.func14, Try.ntmps14
    go_wp2
    go_ret2
    exact ⟨rfl, hB0.out⟩
  have h12 : ¬ (m < 1 ∨ 6 < m) := by omega
  obtain ⟨k, hk⟩ : ∃ k : Nat, m = k := ⟨m.toNat, by omega⟩
  have hh := Lib.hid h
  obtain ⟨A, cap, rfl, hl, hcap, hn, hat⟩ := h.open
  clear hn hat h
  unfold maxLen at hcap
  have hr := Lib.hid (show singleE m xs = 80 by
    unfold singleE at hE ⊢
    rw [if_neg h12] at hE ⊢
    split
    · rfl
    · rename_i hx; rw [if_neg hx] at hE; exact absurd rfl hE)
  rw [hr.out]
  by_cases h3 : xs.length < 1
  · clear h12 hk hr hE hh
    go_enter Try.func14, Try.ntmps14
    go_wp2
    go_ret2
    exact ⟨rfl, hB0.out⟩
  by_cases h4 : 6 < xs.length
  · clear h12 hk hr hE hh
    go_enter Try.func14, Try.ntmps14
    go_wp2
    go_ret2
    exact ⟨rfl, hB0.out⟩
  have hk6 : k ≤ 6 := by omega
  have hk1 : 1 ≤ k := by omega
  subst hk
  have hp : (xs.any fun l => wrongB k l) = true := by
    cases hp : (xs.any fun l => wrongB k l)
    · unfold singleE at hE
      rw [if_neg h12, Int.toNat_natCast, hp, if_neg (by rintro (h | h | h) <;> first | omega | cases h)] at hE
      exact absurd rfl hE
    · rfl
  clear h12 hr hE
  have hcall := Lib.hid (containsFunc_any (w.alloc (.cells #[.int .i64 (k : Int)] 3)) (.slice A xs.length cap) xs (Rows2.below hh.out (Nat.le_refl _) hB0.out) 46 (.pointer (some ⟨w.heap.size, 0, none⟩)) (fun l => wrongB k l) callFunc46
    (fun i _ A n c W hW hi => (single1_any W _ _ k w.heap.size hi hk1 hk6 (by
      rw [hW.cell (p := ⟨w.heap.size, 0, none⟩) (by simp)]
      exact cell_one_new w (.int .i64 (k : Int)) 3 0 _ rfl)).mono fun e W' ⟨he, hw⟩ => ⟨he, by rw [hw]; exact Below.refl _ _⟩))
  have hB1 := Lib.hid ((Below.refl w.heap.size w).alloc (Nat.le_refl _) (.cells #[.int .i64 (k : Int)] 3))
  clear hB0
  rw [hp] at hcall
  clear hp hh
  go_enter Try.func14, Try.ntmps14
  go_wp2_with (go_at_call 49; refine hcall.out.mono ?_; rintro e w1 ⟨rfl, hb⟩; replace hb := Lib.hid hb)
  go_ret2
  exact ⟨rfl, hB1.out.trans (hb.out.mono (by simp))⟩

set_option maxHeartbeats 800000 in
theorem Single_ok (w : World) (v : Value) (xs : List (List Int)) (k : Nat) (h : Rows2 w v xs) (hk1 : 1 ≤ k) (hk6 : k ≤ 6) (h3 : ¬ xs.length < 1) (h4 : ¬ 6 < xs.length) (hp : (xs.any fun l => wrongB k l) = false) :
    Calls Try.prog 14 #[.int .i64 (k : Int), v] w fun e w' => ∃ v', e = .returned (.tuple #[v', .int .i64 0]) ∧ OwnRows w.heap.size 27 w' v' (xs.map singleOf) ∧ Below w.heap.size w w' := by
  have hB0 := Lib.hid ((Below.refl w.heap.size w).alloc (Nat.le_refl _) (.cells #[.int .i64 (k : Int)] 3))
  have hcall := Lib.hid (containsFunc_any (w.alloc (.cells #[.int .i64 (k : Int)] 3)) v xs (Rows2.below h (Nat.le_refl _) hB0.out) 46 (.pointer (some ⟨w.heap.size, 0, none⟩)) (fun l => wrongB k l) callFunc46
    (fun i _ A n c W hW hi => (single1_any W _ _ k w.heap.size hi hk1 hk6 (by
      rw [hW.cell (p := ⟨w.heap.size, 0, none⟩) (by simp)]
      exact cell_one_new w (.int .i64 (k : Int)) 3 0 _ rfl)).mono fun e W' ⟨he, hw⟩ => ⟨he, by rw [hw]; exact Below.refl _ _⟩))
  have hlen : Hid (∀ i, i < xs.length → (rowAt xs i).length ≤ 6) := by
    intro i hi
    rw [rowAt_eq hi]
    have := List.any_eq_false.1 hp _ (List.getElem_mem hi)
    unfold wrongB at this
    simp only [Bool.or_eq_true, decide_eq_true_eq, not_or, ne_eq, Decidable.not_not] at this
    omega
  rw [hp] at hcall
  clear hp
  obtain ⟨A, cap, rfl, hl, hcap, hn, hat⟩ := h.open
  replace hat := Lib.hid hat
  clear hn h
  unfold maxLen at hcap
  go_enter Try.func14, Try.ntmps14
  go_wp2_with (go_at_call 49; refine hcall.out.mono ?_; rintro e w1 ⟨rfl, hb⟩; replace hb := Lib.hid hb)
  have hB1 := Lib.hid (hB0.out.trans (hb.out.mono (by simp)))
  clear hb hB0 hcall
  have hlo := Lib.hid hB1.out.size
  go_loopw [7, 32] (fun o i wr => ∃ k : Nat, k ≤ xs.length ∧ i = .int .i64 k ∧ Hid (OwnRows w.heap.size 27 wr o ((xs.take k).map singleOf)) ∧ Hid (Below w.heap.size w wr)) (fun _ i _ => xs.length - (intOf i).toNat)
  case atStart => exact ⟨0, Nat.zero_le _, rfl, own_nil _ _ _, hB1.out⟩
  case round =>
    obtain ⟨k, hk, rfl, ho, hB⟩ := hrel
    by_cases hlt : k < xs.length
    · obtain ⟨b1, o1, A1, cap1, rfl, hc1, hi1⟩ := hat.out k hlt
      replace hc1 : wr.cell? ⟨b1, o1 + k, none⟩ = some (.slice A1 (rowAt xs k).length cap1) := by
        rw [hB.out.cell (p := ⟨b1, o1 + k, none⟩) (lt_of_cell hc1)]; exact hc1
      replace hi1 := Lib.hid (Ints.below hi1 (Nat.le_refl _) hB.out)
      have hl6 := hlen.out k hlt
      go_wp2_with (first 
       | (go_at_call 50; refine (single_any _ _ _ hi1.out hl6).mono ?_; rintro e w2 ⟨v1, rfl, h1, h2⟩; obtain ⟨A1, n1, d1, rfl, hn1⟩ := OwnL.shape h1; replace h1 := Lib.hid h1; replace h2 := Lib.hid h2)
       | (at_builtin; refine wpList_append_row rfl (.tmp 36) (.tmp 39) 22 rfl w.heap.size 27 Try.underlying22 info27 _ _ rfl rfl (OwnRows.below ho.out (Nat.le_refl _) h2.out) rfl rfl (OwnL.slc h1.out) (OwnL.apart ho.out) (by simp; omega) (Nat.le_trans hB.out.size h2.out.size) ?_; intro v' w' h3 h4 h5; replace h3 := Lib.hid h3; replace h4 := Lib.hid h4; clear h5))
      go_roundw
      case rel => exact ⟨k+1, by omega, by go_num, by rw [take_rowAt hlt, List.map_append]; exact h3, (hB.out.trans (h2.out.mono hB.out.size)).trans h4.out⟩
      case measure => simp [intOf]; omega
    · obtain rfl : k = xs.length := by omega
      go_wp2
      go_ret2
      refine ⟨_, rfl, ?_, hB.out⟩
      have := ho.out
      rwa [List.take_length] at this

end Go.Proofs.Ytadonoacmpkolaa
