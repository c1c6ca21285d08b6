import Derived.Test.YtadonoacmpkolaaBase
namespace Go.Proofs.Ytadonoacmpkolaa
open Go.RowKit

set_option maxHeartbeats 400000 in
theorem list_any (w : World) (v : Value) (xs : List Int) (m : Int) (h : Ints w v xs) (hm0 : 0 ≤ m) (hm : m ≤ 1000) :
    Calls Try.prog 18 #[v, .int .i64 m] w fun e w' => ∃ v', e = .returned v' ∧ OwnI w.heap.size 2 w' v' (xs.take m.toNat) ∧ Below w.heap.size w w' := by
  obtain ⟨m, rfl⟩ : ∃ k : Nat, m = k := ⟨m.toNat, by omega⟩
  rw [Int.toNat_natCast]
  obtain ⟨A, cap, rfl, hl, hcap, hn, hat⟩ := h.open
  clear hn hat
  unfold maxLen at hcap
  by_cases hle : m < xs.length
  · replace h := Lib.hid (h.take m (by omega))
    go_enter Try.func18, Try.ntmps18
    go_wp2_with (at_builtin; refine wpList_append_slc _ rfl (.tmp 6) (.tmp 12) 27 rfl w.heap.size 2 Try.underlying27 info2 rfl (by omega) isI_one (.slice none 0 0) [] rfl (own_nil _ _ _) _ rfl _ h.out (by simp; omega) (Nat.le_refl _) ?_; intro v' w' h1 h2 _ _)
    go_ret
    exact ⟨_, rfl, h1, h2⟩
  · replace h := Lib.hid h
    have e := Lib.hid (List.take_of_length_le (l := xs) (i := m) (by omega))
    go_enter Try.func18, Try.ntmps18
    go_wp2_with (at_builtin; refine wpList_append_slc _ rfl (.tmp 6) (.tmp 12) 27 rfl w.heap.size 2 Try.underlying27 info2 rfl (by omega) isI_one (.slice none 0 0) [] rfl (own_nil _ _ _) _ rfl _ h.out (by simp; omega) (Nat.le_refl _) ?_; intro v' w' h1 h2 _ _)
    go_ret
    exact ⟨_, rfl, by rw [e.out]; exact h1, h2⟩

set_option maxHeartbeats 400000 in
theorem own_any (w : World) (v : Value) (xs : List (List Int)) (h : Rows2 w v xs) :
    Calls Try.prog 13 #[v] w fun e w' => ∃ v', e = .returned v' ∧ OwnRows w.heap.size 27 w' v' ((xs.take 7).map (·.take 65)) ∧ Below w.heap.size w w' := by
  obtain ⟨A, cap, rfl, hl, hcap, hn, hat⟩ := h.open
  replace hat := Lib.hid hat
  clear hn h
  unfold maxLen at hcap
  go_enter Try.func13, Try.ntmps13
  go_wp2
  go_loopw [3, 4] (fun o i wr => ∃ k : Nat, k ≤ xs.length ∧ k ≤ 7 ∧ i = .int .i64 k ∧ Hid (OwnRows w.heap.size 27 wr o ((xs.take k).map (·.take 65))) ∧ Hid (Below w.heap.size w wr)) (fun _ i _ => 7 - (intOf i).toNat)
  case atStart => exact ⟨0, Nat.zero_le _, Nat.zero_le _, rfl, own_nil _ _ _, Below.refl _ _⟩
  case round =>
    obtain ⟨k, hk, hk7, rfl, ho, hB⟩ := hrel
    by_cases hlt : k < xs.length
    · by_cases hlt7 : k < 7
      · obtain ⟨b1, o1, A1, cap1, rfl, hc1, hi1⟩ := hat.out k hlt
        replace hc1 : wr.cell? ⟨b1, o1 + k, none⟩ = some (.slice A1 (rowAt xs k).length cap1) := by
          rw [hB.out.cell (p := ⟨b1, o1 + k, none⟩) (lt_of_cell hc1)]; exact hc1
        replace hi1 := Lib.hid (Ints.below hi1 (Nat.le_refl _) hB.out)
        have hd7 : ((k:Int) < 7) := by omega
        go_wp2_with (first 
         | (go_at_call 18; refine (list_any _ _ _ _ hi1.out (by omega) (by omega)).mono ?_; rintro e w1 ⟨v1, rfl, h1, h2⟩; obtain ⟨A1, n1, d1, rfl, hn1⟩ := OwnL.shape h1; replace h1 := Lib.hid h1; replace h2 := Lib.hid h2)
         | (at_builtin; refine wpList_append_row rfl (.tmp 15) (.tmp 21) 22 rfl w.heap.size 27 Try.underlying22 info27 _ _ rfl rfl (OwnRows.below ho.out (Nat.le_refl _) h2.out) rfl rfl (OwnL.slc h1.out) (OwnL.apart ho.out) (by simp; omega) (Nat.le_trans hB.out.size h2.out.size) ?_; intro v' w' h3 h4 h5; replace h3 := Lib.hid h3; replace h4 := Lib.hid h4; clear h5))
        go_roundw
        case rel => exact ⟨k+1, by omega, by omega, by go_num, by rw [take_rowAt hlt, List.map_append]; exact h3, (hB.out.trans (h2.out.mono hB.out.size)).trans h4.out⟩
        case measure => simp [intOf]; omega
      · obtain rfl : k = 7 := by omega
        go_wp2
        go_ret
        exact ⟨_, rfl, ho.out, hB.out⟩
    · go_wp2
      go_ret
      obtain rfl : k = xs.length := by omega
      refine ⟨_, rfl, ?_, hB.out⟩
      have := ho.out
      rw [List.take_length] at this
      rwa [List.take_of_length_le (by omega)]
end Go.Proofs.Ytadonoacmpkolaa
