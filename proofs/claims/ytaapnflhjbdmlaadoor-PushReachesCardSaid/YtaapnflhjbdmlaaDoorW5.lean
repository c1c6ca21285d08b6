/- R.Word, R.Proper. No condition. -/
import Derived.Test.YtaapnflhjbdmlaaDoorW4
namespace Go.Proofs.YtaapnflhjbdmlaaDoor
open Go.RowKit

def ch (s : ByteArray) (i : Nat) : Int := (cs s).getD i 0
theorem ch_eq {s : ByteArray} {i : Nat} (h : i < s.size) : ch s i = (s[i].toNat : Int) := by
  unfold ch cs
  have h2 : i < s.data.toList.length := by simpa using h
  simp [List.getD, List.getElem?_map, List.getElem?_eq_getElem h2]
  rfl
theorem word_bad {s : ByteArray} {i : Nat} (h : i < s.size) (h2 : ch s i < 97 ∨ 101 < ch s i) : wordB (cs s) = false := by
  rw [Bool.eq_false_iff]
  intro hh
  rw [word_iff] at hh
  have hi : i < (cs s).length := by rw [cs_length]; exact h
  have := hh (cs s)[i] (List.getElem_mem hi)
  unfold ch at h2
  simp [List.getD, hi] at h2
  omega
theorem word_ok {s : ByteArray} (h : ∀ i, i < s.size → 97 ≤ ch s i ∧ ch s i ≤ 101) : wordB (cs s) = true := by
  rw [word_iff]
  intro a ha
  obtain ⟨i, hi, rfl⟩ := List.getElem_of_mem ha
  have := h i (by rw [← cs_length]; exact hi)
  unfold ch at this
  simpa [List.getD, hi] using this

set_option maxHeartbeats 1000000 in
theorem wordR_same (w : World) (s : ByteArray) (hs : s.size ≤ 9223372036854775807) : Calls Tryd.prog 25 #[.string s] w fun e w' => e = .returned (.bool (wordB (cs s))) ∧ w' = w := by
  go_enter Tryd.func25, Tryd.ntmps25
  go_wp2
  go_loopw [3] (fun c wr => ∃ k : Nat, k ≤ s.size ∧ c = .int .i64 k ∧ Hid (∀ i, i < k → 97 ≤ ch s i ∧ ch s i ≤ 101) ∧ Hid (wr = w)) (fun c _ => s.size - (intOf c).toNat)
  case atStart => exact ⟨0, Nat.zero_le _, rfl, fun i hi => by omega, rfl⟩
  case round =>
    obtain ⟨k, hk, rfl, hok, hB⟩ := hrel
    by_cases hlt : k < s.size
    case neg =>
      obtain rfl : k = s.size := by omega
      have hr := Lib.hid (word_ok hok.out)
      go_wp2
      go_ret
      exact ⟨ret_bool hr.out.symm, hB.out⟩
    have hx : ((s[k]'hlt).toNat : Int) = ch s k := (ch_eq hlt).symm
    by_cases h1 : ch s k < 97
    · have hr := Lib.hid (word_bad hlt (.inl h1))
      go_wp2
      go_ret
      exact ⟨ret_bool hr.out.symm, hB.out⟩
    by_cases h2 : 101 < ch s k
    · have hr := Lib.hid (word_bad hlt (.inr h2))
      go_wp2
      go_ret
      exact ⟨ret_bool hr.out.symm, hB.out⟩
    have h12 := Lib.hid (show 97 ≤ ch s k ∧ ch s k ≤ 101 by omega)
    go_wp2
    go_roundw
    case rel => exact ⟨k + 1, by omega, by go_num, fun j hj => by
      by_cases hjk : j < k
      · exact hok.out j hjk
      · obtain rfl : j = k := by omega
        exact h12.out, hB⟩
    case measure => simp [intOf]; omega

theorem wordR_any (w : World) (s : ByteArray) (hs : s.size ≤ 9223372036854775807) : Calls Tryd.prog 25 #[.string s] w fun e w' => e = .returned (.bool (wordB (cs s))) ∧ Below w.heap.size w w' :=
  (wordR_same w s hs).mono fun _ _ ⟨h1, h2⟩ => ⟨h1, by rw [h2]; exact Below.refl _ _⟩

def properB (C : Int) (c : ConfB) : Bool := ctlB C c.ctl && wordB (cs c.st) && decide (c.st.size ≤ 20)
set_option maxHeartbeats 1000000 in
theorem proper_any (w : World) (C : Int) (v : Value) (c : Int) (s : ByteArray) (hs : s.size ≤ 9223372036854775807) (hv : v.oneCell' = true) :
    Calls Tryd.prog 11 #[sv C v, cv ⟨c, s⟩] w fun e w' => e = .returned (.bool (properB C ⟨c, s⟩)) ∧ Below w.heap.size w w' := by
  have hW := Lib.hid (fun W (hb : Below w.heap.size w W) => (wordR_any W s hs))
  unfold properB ctlB
  have hb0 := Lib.hid (bthen (below1 w (.cells #[.int .i64 C, v] 24)) (below1 _ (.cells #[.int .i64 c, .string s] 26)))
  have kX := (Blk.new (w.alloc (.cells #[.int .i64 C, v] 24)) 26 #[.int .i64 c, .string s]).two.2
  rw [alloc_size] at kX
  replace kX := Lib.hid kX
  by_cases h1 : 0 ≤ c
  case neg =>
    go_enter Tryd.func11, Tryd.ntmps11
    go_wp2_with (go_at_call 25; fail)
    go_ret
    exact ⟨ret_bool (by simp; omega), hb0.out⟩
  by_cases h2 : c < C
  case neg =>
    go_enter Tryd.func11, Tryd.ntmps11
    go_wp2_with (go_at_call 25; fail)
    go_ret
    exact ⟨ret_bool (by simp; omega), hb0.out⟩
  cases h3 : wordB (cs s)
  · rw [h3] at hW
    go_enter Tryd.func11, Tryd.ntmps11
    go_wp2_with (go_at_call 25; refine (hW.out _ hb0.out).mono ?_; rintro e w' ⟨rfl, hb⟩; replace hb := Lib.hid hb)
    go_ret
    exact ⟨ret_bool (by simp), bthen hb0.out hb.out⟩
  · rw [h3] at hW
    go_enter Tryd.func11, Tryd.ntmps11
    go_wp2_with (go_at_call 25; refine (hW.out _ hb0.out).mono ?_; rintro e w' ⟨rfl, hb⟩; have c1 := cell_below kX.out hb; replace hb := Lib.hid hb)
    go_ret
    exact ⟨ret_bool (by simp [h1, h2]; try omega), bthen hb0.out hb.out⟩
end Go.Proofs.YtaapnflhjbdmlaaDoor
