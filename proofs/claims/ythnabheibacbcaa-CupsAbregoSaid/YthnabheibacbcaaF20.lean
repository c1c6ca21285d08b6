/- Layers' inner function: whether a number is in a list. No condition. -/
import Derived.Test.YthnabheibacbcaaF1
namespace Go.Proofs.Ythnabheibacbcaa
open Go.RowKit

theorem Layers1_any (w : World) (b : Nat) (v : Value) (xs : List Int) (x : Int) (hc : w.cell? ⟨b, 0, none⟩ = some v) (h : Ints w v xs) :
    Calls Try.prog 62 #[.int .i64 x, .pointer (some ⟨b, 0, none⟩)] w fun e w' => e = .returned (.bool (memB xs x)) ∧ w = w' := by
  have H := Lib.hid (containsI_any w v xs x h)
  obtain ⟨A, n, cap, rfl, hn⟩ := h.shape
  clear h
  go_enter Try.func62, Try.ntmps62
  go_wp2_with (go_at_call 63; refine H.out.mono ?_; rintro e w1 ⟨rfl, rfl⟩)
  go_ret
  exact ⟨rfl, rfl⟩

set_option maxHeartbeats 400000 in
theorem indexL1_any (w : World) (v : Value) (xs : List Int) (b : Nat) (vh : Value) (hs : List Int) (h : Ints w v xs) (hb : w.cell? ⟨b, 0, none⟩ = some vh) (hh : Ints w vh hs) :
    Calls Try.prog 84 #[v, .func (.func 62) #[] #[.pointer (some ⟨b, 0, none⟩)]] w fun e w' => ∃ r : Int, e = .returned (.int .i64 r) ∧
      Hid ((r = -1 ∧ ∀ i, i < xs.length → memB hs (at0 xs i) = false) ∨ ∃ k : Nat, r = (k : Int) ∧ k < xs.length ∧ memB hs (at0 xs k) = true ∧ ∀ i, i < k → memB hs (at0 xs i) = false) ∧ w = w' := by
  have hcf : ∀ (args : Array Value) (W : World), (callFunc 62 args).run Try.prog W = .ok (.enter 62 args) W := fun args W => by simp [go_sem]
  have H := Lib.hid (fun x => Layers1_any w b vh hs x hb hh)
  obtain ⟨A, cap, rfl, hl, hcm, _, hat⟩ := h.open
  have hat := Lib.hid hat
  unfold maxLen at hcm
  obtain ⟨n, hn⟩ : ∃ n, xs.length = n := ⟨_, rfl⟩
  rw [hn] at hl hat ⊢
  replace hn := Lib.hid hn
  clear h hb hh
  go_enter Try.func84, Try.ntmps84
  go_wp2
  go_loopw [8] (fun c wr => ∃ k : Nat, k ≤ n ∧ c = .int .i64 (k : Int) ∧ Hid (∀ i, i < k → memB hs (at0 xs i) = false) ∧ w = wr) (fun c _ => n - (intOf c).toNat)
  case atStart => exact ⟨0, Nat.zero_le _, rfl, Lib.hid (fun i hi => by omega), rfl⟩
  case round =>
    obtain ⟨k, hk, rfl, hno, rfl⟩ := hrel
    by_cases hlt : k < n
    case neg =>
      obtain rfl : k = n := by omega
      go_wp2
      go_ret
      exact ⟨_, rfl, Lib.hid (.inl ⟨rfl, hno.out⟩), rfl⟩
    obtain ⟨b', o, rfl, hc⟩ := hat.out k hlt
    obtain ⟨q, hq⟩ : ∃ q, memB hs (at0 xs k) = q := ⟨_, rfl⟩
    have Hk := Lib.hid (H.out (at0 xs k))
    rw [hq] at Hk
    replace hq := Lib.hid hq
    generalize hx : at0 xs k = x at *
    replace hx := Lib.hid hx
    cases q
    · go_wp2_with (go_at_call 62; refine Hk.out.mono ?_; rintro e w1 ⟨rfl, rfl⟩)
      go_roundw
      case rel => exact ⟨k + 1, by omega, by go_num, Lib.hid (fun i hi => by
        by_cases e : i = k
        · rw [e, hx.out]; exact hq.out
        · exact hno.out i (by omega)), trivial⟩
      case measure => simp [intOf]; omega
    · go_wp2_with (go_at_call 62; refine Hk.out.mono ?_; rintro e w1 ⟨rfl, rfl⟩)
      go_ret
      exact ⟨_, rfl, Lib.hid (.inr ⟨k, rfl, hlt, by rw [hx.out]; exact hq.out, hno.out⟩), rfl⟩
end Go.Proofs.Ythnabheibacbcaa
