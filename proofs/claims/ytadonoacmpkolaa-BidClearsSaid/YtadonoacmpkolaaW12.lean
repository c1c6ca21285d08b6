/- Second, Single. -/
import Derived.Test.YtadonoacmpkolaaW11
namespace Go.Proofs.Ytadonoacmpkolaa
open Go.RowKit
attribute [local go_sem high] walk_shl walk_shr walk_bit walk_rem walk_and walk_or walk_andNot

def secBad (xs : List Int) : Prop := xs.length < 1 ∨ 100 < xs.length ∨ minUpto xs xs.length < 0 ∨ 1000000000000 < maxUpto xs xs.length
def secFirst (xs : List Int) : Int := firstFrom (fun i => maxUpto xs xs.length == at0 xs i) 0 xs.length
def secUpto (xs : List Int) (f : Int) : Nat → Int
  | 0 => 0
  | k + 1 => if (k : Int) = f then secUpto xs f k else if secUpto xs f k < at0 xs k then at0 xs k else secUpto xs f k

set_option maxHeartbeats 400000 in
theorem Second_bad (w : World) (v : Value) (xs : List Int) (h : Ints w v xs) (hb : secBad xs) :
    Calls Try.prog 19 #[v] w fun e w' => e = .returned (.tuple #[.int .i64 0, .int .i64 0, .int .i64 1]) ∧ w = w' := by
  have hmin := Lib.hid (min_any w v xs h)
  have hmax := Lib.hid (max_any w v xs h)
  obtain ⟨A, n, cap, rfl, hn⟩ := Slc.shape h
  have hcap : cap ≤ 2 ^ 63 - 1 ∧ n ≤ cap := by
    obtain ⟨_, _, e, h1, h2, _⟩ := h
    injection e with _ e1 e2
    subst e1 e2
    exact ⟨h2, h1⟩
  obtain ⟨hcap1, hcap2⟩ := hcap
  unfold secBad at hb
  clear h
  rw [← hn.out] at hb hmin hmax
  clear hn
  generalize minUpto xs n = mn at *
  generalize maxUpto xs n = mx at *
  by_cases h1 : n < 1
  · clear hb
    go_enter Try.func19, Try.ntmps19
    go_wp2
    go_ret3
    exact ⟨rfl, rfl⟩
  by_cases h2 : 100 < n
  · clear hb
    go_enter Try.func19, Try.ntmps19
    go_wp2
    go_ret3
    exact ⟨rfl, rfl⟩
  replace hmin := Lib.hid (hmin.out (by omega))
  replace hmax := Lib.hid (hmax.out (by omega))
  by_cases h3 : mn < 0
  · clear hb
    go_enter Try.func19, Try.ntmps19
    go_wp2_with (go_at_call 47; refine hmin.out.mono ?_; rintro e w1 ⟨rfl, rfl⟩)
    go_ret3
    exact ⟨rfl, rfl⟩
  have h4 : 1000000000000 < mx := by omega
  clear hb
  go_enter Try.func19, Try.ntmps19
  go_wp2_with (first | (go_at_call 47; refine hmin.out.mono ?_; rintro e w1 ⟨rfl, rfl⟩) | (go_at_call 48; refine hmax.out.mono ?_; rintro e w1 ⟨rfl, rfl⟩))
  go_ret3
  exact ⟨rfl, rfl⟩

set_option maxHeartbeats 400000 in
theorem Second_ok (w : World) (v : Value) (xs : List Int) (h : Ints w v xs) (hb : ¬ secBad xs) :
    Calls Try.prog 19 #[v] w fun e w' => e = .returned (.tuple #[.int .i64 (secFirst xs), .int .i64 (secUpto xs (secFirst xs) xs.length), .int .i64 0]) ∧ w = w' := by
  unfold secBad at hb
  have hmin := Lib.hid (min_any w v xs h (by omega))
  have hmax := Lib.hid (max_any w v xs h (by omega))
  have hidx := Lib.hid (index_any w v xs (maxUpto xs xs.length) h)
  have hfd : Hid (secFirst xs = firstFrom (fun i => maxUpto xs xs.length == at0 xs i) 0 xs.length) := rfl
  rw [← hfd.out] at hidx
  obtain ⟨A, cap, rfl, hl, hcap, hn, hat⟩ := h.open
  replace hat := Lib.hid hat
  clear hn h hfd
  unfold maxLen at hcap
  generalize minUpto xs xs.length = mn at *
  generalize maxUpto xs xs.length = mx at *
  generalize secFirst xs = f at *
  have h1 : ¬ xs.length < 1 := by omega
  have h2 : ¬ 100 < xs.length := by omega
  have h3 : ¬ mn < 0 := by omega
  have h4 : ¬ 1000000000000 < mx := by omega
  clear hb
  go_enter Try.func19, Try.ntmps19
  go_wp2_with (first | (go_at_call 47; refine hmin.out.mono ?_; rintro e w1 ⟨rfl, rfl⟩) | (go_at_call 48; refine hmax.out.mono ?_; rintro e w1 ⟨rfl, rfl⟩) | (go_at_call 51; refine hidx.out.mono ?_; rintro e w1 ⟨rfl, rfl⟩))
  go_loop [6, 33] (fun s i => ∃ k : Nat, k ≤ xs.length ∧ i = .int .i64 k ∧ s = .int .i64 (secUpto xs f k)) (fun _ i => xs.length - (intOf i).toNat)
  case atStart => exact ⟨0, Nat.zero_le _, rfl, rfl⟩
  case round =>
    obtain ⟨k, hk, rfl, rfl⟩ := hrel
    by_cases hlt : k < xs.length
    · obtain ⟨b2, o2, rfl, hc⟩ := hat.out k hlt
      have hs2 : Hid (secUpto xs f (k + 1) = if (k : Int) = f then secUpto xs f k else if secUpto xs f k < at0 xs k then at0 xs k else secUpto xs f k) := rfl
      by_cases hkf : (k : Int) = f
      · have hb1 : ((k : Int) != f) = false := by simp [hkf]
        replace hs2 := Lib.hid (show secUpto xs f (k + 1) = secUpto xs f k by rw [hs2.out, if_pos hkf])
        replace hkf := Lib.hid hkf
        go_wp2
        go_round
        case rel => exact ⟨k + 1, by omega, by go_num, by rw [hs2.out]⟩
        case measure => simp [intOf]; omega
      · have hb1 : ((k : Int) != f) = true := by simp [hkf]
        replace hs2 := Lib.hid (show secUpto xs f (k + 1) = if secUpto xs f k < at0 xs k then at0 xs k else secUpto xs f k by rw [hs2.out, if_neg hkf])
        replace hkf := Lib.hid hkf
        by_cases hmx : secUpto xs f k < at0 xs k
        · go_wp2
          go_round
          case rel => exact ⟨k + 1, by omega, by go_num, by rw [hs2.out, if_pos hmx]⟩
          case measure => simp [intOf]; omega
        · go_wp2
          go_round
          case rel => exact ⟨k + 1, by omega, by go_num, by rw [hs2.out, if_neg hmx]⟩
          case measure => simp [intOf]; omega
    · obtain rfl : k = xs.length := by omega
      go_wp2
      go_ret3
      exact ⟨rfl, rfl⟩

end Go.Proofs.Ytadonoacmpkolaa
