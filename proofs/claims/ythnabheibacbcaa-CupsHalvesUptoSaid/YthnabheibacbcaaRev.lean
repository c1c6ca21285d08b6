/- slices.Reverse of what the call owns. No condition. -/
import Derived.Shelf.RegionOpenPlain
import Derived.WalkKit
import Derived.Deep.LoopGhost
import Derived.Test.YthnabheibacbcaaC10
namespace Go.Proofs.Ythnabheibacbcaa
open Go.RowKit Go.Shelf

/-- the first i and the last i turned -/
def rv (xs : List Int) : Nat → List Int
  | 0 => xs
  | i + 1 => ((rv xs i).set i (at0 (rv xs i) (xs.length - 1 - i))).set (xs.length - 1 - i) (at0 (rv xs i) i)
theorem rv_len (xs : List Int) : ∀ i, (rv xs i).length = xs.length
  | 0 => rfl
  | i + 1 => by simp [rv, rv_len xs i]
theorem at0_set (xs : List Int) (i k : Nat) (v : Int) (hi : i < xs.length) : at0 (xs.set i v) k = if k = i then v else at0 xs k := by
  unfold at0
  rw [List.getD_eq_getElem?_getD, List.getD_eq_getElem?_getD, List.getElem?_set]
  by_cases e : i = k
  · subst e; simp [hi]
  · rw [if_neg e, if_neg (fun h => e h.symm)]
theorem rv_at (xs : List Int) : ∀ i k, 2 * i ≤ xs.length → k < xs.length → at0 (rv xs i) k = if k < i ∨ xs.length - 1 - k < i then at0 xs (xs.length - 1 - k) else at0 xs k
  | 0, k, _, _ => by simp [rv]
  | i + 1, k, h, hk => by
    have hl := rv_len xs i
    simp only [rv]
    rw [at0_set _ _ _ _ (by simp; omega), at0_set _ _ _ _ (by omega)]
    have ih := fun k hk => rv_at xs i k (by omega) hk
    rw [ih _ (by omega), ih _ (by omega), ih _ hk]
    by_cases e1 : k = xs.length - 1 - i
    · rw [if_pos e1, if_neg (by omega), if_pos (by omega)]
      congr 1
      omega
    · rw [if_neg e1]
      by_cases e2 : k = i
      · rw [if_pos e2, if_neg (by omega), if_pos (by omega)]
        subst e2; rfl
      · rw [if_neg e2]
        by_cases e3 : k < i ∨ xs.length - 1 - k < i
        · rw [if_pos e3, if_pos (by omega)]
        · rw [if_neg e3, if_neg (by omega)]
theorem at0_ext {xs ys : List Int} (h : xs.length = ys.length) (e : ∀ k, k < xs.length → at0 xs k = at0 ys k) : xs = ys :=
  List.ext_getElem h fun k h1 h2 => by rw [← at0_eq h1, ← at0_eq h2]; exact e k h1
theorem at0_rev (xs : List Int) (k : Nat) (hk : k < xs.length) : at0 xs.reverse k = at0 xs (xs.length - 1 - k) := by
  rw [at0_eq (by simpa using hk), at0_eq (by omega), List.getElem_reverse]
theorem rv_all (xs : List Int) (i : Nat) (h : 2 * i ≤ xs.length) (h2 : xs.length ≤ 2 * i + 1) : rv xs i = xs.reverse := by
  refine at0_ext (by rw [rv_len]; simp) fun k hk => ?_
  rw [rv_len] at hk
  rw [rv_at xs i k h hk, at0_rev xs k hk]
  split
  · rfl
  · congr 1; omega

set_option maxHeartbeats 1000000 in
set_option maxRecDepth 100000 in
theorem reverse_own (w : World) (v : Value) (xs : List Int) (lo : Nat) (h : OwnI lo 3 w v xs) (hlen : xs.length ≤ 1000000) :
    Calls Try.prog 82 #[v] w fun e w' => e = .returned (.tuple #[]) ∧ OwnI lo 3 w' v xs.reverse ∧ w.grownBy w' v.ownBlock := by
  by_cases h0 : xs.length = 0
  · obtain ⟨A, n, cap, rfl, hn⟩ := OwnL.shape h
    obtain rfl : n = 0 := by rw [hn.out]; exact h0
    obtain rfl := List.length_eq_zero_iff.1 h0
    replace h := Lib.hid h
    clear hn
    go_enter Try.func82, Try.ntmps82
    go_wp2
    go_loopg [2, 3] 0 (fun _ s2 s3 wr => s2 = .int .i64 0 ∧ s3 = .int .i64 (-1) ∧ wr = w)
    case atStart => exact ⟨rfl, rfl, rfl⟩
    case round =>
      obtain ⟨rfl, rfl, rfl⟩ := hrel
      go_wp2
      go_end0
      exact ⟨rfl, h.out, gof (Below.refl _ _) _⟩
  · obtain ⟨b, cap, rfl, hb1, hb2, hc1, hc2, hat, hfr⟩ := OwnI.open h (by omega)
    replace h := Lib.hid h
    clear hat hfr
    obtain ⟨n, hn⟩ : ∃ n, xs.length = n := ⟨_, rfl⟩
    rw [hn] at hc1 hlen h0 ⊢
    have h := Lib.hid (show OwnI lo 3 w (.slice (some ⟨b, 0, none⟩) n cap) xs by rw [← hn]; exact h.out)
    replace hn := Lib.hid hn
    go_enter Try.func82, Try.ntmps82
    go_wp2
    go_loopg [2, 3] n (fun k s2 s3 wr => ∃ i : Nat, 2 * i ≤ n ∧ s2 = .int .i64 (i : Int) ∧ s3 = .int .i64 ((n : Int) - 1 - (i : Int)) ∧ k = n - i ∧ Hid (OwnI lo 3 wr (.slice (some ⟨b, 0, none⟩) n cap) (rv xs i)) ∧ Hid (w.grownBy wr (some b)))
    case atStart => exact ⟨0, by omega, rfl, by simp, by simp, h, gof (Below.refl _ _) _⟩
    case round =>
      obtain ⟨i, hi, rfl, rfl, rfl, ho, hg⟩ := hrel
      by_cases hlt : (i : Int) < (n : Int) - 1 - (i : Int)
      · have hl := rv_len xs i
        rw [hn.out] at hl
        obtain ⟨b', cap', e, _, _, _, _, hat, hfr⟩ := OwnI.open ho.out (by omega)
        obtain rfl : b = b' := by injection e with e1; injection e1 with e1; injection e1
        have ci := hat i (by omega)
        have cj := hat (n - 1 - i) (by omega)
        have fi := hfr i
        have fj := hfr (n - 1 - i)
        have ej : ((n : Int) - 1 - (i : Int)).toNat = n - 1 - i := by omega
        have hst := Lib.hid (show rv xs (i + 1) = ((rv xs i).set i (at0 (rv xs i) (n - 1 - i))).set (n - 1 - i) (at0 (rv xs i) i) by simp only [rv, hn.out])
        clear e hat hfr
        replace hl := Lib.hid hl
        generalize at0 (rv xs i) (n - 1 - i) = vj at *
        generalize at0 (rv xs i) i = vi at *
        have hmx : Try.prog.follows .mixedOrders = true := by kernel_rfl
        go_wp2_with fail
        go_region_o
        go_wp2
        go_roundg (n - (i + 1))
        case measure => omega
        case rel =>
          have ho' := ho.out
          rw [← hl.out] at ho'
          have s1 := (OwnI.set ho' i vj).1
          have s2 := (OwnI.set s1 (n - 1 - i) vi).1
          rw [← hst.out] at s2
          have hl2 : (rv xs (i + 1)).length = n := by rw [rv_len, hn.out]
          rw [hl2] at s2
          refine ⟨i + 1, by omega, by go_num, ?_, rfl, Lib.hid ?_, Lib.hid ?_⟩
          · congr 1; omega
          · exact OwnL.drewN s2 1
          · exact gtrans (gtrans (gtrans hg.out (gset _ b i _)) (gset _ b _ _)) (gof (below_drewN (Below.refl _ _) 1) _)
      · go_wp2
        go_end0
        refine ⟨rfl, ?_, hg.out⟩
        rw [← rv_all xs i (by rw [hn.out]; exact hi) (by rw [hn.out]; omega)]
        exact ho.out
end Go.Proofs.Ythnabheibacbcaa
