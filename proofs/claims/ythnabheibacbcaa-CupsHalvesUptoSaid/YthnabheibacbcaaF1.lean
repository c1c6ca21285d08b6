/- Index, Contains of ints; areIndices; R.Indices. No condition. -/
import Derived.Test.YthnabheibacbcaaP1
namespace Go.Proofs.Ythnabheibacbcaa
open Go.RowKit

def memB (xs : List Int) (x : Int) : Bool := xs.any fun y => y == x
theorem memB_step (xs : List Int) (x : Int) (k : Nat) (hk : k < xs.length) : memB (xs.take (k + 1)) x = (memB (xs.take k) x || (at0 xs k == x)) := by
  rw [take_at0 hk]; unfold memB; rw [List.any_append]; simp
theorem memB_hit {xs : List Int} {x : Int} {k : Nat} (hk : k < xs.length) (h : at0 xs k = x) : memB xs x = true := by
  unfold memB; rw [List.any_eq_true]
  exact ⟨xs[k], List.getElem_mem hk, by rw [← at0_eq hk, h]; simp⟩
theorem Ints.take {w : World} {A : Option Addr} {n cap : Nat} {xs : List Int} (h : Ints w (.slice A n cap) xs) (k : Nat) (hk : k ≤ xs.length) : Ints w (.slice A k cap) (xs.take k) := by
  obtain ⟨A, cap, e, hl, hm, hn, hat⟩ := h
  cases e
  refine ⟨A, cap, by simp [hk], by simp; omega, hm, hn, fun i hi => ?_⟩
  simp at hi
  obtain ⟨b, off, c, hA, hb, hc, hr⟩ := hat i (by omega)
  exact ⟨b, off, c, hA, hb, hc, by simpa using hr⟩

set_option maxHeartbeats 400000 in
theorem indexI_any (w : World) (v : Value) (xs : List Int) (x : Int) (h : Ints w v xs) :
    Calls Try.prog 85 #[v, .int .i64 x] w fun e w' => ∃ r : Int, e = .returned (.int .i64 r) ∧ decide (0 ≤ r) = memB xs x ∧ w = w' := by
  obtain ⟨A, cap, rfl, hl, hcm, _, hat⟩ := h.open
  have hat := Lib.hid hat
  unfold maxLen at hcm
  obtain ⟨n, hn⟩ : ∃ n, xs.length = n := ⟨_, rfl⟩
  rw [hn] at hl ⊢
  have hn := Lib.hid hn
  clear h
  go_enter Try.func85, Try.ntmps85
  go_wp2
  go_loopw [8] (fun c wr => ∃ k : Nat, k ≤ n ∧ c = .int .i64 (k : Int) ∧ Hid (memB (xs.take k) x = false) ∧ w = wr) (fun c _ => n - (intOf c).toNat)
  case atStart => exact ⟨0, Nat.zero_le _, rfl, by unfold Hid memB; simp, rfl⟩
  case round =>
    obtain ⟨k, hk, rfl, hno, rfl⟩ := hrel
    by_cases hlt : k < n
    case neg =>
      obtain rfl : k = n := by omega
      have hr := Lib.hid (show memB xs x = false by have := hno.out; rwa [List.take_of_length_le (by rw [hn.out]; exact Nat.le_refl _)] at this)
      go_wp2
      go_ret
      exact ⟨_, rfl, by rw [hr.out]; rfl, rfl⟩
    have hkl : k < xs.length := by rw [hn.out]; exact hlt
    obtain ⟨b, o, rfl, hc⟩ := hat.out k hkl
    have hst := memB_step xs x k hkl
    rw [hno.out, Bool.false_or] at hst
    obtain ⟨y, hy⟩ : ∃ y, at0 xs k = y := ⟨_, rfl⟩
    rw [hy] at hc hst
    by_cases he : x = y
    · subst he
      have hr := Lib.hid (memB_hit hkl hy)
      clear hst
      go_wp2
      go_ret
      exact ⟨_, rfl, by rw [hr.out]; simp, rfl⟩
    · have he' : (x == y) = false := by simpa using he
      have hst := Lib.hid (show memB (xs.take (k + 1)) x = false by rw [hst]; simp; exact fun h => he h.symm)
      go_wp2
      go_roundw
      case rel => exact ⟨k + 1, by omega, by go_num, hst, trivial⟩
      case measure => simp [intOf]; omega

set_option maxHeartbeats 400000 in
theorem containsI_any (w : World) (v : Value) (xs : List Int) (x : Int) (h : Ints w v xs) :
    Calls Try.prog 63 #[v, .int .i64 x] w fun e w' => e = .returned (.bool (memB xs x)) ∧ w = w' := by
  have H := Lib.hid (indexI_any w v xs x h)
  clear h
  go_enter Try.func63, Try.ntmps63
  go_wp2_with (go_at_call 85; refine H.out.mono ?_; rintro e w1 ⟨r, rfl, hr, rfl⟩; have hr := Lib.hid hr)
  go_ret
  exact ⟨ret_bool (by rw [← hr.out]), rfl⟩

def idxOk (n : Nat) (xs : List Int) (k : Nat) : Bool := decide (0 ≤ at0 xs k) && decide (at0 xs k < n) && !memB (xs.take k) (at0 xs k)
def idxB (n : Nat) (xs : List Int) : Bool := (List.range xs.length).all (idxOk n xs)
theorem idxB_bad {n : Nat} {xs : List Int} {k : Nat} (hk : k < xs.length) (h : idxOk n xs k = false) : idxB n xs = false := by
  unfold idxB; rw [List.all_eq_false]; exact ⟨k, List.mem_range.2 hk, by simp [h]⟩
theorem idxB_good {n : Nat} {xs : List Int} (h : ∀ k, k < xs.length → idxOk n xs k = true) : idxB n xs = true := by
  unfold idxB; rw [List.all_eq_true]; exact fun k hk => h k (List.mem_range.1 hk)

set_option maxHeartbeats 1000000 in
theorem areIndices_any (w : World) (g : Nat) (Al : Option Addr) (nl cl : Nat) (v : Value) (xs : List Int) (hg : w.cell? ⟨g, 0, none⟩ = some (.slice Al nl cl)) (h : Ints w v xs) :
    Calls Try.prog 74 #[.pointer (some ⟨g, 0, none⟩), v] w fun e w' => e = .returned (.bool (idxB nl xs)) ∧ w = w' := by
  obtain ⟨A, cap, rfl, hl, hcm, _, hat⟩ := h.open
  have hat := Lib.hid hat
  unfold maxLen at hcm
  have hI := Lib.hid h
  obtain ⟨n, hn⟩ : ∃ n, xs.length = n := ⟨_, rfl⟩
  rw [hn] at hl hI ⊢
  have hn := Lib.hid hn
  clear h
  go_enter Try.func74, Try.ntmps74
  go_wp2
  go_loopw [9] (fun c wr => ∃ k : Nat, k ≤ n ∧ c = .int .i64 (k : Int) ∧ Hid (∀ j, j < k → idxOk nl xs j = true) ∧ w = wr) (fun c _ => n - (intOf c).toNat)
  case atStart => exact ⟨0, Nat.zero_le _, rfl, Lib.hid (fun j hj => absurd hj (Nat.not_lt_zero _)), rfl⟩
  case round =>
    obtain ⟨k, hk, rfl, hok, rfl⟩ := hrel
    by_cases hlt : k < n
    case neg =>
      obtain rfl : k = n := by omega
      have hr := Lib.hid (idxB_good (n := nl) (xs := xs) (fun j hj => hok.out j (by rw [← hn.out]; exact hj)))
      go_wp2
      go_ret
      exact ⟨ret_bool (by rw [hr.out]), rfl⟩
    have hkl : k < xs.length := by rw [hn.out]; exact hlt
    obtain ⟨b, o, rfl, hc⟩ := hat.out k hkl
    have hct := Lib.hid (fun y => containsI_any w _ (xs.take k) y (hI.out.take k (by omega)))
    have hdf := Lib.hid (show idxOk nl xs k = (decide (0 ≤ at0 xs k) && decide (at0 xs k < nl) && !memB (xs.take k) (at0 xs k)) from rfl)
    obtain ⟨y, hy⟩ : ∃ y, at0 xs k = y := ⟨_, rfl⟩
    rw [hy] at hc hdf
    by_cases h0 : 0 ≤ y
    case neg =>
      have h0' : y < 0 := by omega
      have hr := Lib.hid (idxB_bad hkl (by rw [hdf.out]; simp; omega))
      go_wp2
      go_ret
      exact ⟨ret_bool (by rw [hr.out]), rfl⟩
    by_cases h1 : y < (nl : Int)
    case neg =>
      have hr := Lib.hid (idxB_bad hkl (by rw [hdf.out]; simp; omega))
      go_wp2
      go_ret
      exact ⟨ret_bool (by rw [hr.out]), rfl⟩
    have hn0 : ¬ y < 0 := by omega
    have hn1 : ¬ (nl : Int) ≤ y := by omega
    obtain ⟨cb, hcb⟩ : ∃ cb, memB (xs.take k) y = cb := ⟨_, rfl⟩
    rw [hcb] at hdf
    have hcb := Lib.hid hcb
    cases cb with
    | true =>
      have hr := Lib.hid (idxB_bad hkl (by rw [hdf.out]; simp))
      go_wp2_with (go_at_call 63; refine (hct.out _).mono ?_; rintro e w1 ⟨rfl, rfl⟩; rw [hcb.out])
      go_ret
      exact ⟨ret_bool (by rw [hr.out]), rfl⟩
    | false =>
      have hnew := Lib.hid (show idxOk nl xs k = true by rw [hdf.out]; simp; omega)
      go_wp2_with (go_at_call 63; refine (hct.out _).mono ?_; rintro e w1 ⟨rfl, rfl⟩; rw [hcb.out])
      go_roundw
      case rel => exact ⟨k + 1, by omega, by go_num, Lib.hid (fun j hj => by rcases Nat.lt_or_ge j k with h | h; exact hok.out j h; rw [show j = k by omega]; exact hnew.out), trivial⟩
      case measure => simp [intOf]; omega

set_option maxHeartbeats 1000000 in
theorem indices_any (w : World) (Al : Option Addr) (nl cl : Nat) (v : Value) (xs : List Int) (h : Ints w v xs) :
    Calls Try.prog 56 #[.slice Al nl cl, v] w fun e w' => e = .returned (.bool (idxB nl xs)) ∧ Below w.heap.size w w' := by
  obtain ⟨A, cap, rfl, hl, hcm, _, hat⟩ := h.open
  have hat := Lib.hid hat
  unfold maxLen at hcm
  obtain ⟨n, hn⟩ : ∃ n, xs.length = n := ⟨_, rfl⟩
  rw [hn] at hl ⊢
  have hn := Lib.hid hn
  clear h
  go_enter Try.func56, Try.ntmps56
  go_wp2
  go_loopw [5] (fun c wr => ∃ k : Nat, k ≤ n ∧ c = .int .i64 (k : Int) ∧ Hid (∀ j, j < k → idxOk nl xs j = true) ∧ Hid (Below w.heap.size w wr)) (fun c _ => n - (intOf c).toNat)
  case atStart => exact ⟨0, Nat.zero_le _, rfl, Lib.hid (fun j hj => absurd hj (Nat.not_lt_zero _)), Below.refl _ _⟩
  case round =>
    obtain ⟨k, hk, rfl, hok, hB⟩ := hrel
    by_cases hlt : k < n
    case neg =>
      obtain rfl : k = n := by omega
      have hr := Lib.hid (idxB_good (n := nl) (xs := xs) (fun j hj => hok.out j (by rw [← hn.out]; exact hj)))
      go_wp2
      go_ret
      exact ⟨ret_bool (by rw [hr.out]), hB.out⟩
    have hkl : k < xs.length := by rw [hn.out]; exact hlt
    obtain ⟨b, o, rfl, hc⟩ := hat.out k hkl
    have hcw := cell_below hc hB.out
    have hdf := Lib.hid (show idxOk nl xs k = (decide (0 ≤ at0 xs k) && decide (at0 xs k < nl) && !memB (xs.take k) (at0 xs k)) from rfl)
    obtain ⟨y, hy⟩ : ∃ y, at0 xs k = y := ⟨_, rfl⟩
    rw [hy] at hc hcw hdf
    by_cases h0 : 0 ≤ y
    case neg =>
      have h0' : y < 0 := by omega
      have hr := Lib.hid (idxB_bad hkl (by rw [hdf.out]; simp; omega))
      go_wp2
      go_ret
      exact ⟨ret_bool (by rw [hr.out]), hB.out⟩
    by_cases h1 : y < (nl : Int)
    case neg =>
      have hr := Lib.hid (idxB_bad hkl (by rw [hdf.out]; simp; omega))
      go_wp2
      go_ret
      exact ⟨ret_bool (by rw [hr.out]), hB.out⟩
    have hn0 : ¬ y < 0 := by omega
    have hn1 : ¬ (nl : Int) ≤ y := by omega
    go_wp2
    go_loopw [6] (fun c wr => ∃ j : Nat, j ≤ k ∧ c = .int .i64 (j : Int) ∧ Hid (memB (xs.take j) y = false) ∧ Hid (Below w.heap.size w wr)) (fun c _ => k - (intOf c).toNat)
    case atStart => exact ⟨0, Nat.zero_le _, rfl, by unfold Hid memB; simp, hB⟩
    case round =>
      clear hcw hB
      obtain ⟨j, hj, rfl, hno, hB⟩ := hrel
      by_cases hlt2 : j < k
      case neg =>
        obtain rfl : j = k := by omega
        have hnew := Lib.hid (show idxOk nl xs j = true by rw [hdf.out, hno.out]; simp; omega)
        go_wp2
        go_roundw
        case rel => exact ⟨j + 1, by omega, by go_num, Lib.hid (fun i hi => by rcases Nat.lt_or_ge i j with h | h; exact hok.out i h; rw [show i = j by omega]; exact hnew.out), hB⟩
        case measure => simp [intOf]; omega
      have hjl : j < xs.length := by omega
      obtain ⟨b', o', e, hc'⟩ := hat.out j hjl
      cases e
      have hcw := cell_below hc hB.out
      have hcw' := cell_below hc' hB.out
      have hst := memB_step xs y j hjl
      rw [hno.out, Bool.false_or] at hst
      obtain ⟨z, hz⟩ : ∃ z, at0 xs j = z := ⟨_, rfl⟩
      rw [hz] at hc' hcw' hst
      by_cases he : z = y
      · subst he
        have hm : memB (xs.take k) z = true := by
          refine memB_hit (k := j) (by rw [List.length_take]; omega) ?_
          rw [at0_eq (by rw [List.length_take]; omega), List.getElem_take, ← at0_eq hjl]; exact hz
        have hr := Lib.hid (idxB_bad hkl (by rw [hdf.out, hm]; simp))
        clear hst hm
        go_wp2
        go_quiet (fail)
        go_wp2
        go_ret
        exact ⟨ret_bool (by rw [hr.out]), below_drewN hB.out nq⟩
      · have he' : (z == y) = false := by simpa using he
        have hst := Lib.hid (show memB (xs.take (j + 1)) y = false by rw [hst]; exact he')
        go_wp2
        go_quiet (fail)
        go_wp2
        go_roundw
        case rel => exact ⟨j + 1, by omega, by go_num, hst, Lib.hid (below_drewN hB.out nq)⟩
        case measure => simp [intOf]; omega
end Go.Proofs.Ythnabheibacbcaa
