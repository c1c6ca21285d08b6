/- Equal of ints; inside; isEmpty. No condition. -/
import Derived.Test.YthnabheibacbcaaF1
import Derived.Test.YthnabheibacbcaaC12
namespace Go.Proofs.Ythnabheibacbcaa
open Go.RowKit Go.Shelf

theorem take_eq_step {xs ys : List Int} {k : Nat} (h1 : k < xs.length) (h2 : k < ys.length) (h : xs.take k = ys.take k) (e : at0 xs k = at0 ys k) : xs.take (k + 1) = ys.take (k + 1) := by
  rw [take_at0 h1, take_at0 h2, h, e]
set_option maxHeartbeats 1000000 in
theorem equalI_any (w : World) (v1 v2 : Value) (xs ys : List Int) (h1 : Ints w v1 xs) (h2 : Ints w v2 ys) :
    Calls Try.prog 89 #[v1, v2] w fun e w' => e = .returned (.bool (decide (xs = ys))) ∧ Below w.heap.size w w' := by
  obtain ⟨A, cap, rfl, hl, hcm, _, hat⟩ := h1.open
  obtain ⟨A2, cap2, rfl, hl2, hcm2, _, hat2⟩ := h2.open
  have hat := Lib.hid hat
  have hat2 := Lib.hid hat2
  unfold maxLen at hcm hcm2
  obtain ⟨n, hn⟩ : ∃ n, xs.length = n := ⟨_, rfl⟩
  obtain ⟨m, hm⟩ : ∃ m, ys.length = m := ⟨_, rfl⟩
  rw [hn] at hl ⊢
  rw [hm] at hl2 ⊢
  replace hn := Lib.hid hn
  replace hm := Lib.hid hm
  clear h1 h2
  by_cases hnm : n = m
  case neg =>
    have hr := Lib.hid (show decide (xs = ys) = false by
      rw [decide_eq_false_iff_not]
      intro e
      rw [e] at hn
      exact hnm (hn.out.symm.trans hm.out))
    have hne : ((n : Int) == (m : Int)) = false := by simp; omega
    go_enter Try.func89, Try.ntmps89
    go_wp2
    go_ret
    exact ⟨ret_bool (by rw [hr.out]), Below.refl _ _⟩
  subst hnm
  go_enter Try.func89, Try.ntmps89
  go_wp2
  go_loopw [13] (fun c wr => ∃ k : Nat, k ≤ n ∧ c = .int .i64 (k : Int) ∧ Hid (xs.take k = ys.take k) ∧ Hid (Below w.heap.size w wr)) (fun c _ => n - (intOf c).toNat)
  case atStart => exact ⟨0, Nat.zero_le _, rfl, by unfold Hid; simp, Below.refl _ _⟩
  case round =>
    obtain ⟨k, hk, rfl, he, hB⟩ := hrel
    by_cases hlt : k < n
    case neg =>
      obtain rfl : n = k := by omega
      have hr := Lib.hid (show decide (xs = ys) = true by
        rw [decide_eq_true_eq]
        have := he.out
        rwa [List.take_of_length_le (by rw [hn.out]; exact Nat.le_refl _), List.take_of_length_le (by rw [hm.out]; exact Nat.le_refl _)] at this)
      go_wp2
      go_ret
      exact ⟨ret_bool (by rw [hr.out]), hB.out⟩
    have hkx : k < xs.length := by rw [hn.out]; exact hlt
    have hky : k < ys.length := by rw [hm.out]; exact hlt
    obtain ⟨b, o, rfl, hc⟩ := hat.out k hkx
    obtain ⟨b2, o2, rfl, hc2⟩ := hat2.out k hky
    have hc := cell_below hc hB.out
    have hc2 := cell_below hc2 hB.out
    have hst := Lib.hid (fun e => take_eq_step hkx hky he.out e)
    have hnot := Lib.hid (show at0 xs k ≠ at0 ys k → decide (xs = ys) = false from fun h => by
      rw [decide_eq_false_iff_not]; intro e; rw [e] at h; exact h rfl)
    generalize at0 xs k = a at *
    generalize at0 ys k = b' at *
    by_cases hab : a = b'
    · have hst := Lib.hid (hst.out hab)
      have hab' : (a == b') = true := by simp [hab]
      clear hnot
      go_wp2
      go_quiet (fail)
      go_wp2
      go_roundw
      case rel => exact ⟨k + 1, by omega, by go_num, hst, Lib.hid (below_drewN hB.out nq)⟩
      case measure => simp [intOf]; omega
    · have hr := Lib.hid (hnot.out hab)
      have hab' : (a == b') = false := by simp [hab]
      clear hnot hst
      go_wp2
      go_quiet (fail)
      go_wp2
      go_ret
      exact ⟨ret_bool (by rw [hr.out]), below_drewN hB.out nq⟩

/-- p is on the left of the first k sides -/
def insUpto (t : Nat → Nat → Nat → Int) (ns : List Nat) (p : Nat) : Nat → Bool
  | 0 => true
  | k + 1 => insUpto t ns p k && decide (0 < t (natAt ns k) (natAt ns ((k + 1) % ns.length)) p)
def insB (t : Nat → Nat → Nat → Int) (ns : List Nat) (p : Nat) : Bool := insUpto t ns p ns.length
theorem insUpto_false {t : Nat → Nat → Nat → Int} {ns : List Nat} {p k : Nat} (h : insUpto t ns p k = false) : ∀ m, k ≤ m → insUpto t ns p m = false := by
  intro m hm
  induction hm with
  | refl => exact h
  | step _ ih => simp [insUpto, ih]
set_option maxHeartbeats 1000000 in
theorem inside_any (w : World) (g L : Nat) (t : Nat → Nat → Nat → Int) (v : Value) (ns : List Nat) (p : Nat)
    (hT : ∀ i j k, i < L → j < L → k < L → w.cell? ⟨g, 1 + i * 196 + j * 14 + k, none⟩ = some (.int .i8 (t i j k))) (hL : L ≤ 14) (hx : Ints w v (nats ns)) (hns : ∀ k ∈ ns, k < L) (hp : p < L) (hlen : ns.length ≤ 1000) :
    Calls Try.prog 92 #[.pointer (some ⟨g, 0, none⟩), v, .int .i64 (p : Int)] w fun e w' => e = .returned (.bool (insB t ns p)) ∧ Below w.heap.size w w' := by
  obtain ⟨A, cap, rfl, hl, hcm, _, hat⟩ := hx.open
  have hat := Lib.hid (show ∀ i, i < ns.length → ∃ b off, A = some ⟨b, off, none⟩ ∧ w.cell? ⟨b, off + i, none⟩ = some (.int .i64 ((natAt ns i : Nat) : Int)) from fun i hi => by
    obtain ⟨b, off, hA, hc⟩ := hat i (by rw [nats_length]; exact hi)
    exact ⟨b, off, hA, by rwa [at0_nats] at hc⟩)
  unfold maxLen at hcm
  rw [nats_length] at hl ⊢
  obtain ⟨m, hm⟩ : ∃ m, ns.length = m := ⟨_, rfl⟩
  have hnL := Lib.hid (show ∀ i, i < m → natAt ns i < L from fun i hi => hns _ (by rw [natAt_eq (by omega)]; exact List.getElem_mem _))
  rw [hm] at hl hlen ⊢
  replace hm := Lib.hid hm
  replace hT := Lib.hid hT
  clear hx hns
  go_enter Try.func92, Try.ntmps92
  go_wp2
  go_loopw [11] (fun c wr => ∃ k : Nat, k ≤ m ∧ c = .int .i64 (k : Int) ∧ Hid (insUpto t ns p k = true) ∧ Hid (Below w.heap.size w wr)) (fun c _ => m - (intOf c).toNat)
  case atStart => exact ⟨0, Nat.zero_le _, rfl, rfl, Below.refl _ _⟩
  case round =>
    obtain ⟨k, hk, rfl, hi, hB⟩ := hrel
    by_cases hlt : k < m
    case neg =>
      obtain rfl : m = k := by omega
      have hr := Lib.hid (show insB t ns p = true by unfold insB; rw [hm.out]; exact hi.out)
      go_wp2
      go_ret
      exact ⟨ret_bool (by rw [hr.out]), hB.out⟩
    obtain ⟨b, o, rfl, hc⟩ := hat.out k (by rw [hm.out]; exact hlt)
    have hmod : (k + 1) % m < m := Nat.mod_lt _ (by omega)
    obtain ⟨b2, o2, e, hc2⟩ := hat.out ((k + 1) % m) (by rw [hm.out]; exact hmod)
    cases e
    have hc := cell_below hc hB.out
    have hc2 := cell_below hc2 hB.out
    have h1 := hnL.out k hlt
    have h2 := hnL.out _ hmod
    have ht := cell_below (hT.out _ _ p h1 h2 hp) hB.out
    have hst := Lib.hid (show insUpto t ns p (k + 1) = decide (0 < t (natAt ns k) (natAt ns ((k + 1) % m)) p) by simp only [insUpto, hi.out, Bool.true_and, hm.out])
    have hmi : ((k : Int) + 1).tmod (m : Int) = (((k + 1) % m : Nat) : Int) := by
      rw [Int.tmod_eq_emod_of_nonneg (by omega), Int.natCast_emod]
      rfl
    obtain ⟨q, hq⟩ : ∃ q, (k + 1) % m = q := ⟨_, rfl⟩
    rw [hq] at hmi hc2 h2 ht hst hmod
    replace hq := Lib.hid hq
    have hmne : ¬ (m : Int) = 0 := by omega
    generalize natAt ns k = x at *
    generalize natAt ns q = y at *
    generalize t x y p = T at *
    by_cases hTt : 0 < T
    · have hst := Lib.hid (show insUpto t ns p (k + 1) = true by rw [hst.out]; simp [hTt])
      have hTd : decide (T ≤ 0) = false := by simp; omega
      go_wp2
      go_quiet (fail)
      go_wp2
      go_roundw
      case rel => exact ⟨k + 1, by omega, by go_num, hst, Lib.hid (below_drewN hB.out nq)⟩
      case measure => simp [intOf]; omega
    · have hr := Lib.hid (show insB t ns p = false by
        unfold insB
        rw [hm.out]
        exact insUpto_false (k := k + 1) (by rw [hst.out]; simp [hTt]) _ (by omega))
      have hTd : decide (T ≤ 0) = true := by simp; omega
      go_wp2
      go_quiet (fail)
      go_wp2
      go_ret
      exact ⟨ret_bool (by rw [hr.out]), below_drewN hB.out nq⟩
end Go.Proofs.Ythnabheibacbcaa
