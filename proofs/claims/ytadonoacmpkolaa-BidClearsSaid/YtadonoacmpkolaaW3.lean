/- single, and what asks a row: slices.Equal, IndexFunc, ContainsFunc, the checks. -/
import Derived.Test.YtadonoacmpkolaaW1
import Derived.Test.YtadonoacmpkolaaW2
namespace Go.Proofs.Ytadonoacmpkolaa
open Go.RowKit
attribute [local go_sem high] walk_shl walk_shr walk_bit walk_rem walk_and walk_or walk_andNot

/-- the greatest of the first k offers for items of s, at least 0 -/
def sglUpto (xs : List Int) (s : Nat) : Nat → Int
  | 0 => 0
  | k + 1 => if bitOf s k = 1 then (if sglUpto xs s k < at0 xs k then at0 xs k else sglUpto xs s k) else sglUpto xs s k
def singleOf (xs : List Int) : List Int := tab (p2 xs.length) fun s => sglUpto xs s xs.length

set_option maxHeartbeats 400000 in
theorem single_any (w : World) (v : Value) (xs : List Int) (h : Ints w v xs) (hl : xs.length ≤ 6) :
    Calls Try.prog 50 #[v] w fun e w' => ∃ v', e = .returned v' ∧ OwnI w.heap.size 2 w' v' (singleOf xs) ∧ Below w.heap.size w w' := by
  have hs6 : smallS xs.length := smallS_of (by omega)
  have h64 := p2_le64 hl
  obtain ⟨A, cap, rfl, hl, hcap, hn, hat⟩ := h.open
  replace hat := Lib.hid hat
  clear hn h
  unfold maxLen at hcap
  obtain ⟨N, hN⟩ : ∃ N, N = p2 xs.length := ⟨_, rfl⟩
  rw [← hN] at h64
  go_enter Try.func50, Try.ntmps50
  go_wp2_with (at_make; refine wpList_make_ints rfl _ _ 27 rfl w.heap.size 2 Try.underlying27 info2 (p2 xs.length) rfl rfl (by omega) (Nat.le_refl _) _ rfl ?_; intro w1 ho hg hsz)
  rw [← hN] at ho ⊢
  replace hN := Lib.hid hN
  replace ho := Lib.hid ho
  replace hg := Lib.hid hg
  go_loopw [14] (fun i wr => ∃ s : Nat, s ≤ N ∧ i = .int .i64 s ∧ Hid (OwnT w.heap.size 2 wr w.heap.size N N (fun j => if j < s then sglUpto xs j xs.length else 0)) ∧ Hid (Below w.heap.size w wr)) (fun i _ => N - (intOf i).toNat)
  case atStart => exact ⟨0, Nat.zero_le _, rfl, ho.out.congr (fun i _ => by simp), hg.out⟩
  case round =>
    clear ho hg hsz
    obtain ⟨s, hs, rfl, ho, hB⟩ := hrel
    obtain ⟨wo, rfl⟩ : ∃ wo : World, wo = wr := ⟨_, rfl⟩
    by_cases hlt : s < N
    · have hss : small s := small_of (by omega)
      go_wp2
      go_loopw [19] (fun i wr => ∃ k : Nat, k ≤ xs.length ∧ i = .int .i64 k ∧ Hid (OwnT w.heap.size 2 wr w.heap.size N N (fun j => if j < s then sglUpto xs j xs.length else if j = s then sglUpto xs s k else 0)) ∧ Hid (Below w.heap.size w wr)) (fun i _ => xs.length - (intOf i).toNat)
      case atStart => exact ⟨0, Nat.zero_le _, rfl, ho.out.congr (fun i _ => by by_cases h : i = s <;> simp [h, sglUpto]), hB.out⟩
      case round =>
        clear ho hB
        obtain ⟨k, hk, rfl, ho, hB⟩ := hrel
        by_cases hkl : k < xs.length
        · obtain ⟨b1, o1, rfl, hc1⟩ := hat.out k hkl
          replace hc1 : wr.cell? ⟨b1, o1 + k, none⟩ = some (.int .i64 (at0 xs k)) := by
            rw [hB.out.cell (p := ⟨b1, o1 + k, none⟩) (lt_of_cell hc1)]; exact hc1
          have hc2 : wr.cell? ⟨w.heap.size, s, none⟩ = some (.int .i64 (sglUpto xs s k)) := by
            rw [ho.out.at s hlt]; simp
          have hf2 := ho.out.free s (by omega)
          have hks : smallS k := smallS_of (by omega)
          have hst := Lib.hid (fun x => (ho.out.set s x))
          have hB2 := Lib.hid (fun x => hB.out.setCell (p := ⟨w.heap.size, s, none⟩) (Nat.le_refl _) x)
          by_cases hb : bitOf s k = 1
          · have hbb : (((bitOf s k : Nat) : Int) == 1) = true := by rw [hb]; rfl
            replace hb := Lib.hid hb
            go_wp2
            go_roundw
            case rel => exact ⟨k + 1, by omega, by go_num, (hst.out _).congr (fun i _ => by unfold upd; by_cases h : i = s <;> simp [h, sglUpto, hb.out]), hB2.out _⟩
            case measure => simp [intOf]; omega
          · have hbb : (((bitOf s k : Nat) : Int) == 1) = false := by simp; omega
            replace hb := Lib.hid hb
            go_wp2
            go_roundw
            case rel => exact ⟨k + 1, by omega, by go_num, ho.out.congr (fun i _ => by by_cases h : i = s <;> simp [h, sglUpto, hb.out]), hB.out⟩
            case measure => simp [intOf]; omega
        · obtain rfl : k = xs.length := by omega
          go_wp2
          go_roundw
          case rel => exact ⟨s + 1, by omega, by go_num, ho.out.congr (fun i _ => by by_cases h : i = s <;> simp [h]; by_cases h2 : i < s <;> simp [h2] <;> omega), hB.out⟩
          case measure => simp [intOf]; omega
    · obtain rfl : s = N := by omega
      go_wp2
      go_ret
      refine ⟨_, rfl, ?_, hB.out⟩
      unfold singleOf
      rw [← hN.out]
      exact ho.out.congr (fun i hi => by simp [hi])
set_option maxHeartbeats 400000 in
theorem equal_eq (A B : Option Addr) (n c d : Nat) (xs ys : List Int) (w : World)
   (hx : xs.length = n) (hy : ys.length = n) (hn : n ≤ 9223372036854775807)
   (ha : ∀ i (_ : i < xs.length), ∃ b off, A = some ⟨b, off, none⟩ ∧ w.cell? ⟨b, off + i, none⟩ = some (.int .i64 (at0 xs i)))
   (hb : ∀ i (_ : i < ys.length), ∃ b off, B = some ⟨b, off, none⟩ ∧ w.cell? ⟨b, off + i, none⟩ = some (.int .i64 (at0 ys i))) :
    Calls Try.prog 73 #[.slice A n c, .slice B n d] w fun e w' => e = .returned (.bool (decide (xs = ys))) ∧ ∃ k, w.drewN k = w' := by
  replace hx := Lib.hid hx
  replace hy := Lib.hid hy
  replace ha := Lib.hid ha
  replace hb := Lib.hid hb
  go_enter Try.func73, Try.ntmps73
  go_wp2
  go_loopw [13] (fun i wr => ∃ k : Nat, k ≤ n ∧ i = .int .i64 k ∧ Hid (xs.take k = ys.take k) ∧ ∃ q, wr = w.drewN q) (fun i _ => n - (intOf i).toNat)
  case atStart => exact ⟨0, Nat.zero_le _, rfl, rfl, 0, rfl⟩
  case round =>
    obtain ⟨k, hk, rfl, ht, q, rfl⟩ := hrel
    by_cases hlt : k < n
    · have hkx : k < xs.length := by rw [hx.out]; exact hlt
      have hky : k < ys.length := by rw [hy.out]; exact hlt
      obtain ⟨b1, o1, rfl, hc1⟩ := ha.out k hkx
      obtain ⟨b2, o2, rfl, hc2⟩ := hb.out k hky
      have ht1 : Hid (at0 xs k = at0 ys k → xs.take (k+1) = ys.take (k+1)) := fun h => by
        rw [take_at0 hkx, take_at0 hky, ht.out, h]
      have ht2 : Hid (at0 xs k ≠ at0 ys k → ¬ xs = ys) := fun h e => by subst e; exact h rfl
      clear ha hb ht hkx hky
      generalize at0 xs k = x at hc1 ht1 ht2
      generalize at0 ys k = y at hc2 ht1 ht2
      go_wp2_with fail
      by_cases hxy : x = y
      · have hbb : (x != y) = false := by simp [hxy]
        have h3 := Lib.hid (ht1.out hxy)
        clear hxy ht1 ht2
        go_quiet (fail)
        go_wp2
        go_roundw
        case rel => exact ⟨k+1, by omega, by go_num, h3, _, rfl⟩
        case measure => simp [intOf]; omega
      · have hbb : (x != y) = true := by simp [hxy]
        have h3 := Lib.hid (ht2.out hxy)
        clear hxy ht1 ht2
        go_quiet (fail)
        go_wp2
        go_ret
        exact ⟨ret_bool (by simp [h3.out]), _, (World.drewN_drewN _ _ _).symm⟩
    · go_wp2
      go_ret
      have : k = n := by omega
      subst this
      have e : xs = ys := by
        have := ht.out
        rwa [List.take_of_length_le (by rw [hx.out]; exact Nat.le_refl _), List.take_of_length_le (by rw [hy.out]; exact Nat.le_refl _)] at this
      exact ⟨ret_bool (by simp [e]), _, rfl⟩

set_option maxHeartbeats 400000 in
theorem equal_any (w : World) (v1 v2 : Value) (xs ys : List Int) (h1 : Ints w v1 xs) (h2 : Ints w v2 ys) :
    Calls Try.prog 73 #[v1, v2] w fun e w' => e = .returned (.bool (decide (xs = ys))) ∧ ∃ k, w.drewN k = w' := by
  obtain ⟨A, c, rfl, ha1, ha2, _, ha⟩ := h1.open
  obtain ⟨B, d, rfl, hb1, hb2, _, hb⟩ := h2.open
  unfold maxLen at ha2
  by_cases hl : xs.length = ys.length
  · rw [hl]
    exact equal_eq A B ys.length c d xs ys w hl rfl (by omega) ha hb
  · have hne : ((xs.length : Int) != (ys.length : Int)) = true := by simp; omega
    have hd : decide (xs = ys) = false := by simp; intro e; exact hl (by rw [e])
    replace hl := Lib.hid hl
    replace hd := Lib.hid hd
    clear ha hb
    go_enter Try.func73, Try.ntmps73
    go_wp2
    go_ret
    exact ⟨ret_bool hd.out.symm, 0, rfl⟩


set_option maxHeartbeats 400000 in
theorem indexFunc_any (w : World) (v : Value) (xs : List (List Int)) (h : Rows2 w v xs) (F : Nat) (c0 : Value) (p : List Int → Bool) (hF : ∀ (args : Array Value) (W : World), (callFunc F args).run Try.prog W = .ok (.enter F args) W)
    (hf : ∀ i, i < xs.length → ∀ A n c W, Below w.heap.size w W → Ints W (.slice A n c) (rowAt xs i) → Calls Try.prog F #[.slice A n c, c0] W fun e W' => e = .returned (.bool (p (rowAt xs i))) ∧ Below W.heap.size W W') :
    Calls Try.prog 66 #[v, .func (.func F) #[] #[c0]] w fun e w' => e = .returned (.int .i64 (firstFrom (fun i => p (rowAt xs i)) 0 xs.length)) ∧ Below w.heap.size w w' := by
  obtain ⟨A, cap, rfl, hl, hcap, hn, hat⟩ := h.open
  replace hat := Lib.hid hat
  replace hf := Lib.hid hf
  clear hn h
  unfold maxLen at hcap
  go_enter Try.func66, Try.ntmps66
  go_wp2
  go_loopw [8] (fun i wr => ∃ k : Nat, k ≤ xs.length ∧ i = .int .i64 k ∧ Hid (firstFrom (fun i => p (rowAt xs i)) 0 xs.length = firstFrom (fun i => p (rowAt xs i)) k (xs.length - k)) ∧ Hid (Below w.heap.size w wr)) (fun i _ => xs.length - (intOf i).toNat)
  case atStart => exact ⟨0, Nat.zero_le _, rfl, rfl, Below.refl _ _⟩
  case round =>
    obtain ⟨k, hk, rfl, ht, hB⟩ := hrel
    by_cases hlt : k < xs.length
    · obtain ⟨b1, o1, A1, cap1, rfl, hc1, hi1⟩ := hat.out k hlt
      replace hc1 : wr.cell? ⟨b1, o1 + k, none⟩ = some (.slice A1 (rowAt xs k).length cap1) := by
        rw [hB.out.cell (p := ⟨b1, o1 + k, none⟩) (lt_of_cell hc1)]; exact hc1
      replace hi1 := Lib.hid (Ints.below hi1 (Nat.le_refl _) hB.out)
      have hs : Hid (xs.length - k = (xs.length - (k + 1)) + 1) := by unfold Hid; omega
      have hcall := Lib.hid (hf.out k hlt A1 _ cap1 wr hB.out hi1.out)
      cases hp : p (rowAt xs k)
      · have hr := Lib.hid (show firstFrom (fun i => p (rowAt xs i)) 0 xs.length = firstFrom (fun i => p (rowAt xs i)) (k + 1) (xs.length - (k + 1)) by rw [ht.out, hs.out, firstFrom, if_neg (by simp [hp])])
        replace hp := Lib.hid hp
        go_wp2_with fail
        refine hcall.out.mono ?_
        rintro e w1 ⟨rfl, hb1⟩
        rw [hp.out]
        replace hb1 := Lib.hid hb1
        go_wp2
        go_roundw
        case rel => exact ⟨k + 1, by omega, by go_num, hr, hB.out.trans (hb1.out.mono hB.out.size)⟩
        case measure => simp [intOf]; omega
      · have hr := Lib.hid (show firstFrom (fun i => p (rowAt xs i)) 0 xs.length = (k : Int) by rw [ht.out, hs.out, firstFrom, if_pos (by simp [hp])])
        replace hp := Lib.hid hp
        go_wp2_with fail
        refine hcall.out.mono ?_
        rintro e w1 ⟨rfl, hb1⟩
        rw [hp.out]
        replace hb1 := Lib.hid hb1
        go_wp2
        go_ret
        exact ⟨ret_int hr.out.symm, hB.out.trans (hb1.out.mono hB.out.size)⟩
    · obtain rfl : k = xs.length := by omega
      have hr := Lib.hid (show firstFrom (fun i => p (rowAt xs i)) 0 xs.length = -1 by rw [ht.out, Nat.sub_self, firstFrom])
      go_wp2
      go_ret
      exact ⟨ret_int hr.out.symm, hB.out⟩

theorem firstFrom_neg (p : Nat → Bool) (n : Nat) : ∀ k, firstFrom p k n = -1 ∨ 0 ≤ firstFrom p k n := by
  induction n with
  | zero => intro k; exact .inl rfl
  | succ n ih => intro k; rw [firstFrom]; split; exact .inr (by omega); exact ih _
theorem firstFrom_any (p : Nat → Bool) (n : Nat) : ∀ k, decide (0 ≤ firstFrom p k n) = (List.range n).any (fun j => p (k + j)) := by
  induction n with
  | zero => intro k; rfl
  | succ n ih =>
    intro k
    rw [firstFrom, List.range_succ_eq_map, List.any_cons, List.any_map]
    by_cases h : p k
    · rw [if_pos h]; simp [h]
    · rw [if_neg h, ih]
      simp only [Nat.add_zero, Function.comp_def]
      rw [show p k = false by simpa using h, Bool.false_or]
      congr 1
      funext j
      congr 1
      omega
theorem any_rows (p : List Int → Bool) (xs : List (List Int)) : (List.range xs.length).any (fun j => p (rowAt xs j)) = xs.any p := by
  rw [Bool.eq_iff_iff, List.any_eq_true, List.any_eq_true]
  constructor
  · rintro ⟨j, hj, h⟩
    have hj := List.mem_range.1 hj
    exact ⟨xs[j], List.getElem_mem hj, by rw [← rowAt_eq hj]; exact h⟩
  · rintro ⟨x, hx, h⟩
    obtain ⟨j, hj, rfl⟩ := List.getElem_of_mem hx
    exact ⟨j, List.mem_range.2 hj, by rw [rowAt_eq hj]; exact h⟩

set_option maxHeartbeats 400000 in
theorem containsFunc_any (w : World) (v : Value) (xs : List (List Int)) (h : Rows2 w v xs) (F : Nat) (c0 : Value) (p : List Int → Bool) (hF : ∀ (args : Array Value) (W : World), (callFunc F args).run Try.prog W = .ok (.enter F args) W)
    (hf : ∀ i, i < xs.length → ∀ A n c W, Below w.heap.size w W → Ints W (.slice A n c) (rowAt xs i) → Calls Try.prog F #[.slice A n c, c0] W fun e W' => e = .returned (.bool (p (rowAt xs i))) ∧ Below W.heap.size W W') :
    Calls Try.prog 49 #[v, .func (.func F) #[] #[c0]] w fun e w' => e = .returned (.bool (xs.any p)) ∧ Below w.heap.size w w' := by
  have H := Lib.hid (indexFunc_any w v xs h F c0 p hF hf)
  have hr := Lib.hid (show decide (0 ≤ firstFrom (fun i => p (rowAt xs i)) 0 xs.length) = xs.any p by rw [firstFrom_any, ← any_rows]; simp)
  clear h hf
  generalize firstFrom (fun i => p (rowAt xs i)) 0 xs.length = r at H hr
  go_enter Try.func49, Try.ntmps49
  go_wp2_with fail
  refine H.out.mono ?_
  rintro e w1 ⟨rfl, hb⟩
  replace hb := Lib.hid hb
  go_wp2
  go_ret
  exact ⟨ret_bool hr.out, hb.out⟩

end Go.Proofs.Ytadonoacmpkolaa
