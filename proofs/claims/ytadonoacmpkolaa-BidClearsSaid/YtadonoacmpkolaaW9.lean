/- Best, sum, offers, Clone. -/
import Derived.Test.YtadonoacmpkolaaW8
namespace Go.Proofs.Ytadonoacmpkolaa
open Go.RowKit
attribute [local go_sem high] walk_shl walk_shr walk_bit walk_rem walk_and walk_or walk_andNot

theorem isBidB_ok {m : Nat} {l : List Int} (h : isBidB m l = true) : okRow m l := by
  unfold isBidB at h
  simp only [Bool.and_eq_true, decide_eq_true_eq] at h
  refine ⟨h.1.1, fun s => ?_⟩
  by_cases hs : s < l.length
  · have h2 := List.all_eq_true.1 h.2 s (List.mem_range.2 hs)
    unfold offOk at h2
    simp only [Bool.and_eq_true, decide_eq_true_eq] at h2
    exact h2.1
  · have : at0 l s = 0 := by unfold at0; simp [List.getD, List.getElem?_eq_none (Nat.le_of_not_lt hs)]
    rw [this]; decide
/-- bids as they must be -/
structure Bids (m : Nat) (xs : List (List Int)) : Prop where
  m1 : 1 ≤ m
  m6 : m ≤ 6
  l1 : 1 ≤ xs.length
  l6 : xs.length ≤ 6
  all : ∀ l ∈ xs, isBidB m l = true
theorem Bids.ok {m : Nat} {xs : List (List Int)} (h : Bids m xs) : ∀ l ∈ xs, okRow m l := fun l hl => isBidB_ok (h.all l hl)
theorem Bids.check {m : Nat} {xs : List (List Int)} (h : Bids m xs) : checkE m xs = 0 := by
  have h1 := h.m1; have h2 := h.m6; have h3 := h.l1; have h4 := h.l6
  have h5 : (xs.any fun l => !isBidB m l) = false := by
    rw [Bool.eq_false_iff]
    intro hh
    obtain ⟨l, hl, hb⟩ := List.any_eq_true.1 hh
    rw [h.all l hl] at hb
    cases hb
  unfold checkE
  rw [if_neg (by omega), Int.toNat_natCast, h5, if_neg (by rintro (h | h | h) <;> first | omega | cases h)]
theorem bids_of_check {m : Int} {xs : List (List Int)} (h : checkE m xs = 0) : ∃ k : Nat, m = k ∧ Bids k xs := by
  unfold checkE at h
  split at h
  · cases h
  · rename_i h1
    split at h
    · cases h
    · rename_i h2
      refine ⟨m.toNat, by omega, ⟨by omega, by omega, by omega, by omega, fun l hl => ?_⟩⟩
      have h3 : ¬ (xs.any fun l => !isBidB m.toNat l) = true := fun hh => h2 (.inr (.inr hh))
      cases hb : isBidB m.toNat l with
      | true => rfl
      | false => exact absurd (List.any_eq_true.2 ⟨l, hl, by simp [hb]⟩) h3

set_option maxHeartbeats 400000 in
theorem Best_bad (w : World) (v : Value) (xs : List (List Int)) (m : Int) (h : Rows2 w v xs) (hE : checkE m xs ≠ 0) :
    Calls Try.prog 23 #[.int .i64 m, v] w fun e w' => e = .returned (.tuple #[.int .i64 0, .slice none 0 0, .int .i64 (checkE m xs)]) ∧ Below w.heap.size w w' := by
  have hc := Lib.hid (check_any w v xs m h)
  have hne : (checkE m xs != 0) = true := by simpa using hE
  replace hE := Lib.hid hE
  clear h
  generalize checkE m xs = c at *
  go_enter Try.func23, Try.ntmps23
  go_wp2_with (go_at_call 45; refine hc.out.mono ?_; rintro e w1 ⟨rfl, hb⟩; replace hb := Lib.hid hb)
  go_ret3
  exact ⟨rfl, hb.out⟩

theorem Bids.rows {m : Nat} {xs : List (List Int)} (_ : Bids m xs) {w w' : World} {v : Value} (hr : Rows2 w v xs) (hb : Below w.heap.size w w') : Rows2 w' v xs := Rows2.below hr (Nat.le_refl _) hb

set_option maxHeartbeats 400000 in
theorem Best_ok (w : World) (v : Value) (xs : List (List Int)) (m : Nat) (h : Rows2 w v xs) (hE : Bids m xs) :
    Calls Try.prog 23 #[.int .i64 (m : Int), v] w fun e w' => ∃ v', e = .returned (.tuple #[.int .i64 (wts xs (p2 m - 1)), v', .int .i64 0]) ∧ OwnI w.heap.size 3 w' v' ((alloc xs (p2 m - 1)).map (fun (s : Nat) => (s : Int))) ∧ Below w.heap.size w w' := by
  have hc := check_any w v xs m h
  rw [hE.check] at hc
  replace hc := Lib.hid hc
  have hc2 := Lib.hid (fun w1 hb => best_any w1 v m xs (Rows2.below h (Nat.le_refl _) hb) hE.m1 hE.m6 hE.l6 hE.ok)
  clear h hE
  generalize wts xs (p2 m - 1) = q at *
  generalize (alloc xs (p2 m - 1)).map (fun (s : Nat) => (s : Int)) = l at *
  go_enter Try.func23, Try.ntmps23
  go_wp2_with (first
    | (go_at_call 45; refine hc.out.mono ?_; rintro e w1 ⟨rfl, hb⟩; replace hb := Lib.hid hb)
    | (go_at_call 52; refine (hc2.out _ hb.out).mono ?_; rintro e w2 ⟨v2, rfl, ho, hb2⟩; replace hb2 := Lib.hid hb2; replace ho := Lib.hid ho))
  go_ret3
  exact ⟨_, rfl, OwnL.lo_le ho.out hb.out.size, hb.out.trans (hb2.out.mono hb.out.size)⟩

def sumUpto (xs : List Int) : Nat → Int
  | 0 => 0
  | k + 1 => sumUpto xs k + at0 xs k
theorem sumUpto_bd (xs : List Int) (B : Int) (h : ∀ i, -B ≤ at0 xs i ∧ at0 xs i ≤ B) : ∀ k : Nat, -(B * k) ≤ sumUpto xs k ∧ sumUpto xs k ≤ B * k
  | 0 => by simp [sumUpto]
  | k + 1 => by
    have := sumUpto_bd xs B h k
    have h2 := h k
    rw [sumUpto, Int.natCast_add, Int.mul_add]
    simp
    omega

set_option maxHeartbeats 400000 in
theorem sum_any (w : World) (v : Value) (xs : List Int) (h : Ints w v xs) (hl : xs.length ≤ 100) (hb : ∀ i, -100000000 ≤ at0 xs i ∧ at0 xs i ≤ 100000000) :
    Calls Try.prog 71 #[v] w fun e w' => e = .returned (.int .i64 (sumUpto xs xs.length)) ∧ w = w' := by
  obtain ⟨A, cap, rfl, hl, hcap, hn, hat⟩ := h.open
  replace hat := Lib.hid hat
  replace hb := Lib.hid hb
  clear hn h
  unfold maxLen at hcap
  go_enter Try.func71, Try.ntmps71
  go_wp2
  go_loop [3, 8] (fun m i => ∃ k : Nat, k ≤ xs.length ∧ i = .int .i64 k ∧ m = .int .i64 (sumUpto xs k)) (fun _ i => xs.length - (intOf i).toNat)
  case atStart => exact ⟨0, Nat.zero_le _, rfl, rfl⟩
  case round =>
    obtain ⟨k, hk, rfl, rfl⟩ := hrel
    by_cases hlt : k < xs.length
    · obtain ⟨b2, o2, rfl, hc⟩ := hat.out k hlt
      have hbk := hb.out k
      have hs := sumUpto_bd xs 100000000 hb.out k
      have hs2 : Hid (sumUpto xs (k + 1) = sumUpto xs k + at0 xs k) := rfl
      have hr1 : -10000000000 ≤ sumUpto xs k := by omega
      have hr2 : sumUpto xs k ≤ 10000000000 := by omega
      clear hs
      go_wp2
      go_round
      case rel => exact ⟨k + 1, by omega, by go_num, by rw [hs2.out]⟩
      case measure => simp [intOf]; omega
    · obtain rfl : k = xs.length := by omega
      go_wp2
      go_ret
      exact ⟨rfl, rfl⟩

def natAt (ls : List Nat) (i : Nat) : Nat := ls.getD i 0
def casts (ls : List Nat) : List Int := ls.map fun (s : Nat) => (s : Int)
theorem casts_length (ls : List Nat) : (casts ls).length = ls.length := by simp [casts]
theorem at0_casts (ls : List Nat) (i : Nat) : at0 (casts ls) i = ((natAt ls i : Nat) : Int) := by
  unfold at0 natAt casts
  simp only [List.getD, List.getElem?_map]
  cases ls[i]? <;> simp
def offersOf (xs : List (List Int)) (ls : List Nat) : List Int := tab ls.length fun i => at0 (rowAt xs i) (natAt ls i)

set_option maxHeartbeats 400000 in
theorem offers_any (w : World) (v1 v2 : Value) (xs : List (List Int)) (ls : List Nat) (h1 : Rows2 w v1 xs) (h2 : Ints w v2 (casts ls)) (hl : ls.length ≤ xs.length) (hl6 : ls.length ≤ 1000) (hb : ∀ i, i < ls.length → natAt ls i < (rowAt xs i).length) :
    Calls Try.prog 62 #[v1, v2] w fun e w' => ∃ v', e = .returned v' ∧ OwnI w.heap.size 2 w' v' (offersOf xs ls) ∧ Below w.heap.size w w' := by
  obtain ⟨A, cap, rfl, hl1, hcap, hn, hat⟩ := h1.open
  obtain ⟨A2, cap2, rfl, hl2, hcap2, hn2, hat2⟩ := h2.open
  rw [casts_length] at hat2 hl2 ⊢
  replace hat := Lib.hid hat
  replace hat2 := Lib.hid hat2
  replace hb := Lib.hid hb
  clear hn hn2 h1 h2
  unfold maxLen at hcap hcap2
  go_enter Try.func62, Try.ntmps62
  go_wp2
  go_loopw [5, 10] (fun o i wr => ∃ k : Nat, k ≤ ls.length ∧ i = .int .i64 k ∧ Hid (OwnI w.heap.size 2 wr o (tab k fun i => at0 (rowAt xs i) (natAt ls i))) ∧ Hid (Below w.heap.size w wr)) (fun _ i _ => ls.length - (intOf i).toNat)
  case atStart => exact ⟨0, Nat.zero_le _, rfl, own_nil _ _ _, Below.refl _ _⟩
  case round =>
    obtain ⟨k, hk, rfl, ho, hB⟩ := hrel
    by_cases hlt : k < ls.length
    · obtain ⟨b1, o1, A1, cap1, rfl, hc1, hi1⟩ := hat.out k (by omega)
      obtain ⟨b2, o2, rfl, hc2⟩ := hat2.out k hlt
      rw [at0_casts] at hc2
      have hbk := hb.out k hlt
      obtain ⟨_, b3, o3, rfl, hat3⟩ := hi1.addr (by omega)
      have hc3 := hat3 (natAt ls k) hbk
      have old : ∀ {p : Addr} {u : Value}, w.cell? p = some u → wr.cell? p = some u := fun {p u} h => (hB.out.cell (p := p) (lt_of_cell h)).trans h
      have f1 := old hc1
      have f2 := old hc2
      have f3 := old hc3
      clear old hc1 hc2 hc3 hi1 hat3
      go_wp2_with (at_builtin; refine wpList_append_int rfl (.tmp 15) (.tmp 23) 27 rfl w.heap.size 2 Try.underlying27 info2 _ _ rfl rfl ho.out rfl rfl (by rw [tab_length]; omega) hB.out.size ?_; intro v' w' h3 h4 _; replace h3 := Lib.hid h3; replace h4 := Lib.hid h4)
      go_roundw
      case rel => exact ⟨k+1, by omega, by go_num, by rw [tab_succ]; exact h3, hB.out.trans h4.out⟩
      case measure => simp [intOf]; omega
    · obtain rfl : k = ls.length := by omega
      go_wp2
      go_ret
      exact ⟨_, rfl, ho.out, hB.out⟩

end Go.Proofs.Ytadonoacmpkolaa
