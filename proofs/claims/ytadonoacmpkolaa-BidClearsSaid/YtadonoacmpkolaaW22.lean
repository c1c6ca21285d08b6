/- isAllocation, IsAllocation, and the reference's. -/
import Derived.Test.YtadonoacmpkolaaM3
namespace Go.Proofs.Ytadonoacmpkolaa
open Go.RowKit
attribute [local go_sem high] walk_shl walk_shr walk_bit walk_rem walk_and walk_or walk_andNot

theorem allocB_no {m n : Nat} {l : List Int} {k : Nat} (hk : k < l.length) (h : alOne m l k = false) : allocB m n l = false := by
  unfold allocB; rw [all_no hk h, Bool.and_false]
theorem allocB_yes {m n : Nat} {l : List Int} (hl : l.length = n) (h : ∀ k, k < l.length → alOne m l k = true) : allocB m n l = true := by
  unfold allocB; rw [all_yes h]; simp [hl]
theorem allocB_len {m n : Nat} {l : List Int} (h : l.length ≠ n) : allocB m n l = false := by unfold allocB; simp [h]

set_option maxRecDepth 100000 in
set_option maxHeartbeats 1600000 in
theorem isAlloc_any (w : World) (v u : Value) (xs : List (List Int)) (l : List Int) (m : Nat) (h : Rows2 w v xs) (hu : Ints w u l) (hm : m ≤ 6) (hx : xs.length ≤ 1000) :
    Calls Try.prog 63 #[.int .i64 (m : Int), v, u] w fun e w' => e = .returned (.bool (allocB m xs.length l)) ∧ w = w' := by
  have hsm : smallS m := smallS_of (by omega)
  have h64 := p2_le64 hm
  obtain ⟨A, cap, rfl, _, hcap, _, _⟩ := h.open
  obtain ⟨B, cu, rfl, hlu, hcu, _, hau⟩ := hu.open
  clear h hu
  unfold maxLen at hcap hcu
  replace hau := Lib.hid hau
  by_cases hl : l.length = xs.length
  · have hne : ((l.length : Int) != (xs.length : Int)) = false := by simp [hl]
    have hno := Lib.hid (fun k (hk : k < l.length) h => allocB_no (m := m) (n := xs.length) hk h)
    have hys := Lib.hid (allocB_yes (m := m) hl)
    generalize allocB m xs.length l = R at *
    replace hl := Lib.hid hl
    have hlx : l.length ≤ 1000 := by rw [hl.out]; exact hx
    go_enter Try.func63, Try.ntmps63
    go_wp2
    go_loop [7, 17] (fun t i => ∃ k : Nat, k ≤ l.length ∧ i = .int .i64 (k : Int) ∧ t = .int .i64 ((tk l k : Nat) : Int) ∧ Hid (∀ j, j < k → alOne m l j = true)) (fun _ i => l.length - (intOf i).toNat)
    case atStart => exact ⟨0, Nat.zero_le _, rfl, rfl, fun j hj => absurd hj (by omega)⟩
    case round =>
      obtain ⟨k, hk, rfl, rfl, hok⟩ := hrel
      by_cases hlt : k < l.length
      · obtain ⟨b1, o1, rfl, hc1⟩ := hau.out k hlt
        have htl := tk_lt k hok.out
        have hts : small (tk l k) := small_of (by omega)
        have hone : Hid (alOne m l k = (decide (0 ≤ at0 l k) && decide (at0 l k < ((p2 m : Nat) : Int)) && decide ((at0 l k).toNat &&& tk l k = 0))) := rfl
        have htk : Hid (tk l (k + 1) = tk l k ||| (at0 l k).toNat) := rfl
        have hno1 := Lib.hid (hno.out k hlt)
        have hok1 : Hid (alOne m l k = true → ∀ j, j < k + 1 → alOne m l j = true) := fun h j hj => by
          by_cases e : j = k
          · rw [e]; exact h
          · exact hok.out j (by omega)
        generalize tk l k = t at *
        generalize alOne m l k = one at *
        generalize at0 l k = x at *
        by_cases hx0 : x < 0
        · have hr := Lib.hid (hno1.out (by rw [hone.out]; simp; omega))
          go_wp2
          go_ret
          exact ⟨ret_bool hr.out.symm, rfl⟩
        · obtain ⟨s, rfl⟩ : ∃ s : Nat, x = s := ⟨x.toNat, by omega⟩
          rw [Int.toNat_natCast] at hone htk
          by_cases hx1 : ((p2 m : Nat) : Int) ≤ (s : Int)
          · have hr := Lib.hid (hno1.out (by rw [hone.out]; simp; omega))
            go_wp2
            go_ret
            exact ⟨ret_bool hr.out.symm, rfl⟩
          · have hss : small s := small_of (by omega)
            by_cases hand : s &&& t = 0
            · have hz : ((((s &&& t : Nat)) : Int) != 0) = false := by rw [hand]; rfl
              have hr := Lib.hid (hok1.out (by rw [hone.out, hand]; simp; omega))
              replace hand := Lib.hid hand
              go_wp2
              go_round
              case rel => exact ⟨k + 1, by omega, by go_num, by rw [htk.out], hr.out⟩
              case measure => simp [intOf]; try omega
            · have hz : ((((s &&& t : Nat)) : Int) != 0) = true := by simp; omega
              have hr := Lib.hid (hno1.out (by rw [hone.out]; simp [hand]))
              replace hand := Lib.hid hand
              go_wp2
              go_ret
              exact ⟨ret_bool hr.out.symm, rfl⟩
      · obtain rfl : k = l.length := by omega
        have hr := Lib.hid (hys.out hok.out)
        go_wp2
        go_ret
        exact ⟨ret_bool hr.out.symm, rfl⟩
  · have hne : ((l.length : Int) != (xs.length : Int)) = true := by simp; omega
    have hr := Lib.hid (allocB_len (m := m) hl)
    replace hl := Lib.hid hl
    go_enter Try.func63, Try.ntmps63
    go_wp2
    go_ret
    exact ⟨ret_bool hr.out.symm, rfl⟩

set_option maxHeartbeats 400000 in
theorem IsAllocation_ok (w : World) (v u : Value) (xs : List (List Int)) (l : List Int) (m : Nat) (h : Rows2 w v xs) (hu : Ints w u l) (hE : Bids m xs) :
    Calls Try.prog 41 #[.int .i64 (m : Int), v, u] w fun e w' => e = .returned (.bool (allocB m xs.length l)) ∧ Below w.heap.size w w' := by
  have hc := check_any w v xs m h
  rw [hE.check] at hc
  replace hc := Lib.hid hc
  have hs := Lib.hid (fun w1 (hb : Below w.heap.size w w1) => isAlloc_any w1 v u xs l m (Rows2.below h (Nat.le_refl _) hb) (Ints.below hu (Nat.le_refl _) hb) hE.m6 (by have := hE.l6; omega))
  generalize allocB m xs.length l = b at *
  clear h hE hu
  go_enter Try.func41, Try.ntmps41
  go_wp2_with (first
    | (go_at_call 45; refine hc.out.mono ?_; rintro e w1 ⟨rfl, hb⟩; replace hb := Lib.hid hb)
    | (go_at_call 63; refine (hs.out _ hb.out).mono ?_; rintro e w2 ⟨rfl, rfl⟩))
  go_ret
  exact ⟨rfl, hb.out⟩
end Go.Proofs.Ytadonoacmpkolaa
