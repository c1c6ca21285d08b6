/- The first three points on a line: straight, Line, General. No condition. -/
import Derived.Test.YthnabheibacbcaaC3
namespace Go.Proofs.Ythnabheibacbcaa
open Go.RowKit

/-- the first that f finds from k on, n places -/
def fsome {α : Type} (f : Nat → Option α) : Nat → Nat → Option α
  | _, 0 => none
  | k, n + 1 => match f k with
    | some r => some r
    | none => fsome f (k + 1) n
theorem fsome_step {α : Type} {f : Nat → Option α} {k n : Nat} (h : k < n) (hf : f k = none) : fsome f k (n - k) = fsome f (k + 1) (n - (k + 1)) := by
  rw [show n - k = (n - (k + 1)) + 1 by omega, fsome, hf]
theorem fsome_hit {α : Type} {f : Nat → Option α} {k n : Nat} {r : α} (h : k < n) (hf : f k = some r) : fsome f k (n - k) = some r := by
  rw [show n - k = (n - (k + 1)) + 1 by omega, fsome, hf]
theorem fsome_end {α : Type} (f : Nat → Option α) (n : Nat) : fsome f n (n - n) = none := by rw [Nat.sub_self]; rfl
theorem fsome_none {α : Type} {f : Nat → Option α} : ∀ {n k : Nat}, fsome f k n = none ↔ ∀ j, k ≤ j → j < k + n → f j = none
  | 0, k => ⟨fun _ j h1 h2 => by omega, fun _ => rfl⟩
  | n + 1, k => by
    rw [fsome]
    cases hf : f k with
    | some r =>
      simp only [reduceCtorEq, false_iff]
      intro h
      have := h k (Nat.le_refl _) (by omega)
      rw [hf] at this; cases this
    | none =>
      simp only [fsome_none]
      constructor
      · intro h j h1 h2
        by_cases e : j = k
        · rw [e]; exact hf
        · exact h j (by omega) (by omega)
      · intro h j h1 h2
        exact h j (by omega) (by omega)
theorem fsome_some {α : Type} {f : Nat → Option α} {r : α} : ∀ {n k : Nat}, fsome f k n = some r → ∃ j, k ≤ j ∧ j < k + n ∧ f j = some r
  | 0, k, h => by simp [fsome] at h
  | n + 1, k, h => by
    rw [fsome] at h
    cases hf : f k with
    | some r' => rw [hf] at h; exact ⟨k, Nat.le_refl _, by omega, by rw [hf]; exact h⟩
    | none =>
      rw [hf] at h
      obtain ⟨j, h1, h2, h3⟩ := fsome_some h
      exact ⟨j, by omega, by omega, h3⟩

def line1 (l : List Pt) (i j k : Nat) : Option (Nat × Nat × Nat) := if tur l i j k = 0 then some (i, j, k) else none
def line2 (l : List Pt) (i j : Nat) : Option (Nat × Nat × Nat) := fsome (line1 l i j) (j + 1) (l.length - (j + 1))
def line3 (l : List Pt) (i : Nat) : Option (Nat × Nat × Nat) := fsome (line2 l i) (i + 1) (l.length - (i + 1))
/-- the first three points on a line -/
def lineOf (l : List Pt) : Option (Nat × Nat × Nat) := fsome (line3 l) 0 (l.length - 0)
def lineV : Option (Nat × Nat × Nat) → Value
  | some (i, j, k) => .tuple #[.int .i64 i, .int .i64 j, .int .i64 k, .bool true]
  | none => .tuple #[.int .i64 0, .int .i64 0, .int .i64 0, .bool false]
/-- all points are in range -/
def OkL (l : List Pt) : Prop := ∀ i, i < l.length → okP (ptA l i)

set_option maxHeartbeats 1000000 in
theorem straight_any (w : World) (v : Value) (l : List Pt) (h : Pts w v l) (hok : OkL l) :
    Calls Try.prog 67 #[v] w fun e w' => e = .returned (lineV (lineOf l)) ∧ Below w.heap.size w w' := by
  obtain ⟨A, cap, rfl, hl, hcap, hn, hat⟩ := h.open
  replace hat := Lib.hid hat
  replace hok := Lib.hid hok
  clear hn h
  unfold maxLen at hcap
  go_enter Try.func67, Try.ntmps67
  go_wp2
  go_loopw [11] (fun c wr => ∃ i : Nat, i ≤ l.length ∧ c = .int .i64 i ∧ Hid (lineOf l = fsome (line3 l) i (l.length - i)) ∧ Hid (Below w.heap.size w wr)) (fun c _ => l.length - (intOf c).toNat)
  case atStart => exact ⟨0, Nat.zero_le _, rfl, rfl, Below.refl _ _⟩
  case round =>
    obtain ⟨i, hi, rfl, hL, hB⟩ := hrel
    by_cases hlt : i < l.length
    case neg =>
      obtain rfl : i = l.length := by omega
      have hr := Lib.hid (show lineOf l = none by rw [hL.out, fsome_end])
      go_wp2
      refine bodyPost_ret (v := .tuple #[.int .i64 0, .int .i64 0, .int .i64 0, .bool false]) (by simp [results, Try.results67, go_sem]) rfl ⟨?_, hB.out⟩
      rw [hr.out]; rfl
    obtain ⟨b, off, rfl, q1, q2⟩ := hat.out i hlt
    replace q1 := cell_below q1 hB.out
    replace q2 := cell_below q2 hB.out
    have hpi := Lib.hid (hok.out i hlt)
    obtain ⟨wo, rfl⟩ : ∃ wo : World, wo = wr := ⟨_, rfl⟩
    go_wp2
    go_loopw [7] (fun c W => ∃ j : Nat, i + 1 ≤ j ∧ j ≤ l.length ∧ c = .int .i64 j ∧ Hid (line3 l i = fsome (line2 l i) j (l.length - j)) ∧ Hid (Below wo.heap.size wo W)) (fun c _ => l.length - (intOf c).toNat)
    case atStart => exact ⟨i + 1, Nat.le_refl _, hlt, by go_num, rfl, Below.refl _ _⟩
    case round =>
      obtain ⟨j, hij, hj, rfl, hL2, hB2⟩ := hrel
      by_cases hlt2 : j < l.length
      case neg =>
        obtain rfl : j = l.length := by omega
        have hr := Lib.hid (show line3 l i = none by rw [hL2.out, fsome_end])
        have hL' := Lib.hid (show lineOf l = fsome (line3 l) (i + 1) (l.length - (i + 1)) by rw [hL.out, fsome_step hlt hr.out])
        go_wp2
        go_roundw
        case rel => exact ⟨i + 1, hlt, by go_num, hL', bthen hB.out hB2.out⟩
        case measure => simp [intOf]; omega
      obtain ⟨b', off', e, r1, r2⟩ := hat.out j hlt2
      cases e
      replace q1 := cell_below q1 hB2.out
      replace q2 := cell_below q2 hB2.out
      replace r1 := cell_below (cell_below r1 hB.out) hB2.out
      replace r2 := cell_below (cell_below r2 hB.out) hB2.out
      have hpj := Lib.hid (hok.out j hlt2)
      have hBm := Lib.hid (bthen hB.out hB2.out)
      obtain ⟨wm, rfl⟩ : ∃ wm : World, wm = wr := ⟨_, rfl⟩
      go_wp2
      go_loopw [8] (fun c W => ∃ k : Nat, j + 1 ≤ k ∧ k ≤ l.length ∧ c = .int .i64 k ∧ Hid (line2 l i j = fsome (line1 l i j) k (l.length - k)) ∧ Hid (Below wm.heap.size wm W)) (fun c _ => l.length - (intOf c).toNat)
      case atStart => exact ⟨j + 1, Nat.le_refl _, hlt2, by go_num, rfl, Below.refl _ _⟩
      case round =>
        obtain ⟨k, hjk, hk, rfl, hL3, hB3⟩ := hrel
        by_cases hlt3 : k < l.length
        case neg =>
          obtain rfl : k = l.length := by omega
          have hr := Lib.hid (show line2 l i j = none by rw [hL3.out, fsome_end])
          have hL' := Lib.hid (show line3 l i = fsome (line2 l i) (j + 1) (l.length - (j + 1)) by rw [hL2.out, fsome_step hlt2 hr.out])
          go_wp2
          go_roundw
          case rel => exact ⟨j + 1, by omega, hlt2, by go_num, hL', bthen hB2.out hB3.out⟩
          case measure => simp [intOf]; omega
        obtain ⟨b', off', e, s1, s2⟩ := hat.out k hlt3
        cases e
        replace s1 := cell_below (cell_below s1 hBm.out) hB3.out
        replace s2 := cell_below (cell_below s2 hBm.out) hB3.out
        replace q1 := cell_below q1 hB3.out
        replace q2 := cell_below q2 hB3.out
        replace r1 := cell_below r1 hB3.out
        replace r2 := cell_below r2 hB3.out
        have hT := Lib.hid (fun g : Gr wr => grow_of (turnP_any g.w1 _ _ _ hpi.out hpj.out (hok.out k hlt3)))
        have hf : Hid (line1 l i j k = if trn (ptA l i) (ptA l j) (ptA l k) = 0 then some (i, j, k) else none) := rfl
        have t1 := fun g : Gr wr => g.cell q1
        have t2 := fun g : Gr wr => g.cell q2
        have t3 := fun g : Gr wr => g.cell r1
        have t4 := fun g : Gr wr => g.cell r2
        have t5 := fun g : Gr wr => g.cell s1
        have t6 := fun g : Gr wr => g.cell s2
        have hB4 := Lib.hid (bthen hBm.out hB3.out)
        clear q1 q2 r1 r2 s1 s2
        generalize ptA l i = p1 at *
        generalize ptA l j = p2 at *
        generalize ptA l k = p3 at *
        generalize trn p1 p2 p3 = T at *
        by_cases hT0 : T = 0
        · have hr := Lib.hid (show lineOf l = some (i, j, k) by
            rw [hL.out, fsome_hit hlt (r := (i, j, k))]
            rw [hL2.out, fsome_hit hlt2 (r := (i, j, k))]
            rw [hL3.out, fsome_hit hlt3 (r := (i, j, k))]
            rw [hf.out, if_pos hT0])
          subst hT0
          go_wp2
          refine wp_region_grow (by kernel_rfl) (by kernel_rfl) ?_
          repeat (go_big_quiet_step ((go_at_call 53; exact hT.out _)))
          refine wpQuiet_nil ?_
          rintro _ ⟨g, rfl⟩
          have hBg := Lib.hid (bthen hB4.out g.h)
          go_wp2
          refine bodyPost_ret (v := .tuple #[.int .i64 i, .int .i64 j, .int .i64 k, .bool true]) (by simp [results, Try.results67, go_sem]) rfl ⟨?_, hBg.out⟩
          rw [hr.out]; rfl
        · have hL' := Lib.hid (show line2 l i j = fsome (line1 l i j) (k + 1) (l.length - (k + 1)) by rw [hL3.out, fsome_step hlt3 (by rw [hf.out, if_neg hT0])])
          have hT1 : (T == 0) = false := by simpa using hT0
          go_wp2
          refine wp_region_grow (by kernel_rfl) (by kernel_rfl) ?_
          repeat (go_big_quiet_step ((go_at_call 53; exact hT.out _)))
          refine wpQuiet_nil ?_
          rintro _ ⟨g, rfl⟩
          have hBg := Lib.hid (bthen hB3.out g.h)
          go_wp2
          go_roundw
          case rel => exact ⟨k + 1, by omega, hlt3, by go_num, hL', hBg.out⟩
          case measure => simp [intOf]; omega
end Go.Proofs.Ythnabheibacbcaa
