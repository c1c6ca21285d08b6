/- R.Squares. No condition. -/
import Derived.Test.YthnabheibacbcaaFA
import Derived.Test.YthnabheibacbcaaF8
import Derived.Test.YthnabheibacbcaaC12
namespace Go.Proofs.Ythnabheibacbcaa
open Go.RowKit Go.Shelf

/-- four points are the corners of a polygon -/
def sel4 (os : List Nat) (a b c d : Nat) : List Nat := os.filter fun i => decide (i = a ∨ i = b ∨ i = c ∨ i = d)
def sq4 (l : List Pt) (os : List Nat) (a b c d : Nat) : Bool := decide ((hullL (tur l) (sel4 os a b c d)).length = 4)
/-- the number of squares, as the reference counts them -/
def sD4 (l : List Pt) (os : List Nat) (a b c : Nat) : Nat → Nat
  | 0 => 0
  | d + 1 => sD4 l os a b c d + if c < d ∧ sq4 l os a b c d = true then 1 else 0
def sC4 (l : List Pt) (os : List Nat) (n a b : Nat) : Nat → Nat
  | 0 => 0
  | c + 1 => sC4 l os n a b c + if b < c then sD4 l os a b c n else 0
def sB4 (l : List Pt) (os : List Nat) (n a : Nat) : Nat → Nat
  | 0 => 0
  | b + 1 => sB4 l os n a b + if a < b then sC4 l os n a b n else 0
def sA4 (l : List Pt) (os : List Nat) (n : Nat) : Nat → Nat
  | 0 => 0
  | a + 1 => sA4 l os n a + sB4 l os n a n
theorem sD4_le (l : List Pt) (os : List Nat) (a b c : Nat) : ∀ d, sD4 l os a b c d ≤ d
  | 0 => Nat.le_refl _
  | d + 1 => by have := sD4_le l os a b c d; simp only [sD4]; split <;> omega
theorem sC4_le (l : List Pt) (os : List Nat) {n : Nat} (hn : n ≤ 14) (a b : Nat) : ∀ c, sC4 l os n a b c ≤ c * 14
  | 0 => Nat.le_refl _
  | c + 1 => by have := sC4_le l os hn a b c; have := sD4_le l os a b c n; simp only [sC4]; split <;> omega
theorem sB4_le (l : List Pt) (os : List Nat) {n : Nat} (hn : n ≤ 14) (a : Nat) : ∀ b, sB4 l os n a b ≤ b * 196
  | 0 => Nat.le_refl _
  | b + 1 => by have := sB4_le l os hn a b; have := sC4_le l os hn a b n; simp only [sB4]; split <;> omega
theorem sA4_le (l : List Pt) (os : List Nat) {n : Nat} (hn : n ≤ 14) : ∀ a, sA4 l os n a ≤ a * 2744
  | 0 => Nat.le_refl _
  | a + 1 => by have := sA4_le l os hn a; have := sB4_le l os hn a n; simp only [sA4]; omega
theorem sD4_zero (l : List Pt) (os : List Nat) (a b c : Nat) : ∀ d, d ≤ c + 1 → sD4 l os a b c d = 0
  | 0, _ => rfl
  | d + 1, h => by simp only [sD4]; rw [sD4_zero l os a b c d (by omega), if_neg (fun h => by omega)]
theorem sC4_zero (l : List Pt) (os : List Nat) (n a b : Nat) : ∀ c, c ≤ b + 1 → sC4 l os n a b c = 0
  | 0, _ => rfl
  | c + 1, h => by simp only [sC4]; rw [sC4_zero l os n a b c (by omega), if_neg (by omega)]
theorem sB4_zero (l : List Pt) (os : List Nat) (n a : Nat) : ∀ b, b ≤ a + 1 → sB4 l os n a b = 0
  | 0, _ => rfl
  | b + 1, h => by simp only [sB4]; rw [sB4_zero l os n a b (by omega), if_neg (by omega)]
theorem ints_four (w : World) (a b c d : Nat) : Ints (w.alloc (.cells #[.int .i64 (a : Int), .int .i64 (b : Int), .int .i64 (c : Int), .int .i64 (d : Int)] 3)) (.slice (some ⟨w.heap.size, 0, none⟩) 4 4) (nats [a, b, c, d]) := by
  refine ⟨_, 4, rfl, Nat.le_refl _, by decide, (fun h => by cases h), fun i hi => ?_⟩
  have hB := Blk.new w 3 #[.int .i64 (a : Int), .int .i64 (b : Int), .int .i64 (c : Int), .int .i64 (d : Int)]
  rcases (show i = 0 ∨ i = 1 ∨ i = 2 ∨ i = 3 by simp [nats] at hi; omega) with rfl | rfl | rfl | rfl
  · exact ⟨_, _, _, rfl, trivial, hB.cell 0, rfl⟩
  · exact ⟨_, _, _, rfl, trivial, hB.cell 1, rfl⟩
  · exact ⟨_, _, _, rfl, trivial, hB.cell 2, rfl⟩
  · exact ⟨_, _, _, rfl, trivial, hB.cell 3, rfl⟩
theorem hull4 {l : List Pt} {os : List Nat} (hg : Gen l) (ho : Ordd l os) (h14 : l.length ≤ 14) {a b c d : Nat} (ha : a < l.length) (hb : b < l.length) (hc : c < l.length) (hd : d < l.length) :
    IsH (tur l) (befI l) [a, b, c, d] (hullL (tur l) (sel4 os a b c d)) ∧ (hullL (tur l) (sel4 os a b c d)).length ≤ 100 := by
  have hsub : (sel4 os a b c d).Sublist os := List.filter_sublist
  have hm : ∀ x, x ∈ sel4 os a b c d ↔ x ∈ [a, b, c, d] := fun x => by
    unfold sel4
    rw [List.mem_filter]
    simp only [decide_eq_true_eq, List.mem_cons, List.not_mem_nil, or_false]
    refine ⟨fun h => h.2, fun h => ⟨ho.1.mem_iff.2 (List.mem_range.2 ?_), h⟩⟩
    rcases h with rfl | rfl | rfl | rfl <;> assumption
  have hpos : 0 < (sel4 os a b c d).length := List.length_pos_iff.2 (fun e => by have := (hm a).2 (by simp); rw [e] at this; cases this)
  have hlen : (sel4 os a b c d).length ≤ 14 := by
    have h1 := hsub.length_le
    have h2 := ho.1.length_eq
    rw [List.length_range] at h2
    omega
  refine ⟨(hull_isH (chi_of hg) hpos (fun k hk => ord_lt ho k (hsub.subset hk)) (ho.2.sublist hsub)).congr hm, ?_⟩
  have := hullL_len (t := tur l) (sel4 os a b c d)
  omega

set_option maxRecDepth 100000 in
set_option maxHeartbeats 4000000 in
theorem SquaresR_any (w : World) (v : Value) (l : List Pt) (os : List Nat) (ho : Ordd l os) (h : Pts w v l) (hok : OkL l) (hg : Gen l) (h14 : l.length ≤ 14) :
    Calls Try.prog 31 #[v] w fun e w' => e = .returned (.int .i64 ((sA4 l os l.length l.length : Nat) : Int)) ∧ Below w.heap.size w w' := by
  obtain ⟨A, n, cap, rfl, hN⟩ := h.shape
  have hr := Lib.hid (show sA4 l os l.length l.length = sA4 l os n n by rw [← hN.out])
  have hn14 : n ≤ 14 := by rw [hN.out]; exact h14
  replace h := Lib.hid h
  replace hok := Lib.hid hok
  replace hg := Lib.hid hg
  replace ho := Lib.hid ho
  clear h14
  go_enter Try.func31, Try.ntmps31
  go_wp2
  go_loopw [4, 5] (fun c4 c5 wr => ∃ a : Nat, a ≤ n ∧ c5 = .int .i64 (a : Int) ∧ c4 = .int .i64 ((sA4 l os n a : Nat) : Int) ∧ Hid (Below w.heap.size w wr)) (fun _ c _ => n - (intOf c).toNat)
  case atStart => exact ⟨0, Nat.zero_le _, rfl, rfl, Below.refl _ _⟩
  case round =>
    obtain ⟨a, ha, rfl, rfl, hBa⟩ := hrel
    have lA := sA4_le l os hn14 a
    by_cases hlta : a < n
    case neg =>
      obtain rfl : n = a := by omega
      go_wp2
      go_ret
      exact ⟨ret_int (by rw [hr.out]), hBa.out⟩
    have sA := Lib.hid (show sA4 l os n (a + 1) = sA4 l os n a + sB4 l os n a n from rfl)
    have zB := Lib.hid (sB4_zero l os n a (a + 1) (Nat.le_refl _))
    go_wp2
    go_loopw [4, 6] (fun c4 c6 wr => ∃ b : Nat, a + 1 ≤ b ∧ b ≤ n ∧ c6 = .int .i64 (b : Int) ∧ c4 = .int .i64 ((sA4 l os n a + sB4 l os n a b : Nat) : Int) ∧ Hid (Below w.heap.size w wr)) (fun _ c _ => n - (intOf c).toNat)
    case atStart => exact ⟨a + 1, Nat.le_refl _, by omega, by go_num, by rw [zB.out]; rfl, hBa⟩
    case round =>
      obtain ⟨b, hab, hb, rfl, rfl, hBb⟩ := hrel
      have lB := sB4_le l os hn14 a b
      by_cases hltb : b < n
      case neg =>
        obtain rfl : n = b := by omega
        go_wp2
        go_roundw
        case rel => exact ⟨a + 1, by omega, by go_num, by rw [sA.out], hBb⟩
        case measure => simp [intOf]; omega
      have sB := Lib.hid (show sB4 l os n a (b + 1) = sB4 l os n a b + sC4 l os n a b n by simp only [sB4]; rw [if_pos (by omega)])
      have zC := Lib.hid (sC4_zero l os n a b (b + 1) (Nat.le_refl _))
      go_wp2
      go_loopw [4, 7] (fun c4 c7 wr => ∃ c : Nat, b + 1 ≤ c ∧ c ≤ n ∧ c7 = .int .i64 (c : Int) ∧ c4 = .int .i64 ((sA4 l os n a + sB4 l os n a b + sC4 l os n a b c : Nat) : Int) ∧ Hid (Below w.heap.size w wr)) (fun _ c _ => n - (intOf c).toNat)
      case atStart => exact ⟨b + 1, Nat.le_refl _, by omega, by go_num, by rw [zC.out]; rfl, hBb⟩
      case round =>
        obtain ⟨c, hac, hc, rfl, rfl, hBc⟩ := hrel
        have lC := sC4_le l os hn14 a b c
        by_cases hltc : c < n
        case neg =>
          obtain rfl : n = c := by omega
          go_wp2
          go_roundw
          case rel => exact ⟨b + 1, by omega, by omega, by go_num, by rw [sB.out, Nat.add_assoc], hBc⟩
          case measure => simp [intOf]; omega
        have sC := Lib.hid (show sC4 l os n a b (c + 1) = sC4 l os n a b c + sD4 l os a b c n by simp only [sC4]; rw [if_pos (by omega)])
        have zD := Lib.hid (sD4_zero l os a b c (c + 1) (Nat.le_refl _))
        go_wp2
        go_loopw [4, 8] (fun c4 c8 wr => ∃ d : Nat, c + 1 ≤ d ∧ d ≤ n ∧ c8 = .int .i64 (d : Int) ∧ c4 = .int .i64 ((sA4 l os n a + sB4 l os n a b + sC4 l os n a b c + sD4 l os a b c d : Nat) : Int) ∧ Hid (Below w.heap.size w wr)) (fun _ c _ => n - (intOf c).toNat)
        case atStart => exact ⟨c + 1, Nat.le_refl _, by omega, by go_num, by rw [zD.out]; rfl, hBc⟩
        case round =>
          obtain ⟨d, hcd, hd, rfl, rfl, hBd⟩ := hrel
          have lD := sD4_le l os a b c d
          by_cases hltd : d < n
          case neg =>
            obtain rfl : n = d := by omega
            go_wp2
            go_roundw
            case rel => exact ⟨c + 1, by omega, by omega, by go_num, by rw [sC.out]; simp only [Nat.add_assoc], hBd⟩
            case measure => simp [intOf]; omega
          have sD := Lib.hid (show sD4 l os a b c (d + 1) = sD4 l os a b c d + if c < d ∧ sq4 l os a b c d = true then 1 else 0 from rfl)
          have hHu := Lib.hid (hullR_any (wr.alloc (.cells #[.int .i64 (a : Int), .int .i64 (b : Int), .int .i64 (c : Int), .int .i64 (d : Int)] 3)) (.slice A n cap) _ l [a, b, c, d] _ (h.out.then (bthen hBd.out (below1 wr _))) hok.out hg.out (ints_four wr a b c d)
            (fun k hk => by
              rw [← hN.out]
              simp only [List.mem_cons, List.not_mem_nil, or_false] at hk
              rcases hk with rfl | rfl | rfl | rfl <;> assumption) (by simp) (hull4 hg.out ho.out (by rw [← hN.out]; exact hn14) (by rw [← hN.out]; exact hlta) (by rw [← hN.out]; exact hltb) (by rw [← hN.out]; exact hltc) (by rw [← hN.out]; exact hltd)).1 (hull4 hg.out ho.out (by rw [← hN.out]; exact hn14) (by rw [← hN.out]; exact hlta) (by rw [← hN.out]; exact hltb) (by rw [← hN.out]; exact hltc) (by rw [← hN.out]; exact hltd)).2)
          unfold sq4 at sD
          generalize hullL (tur l) (sel4 os a b c d) = H at *
          by_cases hH : H.length = 4
          · have sD := Lib.hid (show sD4 l os a b c (d + 1) = sD4 l os a b c d + 1 by rw [sD.out, if_pos ⟨by omega, by simp [hH]⟩])
            replace hH := Lib.hid hH
            go_wp2_with (go_at_call 45; refine hHu.out.mono ?_; rintro e w5 ⟨v5, rfl, ho5, hb5⟩; have hi5 := OwnI.ints ho5; obtain ⟨A5, n5, c5, rfl, hn5⟩ := hi5.shape; obtain rfl : n5 = 4 := (by rw [hn5.out, nats_length, hH.out]); have hb5 := Lib.hid (bthen hBd.out (bthen (below1 wr _) hb5)); clear ho5 hi5 hn5)
            go_roundw
            case rel => exact ⟨d + 1, by omega, by omega, by go_num, by (rw [sD.out]; first | (go_num; done) | (simp only [Int.natCast_add]; congr 1; omega)), hb5⟩
            case measure => simp [intOf]; omega
          · have sD := Lib.hid (show sD4 l os a b c (d + 1) = sD4 l os a b c d by rw [sD.out, if_neg (fun h => hH (by simpa using h.2))]; rfl)
            replace hH := Lib.hid hH
            go_wp2_with (go_at_call 45; refine hHu.out.mono ?_; rintro e w5 ⟨v5, rfl, ho5, hb5⟩; have hi5 := OwnI.ints ho5; obtain ⟨A5, n5, c5, rfl, hn5⟩ := hi5.shape; have hn5' : ((n5 : Int) == 4) = false := (by have h1 := hn5.out; rw [nats_length] at h1; have h2 := hH.out; simp; omega); have hn5n : ¬ n5 = 4 := (by have h1 := hn5.out; rw [nats_length] at h1; have h2 := hH.out; omega); have hb5 := Lib.hid (bthen hBd.out (bthen (below1 wr _) hb5)); clear ho5 hi5)
            go_roundw
            case rel => exact ⟨d + 1, by omega, by omega, by go_num, by (first | (rw [sD.out]; done) | (rw [sD.out]; simp only [Int.natCast_add])), hb5⟩
            case measure => simp [intOf]; omega
end Go.Proofs.Ythnabheibacbcaa
