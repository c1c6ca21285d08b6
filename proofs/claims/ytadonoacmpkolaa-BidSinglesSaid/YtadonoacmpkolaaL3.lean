/- BidSingles: the walk. -/
import Derived.Test.YtadonoacmpkolaaL4
namespace Go.Proofs.Ytadonoacmpkolaa
open Go.RowKit

theorem quiet_left2 {P : Program} {f : FuncId} {args : Array Value} {w : World} {n : Nat} {v : Value}
    (h : Calls P f args (w.drewN n) fun e w' => e = .returned v ∧ ∃ k, (w.drewN n).drewN k = w') : Calls P f args (w.drewN n) fun e w'' => e = .returned v ∧ ∃ m, w'' = w.drewN m :=
  h.mono fun _ _ ⟨he, k, hm⟩ => ⟨he, n + k, by rw [← hm, World.drewN_drewN]⟩

/-- a row's numbers, as the statement looks at them -/
def rowB (m : Nat) (l : List Int) : Nat → Bool
  | 0 => decide (l.length ≠ m)
  | k + 1 => rowB m l k || (decide (at0 l k < 0) || decide (1000000 < at0 l k))
def wantB (m : Nat) (xs : List (List Int)) : Nat → Bool
  | 0 => false
  | k + 1 => wantB m xs k || rowB m (rowAt xs k) (rowAt xs k).length
theorem rowB_iff (m : Nat) (l : List Int) : ∀ k, rowB m l k = true ↔ (l.length ≠ m ∨ ∃ i, i < k ∧ (at0 l i < 0 ∨ 1000000 < at0 l i))
  | 0 => by
    simp only [rowB, decide_eq_true_eq]
    constructor
    · exact .inl
    · rintro (h | ⟨i, h, _⟩)
      · exact h
      · omega
  | k + 1 => by
    simp only [rowB, Bool.or_eq_true, decide_eq_true_eq, rowB_iff m l k]
    constructor
    · rintro ((h | ⟨i, h, h'⟩) | h)
      · exact .inl h
      · exact .inr ⟨i, by omega, h'⟩
      · exact .inr ⟨k, by omega, h⟩
    · rintro (h | ⟨i, h, h'⟩)
      · exact .inl (.inl h)
      · by_cases e : i = k
        · subst e; exact .inr h'
        · exact .inl (.inr ⟨i, by omega, h'⟩)
theorem rowB_wrong (m : Nat) (hm : 1 ≤ m) (l : List Int) : rowB m l l.length = wrongB m l := by
  rw [Bool.eq_iff_iff, rowB_iff]
  unfold wrongB
  simp only [Bool.or_eq_true, decide_eq_true_eq]
  constructor
  · rintro (h | ⟨i, h, h' | h'⟩)
    · exact .inl h
    · have := min_le l l.length i h
      exact .inr (.inl (by omega))
    · have := le_max l l.length i h
      exact .inr (.inr (by omega))
  · intro h
    by_cases hl : l.length = m
    · rcases h with h | h | h
      · exact .inl h
      · obtain ⟨i, hi, he⟩ := min_mem l (by omega) l.length (Nat.le_refl _)
        exact .inr ⟨i, hi, .inl (by omega)⟩
      · obtain ⟨i, hi, he⟩ := max_mem l (by omega) l.length (Nat.le_refl _)
        exact .inr ⟨i, hi, .inr (by omega)⟩
    · exact .inl hl
theorem wantB_any (m : Nat) (hm : 1 ≤ m) (xs : List (List Int)) : ∀ k, k ≤ xs.length → wantB m xs k = (xs.take k).any fun l => wrongB m l
  | 0, _ => by simp [wantB]
  | k + 1, hk => by rw [wantB, wantB_any m hm xs k (by omega), rowB_wrong m hm, take_rowAt (by omega)]; simp
theorem wantB_mono (m : Nat) (xs : List (List Int)) (k : Nat) (h : wantB m xs k = true) : ∀ n, k ≤ n → wantB m xs n = true
  | 0, hn => by obtain rfl : k = 0 := by omega
                exact h
  | n + 1, hn => by
    by_cases e : k = n + 1
    · rw [← e]; exact h
    · rw [wantB, wantB_mono m xs k h n (by omega)]; rfl

set_option maxHeartbeats 2000000 in
/-- an early error: the sizes -/
theorem BidSingles_sizes (w : World) (v : Value) (xs : List (List Int)) (m : Int) (h : Rows2 w v xs) (hbad : m < 1 ∨ 6 < m ∨ xs.length < 1 ∨ 6 < xs.length) :
    Calls Try.prog 3 #[.int .i64 m, v] w fun e w' => e = .returned (.bool true) ∧ Below w.heap.size w w' := by
  have hl := own_any w v xs h
  obtain ⟨ys, hys⟩ : ∃ ys, ys = (xs.take 7).map (·.take 65) := ⟨_, rfl⟩
  have hyl : ys.length = min 7 xs.length := by rw [hys]; simp
  rw [← hys] at hl
  clear h hys
  replace hl := Lib.hid hl
  have haw := Lib.hid awake_any
  have hsng : Hid (∀ (W : World) (u : Value), Rows2 W u ys → singleE m ys ≠ 0 → Calls Try.prog 14 #[.int .i64 m, u] W fun e w' => e = .returned (.tuple #[.slice none 0 0, .int .i64 (singleE m ys)]) ∧ Below W.heap.size W w') :=
    fun W u hu hE => Single_bad W u ys m hu hE
  have hE1 : Hid ((m < 1 ∨ 6 < m) → singleE m ys = 1) := fun h => by unfold singleE; rw [if_pos h]
  have hE2 : Hid (¬ (m < 1 ∨ 6 < m) → (ys.length < 1 ∨ 6 < ys.length) → singleE m ys = 80) := fun h h' => by
    unfold singleE; rw [if_neg h, if_pos (by rcases h' with h' | h'; · exact .inl h'
                                             · exact .inr (.inl h'))]
  obtain ⟨E, hE⟩ : ∃ E, E = singleE m ys := ⟨_, rfl⟩
  rw [← hE] at hsng hE1 hE2
  have h4 : (m < 1 ∨ 6 < m) ∨ (¬ m < 1 ∧ ¬ 6 < m ∧ ys.length < 1) ∨ (¬ m < 1 ∧ ¬ 6 < m ∧ ¬ ys.length < 1 ∧ 6 < ys.length) := by omega
  clear hyl hE
  obtain ⟨hE0, hEE⟩ : E ≠ 0 ∧ Hid ((m < 1 ∨ 6 < m) ∧ E = 1 ∨ ¬ (m < 1 ∨ 6 < m) ∧ E = 80) := by
    rcases h4 with h4 | ⟨h4, h5, h6⟩ | ⟨h4, h5, h6, h7⟩
    · rw [hE1.out h4]; exact ⟨by decide, .inl ⟨h4, rfl⟩⟩
    · rw [hE2.out (by omega) (.inl h6)]; exact ⟨by decide, .inr ⟨by omega, rfl⟩⟩
    · rw [hE2.out (by omega) (.inr h7)]; exact ⟨by decide, .inr ⟨by omega, rfl⟩⟩
  replace hE0 := Lib.hid hE0
  clear hE1 hE2
  have h4' : (m < 1 ∧ E = 1) ∨ (¬ m < 1 ∧ 6 < m ∧ E = 1) ∨ (¬ m < 1 ∧ ¬ 6 < m ∧ ys.length < 1 ∧ E = 80) ∨ (¬ m < 1 ∧ ¬ 6 < m ∧ ¬ ys.length < 1 ∧ 6 < ys.length ∧ E = 80) := by
    have := hEE.out
    omega
  clear h4 hEE hbad
  obtain ⟨F, hF⟩ : ∃ F, Hid (F = E) := ⟨E, rfl⟩
  rcases h4' with ⟨h1, rfl⟩ | ⟨h1, h2, rfl⟩ | ⟨h1, h2, h3, rfl⟩ | ⟨h1, h2, h3, h4, rfl⟩
  all_goals (
    go_enter Try.func3, Try.ntmps3
    go_wp2_with (first
      | (go_at_call 13; refine hl.out.mono ?_; rintro e w1 ⟨v1, rfl, ho, hB⟩; have hi := Lib.hid (OwnRows.rows ho); obtain ⟨A, cap, rfl, hle, hcap, _, hat⟩ := Rows2.open hi.out; unfold maxLen at hcap; clear hat; replace ho := Lib.hid ho; replace hB := Lib.hid hB)
      | (go_at_call 14; refine (hsng.out _ _ hi.out hE0.out).mono ?_; rintro e w2 ⟨rfl, hB2⟩; replace hB2 := Lib.hid hB2))
    go_loop [8, 9] (fun e i => e = .int .i64 F ∧ i = .int .i64 0) (fun _ _ => 0)
    case atStart => exact ⟨by rw [hF.out], rfl⟩
    case round =>
      obtain ⟨rfl, rfl⟩ := hrel
      have hF' := hF.out
      subst hF'
      clear hF
      rcases Classical.em ((0 : Int) < (ys.length : Int)) with hz | hz
      all_goals (
        go_wp2_with (first
          | (go_at_call 17; refine (haw.out _).mono ?_; rintro e w4 ⟨rfl, hB4⟩; replace hB4 := Lib.hid hB4))
        all_goals (
          go_ret
          exact ⟨rfl, bthen hB.out (bthen hB2.out hB4.out)⟩)))

theorem OwnRows.at {lo e : Nat} {w : World} {v : Value} {xs : List (List Int)} (h : OwnRows lo e w v xs) : Rows2 w v xs := OwnRows.rows h

set_option maxHeartbeats 4000000 in
theorem BidSingles_main (w : World) (v : Value) (xs : List (List Int)) (m : Nat) (h : Rows2 w v xs) (hm1 : 1 ≤ m) (hm6 : m ≤ 6) (hx1 : 1 ≤ xs.length) (hx6 : xs.length ≤ 6) :
    Calls Try.prog 3 #[.int .i64 (m : Int), v] w fun e w' => e = .returned (.bool true) ∧ Below w.heap.size w w' := by
  have hl := own_any w v xs h
  obtain ⟨ys, hys⟩ : ∃ ys, ys = (xs.take 7).map (·.take 65) := ⟨_, rfl⟩
  have hyl : ys.length = xs.length := by rw [hys]; simp; omega
  rw [← hys] at hl
  rw [← hyl] at hx1 hx6
  clear h hys hyl
  replace hl := Lib.hid hl
  have haw := Lib.hid awake_any
  have hwa := wantB_any m hm1 ys
  have hall := hwa ys.length (Nat.le_refl _)
  rw [List.take_length] at hall
  have hlt1 : ¬ (ys.length < 1 ∨ 6 < ys.length) := by omega
  have hmono := Lib.hid (fun k (hk : k ≤ ys.length) (h : wantB m ys k = true) => wantB_mono m ys k h ys.length hk)
  have hE1 : wantB m ys ys.length = true → singleE m ys = 80 := fun h => by
    rw [hall] at h
    unfold singleE; rw [if_neg (by omega), if_pos (.inr (.inr (by rw [Int.toNat_natCast]; exact h)))]
  have hs14 : Hid (∀ (W : World) (u : Value), Rows2 W u ys → Calls Try.prog 14 #[.int .i64 (m : Int), u] W fun e w' => ∃ (A : Option Addr) (n cap : Nat) (E : Int), e = .returned (.tuple #[.slice A n cap, .int .i64 E]) ∧
      Hid (wantB m ys ys.length = true → n = 0 ∧ E = 80) ∧ Hid (wantB m ys ys.length = false → n = ys.length ∧ E = 0 ∧ Rows2 w' (.slice A n cap) (ys.map singleOf)) ∧ Below W.heap.size W w') := by
    intro W u hu
    cases hb : wantB m ys ys.length
    · refine (Single_ok W u ys m hu hm1 hm6 (by omega) (by omega) (by rw [← hall]; exact hb)).mono ?_
      rintro e w' ⟨v', rfl, ho, hB⟩
      obtain ⟨A, n, cap, rfl, hn⟩ := OwnL.shape ho
      refine ⟨A, n, cap, 0, rfl, (fun h => by cases h), (fun _ => ⟨by rw [hn.out, List.length_map], rfl, OwnRows.rows ho⟩), hB⟩
    · have hE := hE1 hb
      refine (Single_bad W u ys m hu (by rw [hE]; decide)).mono ?_
      rintro e w' ⟨rfl, hB⟩
      rw [hE]
      exact ⟨none, 0, 0, 80, rfl, fun _ => ⟨rfl, rfl⟩, (fun h => by cases h), hB⟩
  have hrow : Hid (wantB m ys ys.length = false → ∀ i, i < ys.length → (rowAt ys i).length = m) := by
    intro h i hi
    rw [hall] at h
    have := List.any_eq_false.1 h _ (List.getElem_mem hi)
    rw [rowAt_eq hi]
    unfold wrongB at this
    simp only [Bool.or_eq_true, decide_eq_true_eq, not_or, ne_eq, Decidable.not_not] at this
    exact this.1
  have hs15 : Hid (wantB m ys ys.length = false → ∀ (W : World) (u : Value), Rows2 W u ys → Calls Try.prog 15 #[.int .i64 (m : Int), u] W fun e w' => ∃ (A : Option Addr) (n cap : Nat), e = .returned (.slice A n cap) ∧ Hid (n = ys.length) ∧ Hid (Rows2 w' (.slice A n cap) (ys.map singleOf)) ∧ Below W.heap.size W w') := by
    intro h W u hu
    refine (rsingle_any W u ys m hu hm6 (by omega) (hrow.out h)).mono ?_
    rintro e w' ⟨v', rfl, ho, hB⟩
    obtain ⟨A, n, cap, rfl, hn⟩ := OwnL.shape ho
    exact ⟨A, n, cap, rfl, by rw [hn.out]; simp [Hid], OwnRows.rows ho, hB⟩
  have hml : (ys.map singleOf).length = ys.length := List.length_map ..
  obtain ⟨ts, hts⟩ : ∃ ts, ts = ys.map singleOf := ⟨_, rfl⟩
  rw [← hts] at hs14 hs15 hml
  clear hwa hall hlt1 hE1 hts
  replace hml := Lib.hid hml
  go_enter Try.func3, Try.ntmps3
  go_wp2_with (first
    | (go_at_call 13; refine hl.out.mono ?_; rintro e w1 ⟨v1, rfl, ho, hB⟩; have hi := Lib.hid (OwnRows.rows ho); obtain ⟨A, cap, rfl, hle, hcap, _, hat⟩ := Rows2.open hi.out; unfold maxLen at hcap; replace ho := Lib.hid ho; replace hB := Lib.hid hB; replace hat := Lib.hid hat)
    | (go_at_call 14; refine (hs14.out _ _ hi.out).mono ?_; rintro e w2 ⟨A2, n2, cap2, E, rfl, hE1, hE2, hB2⟩; replace hi := Lib.hid (hi.out.then hB2); obtain ⟨A', cap', e', _, _, _, hat'⟩ := Rows2.open hi.out; cases e'; replace hat := Lib.hid hat'; clear hat'; replace hB2 := Lib.hid (bthen hB.out hB2); clear hs14 hl))
  go_loop [8, 9] (fun e i => ∃ k : Nat, k ≤ ys.length ∧ i = .int .i64 k ∧ ((wantB m ys k = false ∧ e = .int .i64 0) ∨ (wantB m ys k = true ∧ e = .int .i64 80))) (fun _ i => ys.length - (intOf i).toNat)
  case atStart => exact ⟨0, Nat.zero_le _, rfl, .inl ⟨rfl, rfl⟩⟩
  case round =>
    obtain ⟨k, hk, rfl, hw⟩ := hrel
    rcases hw with ⟨hwk, rfl⟩ | ⟨hwk, rfl⟩
    · by_cases hlt : k < ys.length
      · obtain ⟨b1, o1, A1, cap1, rfl, hc1, hi1⟩ := hat.out k hlt
        have hws : Hid (wantB m ys (k + 1) = rowB m (rowAt ys k) (rowAt ys k).length) := by show wantB m ys (k + 1) = _; rw [wantB, hwk]; rfl
        generalize rowAt ys k = l at *
        obtain ⟨A3, cap3, e3, hl3, hcap3, _, hat3⟩ := hi1.open
        cases e3
        unfold maxLen at hcap3
        replace hat3 := Lib.hid hat3
        clear hi1
        replace hwk := Lib.hid hwk
        have hstart : Hid (rowB m l 0 = decide (l.length ≠ m)) := rfl
        have hcase : (((l.length : Int) != (m : Int)) = false ∧ Hid (rowB m l 0 = false)) ∨ (((l.length : Int) != (m : Int)) = true ∧ Hid (rowB m l 0 = true)) := by
          by_cases hlm : l.length = m
          · exact .inl ⟨by simp [hlm], by show _ = _; rw [hstart.out]; simp [hlm]⟩
          · exact .inr ⟨by simp; omega, by show _ = _; rw [hstart.out]; simp [hlm]⟩
        clear hstart
        rcases hcase with ⟨hbm, hst⟩ | ⟨hbm, hst⟩
        all_goals (
          go_wp2
          go_loop [8, 10] (fun e i => ∃ j : Nat, j ≤ l.length ∧ i = .int .i64 j ∧ ((rowB m l j = false ∧ e = .int .i64 0) ∨ (rowB m l j = true ∧ e = .int .i64 80))) (fun _ i => l.length - (intOf i).toNat)
          case atStart => exact ⟨0, Nat.zero_le _, rfl, by first | exact .inl ⟨hst.out, rfl⟩ | exact .inr ⟨hst.out, rfl⟩⟩
          case round =>
            clear hst
            obtain ⟨j, hj, rfl, hw⟩ := hrel
            by_cases hjl : j < l.length
            · obtain ⟨b2, o2, rfl, hc2⟩ := hat3.out j hjl
              have hs2 : Hid (rowB m l (j + 1) = (rowB m l j || (decide (at0 l j < 0) || decide (1000000 < at0 l j)))) := rfl
              generalize at0 l j = x at *
              have hx : x < 0 ∨ (¬ x < 0 ∧ 1000000 < x) ∨ (¬ x < 0 ∧ ¬ 1000000 < x) := by omega
              rcases hw with ⟨hr, rfl⟩ | ⟨hr, rfl⟩
              all_goals (
                rw [hr] at hs2
                clear hr
                rcases hx with hx | ⟨hx, hx2⟩ | ⟨hx, hx2⟩
                all_goals (
                  go_wp2
                  go_round
                  case rel => exact ⟨j + 1, by omega, by go_num, by rw [hs2.out]; first | (simp [hx]; done) | (simp [hx, hx2]; done)⟩
                  case measure => simp [intOf]; omega))
            · obtain rfl : j = l.length := by omega
              rcases hw with ⟨hr, rfl⟩ | ⟨hr, rfl⟩
              all_goals (
                rw [hr] at hws
                clear hr
                go_wp2
                go_round
                case rel => exact ⟨k + 1, by omega, by go_num, by rw [hws.out]; simp⟩
                case measure => simp [intOf]; omega))
      · obtain rfl : k = ys.length := by omega
        obtain ⟨rfl, rfl, hr2⟩ := hE2.out hwk
        replace hr2 := Lib.hid hr2
        have hcall := Lib.hid (hs15.out hwk _ _ hi.out)
        clear hs15 hE1 hE2 hrow hmono hwk
        go_wp2_with (go_at_call 15; refine hcall.out.mono ?_; rintro e w3 ⟨A4, n4, cap4, rfl, hn4, hr4, hB3⟩; obtain rfl := hn4.out; replace hr2 := Lib.hid (hr2.out.then hB3); replace hB3 := Lib.hid (bthen hB2.out hB3))
        obtain ⟨A5, cap5, e5, _, hcap5, _, hat5⟩ := hr2.out.open
        obtain ⟨A6, cap6, e6, _, hcap6, _, hat6⟩ := hr4.out.open
        rw [hml.out] at e5 e6
        cases e5
        cases e6
        unfold maxLen at hcap5 hcap6
        replace hat5 := Lib.hid hat5
        replace hat6 := Lib.hid hat6
        clear hr2 hr4
        go_loopw [12] (fun i wr => ∃ k : Nat, k ≤ ys.length ∧ i = .int .i64 k ∧ Hid (∃ d, wr = w3.drewN d)) (fun i _ => ys.length - (intOf i).toNat)
        case atStart => exact ⟨0, Nat.zero_le _, rfl, 0, rfl⟩
        case round =>
          obtain ⟨k, hk, rfl, hd⟩ := hrel
          by_cases hlt : k < ys.length
          · obtain ⟨b1, o1, A1, cap1, rfl, hc1, hi1⟩ := hat5.out k (by rw [hml.out]; exact hlt)
            obtain ⟨b2, o2, A2, cap2, rfl, hc2, hi2⟩ := hat6.out k (by rw [hml.out]; exact hlt)
            have hd1 : wr.cell? ⟨b1, o1 + k, none⟩ = some (.slice A1 (rowAt ts k).length cap1) := by obtain ⟨d, rfl⟩ := hd.out; exact hc1
            have hd2 : wr.cell? ⟨b2, o2 + k, none⟩ = some (.slice A2 (rowAt ts k).length cap2) := by obtain ⟨d, rfl⟩ := hd.out; exact hc2
            have hcl := Lib.hid (fun n => longs_any (wr.drewN n) _ _ _ _ (show Ints (wr.drewN n) _ _ by obtain ⟨d, rfl⟩ := hd.out; exact hi1) (show Ints (wr.drewN n) _ _ by obtain ⟨d, rfl⟩ := hd.out; exact hi2))
            rw [show decide (rowAt ts k = rowAt ts k) = true by simp] at hcl
            clear hc1 hc2 hi1 hi2
            go_wp2_with fail
            go_quiet ((go_at_call 16; exact quiet_left2 (hcl.out _)))
            go_wp2
            go_roundw
            case rel => exact ⟨k + 1, by omega, by go_num, by obtain ⟨d, rfl⟩ := hd.out; exact ⟨_, World.drewN_drewN ..⟩⟩
            case measure => simp [intOf]; omega
          · go_wp2_with (go_at_call 17; refine (haw.out _).mono ?_; rintro e w4 ⟨rfl, hB4⟩; replace hB4 := Lib.hid hB4)
            go_ret
            obtain ⟨d, rfl⟩ := hd.out
            exact ⟨rfl, bthen (below_drewN hB3.out d) hB4.out⟩
    · obtain ⟨rfl, rfl⟩ := hE1.out (hmono.out k hk hwk)
      clear hs15 hE1 hE2 hrow hmono hwk
      rcases Classical.em ((k : Int) < (ys.length : Int)) with hz | hz
      all_goals (
        go_wp2_with (go_at_call 17; refine (haw.out _).mono ?_; rintro e w4 ⟨rfl, hB4⟩; replace hB4 := Lib.hid hB4)
        go_ret
        exact ⟨rfl, bthen hB2.out hB4.out⟩)

theorem BidSingles_walk (w : World) (m : Int) (v : Value) (xs : List (List Int)) (_ : -9223372036854775808 ≤ m ∧ m ≤ 9223372036854775807) (h : Rows2 w v xs) :
    Calls Try.prog 3 #[.int .i64 m, v] w fun e w' => e = .returned (.bool true) ∧ Below w.heap.size w w' := by
  by_cases hb : m < 1 ∨ 6 < m ∨ xs.length < 1 ∨ 6 < xs.length
  · exact BidSingles_sizes w v xs m h hb
  · obtain ⟨k, rfl⟩ : ∃ k : Nat, m = k := ⟨m.toNat, by omega⟩
    exact BidSingles_main w v xs k h (by omega) (by omega) (by omega) (by omega)

end Go.Proofs.Ytadonoacmpkolaa
