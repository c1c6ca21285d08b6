/- The checks of bids: isBid, Check, isSingle, and the closures that they hand on. -/
import Derived.Test.YtadonoacmpkolaaW3
namespace Go.Proofs.Ytadonoacmpkolaa
open Go.RowKit
attribute [local go_sem high] walk_shl walk_shr walk_bit walk_rem walk_and walk_or walk_andNot

theorem all_no {p : Nat → Bool} {n s : Nat} (hs : s < n) (h : p s = false) : (List.range n).all p = false := by
  rw [Bool.eq_false_iff]; intro hh
  have := List.all_eq_true.1 hh s (List.mem_range.2 hs)
  rw [h] at this; cases this
theorem all_yes {p : Nat → Bool} {n : Nat} (h : ∀ s, s < n → p s = true) : (List.range n).all p = true :=
  List.all_eq_true.2 fun s hs => h s (List.mem_range.1 hs)

/-- what is offered for s is in order -/
def offOk (m : Nat) (l : List Int) (s : Nat) : Bool :=
  decide (0 ≤ at0 l s) && decide (at0 l s ≤ 1000000) && (List.range m).all fun i => !(bitOf s i == 1 && decide (at0 l s < at0 l (andN s (p2 i))))
def isBidB (m : Nat) (l : List Int) : Bool := decide (l.length = p2 m) && decide (at0 l 0 = 0) && (List.range l.length).all (offOk m l)

theorem isBidB_len {m : Nat} {l : List Int} (h : ¬ l.length = p2 m) : isBidB m l = false := by simp [isBidB, h]
theorem isBidB_zero {m : Nat} {l : List Int} (h : ¬ at0 l 0 = 0) : isBidB m l = false := by simp [isBidB, h]
theorem isBidB_off {m : Nat} {l : List Int} {s : Nat} (hs : s < l.length) (h : offOk m l s = false) : isBidB m l = false := by
  simp [isBidB, all_no hs h]
theorem offOk_neg {m : Nat} {l : List Int} {s : Nat} (h : at0 l s < 0) : offOk m l s = false := by
  have : ¬ 0 ≤ at0 l s := by omega
  simp [offOk, this]
theorem offOk_big {m : Nat} {l : List Int} {s : Nat} (h : 1000000 < at0 l s) : offOk m l s = false := by
  have : ¬ at0 l s ≤ 1000000 := by omega
  simp [offOk, this]
theorem offOk_less {m : Nat} {l : List Int} {s i : Nat} (hi : i < m) (hb : bitOf s i = 1) (h : at0 l s < at0 l (andN s (p2 i))) : offOk m l s = false := by
  have : ((List.range m).all fun i => !(bitOf s i == 1 && decide (at0 l s < at0 l (andN s (p2 i))))) = false := all_no hi (by simp [hb, h])
  simp only [offOk, this, Bool.and_false]
theorem offOk_yes {m : Nat} {l : List Int} {s : Nat} (h0 : 0 ≤ at0 l s) (h1 : at0 l s ≤ 1000000) (h : ∀ i, i < m → ¬ (bitOf s i = 1 ∧ at0 l s < at0 l (andN s (p2 i)))) : offOk m l s = true := by
  have : ((List.range m).all fun i => !(bitOf s i == 1 && decide (at0 l s < at0 l (andN s (p2 i))))) = true := all_yes fun i hi => by
    have := h i hi
    by_cases hb : bitOf s i = 1
    · have : ¬ at0 l s < at0 l (andN s (p2 i)) := fun hh => this ⟨hb, hh⟩
      simp [this]
    · simp [hb]
  simp only [offOk, this, h0, h1, decide_true, Bool.and_self]
theorem isBidB_yes {m : Nat} {l : List Int} (hl : l.length = p2 m) (h0 : at0 l 0 = 0) (h : ∀ s, s < l.length → offOk m l s = true) : isBidB m l = true := by
  unfold isBidB; rw [all_yes h, hl, h0]; simp
theorem bitOf_ne {s i : Nat} (h : ¬ bitOf s i = 1) : (((bitOf s i : Nat) : Int) == 1) = false := by simp; omega
theorem bitOf_is {s i : Nat} (h : bitOf s i = 1) : (((bitOf s i : Nat) : Int) == 1) = true := by rw [h]; rfl

set_option maxHeartbeats 400000 in
theorem isBid_any (w : World) (v : Value) (l : List Int) (m : Nat) (h : Ints w v l) (hm : m ≤ 6) :
    Calls Try.prog 59 #[.int .i64 (m : Int), v] w fun e w' => e = .returned (.bool (isBidB m l)) ∧ w = w' := by
  have hsm : smallS m := smallS_of (by omega)
  have h64 := p2_le64 hm
  obtain ⟨A, cap, rfl, hl, hcap, hn, hat⟩ := h.open
  replace hat := Lib.hid hat
  clear hn h
  unfold maxLen at hcap
  by_cases hlen : l.length = p2 m
  case neg =>
    have hr := Lib.hid (isBidB_len hlen)
    have hne : (((l.length : Nat) : Int) != ((p2 m : Nat) : Int)) = true := by simp; omega
    replace hlen := Lib.hid hlen
    clear hat
    go_enter Try.func59, Try.ntmps59
    go_wp2
    go_ret
    exact ⟨ret_bool hr.out.symm, rfl⟩
  have hne : (((l.length : Nat) : Int) != ((p2 m : Nat) : Int)) = false := by simp; omega
  have hp := p2_pos m
  have hl64 : l.length ≤ 64 := by omega
  have hl0 : 0 < l.length := by omega
  obtain ⟨b0, o0, rfl, hc0⟩ := hat.out 0 (by omega)
  simp only [Nat.add_zero] at hc0
  by_cases h0 : at0 l 0 = 0
  case neg =>
    have hr := Lib.hid (isBidB_zero (m := m) h0)
    have hne0 : (at0 l 0 != 0) = true := by simp [h0]
    replace hlen := Lib.hid hlen
    replace h0 := Lib.hid h0
    clear hat
    go_enter Try.func59, Try.ntmps59
    go_wp2
    go_ret
    exact ⟨ret_bool hr.out.symm, rfl⟩
  have hne0 : (at0 l 0 != 0) = false := by simp [h0]
  replace hlen := Lib.hid hlen
  replace h0 := Lib.hid h0
  go_enter Try.func59, Try.ntmps59
  go_wp2
  go_loop [22] (fun i => ∃ s : Nat, s ≤ l.length ∧ i = .int .i64 s ∧ Hid (∀ j, j < s → offOk m l j = true)) (fun i => l.length - (intOf i).toNat)
  case atStart => exact ⟨0, Nat.zero_le _, rfl, fun j hj => by omega⟩
  case round =>
    obtain ⟨s, hs, rfl, hok⟩ := hrel
    by_cases hlt : s < l.length
    case neg =>
      obtain rfl : s = l.length := by omega
      have hr := Lib.hid (isBidB_yes hlen.out h0.out hok.out)
      go_wp2
      go_ret
      exact ⟨ret_bool hr.out.symm, rfl⟩
    have hss : small s := small_of (by omega)
    obtain ⟨b1, o1, he, hc1⟩ := hat.out s hlt
    cases he
    by_cases hneg : at0 l s < 0
    · have hr := Lib.hid (isBidB_off hlt (offOk_neg (m := m) hneg))
      go_wp2
      go_ret
      exact ⟨ret_bool hr.out.symm, rfl⟩
    by_cases hbig : 1000000 < at0 l s
    · have hr := Lib.hid (isBidB_off hlt (offOk_big (m := m) hbig))
      go_wp2
      go_ret
      exact ⟨ret_bool hr.out.symm, rfl⟩
    go_wp2
    go_loop [34] (fun i => ∃ k : Nat, k ≤ m ∧ i = .int .i64 k ∧ Hid (∀ j, j < k → ¬ (bitOf s j = 1 ∧ at0 l s < at0 l (andN s (p2 j))))) (fun i => m - (intOf i).toNat)
    case atStart => exact ⟨0, Nat.zero_le _, rfl, fun j hj => by omega⟩
    case round =>
      obtain ⟨k, hk, rfl, hno⟩ := hrel
      by_cases hkm : k < m
      case neg =>
        obtain rfl : k = m := by omega
        have hr := Lib.hid (offOk_yes (by omega) (by omega) hno.out)
        go_wp2
        go_round
        case rel => exact ⟨s + 1, by omega, by go_num, fun j hj => by
          by_cases hjs : j < s
          · exact hok.out j hjs
          · obtain rfl : j = s := by omega
            exact hr.out⟩
        case measure => simp [intOf]; omega
      have hsk : smallS k := smallS_of (by omega)
      have hpk := p2_le (m := k) (k := 6) (by omega)
      have hskp : small (p2 k) := small_of (by unfold p2 at *; omega)
      by_cases hb : bitOf s k = 1
      · have hbb := bitOf_is hb
        have hle := andN_le s (p2 k)
        obtain ⟨b2, o2, he, hc2⟩ := hat.out (andN s (p2 k)) (by omega)
        cases he
        by_cases hless : at0 l s < at0 l (andN s (p2 k))
        · have hr := Lib.hid (isBidB_off hlt (offOk_less hkm hb hless))
          replace hb := Lib.hid hb
          go_wp2
          go_ret
          exact ⟨ret_bool hr.out.symm, rfl⟩
        · have hh : Hid (¬ at0 l s < at0 l (andN s (p2 k))) := hless
          replace hb := Lib.hid hb
          go_wp2
          go_round
          case rel => exact ⟨k + 1, by omega, by go_num, fun j hj => by
            by_cases hjs : j < k
            · exact hno.out j hjs
            · obtain rfl : j = k := by omega
              exact fun h => hh.out h.2⟩
          case measure => simp [intOf]; omega
      · have hbb := bitOf_ne hb
        replace hb := Lib.hid hb
        go_wp2
        go_round
        case rel => exact ⟨k + 1, by omega, by go_num, fun j hj => by
          by_cases hjs : j < k
          · exact hno.out j hjs
          · obtain rfl : j = k := by omega
            exact fun h => hb.out h.1⟩
        case measure => simp [intOf]; omega


theorem callFunc65 (args : Array Value) (W : World) : (callFunc 65 args).run Try.prog W = .ok (.enter 65 args) W := by simp [go_sem]
theorem callFunc72 (args : Array Value) (W : World) : (callFunc 72 args).run Try.prog W = .ok (.enter 72 args) W := by simp [go_sem]
theorem callFunc46 (args : Array Value) (W : World) : (callFunc 46 args).run Try.prog W = .ok (.enter 46 args) W := by simp [go_sem]

set_option maxHeartbeats 400000 in
theorem check1_any (w : World) (v : Value) (l : List Int) (m b : Nat) (h : Ints w v l) (hm : m ≤ 6) (hb : w.cell? ⟨b, 0, none⟩ = some (.int .i64 (m : Int))) :
    Calls Try.prog 65 #[v, .pointer (some ⟨b, 0, none⟩)] w fun e w' => e = .returned (.bool (!isBidB m l)) ∧ w = w' := by
  have H := Lib.hid (isBid_any w v l m h hm)
  go_enter Try.func65, Try.ntmps65
  go_wp2_with (go_at_call 59; refine H.out.mono ?_; rintro e w1 ⟨rfl, rfl⟩)
  go_ret
  exact ⟨rfl, rfl⟩

/-- what is wrong with bids -/
def checkE (m : Int) (xs : List (List Int)) : Int :=
  if m < 1 ∨ 6 < m then 1 else if xs.length < 1 ∨ 6 < xs.length ∨ (xs.any fun l => !isBidB m.toNat l) = true then 80 else 0

set_option maxHeartbeats 400000 in
theorem check_any (w : World) (v : Value) (xs : List (List Int)) (m : Int) (h : Rows2 w v xs) :
    Calls Try.prog 45 #[.int .i64 m, v] w fun e w' => e = .returned (.int .i64 (checkE m xs)) ∧ Below w.heap.size w w' := by
  have hB0 := Lib.hid ((Below.refl w.heap.size w).alloc (Nat.le_refl _) (.cells #[.int .i64 m] 3))
  by_cases h1 : m < 1
  · have hr := Lib.hid (show checkE m xs = 1 by simp [checkE, h1])
    clear h
    go_enter Try.func45, Try.ntmps45
    go_wp2
    go_ret
    exact ⟨ret_int hr.out.symm, hB0.out⟩
  by_cases h2 : 6 < m
  · have hr := Lib.hid (show checkE m xs = 1 by simp [checkE, h2])
    clear h
    go_enter Try.func45, Try.ntmps45
    go_wp2
    go_ret
    exact ⟨ret_int hr.out.symm, hB0.out⟩
  have h12 : ¬ (m < 1 ∨ 6 < m) := by omega
  obtain ⟨k, hk⟩ : ∃ k : Nat, m = k := ⟨m.toNat, by omega⟩
  have hh := Lib.hid h
  obtain ⟨A, cap, rfl, hl, hcap, hn, hat⟩ := h.open
  clear hn hat h
  unfold maxLen at hcap
  by_cases h3 : xs.length < 1
  · have hr := Lib.hid (show checkE m xs = 80 by simp [checkE, h12, h3])
    clear h12 hk
    go_enter Try.func45, Try.ntmps45
    go_wp2
    go_ret
    exact ⟨ret_int hr.out.symm, hB0.out⟩
  by_cases h4 : 6 < xs.length
  · have hr := Lib.hid (show checkE m xs = 80 by simp [checkE, h12, h4])
    clear h12 hk
    go_enter Try.func45, Try.ntmps45
    go_wp2
    go_ret
    exact ⟨ret_int hr.out.symm, hB0.out⟩
  have hr := Lib.hid (show checkE m xs = if (xs.any fun l => !isBidB k l) = true then 80 else 0 by unfold checkE; rw [if_neg h12, hk, Int.toNat_natCast]; simp [h3, h4])
  have hk6 : k ≤ 6 := by omega
  subst hk
  clear h12
  have hcall := Lib.hid (containsFunc_any (w.alloc (.cells #[.int .i64 (k : Int)] 3)) (.slice A xs.length cap) xs (Rows2.below hh.out (Nat.le_refl _) hB0.out) 65 (.pointer (some ⟨w.heap.size, 0, none⟩)) (fun l => !isBidB k l) callFunc65
    (fun i _ A n c W hW hi => (check1_any W _ _ k w.heap.size hi hk6 (by
      rw [hW.cell (p := ⟨w.heap.size, 0, none⟩) (by simp)]
      exact cell_one_new w (.int .i64 (k : Int)) 3 0 _ rfl)).mono fun e W' ⟨he, hw⟩ => ⟨he, by rw [hw]; exact Below.refl _ _⟩))
  have hB1 := Lib.hid ((Below.refl w.heap.size w).alloc (Nat.le_refl _) (.cells #[.int .i64 (k : Int)] 3))
  clear hB0
  cases hp : (xs.any fun l => !isBidB k l)
  · rw [hp] at hcall
    replace hr := Lib.hid (show checkE k xs = 0 by rw [hr.out, hp]; rfl)
    clear hp hh
    go_enter Try.func45, Try.ntmps45
    go_wp2_with (go_at_call 49; refine hcall.out.mono ?_; rintro e w1 ⟨rfl, hb⟩; replace hb := Lib.hid hb)
    go_ret
    exact ⟨ret_int hr.out.symm, hB1.out.trans (hb.out.mono (by simp))⟩
  · rw [hp] at hcall
    replace hr := Lib.hid (show checkE k xs = 80 by rw [hr.out, hp]; rfl)
    clear hp hh
    go_enter Try.func45, Try.ntmps45
    go_wp2_with (go_at_call 49; refine hcall.out.mono ?_; rintro e w1 ⟨rfl, hb⟩; replace hb := Lib.hid hb)
    go_ret
    exact ⟨ret_int hr.out.symm, hB1.out.trans (hb.out.mono (by simp))⟩

end Go.Proofs.Ytadonoacmpkolaa
