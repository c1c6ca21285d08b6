/- Squares. No condition. -/
import Derived.Test.YthnabheibacbcaaC12
import Derived.Test.YthnabheibacbcaaBits
namespace Go.Proofs.Ythnabheibacbcaa
open Go.RowKit Go.Shelf
attribute [local go_sem high] walk_shl walk_shr walk_bit walk_rem walk_and walk_or walk_andNot

/-- the points of a set of bits -/
def subL (os : List Nat) (k : Nat) : List Nat := os.filter fun i => k.testBit i
def sqOne (l : List Pt) (os : List Nat) (k : Nat) : Bool := decide ((subL os k).length = 4) && decide ((hullL (tur l) (subL os k)).length = 4)
def sqN (l : List Pt) (os : List Nat) : Nat → Nat
  | 0 => 0
  | k + 1 => sqN l os k + if sqOne l os k = true then 1 else 0
theorem sqN_le (l : List Pt) (os : List Nat) : ∀ k, sqN l os k ≤ k
  | 0 => Nat.le_refl _
  | k + 1 => by have := sqN_le l os k; simp only [sqN]; split <;> omega
theorem p2_14 {m : Nat} (h : m ≤ 14) : p2 m ≤ 16384 := p2_le h

set_option maxRecDepth 100000 in
set_option maxHeartbeats 1000000 in
theorem Squares_ok (w : World) (v : Value) (l : List Pt) (h : Pts w v l) (hc : checkB l = true) (hg : genB l = true) :
    Calls Try.prog 27 #[v] w fun e w' => ∃ os, e = .returned (.tuple #[.int .i64 ((sqN l os (p2 l.length) : Nat) : Int), .int .i64 0]) ∧ Ordd l os ∧ Below w.heap.size w w' := by
  obtain ⟨A, n, cap, rfl, hn⟩ := h.shape
  have h1 : 1 ≤ l.length := by unfold checkB at hc; simp at hc; omega
  have H := Lib.hid (open_ok w _ l 1 h hc hg (by omega))
  have hn14 : n ≤ 14 := by rw [hn.out]; unfold checkB at hc; simp at hc; exact hc.1.2
  have hsS : smallS n := smallS_of (by omega)
  obtain ⟨N2, hN2⟩ : ∃ N2, N2 = p2 n := ⟨_, rfl⟩
  have hN2b : N2 ≤ 16384 := by rw [hN2]; exact p2_14 hn14
  clear h hc hg h1
  go_enter Try.func27, Try.ntmps27
  go_wp2_with (go_at_call 54; refine H.out.mono ?_; rintro e w1 ⟨g, os, rfl, hg1, hord, hP, hb⟩; obtain ⟨v1, o1, hT, hp, ho⟩ := hP; have hgl := hT.lt; have hol := Lib.hid (OwnL.lt ho); have hz1 := hb.size; have hoc := hT.order; have ht := Lib.hid (show ∀ i j k, i < l.length → j < l.length → k < l.length → w1.cell? ⟨g, 1 + i * 196 + j * 14 + k, none⟩ = some (.int .i8 (tur l i j k)) from fun i j k a b c => by
      have := hT.turn i j k (by have := hn.out; omega) (by have := hn.out; omega) (by have := hn.out; omega)
      rwa [if_pos ⟨a, b, c⟩] at this); have hi := OwnI.ints ho; obtain ⟨A1, no, c1, rfl, hno⟩ := hi.shape; replace hi := Lib.hid hi; replace ho := Lib.hid ho; replace hT := Lib.hid hT; replace hb := Lib.hid hb; replace hord := Lib.hid hord; clear hp)
  rw [← hN2]
  replace hN2 := Lib.hid hN2
  go_loopw [6, 23] (fun c6 c23 wr => ∃ k : Nat, k ≤ N2 ∧ c23 = .int .i64 (k : Int) ∧ c6 = .int .i64 ((sqN l os k : Nat) : Int) ∧ Hid (Below w1.heap.size w1 wr)) (fun _ c _ => N2 - (intOf c).toNat)
  case atStart => exact ⟨0, Nat.zero_le _, rfl, rfl, Below.refl _ _⟩
  case round =>
    obtain ⟨k, hk, rfl, rfl, hW⟩ := hrel
    have hsq := sqN_le l os k
    by_cases hlt : k < N2
    case neg =>
      obtain rfl : k = N2 := by omega
      go_wp2
      go_ret2
      refine ⟨os, ?_, hord.out, bthen hb.out hW.out⟩
      rw [← hn.out, ← hN2.out]
      rfl
    have hks : small k := small_of (by omega)
    have co := cell_below hoc hW.out
    have hst := Lib.hid (show sqN l os (k + 1) = sqN l os k + if sqOne l os k = true then 1 else 0 from rfl)
    have hos : ∀ x ∈ os, x < n := fun x hx => by have := hord.out.1.mem_iff.1 hx; rw [hn.out]; simpa using this
    have hnon : no = n := by rw [hno.out, nats_length, hord.out.1.length_eq, List.length_range, hn.out]
    obtain rfl := hnon
    obtain ⟨A', cap2, he, _, _, _, hat⟩ := hi.out.open
    obtain rfl : A1 = A' := by injection he
    have hat := Lib.hid hat
    have hl14 : l.length ≤ 14 := by have := hn.out; omega
    replace hos := Lib.hid hos
    clear he
    go_wp2
    go_loopw [8, 31] (fun c8 c31 wr2 => ∃ (j m : Nat) (A8 : Option Addr) (C8 : Nat), j ≤ no ∧ c31 = .int .i64 (j : Int) ∧ c8 = .slice A8 m C8 ∧ Hid (OwnI w1.heap.size 3 wr2 (.slice A8 m C8) (nats (subL (os.take j) k))) ∧ Hid (Below w1.heap.size w1 wr2)) (fun _ c _ => no - (intOf c).toNat)
    case atStart => exact ⟨0, 0, none, 0, Nat.zero_le _, rfl, rfl, by unfold Hid; exact own_nil _ _ _, hW⟩
    case round =>
      clear hW co
      obtain ⟨j, m, A8, C8, hj, rfl, rfl, hO, hW⟩ := hrel
      have hm : m = (subL (os.take j) k).length := by obtain ⟨A', n', cap', e, h1⟩ := OwnL.shape hO.out; injection e with _ e2 _; rw [e2, h1.out, nats_length]
      have hmb : m ≤ 14 := by rw [hm]; unfold subL; have := List.length_filter_le (fun i => k.testBit i) (os.take j); rw [List.length_take] at this; omega
      by_cases hlt2 : j < no
      case neg =>
        obtain rfl : j = no := by omega
        have htk : os.take j = os := List.take_of_length_le (by have := hno.out; rw [nats_length] at this; omega)
        rw [htk] at hO hm
        by_cases h4 : m = 4
        · subst h4
          have hsub : ∀ x ∈ subL os k, x < l.length := fun x hx => by have := hos.out x (List.mem_filter.1 hx).1; have := hn.out; omega
          have hH := Lib.hid (hull_any wr g l.length (tur l) _ (subL os k) (fun i j k a b c => cell_below (ht.out i j k a b c) hW.out) hl14 (OwnI.ints hO.out) hsub (by omega))
          by_cases hh : (hullL (tur l) (subL os k)).length = 4
          · have hone : sqOne l os k = true := by unfold sqOne; simp only [hm.symm, hh, decide_true, Bool.and_true]
            rw [if_pos hone] at hst
            clear hone hm hsub
            go_wp2_with (go_at_call 60; refine hH.out.mono ?_; rintro e w2 ⟨v2, rfl, hv2, hb2⟩; obtain ⟨A2, n2, c2, rfl, hn2⟩ := OwnL.shape hv2; have hn2' := hn2.out; rw [nats_length, hh] at hn2'; subst hn2'; have hW2 := Lib.hid (bthen hW.out hb2))
            go_roundw
            case rel => exact ⟨k + 1, by omega, by go_num, by rw [hst.out]; go_num, hW2⟩
            case measure => simp [intOf]; omega
          · have hone : ¬ sqOne l os k = true := by unfold sqOne; rw [← hm]; simpa using hh
            rw [if_neg hone] at hst
            clear hone hm hsub
            go_wp2_with (go_at_call 60; refine hH.out.mono ?_; rintro e w2 ⟨v2, rfl, hv2, hb2⟩; obtain ⟨A2, n2, c2, rfl, hn2⟩ := OwnL.shape hv2; have hn2' := hn2.out; rw [nats_length] at hn2'; have hne : ((n2 : Int) == 4) = false := (by simp; omega); have hW2 := Lib.hid (bthen hW.out hb2))
            go_roundw
            case rel => exact ⟨k + 1, by omega, by go_num, by rw [hst.out]; go_num, hW2⟩
            case measure => simp [intOf]; omega
        · have hone : ¬ sqOne l os k = true := by unfold sqOne; rw [← hm]; simp [h4]
          rw [if_neg hone] at hst
          have hne : ((m : Int) == 4) = false := by simp; omega
          clear hm
          go_wp2
          go_roundw
          case rel => exact ⟨k + 1, by omega, by go_num, by rw [hst.out]; go_num, hW⟩
          case measure => simp [intOf]; omega
      have hjo : j < os.length := by have := hno.out; rw [nats_length] at this; omega
      obtain ⟨b1, o1, rfl, hc1⟩ := hat.out j (by rw [nats_length]; exact hjo)
      rw [at0_nats] at hc1
      have hc2 := cell_below hc1 hW.out
      have hx := hos.out (natAt os j) (by rw [natAt_eq hjo]; exact List.getElem_mem _)
      have htk := Lib.hid (show subL (os.take (j + 1)) k = subL (os.take j) k ++ (if k.testBit (natAt os j) = true then [natAt os j] else []) by
        rw [List.take_succ_eq_append_getElem hjo, ← natAt_eq hjo]
        unfold subL
        rw [List.filter_append]
        congr 1
        by_cases e : k.testBit (natAt os j) = true
        · rw [if_pos e]; simp [e]
        · rw [if_neg e]; simp [e])
      have hbit := testBit_bitOf k (natAt os j)
      generalize hxv : natAt os j = x at *
      replace hxv := Lib.hid hxv
      clear hc1
      by_cases e : k.testBit x = true
      · rw [if_pos e] at htk hbit
        have hO1 := Lib.hid (fun W (hb : Below wr.heap.size wr W) => OwnL.below hO.out (Nat.le_refl _) hb)
        have hz := hW.out.size
        have hml := Lib.hid hm
        clear hm
        go_wp2_with (
          (at_builtin; refine wpList_append_int rfl (.tmp 41) (.tmp 43) 33 rfl w1.heap.size 3 Try.underlying33 info3 _ _ rfl rfl hO.out rfl rfl (by rw [nats_length]; have := hml.out; omega) hz ?_; intro v' w4 ho4 hB4 hg4; obtain ⟨N4, C4', hv4, -⟩ := OwnL.open ho4 (by simp); rw [show (nats (subL (os.take j) k) ++ [((x : Nat) : Int)]).length = m + 1 by rw [List.length_append, nats_length, hml.out]; rfl] at hv4; subst hv4; replace ho4 := Lib.hid ho4; replace hB4 := Lib.hid hB4))
        go_roundw
        case rel =>
          refine ⟨j + 1, _, _, _, by omega, by go_num, rfl, ?_, Lib.hid (hW.out.trans hB4.out)⟩
          unfold Hid
          rw [htk.out, nats_append]
          exact ho4.out
        case measure => simp [intOf]; omega
      · rw [if_neg e] at htk hbit
        rw [List.append_nil] at htk
        clear hm
        go_wp2
        go_roundw
        case rel =>
          refine ⟨j + 1, _, _, _, by omega, by go_num, rfl, ?_, hW⟩
          unfold Hid
          rw [htk.out]
          exact hO.out
        case measure => simp [intOf]; omega
end Go.Proofs.Ythnabheibacbcaa
