/- isHull; IsPolygon, IsEmpty. No condition. -/
import Derived.Test.YthnabheibacbcaaFB
import Derived.Test.YthnabheibacbcaaF4
namespace Go.Proofs.Ythnabheibacbcaa
open Go.RowKit Go.Shelf

/-- the points of a list, in the order -/
def selX (os : List Nat) (xs : List Int) : List Nat := os.filter fun i => memB xs ((i : Nat) : Int)
def hullB (t : Nat → Nat → Nat → Int) (os : List Nat) (xs : List Int) : Bool := decide (3 ≤ xs.length) && decide (nats (hullL t (selX os xs)) = xs)

set_option maxRecDepth 100000 in
set_option maxHeartbeats 2000000 in
theorem isHull_any (w : World) (g L : Nat) (t : Nat → Nat → Nat → Int) (v vo : Value) (xs : List Int) (os : List Nat) (hO : w.cell? ⟨g, 2745, none⟩ = some vo)
    (hT : ∀ i j k, i < L → j < L → k < L → w.cell? ⟨g, 1 + i * 196 + j * 14 + k, none⟩ = some (.int .i8 (t i j k))) (hL : L ≤ 14) (hx : Ints w v xs) (ho : Ints w vo (nats os)) (hos : ∀ k ∈ os, k < L) (holen : os.length ≤ 1000) :
    Calls Try.prog 75 #[.pointer (some ⟨g, 0, none⟩), v] w fun e w' => e = .returned (.bool (hullB t os xs)) ∧ Below w.heap.size w w' := by
  obtain ⟨Ax, nx, cx, rfl, hnx⟩ := hx.shape
  obtain ⟨A, cap, rfl, hl, hcm, _, hat⟩ := ho.open
  have hat := Lib.hid (show ∀ i, i < os.length → ∃ b off, A = some ⟨b, off, none⟩ ∧ w.cell? ⟨b, off + i, none⟩ = some (.int .i64 ((natAt os i : Nat) : Int)) from fun i hi => by
    obtain ⟨b, off, hA, hc⟩ := hat i (by rw [nats_length]; exact hi)
    exact ⟨b, off, hA, by rwa [at0_nats] at hc⟩)
  unfold maxLen at hcm
  rw [nats_length] at hl hO
  obtain ⟨m, hm⟩ : ∃ m, os.length = m := ⟨_, rfl⟩
  rw [hm] at hl hO holen
  replace hm := Lib.hid hm
  have hct := Lib.hid (fun W (hb : Below w.heap.size w W) y => containsI_any W _ xs y (Ints.below hx (Nat.le_refl _) hb))
  have hEq := Lib.hid (fun W (hb : Below w.heap.size w W) v1 ys (h1 : Ints W v1 ys) => equalI_any W v1 _ ys xs h1 (Ints.below hx (Nat.le_refl _) hb))
  replace hT := Lib.hid hT
  replace hos := Lib.hid hos
  obtain ⟨M, hM⟩ : ∃ M, w.heap.size = M := ⟨_, rfl⟩
  rw [hM]
  clear hx ho
  go_enter Try.func75, Try.ntmps75
  go_wp2
  go_loopw [5, 13] (fun c5 c13 wr => ∃ (k q : Nat) (A5 : Option Addr) (C5 : Nat), k ≤ m ∧ c13 = .int .i64 (k : Int) ∧ c5 = .slice A5 q C5 ∧ Hid (OwnI M 3 wr (.slice A5 q C5) (nats (selX (os.take k) xs))) ∧ Hid (Below M w wr)) (fun _ c _ => m - (intOf c).toNat)
  case atStart => exact ⟨0, 0, none, 0, Nat.zero_le _, rfl, rfl, by unfold Hid; exact own_nil _ _ _, Below.refl _ _⟩
  case round =>
    obtain ⟨k, q, A5, C5, hk, rfl, rfl, hOw, hB⟩ := hrel
    have hBw := (show Below w.heap.size w wr by rw [hM]; exact hB.out)
    have hq : q = (selX (os.take k) xs).length := by obtain ⟨A', n', cap', e, h1⟩ := OwnL.shape hOw.out; injection e with _ e2 _; rw [e2, h1.out, nats_length]
    have hqb : q ≤ 1000 := by rw [hq]; unfold selX; have := List.length_filter_le (fun i => memB xs ((i : Nat) : Int)) (os.take k); rw [List.length_take] at this; omega
    by_cases hlt : k < m
    case neg =>
      obtain rfl : m = k := by omega
      have htk : os.take m = os := List.take_of_length_le (by rw [hm.out]; exact Nat.le_refl _)
      rw [htk] at hOw hq
      have hsub : ∀ x ∈ selX os xs, x < L := fun x hx => hos.out x (List.mem_filter.1 hx).1
      by_cases h3 : 3 ≤ nx
      · have hr := Lib.hid (show hullB t os xs = decide (nats (hullL t (selX os xs)) = xs) by unfold hullB; rw [show decide (3 ≤ xs.length) = true by rw [← hnx.out]; simp [h3]]; simp)
        have hH := Lib.hid (hull_any wr g L t _ (selX os xs) (fun i j k a b c => cell_below (hT.out i j k a b c) hBw) hL (OwnI.ints hOw.out) hsub (by omega))
        have hBw' := Lib.hid hBw
        replace hq := Lib.hid hq
        go_wp2_with (first
          | (go_at_call 60; refine hH.out.mono ?_; rintro e w1 ⟨v1, rfl, h1, hb1⟩; have hi1 := OwnI.ints h1; obtain ⟨A1, n1, c1, rfl, hn1⟩ := OwnL.shape h1; have hi1 := Lib.hid hi1; have hb1 := Lib.hid (bthen hBw'.out hb1); clear h1)
          | (go_at_call 89; refine (hEq.out _ hb1.out _ _ hi1.out).mono ?_; rintro e w2 ⟨rfl, hb2⟩; have hb2 := Lib.hid (bthen hb1.out hb2)))
        go_ret
        exact ⟨ret_bool (by rw [hr.out]), by have := hb2.out; rwa [hM] at this⟩
      · have hr := Lib.hid (show hullB t os xs = false by unfold hullB; rw [show decide (3 ≤ xs.length) = false by rw [← hnx.out]; simp; omega]; rfl)
        have hn3 : decide ((3 : Int) ≤ (nx : Int)) = false := by simp; omega
        have hn4 : decide (3 ≤ nx) = false := by simp; omega
        replace hq := Lib.hid hq
        go_wp2
        go_ret
        exact ⟨ret_bool (by rw [hr.out]), hB.out⟩
    have hko : k < os.length := by rw [hm.out]; exact hlt
    obtain ⟨b1, o1, rfl, hc1⟩ := hat.out k hko
    have hc2 := cell_below hc1 hBw
    have hOO := cell_below hO hBw
    have hctk := Lib.hid (fun y => hct.out wr hBw y)
    have htk := Lib.hid (show selX (os.take (k + 1)) xs = selX (os.take k) xs ++ (if memB xs ((natAt os k : Nat) : Int) = true then [natAt os k] else []) by
      rw [List.take_succ_eq_append_getElem hko, ← natAt_eq hko]
      unfold selX
      rw [List.filter_append]
      congr 1
      by_cases e : memB xs ((natAt os k : Nat) : Int) = true
      · rw [if_pos e]; simp [e]
      · rw [if_neg e]; simp [e])
    have hz : M ≤ wr.heap.size := by have := hB.out.size; omega
    generalize hxv : natAt os k = x at *
    replace hxv := Lib.hid hxv
    obtain ⟨mb, hmb⟩ : ∃ mb, memB xs ((x : Nat) : Int) = mb := ⟨_, rfl⟩
    rw [hmb] at htk
    replace hmb := Lib.hid hmb
    have hql := Lib.hid hq
    clear hc1 hq hBw
    cases mb with
    | true =>
      rw [if_pos rfl] at htk
      go_wp2_with (first
        | (go_at_call 63; refine (hctk.out _).mono ?_; rintro e w1 ⟨rfl, rfl⟩; rw [hmb.out])
        | (at_builtin; refine wpList_append_int rfl (.tmp 20) (.tmp 22) 33 rfl M 3 Try.underlying33 info3 _ _ rfl rfl hOw.out rfl rfl (by rw [nats_length]; have := hql.out; omega) hz ?_; intro v' w4 ho4 hB4 hg4; obtain ⟨N4, C4', hv4, -⟩ := OwnL.open ho4 (by simp); rw [show (nats (selX (os.take k) xs) ++ [((x : Nat) : Int)]).length = q + 1 by rw [List.length_append, nats_length, hql.out]; rfl] at hv4; subst hv4; replace ho4 := Lib.hid ho4; replace hB4 := Lib.hid hB4))
      go_roundw
      case rel =>
        refine ⟨k + 1, _, _, _, by omega, by go_num, rfl, ?_, Lib.hid (hB.out.trans hB4.out)⟩
        unfold Hid
        rw [htk.out, nats_append]
        exact ho4.out
      case measure => simp [intOf]; omega
    | false =>
      rw [if_neg (by simp), List.append_nil] at htk
      go_wp2_with (go_at_call 63; refine (hctk.out _).mono ?_; rintro e w1 ⟨rfl, rfl⟩; rw [hmb.out])
      go_roundw
      case rel =>
        refine ⟨k + 1, _, _, _, by omega, by go_num, rfl, ?_, hB⟩
        unfold Hid
        rw [htk.out]
        exact hOw.out
      case measure => simp [intOf]; omega
end Go.Proofs.Ythnabheibacbcaa
