/- CupsLongest: the walk. No condition. -/
import Derived.Test.YthnabheibacbcaaF6
import Derived.Test.YthnabheibacbcaaF4
import Derived.Test.YthnabheibacbcaaC15
import Derived.Deep.Cut
import Derived.Deep.CutRange
namespace Go.Proofs.Ythnabheibacbcaa
open Go.RowKit Go.Shelf

/-- how wide the points of a law lie -/
theorem wide_nat (x : Int) : ∃ W : Nat, 1 + wrap64 ((IntKind.u64.wrap x).tmod 200) = (W : Int) ∧ 1 ≤ W ∧ W ≤ 200 := by
  have h0 : 0 ≤ IntKind.u64.wrap x := by
    unfold IntKind.wrap
    simp [IntKind.signed, IntKind.bits]
    omega
  have h1 : (IntKind.u64.wrap x).tmod 200 = (IntKind.u64.wrap x) % 200 := Int.tmod_eq_emod_of_nonneg h0
  have h2 : wrap64 ((IntKind.u64.wrap x) % 200) = (IntKind.u64.wrap x) % 200 := by unfold wrap64; omega
  rw [h1, h2]
  exact ⟨(1 + (IntKind.u64.wrap x) % 200).toNat, by omega, by omega, by omega⟩
theorem LongV_of (l : List Pt) (os : List Nat) (s : Int) (n n' : Nat) (R : Int) (h : LongV l os s n R) (e : n = n') : LongV l os s n' R := by subst e; exact h

theorem Cup_row (w : World) (v : Value) (y : List Pt) (h : Pts w v y) (hc : checkB y = true) (hg : genB y = true) (h2 : 2 ≤ y.length) :
    Calls Try.prog 18 #[v] w fun e w' => ∃ A n c xa, e = .returned (.tuple #[.slice A n c, .int .i64 0]) ∧ Ints w' (.slice A n c) xa ∧ rowB y xa 1 = true ∧ (∀ R, LongV y (ordR y y.length) 1 y.length R → ((n : Nat) : Int) = R) ∧ Below w.heap.size w w' := by
  refine (Cup_ok w v y h hc hg h2).mono ?_
  rintro e w2 ⟨va, os, ps, rfl, hord, ho, hq, hb⟩
  obtain rfl := Ordd.unique hord (ordR_ord (dist_of hc))
  have hia := OwnI.ints ho
  obtain ⟨Aa, na, ca, rfl, hna⟩ := hia.shape
  refine ⟨Aa, na, ca, _, rfl, hia, best_row hord hq.1 hq.2.1, fun R hR => ?_, hb⟩
  rw [hna.out, nats_length, List.length_reverse, List.length_map]
  exact best_long hq (LongV_of _ _ _ _ _ _ hR (ordR_len y y.length).symm)
theorem Cap_row (w : World) (v : Value) (y : List Pt) (h : Pts w v y) (hc : checkB y = true) (hg : genB y = true) (h2 : 2 ≤ y.length) :
    Calls Try.prog 19 #[v] w fun e w' => ∃ A n c xa, e = .returned (.tuple #[.slice A n c, .int .i64 0]) ∧ Ints w' (.slice A n c) xa ∧ rowB y xa (-1) = true ∧ (∀ R, LongV y (ordR y y.length) (-1) y.length R → ((n : Nat) : Int) = R) ∧ Below w.heap.size w w' := by
  refine (Cap_ok w v y h hc hg h2).mono ?_
  rintro e w2 ⟨va, os, ps, rfl, hord, ho, hq, hb⟩
  obtain rfl := Ordd.unique hord (ordR_ord (dist_of hc))
  have hia := OwnI.ints ho
  obtain ⟨Aa, na, ca, rfl, hna⟩ := hia.shape
  refine ⟨Aa, na, ca, _, rfl, hia, best_row hord hq.1 hq.2.1, fun R hR => ?_, hb⟩
  rw [hna.out, nats_length, List.length_reverse, List.length_map]
  exact best_long hq (LongV_of _ _ _ _ _ _ hR (ordR_len y y.length).symm)

set_option maxRecDepth 100000 in
set_option maxHeartbeats 4000000 in
theorem CupsLongest_walk (w : World) (v : Value) (l : List Pt) (x : Int) (h : Pts w v l) : Calls Try.prog 4 #[v, .int .i64 x] w fun e w' => e = .returned (.bool true) ∧ Below w.heap.size w w' := by
  obtain ⟨W, hW, hW1, hW2⟩ := wide_nat x
  have htm : Hid (Calls Try.prog 17 #[v, .int .i64 14, .int .i64 (W : Int)] w fun e w' => ∃ v' y, e = .returned v' ∧ OwnP w.heap.size w' v' y ∧ checkB y = true ∧ genB y = true ∧ y.length ≤ 14 ∧ Below w.heap.size w w') := tame_any w v l h 14 W (by omega) (by omega) hW1 (by omega)
  clear h
  go_enter Try.func4, Try.ntmps4
  go_upto_region 2 with (
    (go_at_call 17; refine htm.out.mono ?_; rintro e w1 ⟨v1, y, rfl, ho, hc, hg, hl14, hb0⟩; obtain ⟨A1, n1, c1, rfl, hn1⟩ := OwnP.shape ho; have hp := Lib.hid (OwnP.pts ho); replace hb0 := Lib.hid hb0; have hb := Lib.hid (Below.refl w1.heap.size w1); clear ho))
  clear htm
  by_cases h2 : y.length < 2
  · have hE := Lib.hid (show openE y 2 = 1 by unfold openE; rw [if_pos hc, if_neg (fun h => by omega)])
    have hn2 : (n1 : Int) < 2 := by rw [hn1.out]; omega
    clear hc hg
    go_wp2_with (first
      | (go_at_call 18; refine (Cup_err _ _ y 1 (hp.out.then hb.out) hE.out (.inr rfl)).mono ?_; rintro e w2 ⟨rfl, h2⟩; replace hb := Lib.hid (bthen hb.out h2); clear h2)
      | (go_at_call 19; refine (Cap_err _ _ y 1 (hp.out.then hb.out) hE.out (.inr rfl)).mono ?_; rintro e w2 ⟨rfl, h2⟩; replace hb := Lib.hid (bthen hb.out h2); clear h2)
      | (go_at_call 16; refine (awake_any _).mono ?_; rintro e w2 ⟨rfl, h2⟩; replace hb := Lib.hid (bthen hb.out h2); clear h2))
    go_ret
    exact ⟨rfl, bthen hb0.out hb.out⟩
  · have h2' : 2 ≤ y.length := by omega
    have hn2 : ¬ (n1 : Int) < 2 := by rw [hn1.out]; omega
    have hok := Lib.hid (okL_of hc)
    have hcg := Lib.hid (And.intro hc hg)
    have hos := Lib.hid (ordR_ord (dist_of hc))
    have hLA := Lib.hid (fun W hb => longestR_any W _ y 1 (hp.out.then (w' := W) hb) hok.out (len_of hcg.out.1).2)
    have hLB := Lib.hid (fun W hb => longestR_any W _ y (-1) (hp.out.then (w' := W) hb) hok.out (len_of hcg.out.1).2)
    clear hc hg h2
    go_wp2_with (first
      | (go_at_call 18; refine (Cup_row _ _ y (hp.out.then hb.out) hcg.out.1 hcg.out.2 h2').mono ?_; rintro e w2 ⟨Aa, na, ca, xa, rfl, hia, hra, hla, h2⟩; have hia := Lib.hid (fun W (hb : Below w2.heap.size w2 W) => Ints.below hia (Nat.le_refl _) hb); have hra := Lib.hid hra; have hla := Lib.hid hla; replace hb := Lib.hid (bthen hb.out h2); have hb2 := Lib.hid (Below.refl w2.heap.size w2); clear h2)
      | (go_at_call 19; refine (Cap_row _ _ y (hp.out.then hb.out) hcg.out.1 hcg.out.2 h2').mono ?_; rintro e w3 ⟨Ab, nb, cb, xb, rfl, hib, hrb, hlb, h2⟩; have hib := Lib.hid (fun W (hb : Below w3.heap.size w3 W) => Ints.below hib (Nat.le_refl _) hb); have hrb := Lib.hid hrb; have hlb := Lib.hid hlb; replace hb := Lib.hid (bthen hb.out h2); replace hb2 := Lib.hid (bthen hb2.out h2); have hb3 := Lib.hid (Below.refl w3.heap.size w3); clear h2)
      | (go_at_call 20; have hX := isChain_any _ _ _ y xa 1 (hp.out.then hb.out) hok.out (hia.out _ hb2.out); (with_reducible refine hX.mono ?_); clear hX; rintro e w4 ⟨rfl, h2⟩; rw [hra.out]; replace hb := Lib.hid (bthen hb.out h2); replace hb2 := Lib.hid (bthen hb2.out h2); replace hb3 := Lib.hid (bthen hb3.out h2); clear h2)
      | (go_at_call 20; have hX := isChain_any _ _ _ y xb (-1) (hp.out.then hb.out) hok.out (hib.out _ hb3.out); (with_reducible refine hX.mono ?_); clear hX; rintro e w4 ⟨rfl, h2⟩; rw [hrb.out]; replace hb := Lib.hid (bthen hb.out h2); replace hb2 := Lib.hid (bthen hb2.out h2); replace hb3 := Lib.hid (bthen hb3.out h2); clear h2)
      | (go_at_call 21; have hX := hLA.out _ hb.out; (with_reducible refine hX.mono ?_); clear hX; rintro e w4 ⟨R, rfl, hR, h2⟩; obtain rfl := hla.out R hR; replace hb := Lib.hid (bthen hb.out h2); replace hb2 := Lib.hid (bthen hb2.out h2); replace hb3 := Lib.hid (bthen hb3.out h2); clear h2 hR)
      | (go_at_call 21; have hX := hLB.out _ hb.out; (with_reducible refine hX.mono ?_); clear hX; rintro e w4 ⟨R, rfl, hR, h2⟩; obtain rfl := hlb.out R hR; replace hb := Lib.hid (bthen hb.out h2); replace hb2 := Lib.hid (bthen hb2.out h2); replace hb3 := Lib.hid (bthen hb3.out h2); clear h2 hR)
      | (go_at_call 22; refine (IsCup_ok _ _ _ y xa (hp.out.then hb.out) hcg.out.1 hcg.out.2 h2' (hia.out _ hb2.out)).mono ?_; rintro e w4 ⟨rfl, h2⟩; rw [hra.out]; replace hb := Lib.hid (bthen hb.out h2); replace hb2 := Lib.hid (bthen hb2.out h2); replace hb3 := Lib.hid (bthen hb3.out h2); clear h2)
      | (go_at_call 23; refine (IsCap_ok _ _ _ y xb (hp.out.then hb.out) hcg.out.1 hcg.out.2 h2' (hib.out _ hb3.out)).mono ?_; rintro e w4 ⟨rfl, h2⟩; rw [hrb.out]; replace hb := Lib.hid (bthen hb.out h2); replace hb2 := Lib.hid (bthen hb2.out h2); replace hb3 := Lib.hid (bthen hb3.out h2); clear h2)
      | (go_at_call 16; refine (awake_any _).mono ?_; rintro e w2 ⟨rfl, h2⟩; replace hb := Lib.hid (bthen hb.out h2); clear h2))
    go_ret
    exact ⟨rfl, bthen hb0.out hb.out⟩
end Go.Proofs.Ythnabheibacbcaa
