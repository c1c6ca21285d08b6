/- The hull of some points. No condition. -/
import Derived.Test.YthnabheibacbcaaC11
import Derived.Test.YthnabheibacbcaaRev
import Derived.Lib.SliceRun
namespace Go.Proofs.Ythnabheibacbcaa
open Go.RowKit Go.Shelf

theorem own_empty {α : Type} {R : Value → α → Prop} (w : World) (e : Nat) : OwnL w.heap.size e R (w.alloc (.cells #[] e)) (.slice (some ⟨w.heap.size, 0, none⟩) 0 0) [] :=
  ⟨[], rfl, ⟨rfl, .inr ⟨w.heap.size, 0, #[], rfl, Nat.le_refl _, heap_alloc_new w _, Nat.le_refl _, Nat.zero_le _, rfl, rfl⟩⟩, fun _ h => by simp at h⟩

set_option maxHeartbeats 400000 in
theorem clone_any (w : World) (v : Value) (xs : List Int) (h : Ints w v xs) (hl : xs.length ≤ 1000) :
    Calls Try.prog 59 #[v] w fun e w' => ∃ v', e = .returned v' ∧ OwnI w.heap.size 3 w' v' xs ∧ Below w.heap.size w w' := by
  have hh : Hid (Slc anyB isI w v xs) := h
  obtain ⟨A, n, cap, rfl, hn⟩ := Slc.shape h
  have he := fun W => Lib.run_eql_slice_nil (P := Try.prog) W 33 3 A n cap 0 0 Try.underlying33
  clear h
  cases A with
  | none =>
    go_enter Try.func59, Try.ntmps59
    have e0 : xs = [] := by
      obtain ⟨A, cap, e, h1, _, h3, _⟩ := hh.out
      have hn0 : A = none := by injection e with e _ _; exact e.symm
      rw [h3 hn0] at h1
      exact List.length_eq_zero_iff.1 (by omega)
    subst e0
    go_wp2_with fail
    go_ret
    exact ⟨_, rfl, own_nil _ _ _, Below.refl _ _⟩
  | some p =>
    go_enter Try.func59, Try.ntmps59
    have hB : Hid (Below w.heap.size w (w.alloc (.cells #[] 3))) := (Below.refl _ _).alloc (Nat.le_refl _) _
    have hS : Hid (Slc anyB isI (w.alloc (.cells #[] 3)) (.slice (some p) n cap) xs) := Slc.keep hh.out (fun b _ hb => ⟨trivial, hB.out.block b hb⟩) (fun _ _ _ h => h)
    go_wp2_with (at_builtin; refine wpList_append_slc _ rfl (.tmp 5) (.tmp 6) 33 rfl w.heap.size 3 Try.underlying33 info3 rfl (by omega) isI_one _ [] rfl (own_empty w 3) _ rfl _ hS.out (by simp; omega) hB.out.size ?_; intro v' w' h1 h2 _ _)
    go_ret
    exact ⟨_, rfl, h1, hB.out.trans h2⟩

theorem half_len {t : Nat → Nat → Nat → Int} (l : List Nat) : (half t l).length ≤ l.length := by
  unfold half
  have := chain_len (t := t) l
  rw [List.length_reverse, List.length_tail]
  omega

theorem hullL_len {t : Nat → Nat → Nat → Int} (l : List Nat) : (hullL t l).length ≤ 2 * l.length := by
  unfold hullL
  split
  · omega
  · have h1 := half_len (t := t) l
    have h2 := half_len (t := t) l.reverse
    rw [List.length_reverse] at h2
    rw [List.length_append]
    omega
theorem ord_lt {l : List Pt} {os : List Nat} (h : Ordd l os) : ∀ k ∈ os, k < l.length := fun k hk => by simpa using h.1.mem_iff.1 hk

set_option maxRecDepth 100000 in
set_option maxHeartbeats 2000000 in
theorem hull_any (w : World) (g L : Nat) (t : Nat → Nat → Nat → Int) (vx : Value) (ks : List Nat)
    (hT : ∀ i j k, i < L → j < L → k < L → w.cell? ⟨g, 1 + i * 196 + j * 14 + k, none⟩ = some (.int .i8 (t i j k))) (hL : L ≤ 14) (hx : Ints w vx (nats ks)) (hks : ∀ k ∈ ks, k < L) (h2 : ks.length ≤ 1000) :
    Calls Try.prog 60 #[.pointer (some ⟨g, 0, none⟩), vx] w fun e w' => ∃ v', e = .returned v' ∧ OwnI w.heap.size 3 w' v' (nats (hullL t ks)) ∧ Below w.heap.size w w' := by
  obtain ⟨A, n, cap, rfl, hn⟩ := hx.shape
  rw [nats_length] at hn
  have hmf : ∀ (fn : Fn) (first cap : Array Value) (w : World), (Instr.makeFunc fn first cap).run Try.prog w = .ok (.func fn first cap) w := fun _ _ _ _ => rfl
  have hcf : ∀ (args : Array Value) (W : World), (callFunc 83 args).run Try.prog W = .ok (.enter 83 args) W := fun args W => by simp [go_sem]
  obtain ⟨W0, hW0⟩ : ∃ W0, w.alloc (.cells #[.pointer (some ⟨g, 0, none⟩)] 66) = W0 := ⟨_, rfl⟩
  have hB0 : Below w.heap.size w W0 := by rw [← hW0]; exact below1 _ _
  have k0 : W0.cell? ⟨w.heap.size, 0, none⟩ = some (.pointer (some ⟨g, 0, none⟩)) := by rw [← hW0]; exact one_cell
  have hx0 := Ints.below hx (Nat.le_refl _) hB0
  have hsz : w.heap.size < W0.heap.size := by rw [← hW0]; simp
  have hcl := Lib.hid (fun W (hb : Below W0.heap.size W0 W) => clone_any W _ _ (Ints.below hx0 (Nat.le_refl _) hb) (by rw [nats_length]; omega))
  by_cases h3 : (n : Int) < 3
  · have hh : hullL t ks = ks := by unfold hullL; rw [if_pos (by have := hn.out; omega)]
    rw [hh]
    replace hB0 := Lib.hid hB0
    clear hT hx hx0 hks
    go_enter Try.func60, Try.ntmps60
    go_wp2_with (go_at_call 59; refine (hcl.out _ (Below.refl _ _)).mono ?_; rintro e w1 ⟨v', rfl, ho, hb⟩; replace ho := Lib.hid ho; replace hb := Lib.hid hb)
    go_ret
    exact ⟨_, rfl, OwnL.lo_le ho.out (by omega), bthen hB0.out hb.out⟩
  · have hn1 : 1 ≤ ks.length := by have := hn.out; omega
    have hh : hullL t ks = half t ks ++ half t ks.reverse := by unfold hullL; rw [if_neg (by have := hn.out; omega)]
    rw [hh]
    have hhalf := Lib.hid (fun W (hb : Below W0.heap.size W0 W) v (xs : List Nat) (hi : Ints W v (nats xs)) (h1 : ∀ k ∈ xs, k < L) (h4 : 1 ≤ xs.length) (h5 : xs.length ≤ 1000) =>
      half_any W w.heap.size g L t v xs (cell_below k0 hb) (fun i j k a b c => cell_below (cell_below (hT i j k a b c) hB0) hb) hL hi h1 h4 h5)
    have hl1 := half_len (t := t) ks
    have hl2 := half_len (t := t) ks.reverse
    rw [List.length_reverse] at hl2
    replace hB0 := Lib.hid hB0
    replace hx0 := Lib.hid hx0
    replace hks := Lib.hid hks
    clear hT hx
    go_enter Try.func60, Try.ntmps60
    go_wp2_with (first
      | (go_at_call 59; refine (hcl.out _ (Below.refl _ _)).mono ?_; rintro e w1 ⟨v', rfl, ho, hb1⟩; obtain ⟨A1, n1, c1, rfl, hn1'⟩ := OwnL.shape ho; have ho1 := Lib.hid ho; replace hb1 := Lib.hid hb1; clear ho)
      | (go_at_call 82; refine (reverse_own w1 _ _ W0.heap.size ho1.out (by rw [nats_length]; omega)).mono ?_; rintro e w2 ⟨rfl, ho, hg⟩; have ho2 := Lib.hid ho; have hb2 := Lib.hid (hb1.out.trans (below_of_grown hg (by have := hb1.out.size; omega) (fun k e => (OwnL.lt ho1.out k e).1))); clear ho1 ho hg)
      | (go_at_call 83; refine (hhalf.out _ hb3.out _ ks.reverse (OwnI.ints (by have := ho3.out; rwa [show (nats ks).reverse = nats ks.reverse by simp [nats]] at this)) (fun k hk => hks.out k (by simpa using hk)) (by simpa using hn1) (by simpa using h2)).mono ?_; rintro e w4 ⟨v4, rfl, ho4, hb4⟩; obtain ⟨A4, n4, c4, rfl, hn4'⟩ := OwnL.shape ho4; have ho4 := Lib.hid ho4; have hp4 := Lib.hid (OwnL.below hp3.out (Nat.le_refl _) hb4); have hz4 := hb4.size; have hb4 := Lib.hid (bthen hb3.out hb4))
      | (go_at_call 83; refine (hhalf.out _ hb2.out _ ks (Ints.below hx0.out (Nat.le_refl _) hb2.out) hks.out hn1 h2).mono ?_; rintro e w3 ⟨v3, rfl, hp3, hb3⟩; obtain ⟨A3, n3, c3, rfl, hn3'⟩ := OwnL.shape hp3; have hp3 := Lib.hid hp3; have ho3 := Lib.hid (OwnL.below ho2.out (Nat.le_refl _) hb3); have hz3 := hb3.size; have hb3 := Lib.hid (bthen hb2.out hb3))
      | (at_builtin; refine wpList_append_slc _ rfl (.tmp 19) (.tmp 22) 33 rfl w2.heap.size 3 Try.underlying33 info3 rfl (by omega) isI_one _ _ rfl hp4.out _ rfl _ (OwnI.ints ho4.out) (by rw [nats_length, nats_length]; omega) (by omega) ?_; intro v' w' h1 h2 _ _))
    go_ret
    refine ⟨_, rfl, ?_, ?_⟩
    · rw [nats_append]
      exact OwnL.lo_le h1 (by have := hb2.out.size; omega)
    · exact (bthen hB0.out hb4.out).trans (h2.mono (by have := hb2.out.size; omega))
end Go.Proofs.Ythnabheibacbcaa
