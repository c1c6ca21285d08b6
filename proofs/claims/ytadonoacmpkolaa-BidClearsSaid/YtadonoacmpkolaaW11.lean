/- payments, Payments. -/
import Derived.Test.YtadonoacmpkolaaW10
import Derived.Deep.RegionHeld3
import Derived.Shelf.RegionOpenPlain
import Derived.IntWalk
namespace Go.Proofs.Ytadonoacmpkolaa
open Go.RowKit
attribute [local go_sem high] walk_shl walk_shr walk_bit walk_rem walk_and walk_or walk_andNot

theorem alloc_length : ∀ (bs : List (List Int)) (s : Nat), (alloc bs s).length = bs.length
  | [], _ => rfl
  | b :: bs, s => by simp [alloc, alloc_length bs]
theorem alloc_le : ∀ (bs : List (List Int)) (s i : Nat), natAt (alloc bs s) i ≤ s
  | [], s, i => by simp [alloc, natAt]
  | b :: bs, s, 0 => by simpa [alloc, natAt] using pick_snd_le b (wts bs) s
  | b :: bs, s, i + 1 => by
    have := alloc_le bs (andN s (pickF b (wts bs) s (subs s)).2) i
    have h2 := andN_le s (pickF b (wts bs) s (subs s)).2
    simp only [alloc, natAt, List.getD_cons_succ] at this ⊢
    omega

/-- what the bidders offer for their bundles; their sum; the payments -/
def ownsOf (m : Nat) (xs : List (List Int)) : List Int := offersOf xs (alloc xs (p2 m - 1))
def payAt (m : Nat) (xs : List (List Int)) (i : Nat) : Int := wts (xs.eraseIdx i) (p2 m - 1) - (sumUpto (ownsOf m xs) xs.length - at0 (ownsOf m xs) i)
def paysOf (m : Nat) (xs : List (List Int)) : List Int := tab xs.length (payAt m xs)
theorem ownsOf_length (m : Nat) (xs : List (List Int)) : (ownsOf m xs).length = xs.length := by simp [ownsOf, offersOf, tab_length, alloc_length]
theorem Bids.row {m : Nat} {xs : List (List Int)} (h : Bids m xs) (i : Nat) (hi : i < xs.length) : okRow m (rowAt xs i) := by rw [rowAt_eq hi]; exact h.ok _ (List.getElem_mem hi)
theorem at0_tab (n : Nat) (f : Nat → Int) (i : Nat) : at0 (tab n f) i = if i < n then f i else 0 := by
  unfold at0 tab
  simp only [List.getD, List.getElem?_map]
  by_cases h : i < n
  · simp [h]
  · simp [h]
theorem ownsOf_bd {m : Nat} {xs : List (List Int)} (h : Bids m xs) (i : Nat) : 0 ≤ at0 (ownsOf m xs) i ∧ at0 (ownsOf m xs) i ≤ 1000000 := by
  unfold ownsOf offersOf
  rw [at0_tab, alloc_length]
  split
  · rename_i hi
    exact (h.row i hi).2 _
  · omega

section
variable {P : Program} (w : World)
theorem step_append_slc {α : Type} {ops : Array Oper} {o : Oper} {a : Act} {K : Act → World → Prop} {Q : Exit → Act → World → Prop} {E : Prop} (hgd : o.guard = none) (s x : Operand) (t : TypeId)
    (ho : o.op = .call { callee := .builtin .append, args := #[s, x], argTypes := #[t, t] })
    (lo : Nat) (e : TypeId) (ht : P.underlying t = some (.slice e)) {z : Value} {bytes : Nat} (hinfo : (P.info? e).map (fun i => (i.zero, i.size, i.bytes)) = some (some z, 1, bytes)) (hzs : z.cells.size = 1) (hb24 : bytes ≤ 1000)
    {R : Value → α → Prop} (hone : ∀ c x, R c x → c.oneCell' = true) {ok : Nat → Prop}
    (v : Value) (xs : List α) (hs : a.eval s = v) (hown : OwnL lo e R w v xs) (v2 : Value) (hx : a.eval x = v2) (ys : List α) (h2 : Slc ok R w v2 ys) (hb : xs.length + ys.length ≤ 1000000) (hlo : lo ≤ w.heap.size)
    (h : ∀ v' w', OwnL lo e R w' v' (xs ++ ys) → Below lo w w' → w.grownBy w' v.ownBlock → lies w v v' → K (a.put o.dst v') w') :
    if Region.wanted o (yielded ops a.tmps) = true then Oper.wp P o a w K Q else E := by
  have hw : Region.wanted o (yielded ops a.tmps) = true := by simp [Region.wanted, hgd]
  rw [if_pos hw]
  obtain ⟨i, hi, hz0, hz1, hz2⟩ := info_parts hinfo
  obtain ⟨v', w', hrun, r2, r3, r4⟩ := run_append_slc (P := P) w lo t o.type e i z bytes ht hi hz0 hz1 hz2 hzs hone v xs hown v2 ys h2 hb hb24 hlo
  unfold Oper.wp execOp
  simp only [ho, resolve, invoke, builtin, Sem.run_bind, Sem.run_pure, Result.andThen_ok, List.map_toArray, List.map_cons, List.map_nil, hs, hx, hrun]
  exact h v' w' r2 (below_of_grown r3 hlo fun k hk => (hown.lt k hk).1) r3 r4
end
theorem step_append_int {P : Program} {ops : Array Oper} {o : Oper} {a : Act} {K : Act → World → Prop} {Q : Exit → Act → World → Prop} {E : Prop} {w : World} (hgd : o.guard = none) (s x : Operand) (t : TypeId)
    (ho : o.op = .call { callee := .builtin .append, args := #[s, x], argTypes := #[t, t] })
    (lo : Nat) (e : TypeId) (ht : P.underlying t = some (.slice e)) (hinfo : (P.info? e).map (fun i => (i.zero, i.size, i.bytes)) = some (some (.int .i64 0), 1, 8))
    (v : Value) (xs : List Int) (hs : a.eval s = v) {W : World} {y : Int} {g : Nat} (hw : w = W.alloc (.cells #[.int .i64 y] e)) (hown : OwnI lo e W v xs) (hx : a.eval x = .slice (some ⟨g, 0, none⟩) 1 1) (hg : g = W.heap.size)
    (hb : xs.length + 1 ≤ 1000000) (hlo : lo ≤ W.heap.size)
    (h : ∀ v' w', OwnI lo e w' v' (xs ++ [y]) → Below lo W w' → W.grownBy w' v.ownBlock → K (a.put o.dst v') w') : if Region.wanted o (yielded ops a.tmps) = true then Oper.wp P o a w K Q else E := by
  subst hg
  have hB : Below W.heap.size W (W.alloc (.cells #[.int .i64 y] e)) := (Below.refl _ _).alloc (Nat.le_refl _) _
  have hh : W.grownBy w v.ownBlock := by rw [hw]; exact World.grownBy_alloc W _ _
  rw [← hw] at hB
  refine step_append_slc w hgd s x t ho lo e ht hinfo rfl (by omega) isI_one v xs hs (OwnL.below hown (Nat.le_refl _) hB) _ hx [y] (slc_one (w := w) (c := .int .i64 y) ?_ rfl) (by simpa using hb) (Nat.le_trans hlo hB.size) ?_
  · rw [hw]; exact cell_one_new W _ e 0 _ rfl
  · intro v' w' h1 h2 h3 h4
    exact h v' w' h1 ((hB.mono hlo).trans h2) ⟨h3.os.trans hh.os, h3.tape.trans hh.tape, h3.output.trans hh.output, Nat.le_trans hh.size h3.size, fun k hk hn => (h3.block k (Nat.lt_of_lt_of_le hk hh.size) hn).trans (hh.block k hk hn)⟩

def payM (out : Value) : Nat := match out with | .int _ i => i.toNat | _ => 0

set_option maxHeartbeats 1000000 in
theorem payments_any (w : World) (v : Value) (xs : List (List Int)) (m : Nat) (h : Rows2 w v xs) (hE : Bids m xs) :
    Calls Try.prog 53 #[.int .i64 (m : Int), v] w fun e w' => ∃ v1 v2, e = .returned (.tuple #[v1, v2]) ∧ OwnI w.heap.size 2 w' v1 (paysOf m xs) ∧ OwnI w.heap.size 3 w' v2 (casts (alloc xs (p2 m - 1))) ∧ Below w.heap.size w w' := by
  have hb := Lib.hid (best_any w v m xs h hE.m1 hE.m6 hE.l6 hE.ok)
  have ho := Lib.hid (fun w1 v1 (hb1 : Below w.heap.size w w1) (h1 : OwnI w.heap.size 3 w1 v1 (casts (alloc xs (p2 m - 1)))) => offers_any w1 v v1 xs (alloc xs (p2 m - 1)) (Rows2.below h (Nat.le_refl _) hb1) (OwnI.ints h1) (by rw [alloc_length]; exact Nat.le_refl _) (by rw [alloc_length]; have := hE.l6; omega) (fun i hi => by
    rw [alloc_length] at hi
    rw [(hE.row i hi).1]
    have h1 := alloc_le xs (p2 m - 1) i
    have h2 : 0 < p2 m := p2_pos m
    omega))
  have hsum := Lib.hid (fun w1 v1 (h1 : Ints w1 v1 (ownsOf m xs)) => sum_any w1 v1 (ownsOf m xs) h1 (by rw [ownsOf_length]; have := hE.l6; omega) (fun i => by have := ownsOf_bd hE i; omega))
  have hcl := Lib.hid (fun w1 (hb1 : Below w.heap.size w w1) => clone_any w1 v xs (Rows2.below h (Nat.le_refl _) hb1) (by have := hE.l6; omega))
  have hbd := Lib.hid (fun i => ownsOf_bd hE i)
  have hsb := Lib.hid (sumUpto_bd (ownsOf m xs) 1000000 (fun i => by have := ownsOf_bd hE i; omega) (ownsOf m xs).length)
  have hdl := Lib.hid (fun W w1 v1 i (hi : i < xs.length) (h1 : OwnL W.heap.size 27 (rowI W) w1 v1 xs) => (show Calls Try.prog 70 #[v1, .int .i64 (i : Int), .int .i64 ((i : Int) + 1)] w1 _ from delete_any W.heap.size w1 W v1 xs h1 (by have := hE.l6; omega) i (i + 1) hi rfl))
  have hbo := Lib.hid (fun (W w1 : World) v1 i (h1 : OwnL W.heap.size 27 (rowI W) w1 v1 (xs.eraseIdx i)) (hb1 : Below W.heap.size W w1) => best_any w1 v1 m (xs.eraseIdx i) (Slc.keep (OwnL.slc h1) (fun _ _ _ => ⟨trivial, rfl⟩) (fun _ _ _ h => Ints.below h (Nat.le_refl _) hb1)) hE.m1 hE.m6 (Nat.le_trans (List.length_eraseIdx_le _ _) hE.l6) (fun b hb => hE.ok b (List.mem_of_mem_eraseIdx hb)))
  have hwb := Lib.hid (fun i => wts_bounds (xs.eraseIdx i) (fun b hb => (hE.ok b (List.mem_of_mem_eraseIdx hb)).2) (p2 m - 1))
  have hwb2 := Lib.hid (fun i => Nat.le_trans (List.length_eraseIdx_le xs i) hE.l6)
  have hpay : Hid (∀ i, payAt m xs i = wts (xs.eraseIdx i) (p2 m - 1) - (sumUpto (ownsOf m xs) (ownsOf m xs).length - at0 (ownsOf m xs) i)) := fun i => by rw [ownsOf_length]; rfl
  have hn6 := hE.l6
  have hol := ownsOf_length m xs
  obtain ⟨A, nn, cap, rfl, hnn⟩ := Slc.shape h
  clear h hE
  have hso : Hid (offersOf xs (alloc xs (p2 m - 1)) = ownsOf m xs) := rfl
  rw [hso.out] at ho
  generalize wts xs (p2 m - 1) = q at *
  generalize hls : casts (alloc xs (p2 m - 1)) = ls at *
  unfold casts at hls
  rw [hls] at hb
  generalize hS : sumUpto (ownsOf m xs) (ownsOf m xs).length = S at *
  rw [hol] at hsb
  generalize ownsOf m xs = os at *
  clear hls hS
  obtain rfl := hnn.out
  go_enter Try.func53, Try.ntmps53
  go_wp2_with (first
    | (go_at_call 52; refine hb.out.mono ?_; rintro e w1 ⟨v2, rfl, h1, hb1⟩; obtain ⟨A1, n1, c1, rfl, hn1⟩ := OwnL.shape h1; replace h1 := Lib.hid h1; replace hb1 := Lib.hid hb1)
    | (go_at_call 62; refine (ho.out _ _ hb1.out h1.out).mono ?_; rintro e w2 ⟨vo, rfl, h2, hb2⟩; obtain ⟨A2, n2, c2, rfl, hn2⟩ := OwnL.shape h2; replace h2 := Lib.hid h2; replace hb2 := Lib.hid hb2))
  have hB2 : Hid (Below w.heap.size w w2) := hb1.out.trans (hb2.out.mono hb1.out.size)
  go_loopw [9, 25] (fun o i wr => ∃ k : Nat, k ≤ xs.length ∧ i = .int .i64 k ∧ Hid (OwnI w2.heap.size 2 wr o (tab k (payAt m xs))) ∧ Hid (Below w2.heap.size w2 wr)) (fun _ i _ => xs.length - (intOf i).toNat)
  case atStart => exact ⟨0, Nat.zero_le _, rfl, own_nil _ _ _, Below.refl _ _⟩
  case round =>
    obtain ⟨k, hk, rfl, ho9, hB⟩ := hrel
    by_cases hlt : k < xs.length
    · obtain ⟨A9, n9, c9, rfl, hn9⟩ := OwnL.shape ho9.out
      have hB3 : Hid (Below w.heap.size w wr) := hB2.out.trans (hB.out.mono hB2.out.size)
      have hcl1 := Lib.hid (hcl.out wr hB3.out)
      go_wp2_with (first
        | (go_at_call 60; refine hcl1.out.mono ?_; rintro e w3 ⟨v3, rfl, h3, hb3⟩; obtain ⟨A3, n3, c3, rfl, hn3⟩ := OwnL.shape h3; replace h3 := Lib.hid h3; replace hb3 := Lib.hid hb3)
        | (go_at_call 70; refine (hdl.out wr _ _ k hlt h3.out).mono ?_; rintro e w4 ⟨v4, rfl, h4, hb4⟩; obtain ⟨A4, n4, c4, rfl, hn4⟩ := OwnL.shape h4; replace h4 := Lib.hid h4; replace hb4 := Lib.hid (hb3.out.trans hb4))
        | (go_at_call 52; refine (hbo.out wr _ _ k h4.out hb4.out).mono ?_; rintro e w5 ⟨v5, rfl, h5, hb5⟩; obtain ⟨A5, n5, c5, rfl, hn5⟩ := OwnL.shape h5; replace hb5 := Lib.hid (hb4.out.trans (hb5.mono hb4.out.size)); clear h5))
      have hB5 : Hid (Below w2.heap.size w2 w5) := hB.out.trans (hb5.out.mono hB.out.size)
      have h25 := OwnL.below h2.out (Nat.le_refl _) hB5.out
      have ho5 := Lib.hid (OwnL.below ho9.out (Nat.le_refl _) hb5.out)
      clear hb5 h3 hb3 h4 hb4 hcl1 ho9 hB3 hn3 hn4 hn5 hcl hdl hbo hb ho h1 h2 hb1 hb2 hso
      obtain ⟨w6, hw6⟩ : ∃ w6, w6 = w5.drew := ⟨_, rfl⟩
      have h26 : OwnI w1.heap.size 2 w6 (Value.slice A2 n2 c2) os := by rw [hw6]; exact h25
      have ho6 : Hid (OwnI w2.heap.size 2 w6 (Value.slice A9 n9 c9) (tab k (payAt m xs))) := by rw [hw6]; exact ho5.out
      have hB6 : Hid (Below w2.heap.size w2 w6) := by rw [hw6]; exact below_drewN hB5.out 1
      clear h25 ho5 hB5 hB
      have hs6 := Lib.hid (hsum.out w6 _ (OwnI.ints h26))
      obtain ⟨g2, c2', e2, _, _, hcc1, hcc2, hat, _⟩ := OwnI.open h26 (by omega)
      obtain ⟨rfl, rfl, rfl⟩ : A2 = some ⟨g2, 0, none⟩ ∧ n2 = os.length ∧ c2 = c2' := by injection e2 with a b c; exact ⟨a, b, c⟩
      have hck := hat k (by omega)
      unfold maxLen at hcc2
      have hwk := hwb.out k
      have hwk2 := hwb2.out k
      have hbk := hbd.out k
      have hsb' := hsb.out
      have hpk := hpay.out k
      obtain ⟨pf, hpf⟩ : ∃ pf, payAt m xs = pf := ⟨_, rfl⟩
      rw [hpf] at ho6 hn9 hpk
      replace hpf := Lib.hid hpf
      generalize wts (xs.eraseIdx k) (p2 m - 1) = W0 at *
      generalize (xs.eraseIdx k).length = N0 at *
      generalize at0 os k = ok at *
      have hr1 : -10000000 ≤ S ∧ S ≤ 10000000 := by omega
      have hr2 : 0 ≤ W0 ∧ W0 ≤ 6000000 := by omega
      have hr3 : -20000000 ≤ S - ok ∧ S - ok ≤ 20000000 := by omega
      have hr4 : -30000000 ≤ W0 - (S - ok) ∧ W0 - (S - ok) ≤ 30000000 := by omega
      have hpk2 : Hid (W0 - (S - ok) = pf k) := hpk.symm
      have hkl : k < os.length := by omega
      clear hat e2 h26 hsb' hpk hwk hwk2 hsum hsb hbd hwb hwb2 hpay
      replace hw6 := Lib.hid hw6
      rw [hw6.out] at hck hs6 ho6 hB6
      clear hw6
      have hlen1 : (tab k pf).length + 1 ≤ 1000000 := by rw [tab_length]; omega
      have hsz := hB6.out.size
      have hi0 : (0 : Int) ≤ (k : Int) := by omega
      have hi1 : (k : Int) < (os.length : Int) := by omega
      obtain ⟨hw1, hw2⟩ : IntKind.i64.wrap (S - ok) = S - ok ∧ IntKind.i64.wrap (W0 - (S - ok)) = W0 - (S - ok) := ⟨IntWalk.i64_in _ (by omega), IntWalk.i64_in _ (by omega)⟩
      have mixed : Try.prog.follows .mixedOrders = true := by kernel_rfl
      replace hw1 := Lib.hid hw1
      replace hw2 := Lib.hid hw2
      clear hi1
      replace hol := Lib.hid hol
      go_region_law_o
        (first
          | (go_simp; go_at_call 71; refine hs6.out.mono ?_; rintro e w7 ⟨rfl, rfl⟩)
          | (refine step_append_int rfl (.tmp 40) (.tmp 50) 27 (by rfl) w2.heap.size 2 Try.underlying27 info2 _ _ rfl rfl ho6.out rfl rfl hlen1 hsz ?_; intro v' w' h3 h4 _; replace h3 := Lib.hid h3; replace h4 := Lib.hid h4))
      all_goals
        go_wp2
        go_roundw
        case rel => exact ⟨k + 1, by omega, by go_num, by rw [hw1.out, hw2.out] at h3; rw [tab_succ, hpf.out, ← hpk2.out]; exact h3, hB6.out.trans h4.out⟩
        case measure => simp [intOf]; omega
    · obtain rfl : k = xs.length := by omega
      go_wp2
      go_ret2
      exact ⟨_, _, rfl, ho9.out.lo_le hB2.out.size, OwnL.below h1.out (Nat.le_refl _) (hb2.out.trans (hB.out.mono hb2.out.size)), hB2.out.trans (hB.out.mono hB2.out.size)⟩

set_option maxHeartbeats 400000 in
theorem Payments_bad (w : World) (v : Value) (xs : List (List Int)) (m : Int) (h : Rows2 w v xs) (hE : checkE m xs ≠ 0) :
    Calls Try.prog 24 #[.int .i64 m, v] w fun e w' => e = .returned (.tuple #[.slice none 0 0, .int .i64 (checkE m xs)]) ∧ Below w.heap.size w w' := by
  have hc := Lib.hid (check_any w v xs m h)
  have hne : (checkE m xs != 0) = true := by simpa using hE
  replace hE := Lib.hid hE
  clear h
  generalize checkE m xs = c at *
  go_enter Try.func24, Try.ntmps24
  go_wp2_with (go_at_call 45; refine hc.out.mono ?_; rintro e w1 ⟨rfl, hb⟩; replace hb := Lib.hid hb)
  go_ret2
  exact ⟨rfl, hb.out⟩

set_option maxHeartbeats 400000 in
theorem Payments_ok (w : World) (v : Value) (xs : List (List Int)) (m : Nat) (h : Rows2 w v xs) (hE : Bids m xs) :
    Calls Try.prog 24 #[.int .i64 (m : Int), v] w fun e w' => ∃ v', e = .returned (.tuple #[v', .int .i64 0]) ∧ OwnI w.heap.size 2 w' v' (paysOf m xs) ∧ Below w.heap.size w w' := by
  have hc := check_any w v xs m h
  rw [hE.check] at hc
  replace hc := Lib.hid hc
  have hc2 := Lib.hid (fun w1 hb => payments_any w1 v xs m (Rows2.below h (Nat.le_refl _) hb) hE)
  clear h hE
  generalize paysOf m xs = l at *
  generalize casts (alloc xs (p2 m - 1)) = l2 at *
  go_enter Try.func24, Try.ntmps24
  go_wp2_with (first
    | (go_at_call 45; refine hc.out.mono ?_; rintro e w1 ⟨rfl, hb⟩; replace hb := Lib.hid hb)
    | (go_at_call 53; refine (hc2.out _ hb.out).mono ?_; rintro e w2 ⟨v2, v3, rfl, ho, _, hb2⟩; replace hb2 := Lib.hid hb2; replace ho := Lib.hid ho))
  go_ret2
  exact ⟨_, rfl, OwnL.lo_le ho.out hb.out.size, hb.out.trans (hb2.out.mono hb.out.size)⟩

end Go.Proofs.Ytadonoacmpkolaa
