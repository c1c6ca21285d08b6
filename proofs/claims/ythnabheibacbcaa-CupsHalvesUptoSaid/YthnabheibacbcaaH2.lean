/- Halve: points on a line. No condition. -/
import Derived.Test.YthnabheibacbcaaH1
import Derived.Deep.Cut
import Derived.Deep.CutRange
import Derived.Deep.RegionHeld3
import Derived.Deep.RegionLaw
namespace Go.Proofs.Ythnabheibacbcaa
open Go.RowKit Go.Shelf

theorem ownP_empty (w : World) : OwnP w.heap.size (w.alloc (.cells #[] 22)) (.slice (some ⟨w.heap.size, 0, none⟩) 0 0) [] :=
  ⟨rfl, .inr ⟨w.heap.size, 0, #[], rfl, Nat.le_refl _, heap_alloc_new w _, Nat.le_refl _, Nat.zero_le _, rfl, rfl⟩⟩

set_option maxHeartbeats 400000 in
theorem clonePt_any (w : World) (v : Value) (l : List Pt) (h : Pts w v l) (hl : l.length ≤ 1000) :
    Calls Try.prog 66 #[v] w fun e w' => ∃ v', e = .returned v' ∧ OwnP w.heap.size w' v' l ∧ Below w.heap.size w w' := by
  have hh := Lib.hid h
  obtain ⟨A, n, cap, rfl, hn⟩ := h.shape
  have he := fun W => Lib.run_eql_slice_nil (P := Try.prog) W 31 22 A n cap 0 0 Try.underlying31
  cases A with
  | none =>
    have e0 : l = [] := by
      obtain ⟨A, cap, e, h1, _, h3, _⟩ := h.open
      have hn0 : A = none := by injection e with e _ _; exact e.symm
      rw [h3 hn0] at h1
      exact List.length_eq_zero_iff.1 (by omega)
    clear h
    go_enter Try.func66, Try.ntmps66
    subst e0
    go_wp2_with fail
    go_ret
    exact ⟨_, rfl, OwnP.nil _ _, Below.refl _ _⟩
  | some p =>
    clear h
    go_enter Try.func66, Try.ntmps66
    have hB : Hid (Below w.heap.size w (w.alloc (.cells #[] 22))) := (Below.refl _ _).alloc (Nat.le_refl _) _
    have hS := Lib.hid (hh.out.then hB.out)
    go_wp2_with (at_builtin; refine wpList_append_pts _ rfl (.tmp 5) (.tmp 6) 31 rfl w.heap.size Try.underlying31 info22 _ [] rfl (ownP_empty w) _ rfl _ hS.out (by simp; omega) hB.out.size ?_; intro v' w' h1 h2 _ _)
    go_ret
    exact ⟨_, rfl, h1, hB.out.trans h2⟩

theorem step_append_pts {P : Program} {w : World} {ops : Array Oper} {o : Oper} {a : Act} {K : Act → World → Prop} {Q : Exit → Act → World → Prop} {E : Prop} (hgd : o.guard = none) (s x : Operand) (t : TypeId)
    (ho : o.op = .call { callee := .builtin .append, args := #[s, x], argTypes := #[t, t] }) (lo : Nat) (ht : P.underlying t = some (.slice 22))
    (hinfo : (P.info? 22).map (fun i => (i.zero, i.size, i.bytes)) = some (some (.agg #[.int .i64 0, .int .i64 0]), 2, 16))
    (v : Value) (xs : List Pt) (hs : a.eval s = v) (hown : OwnP lo w v xs) (v2 : Value) (hx : a.eval x = v2) (ys : List Pt) (h2 : Pts w v2 ys) (hb : xs.length + ys.length ≤ 1000000) (hlo : lo ≤ w.heap.size)
    (h : ∀ v' w', OwnP lo w' v' (xs ++ ys) → Below lo w w' → K (a.put o.dst v') w') : if Region.wanted o (yielded ops a.tmps) = true then Oper.wp P o a w K Q else E := by
  have hw : Region.wanted o (yielded ops a.tmps) = true := by simp [Region.wanted, hgd]
  rw [if_pos hw]
  obtain ⟨i, hi, hz0, hz1, hz2⟩ := info_parts hinfo
  obtain ⟨v', w', hrun, r2, r3, r4⟩ := run_append_pts (P := P) w lo t o.type i ht hi hz0 hz1 hz2 v xs hown v2 ys h2 hb hlo
  unfold Oper.wp execOp
  simp only [ho, resolve, invoke, builtin, Sem.run_bind, Sem.run_pure, Result.andThen_ok, List.map_toArray, List.map_cons, List.map_nil, hs, hx, hrun]
  exact h v' w' r2 (below_of_grown r3 hlo fun k hk => (hown.lt k hk).1)
theorem drew_below (w : World) : Below w.heap.size w w.drew := below_drewN (Below.refl _ _) 1

set_option maxRecDepth 100000 in
set_option maxHeartbeats 1000000 in
theorem Halve_line (w : World) (v v2 : Value) (l m : List Pt) (h : Pts w v l) (h2 : Pts w v2 m) (c1 : checkB l = true) (c2 : checkB m = true) (hline : lineOf (l ++ m) ≠ none) :
    Calls Try.prog 34 #[v, v2] w fun e w' => e = .returned (.tuple #[z49, .int .i64 1]) ∧ Below w.heap.size w w' := by
  obtain ⟨⟨i, j, k⟩, hr⟩ := Option.ne_none_iff_exists'.1 hline
  obtain ⟨A, n, cap, rfl, hn⟩ := h.shape
  obtain ⟨A2, n2, cap2, rfl, hn2⟩ := h2.shape
  have hlen : l.length ≤ 14 ∧ m.length ≤ 14 := by
    unfold checkB at c1 c2; simp at c1 c2; omega
  have hE1 := Lib.hid (show checkE l = 0 by unfold checkE; rw [if_pos c1])
  have hE2 := Lib.hid (show checkE m = 0 by unfold checkE; rw [if_pos c2])
  have hok : OkL (l ++ m) := by
    intro i hi
    have e1 := okL_of c1
    have e2 := okL_of c2
    rw [List.length_append] at hi
    unfold ptA at *
    rw [List.getD_eq_getElem?_getD]
    by_cases h : i < l.length
    · rw [List.getElem?_append_left h]; have := e1 i h; unfold ptA at this; rwa [List.getD_eq_getElem?_getD] at this
    · rw [List.getElem?_append_right (by omega)]; have := e2 (i - l.length) (by omega); unfold ptA at this; rwa [List.getD_eq_getElem?_getD] at this
  have hok := Lib.hid hok
  have hr := Lib.hid hr
  clear c1 c2 hline
  obtain ⟨M, hM⟩ : ∃ M, w.heap.size = M := ⟨_, rfl⟩
  obtain ⟨W, hW⟩ : ∃ W, ((w.alloc (.cells #[.slice A2 n2 cap2] 31)).alloc (.cells #[.int .i64 0, .int .i64 0, .int .i64 0, .int .i64 0] 49)).alloc (.cells #[.slice A n cap, .slice A2 n2 cap2] 31) = W := ⟨_, rfl⟩
  obtain ⟨hB, hsz, k1, k2, k3⟩ := boxed3 w _ _ _ _ _ _ hW
  rw [hM] at hB hsz k1 k2 k3 ⊢
  have p1 := k1.cell 0
  have p3 := k3.cell 0
  have p4 := k3.cell 1
  simp at p1 p3 p4
  go_enter Try.func34, Try.ntmps34
  go_wp2
  have hl := Lib.hid (h.below (by rw [hM]; exact Nat.le_refl _) hB)
  have hm := Lib.hid (h2.below (by rw [hM]; exact Nat.le_refl _) hB)
  have k2 := Lib.hid k2
  have hB := Lib.hid hB
  clear h h2 k1 k3 hW
  go_loopw [23] (fun c wr => ∃ i : Nat, i ≤ 2 ∧ c = .int .i64 (i : Int) ∧ Hid (Below W.heap.size W wr)) (fun c _ => 2 - (intOf c).toNat)
  case atStart => exact ⟨0, Nat.zero_le _, rfl, Below.refl _ _⟩
  case round =>
    obtain ⟨i, hi, rfl, hW2⟩ := hrel
    have q1 := cell_below p1 hW2.out
    have q3 := cell_below p3 hW2.out
    have q4 := cell_below p4 hW2.out
    have hck1 := Lib.hid (check_any wr _ l (hl.out.then hW2.out))
    have hck2 := Lib.hid (check_any wr _ m (hm.out.then hW2.out))
    rcases (show i = 0 ∨ i = 1 ∨ i = 2 by omega) with rfl | rfl | rfl
    · go_wp2_with (go_at_call 51; refine hck1.out.mono ?_; rintro e w1 ⟨rfl, hb⟩; rw [hE1.out]; replace hW2 := Lib.hid (bthen hW2.out hb))
      go_roundw
      case rel => exact ⟨1, by omega, rfl, hW2⟩
      case measure => simp [intOf]
    · go_wp2_with (go_at_call 51; refine hck2.out.mono ?_; rintro e w1 ⟨rfl, hb⟩; rw [hE2.out]; replace hW2 := Lib.hid (bthen hW2.out hb))
      go_roundw
      case rel => exact ⟨2, by omega, rfl, hW2⟩
      case measure => simp [intOf]
    · have hcl := Lib.hid (fun W' (hb : Below wr.heap.size wr W') => clonePt_any W' _ l (hl.out.then (bthen hW2.out hb)) (by omega))
      have q1' := fun (g : Gr wr) => Gr.cell q1 g
      go_wp2
      go_cut [9] from 34 (fun c9 wx => ∃ (Aa : Option Addr) (na ca : Nat), c9 = .slice Aa na ca ∧ Hid (Pts wx (.slice Aa na ca) (l ++ m)) ∧ Hid (Below wr.heap.size wr wx))
      case first =>
        have mixed : Try.prog.follows .mixedOrders = true := by kernel_rfl
        go_region_law_o
          (first
            | (go_simp; go_at_call 66; refine (hcl.out _ (drew_below wr)).mono ?_; rintro e w2 ⟨v2, rfl, ho2, hb2⟩; have q2 := cell_below q1 ((drew_below wr).trans hb2); obtain ⟨A3, n3, c3, rfl, hn3⟩ := OwnP.shape ho2; replace ho2 := Lib.hid ho2; have hb2 := Lib.hid ((drew_below wr).trans hb2))
            | (refine step_append_pts rfl (.tmp 35) (.tmp 36) 31 (by rfl) wr.heap.size Try.underlying31 info22 _ l rfl ho2.out _ rfl m (hm.out.then (bthen hW2.out hb2.out)) (by omega) hb2.out.size ?_; intro v' w' h1 h2; obtain ⟨A4, n4, c4, rfl, hn4⟩ := OwnP.shape h1; have h1 := Lib.hid (OwnP.pts h1); have h2 := Lib.hid h2))
        all_goals
          go_wp2
          go_meet
          exact ⟨_, _, _, rfl, h1, Lib.hid (hb2.out.trans h2.out)⟩
      case rest =>
        obtain ⟨Aa, na, ca, rfl, hp9, hb9⟩ := hcut
        have hst := Lib.hid (fun W' (hb : Below wc.heap.size wc W') => straight_any W' _ (l ++ m) (hp9.out.then hb) hok.out)
        have hb9 := Lib.hid (bthen hW2.out hb9.out)
        clear q1 q1' q3 q4 hcl
        go_wp2_with (go_at_call 67; refine (hst.out _ (Below.refl _ _)).mono ?_; rintro e w1 ⟨rfl, hb⟩; rw [hr.out]; unfold lineV; have hb10 := Lib.hid (bthen hb9.out hb); have r2 := (k2.out.then hb10.out); have f0 := r2.free 0; have f1 := r2.free 1; have f2 := r2.free 2; have f3 := r2.free 3; have e0 := r2.cell 0; have e1 := r2.cell 1; have e2 := r2.cell 2; have e3 := r2.cell 3; simp at e0 e1 e2 e3; replace r2 := Lib.hid r2)
        have r9 := Lib.hid (blk4_set r2.out (.int .i64 0) (.int .i64 0) (.int .i64 0) (.int .i64 0))
        have h9 := Lib.hid (below4_set (show Below M w w1 from hB.out.trans (hb10.out.mono (by omega))) (g := M + 1) (by omega) (.int .i64 0) (.int .i64 0) (.int .i64 0) (.int .i64 0))
        generalize (((w1.setCell ⟨M + 1, 0, none⟩ (.int .i64 0)).setCell ⟨M + 1, 1, none⟩ (.int .i64 0)).setCell ⟨M + 1, 2, none⟩ (.int .i64 0)).setCell ⟨M + 1, 3, none⟩ (.int .i64 0) = W9 at *
        exact ret34 r9.out ⟨rfl, h9.out⟩
end Go.Proofs.Ythnabheibacbcaa
