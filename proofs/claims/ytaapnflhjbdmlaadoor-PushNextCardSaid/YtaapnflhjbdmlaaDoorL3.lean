/- PushNext: the walk. No condition. -/
import Derived.Test.YtaapnflhjbdmlaaDoorLC
import Derived.Test.YtaapnflhjbdmlaaDoorB5
namespace Go.Proofs.YtaapnflhjbdmlaaDoor
open Go.RowKit Go.Shelf
attribute [local go_sem] Oper.semAt_some

theorem law_start2 {Y : World} {b8 b9 : Nat} {x y : Value} {x' y' : Value} (k8 : Blk Y b8 24 #[x, y]) (k9 : Blk Y b9 26 #[x', y']) (u0 u1 v0 v1 : Value) :
    Blk ((((Y.setCell ⟨b8, 0, none⟩ u0).setCell ⟨b8, 1, none⟩ u1).setCell ⟨b9, 0, none⟩ v0).setCell ⟨b9, 1, none⟩ v1) b8 24 #[u0, u1] ∧
    Blk ((((Y.setCell ⟨b8, 0, none⟩ u0).setCell ⟨b8, 1, none⟩ u1).setCell ⟨b9, 0, none⟩ v0).setCell ⟨b9, 1, none⟩ v1) b9 26 #[v0, v1] ∧
    BX [b8, b9] Y ((((Y.setCell ⟨b8, 0, none⟩ u0).setCell ⟨b8, 1, none⟩ u1).setCell ⟨b9, 0, none⟩ v0).setCell ⟨b9, 1, none⟩ v1) := by
  have n1 : b8 ≠ b9 := k8.ne_of k9 (by decide)
  have a8 := (k8.set 0 u0).set 1 u1
  have a9 := (((k9.far (p := ⟨b8, 0, none⟩) n1.symm u0).far (p := ⟨b8, 1, none⟩) n1.symm u1).set 0 v0).set 1 v1
  refine ⟨?_, a9, ((((BX.refl _ Y).set (by simp) u0).set (by simp) u1).set (by simp) v0).set (by simp) v1⟩
  exact (a8.far (p := ⟨b9, 0, none⟩) n1 v0).far (p := ⟨b9, 1, none⟩) n1 v1

set_option maxRecDepth 8000 in
set_option maxHeartbeats 8000000 in
theorem law3 (w : World) (C cx : Int) (v : Value) (l0 : List RuleB) (s0 : ByteArray) (h : Rls w v l0) (hs0 : s0.size ≤ 9223372036854775807) :
    Calls Tryd.prog 3 #[sv C v, cv ⟨cx, s0⟩] w fun e w' => e = .returned (.bool true) ∧ Below w.heap.size w w' := by
  obtain ⟨A, n, cap, rfl, hn⟩ := Els.shape h
  obtain ⟨W, hW⟩ : ∃ W, (w.alloc (.cells #[.int .i64 C, .slice A n cap] 24)).alloc (.cells #[.int .i64 cx, .string s0] 26) = W := ⟨_, rfl⟩
  have hBW : Below w.heap.size w W := by rw [← hW]; exact bthen (below1 _ _) (below1 _ _)
  have kS : Blk W w.heap.size 24 #[.int .i64 C, .slice A n cap] := by rw [← hW]; exact (Blk.new w 24 _).alloc _
  have kP : Blk W (w.heap.size + 1) 26 #[.int .i64 cx, .string s0] := by rw [← hW]; have := Blk.new (w.alloc (.cells #[.int .i64 C, .slice A n cap] 24)) 26 #[.int .i64 cx, .string s0]; rw [alloc_size] at this; exact this
  have c0 : ∀ g : Gr W, g.w1.cell? ⟨w.heap.size, 0, none⟩ = some (.int .i64 C) := fun g => g.cell (kS.cell 0)
  have c1 : ∀ g : Gr W, g.w1.cell? ⟨w.heap.size, 1, none⟩ = some (.slice A n cap) := fun g => g.cell (kS.cell 1)
  have c2 : ∀ g : Gr W, g.w1.cell? ⟨w.heap.size + 1, 0, none⟩ = some (.int .i64 cx) := fun g => g.cell (kP.cell 0)
  have c3 : ∀ g : Gr W, g.w1.cell? ⟨w.heap.size + 1, 1, none⟩ = some (.string s0) := fun g => g.cell (kP.cell 1)
  have hown := Lib.hid (fun g : Gr W => own_any g.w1 C _ l0 ((Els.then h hBW).then g.h))
  have hc1 := Lib.hid (fun g : Gr W => config_any g.w1 cx s0 hs0)
  replace hBW := Lib.hid hBW
  clear h kS kP
  go_enter Tryd.func3, Tryd.ntmps3
  go_wp2
  refine wp_region_rels 6 [false, true, false, true, true, true] [] (fun k h => if k = 1 then sv C (.slice h.A h.n h.cap) else if k = 3 then cv ⟨cx, cutP 21 s0⟩ else .pointer (some ⟨h.k, 0, none⟩))
    (fun k h w => if k = 1 then OwnE ElR 61 W.heap.size w (.slice h.A h.n h.cap) (ownR l0) else if k = 4 then W.heap.size ≤ h.k ∧ Blk w h.k 24 #[.int .i64 0, .slice none 0 0] else if k = 5 then W.heap.size ≤ h.k ∧ Blk w h.k 26 #[.int .i64 0, .string ⟨#[]⟩] else True) [false, false, false, false, true, true] (by kernel_rfl) (by kernel_rfl) ?_
  simp only [List.take_succ_cons, List.take_zero, List.drop_succ_cons, List.drop_zero]
  refine walkS_reads 1 _ _ _ _ (by kernel_rfl) (by kernel_rfl) (by simp) ?_
  simp only [List.take_succ_cons, List.take_zero, List.drop_succ_cons, List.drop_zero]
  repeat (go_big_quiet_step (fail))
  refine wpQuiet_nil ?_
  refine walkS_eff rfl (by kernel_rfl) (fun g hd => ?_) (fun h1 => ?_)
  · go_simp
    exact ⟨rfl, (hown.out g).mono (fun e w' ⟨v', h1, h2, h3⟩ => by
      obtain ⟨A5, n5, c5, rfl, _⟩ := OwnE.shape h2
      exact ⟨⟨A5, n5, c5, 0, 0, false⟩, h1, h3, h2.lo_le g.h.size, fun e => by cases e⟩)⟩
  go_frame
  refine walkS_reads 1 _ _ _ _ (by kernel_rfl) (by kernel_rfl) (by simp) ?_
  simp only [List.take_succ_cons, List.take_zero, List.drop_succ_cons, List.drop_zero]
  repeat (go_big_quiet_step (fail))
  refine wpQuiet_nil ?_
  refine walkS_eff rfl (by kernel_rfl) (fun g hd => ?_) (fun h4 => ?_)
  · go_simp
    exact ⟨rfl, (hc1.out g).mono (fun e w' ⟨h1, h3⟩ => ⟨default, h1, h3, trivial, fun e => by cases e⟩)⟩
  go_frame
  refine walkS_eff rfl (by kernel_rfl) (fun g hd => ?_) (fun h8 => ?_)
  · go_simp
    exact ⟨⟨none, 0, 0, g.w1.heap.size, 0, false⟩, rfl, below1 _ _, ⟨g.h.size, Blk.new _ _ _⟩, fun _ => ⟨Nat.le_refl _, by simp⟩⟩
  go_frame
  refine walkS_eff rfl (by kernel_rfl) (fun g hd => ?_) (fun h9 => ?_)
  · go_simp
    exact ⟨⟨none, 0, 0, g.w1.heap.size, 0, false⟩, rfl, below1 _ _, ⟨g.h.size, Blk.new _ _ _⟩, fun _ => ⟨Nat.le_refl _, by simp⟩⟩
  go_frame
  refine walkS_nil ?_
  rintro _ ⟨gY, rfl⟩ hK hS
  have ho1 := since_own (f := fun h => .slice h.A h.n h.cap) (by simpa using (hK 1 h1 rfl).1)
  obtain ⟨m8, k8⟩ := since_blk (t := 24) (cs := #[.int .i64 0, .slice none 0 0]) (by simpa using (hK 4 h8 rfl).1)
  obtain ⟨m9, k9⟩ := since_blk (t := 26) (cs := #[.int .i64 0, .string ⟨#[]⟩]) (by simpa using (hK 5 h9 rfl).1)
  clear hK hS
  obtain ⟨Y, hBY⟩ := gY
  obtain ⟨A1, n1, p1, _, _, _⟩ := h1
  obtain ⟨_, _, _, b8, _, _⟩ := h8
  obtain ⟨_, _, _, b9, _, _⟩ := h9
  dsimp only at *
  have y80 := k8.cell 0
  have y81 := k8.cell 1
  have y90 := k9.cell 0
  have y91 := k9.cell 1
  have f80 := k8.free 0
  have f81 := k8.free 1
  have f90 := k9.free 0
  have f91 := k9.free 1
  simp at y80 y81 y90 y91
  have hst := Lib.hid (law_start2 k8 k9 (.int .i64 C) (.slice A1 n1 p1) (.int .i64 cx) (.string (cutP 21 s0)))
  have n89 := k8.ne_of k9 (by decide)
  have hno : ∀ y ∈ [b8, b9], (Value.slice A1 n1 p1).ownBlock ≠ some y := by
    intro y hy
    simp only [List.mem_cons, List.not_mem_nil, or_false] at hy
    rcases hy with rfl | rfl
    · exact ho1.ne_blk k8 (by decide)
    · exact ho1.ne_blk k9 (by decide)
  replace hno := Lib.hid hno
  replace ho1 := Lib.hid ho1
  replace hBY := Lib.hid hBY
  have hlt8 := k8.lt
  have hlt9 := k9.lt
  clear k8 k9 c0 c1 c2 c3 hown hc1
  go_upto_region 2 with (fail)
  obtain ⟨Y2, hY2⟩ : ∃ Y2, (((Y.setCell ⟨b8, 0, none⟩ (.int .i64 C)).setCell ⟨b8, 1, none⟩ (.slice A1 n1 p1)).setCell ⟨b9, 0, none⟩ (.int .i64 cx)).setCell ⟨b9, 1, none⟩ (.string (cutP 21 s0)) = Y2 := ⟨_, rfl⟩
  rw [hY2] at hst ⊢
  obtain ⟨k8, k9, hbx⟩ := hst.out
  have ho2 := ho1.out.of_block fun g hg => hbx.block g (ho1.out.lt g hg).2 fun hm => hno.out g hm hg
  have hBY2 : Below W.heap.size W Y2 := hBY.out.trans (hbx.below hBY.out.size (by simp; omega))
  have hBw2 := Lib.hid (bthen hBW.out hBY2)
  have hlen := ownR_len l0
  have hput4 := Lib.hid (ownR_put l0)
  have hsz1 := cutP_size 21 s0
  have hWY := hBY2.size
  clear hY2 hst y80 y81 y90 y91 f80 f81 f90 f91 hbx hBY ho1 hBY2 hlt8 hlt9
  generalize ownR l0 = l at *
  generalize cutP 21 s0 = s at *
  have hl31 : l.length ≤ 31 := by omega
  clear hlen
  replace k8 := Lib.hid k8
  replace k9 := Lib.hid k9
  have hrl := Lib.hid (show Rls Y2 (.slice A1 n1 p1) l from ho2.els)
  clear ho2 hno
  have hcR := Lib.hid (checkR_any Y2 C _ l hrl.out (fun r hr => by have := hput4.out r hr; omega))
  have a0 : Y2.cell? ⟨b8, 0, none⟩ = some (.int .i64 C) := k8.out.cell 0
  have a1 : Y2.cell? ⟨b8, 1, none⟩ = some (.slice A1 n1 p1) := k8.out.cell 1
  have a2 : Y2.cell? ⟨b9, 0, none⟩ = some (.int .i64 cx) := k9.out.cell 0
  have a3 : Y2.cell? ⟨b9, 1, none⟩ = some (.string s) := k9.out.cell 1
  have hp1 := fun w' => Lib.hid (proper_any w' C (.slice A1 n1 p1) cx s (by omega) rfl)
  cases e1 : sysB C l with
  | false =>
    rw [e1] at hcR
    replace e1 := Lib.hid e1
    go_wp2_with (first
      | (go_at_call 10; refine hcR.out.mono ?_; rintro e w1 ⟨rfl, hb⟩; have hb := Lib.hid hb)
      | (go_at_call 12; refine (awake_any _).mono ?_; rintro e w9 ⟨rfl, hb9⟩; have hb9 := Lib.hid hb9))
    go_ret
    exact ⟨rfl, bthen hBw2.out (bthen hb.out hb9.out)⟩
  | true =>
  rw [e1] at hcR
  replace e1 := Lib.hid e1
  cases e2 : properB C ⟨cx, s⟩ with
  | false =>
    simp only [e2] at hp1
    replace e2 := Lib.hid e2
    go_wp2_with (first
      | (go_at_call 10; refine hcR.out.mono ?_; rintro e w1 ⟨rfl, hb⟩; replace a0 := cell_below a0 hb; replace a1 := cell_below a1 hb; replace a2 := cell_below a2 hb; replace a3 := cell_below a3 hb; have hb := Lib.hid hb)
      | (go_at_call 11; refine (hp1 _).out.mono ?_; rintro e w2 ⟨rfl, hb2⟩; have hb2 := Lib.hid hb2)
      | (go_at_call 12; refine (awake_any _).mono ?_; rintro e w9 ⟨rfl, hb9⟩; have hb9 := Lib.hid hb9))
    go_ret
    exact ⟨rfl, bthen hBw2.out (bthen hb.out (bthen hb2.out hb9.out))⟩
  | true =>
  simp only [e2] at hp1
  replace e2 := Lib.hid e2
  go_upto_region 4 with (first
      | (go_at_call 10; refine hcR.out.mono ?_; rintro e w1 ⟨rfl, hb⟩; replace a0 := cell_below a0 hb; replace a1 := cell_below a1 hb; replace a2 := cell_below a2 hb; replace a3 := cell_below a3 hb; have hb := Lib.hid hb)
      | (go_at_call 11; refine (hp1 _).out.mono ?_; clear hp1; rintro e w2 ⟨rfl, hb2⟩; have hb2 := Lib.hid hb2))
  have hb12 := bthen hb.out hb2.out
  replace k8 := Lib.hid (k8.out.below hb12 k8.out.lt)
  replace k9 := Lib.hid (k9.out.below hb12 k9.out.lt)
  replace hrl := Lib.hid (hrl.out.then hb12)
  replace hBw2 := Lib.hid (bthen hBw2.out hb12)
  clear hb hb2 hb12 hcR a0 a1 a2 a3
  have a0 : ∀ g : Gr w2, g.w1.cell? ⟨b8, 0, none⟩ = some (.int .i64 C) := fun g => g.cell (k8.out.cell 0)
  have a1 : ∀ g : Gr w2, g.w1.cell? ⟨b8, 1, none⟩ = some (.slice A1 n1 p1) := fun g => g.cell (k8.out.cell 1)
  have a2 : ∀ g : Gr w2, g.w1.cell? ⟨b9, 0, none⟩ = some (.int .i64 cx) := fun g => g.cell (k9.out.cell 0)
  have a3 : ∀ g : Gr w2, g.w1.cell? ⟨b9, 1, none⟩ = some (.string s) := fun g => g.cell (k9.out.cell 1)
  have hsy := Lib.hid (fun g : Gr w2 => system_any g.w1 C _ l (hrl.out.then g.h) (by omega))
  have hst := Lib.hid (fun g : Gr w2 => stack_any g.w1 cx s)
  have hcal := Lib.hid (fun (g : Gr w2) (v : Value) (hv : OwnE ElR 63 w2.heap.size g.w1 v l) => Next_all g.w1 C cx v l s hv.els e1.out e2.out)
  refine wp_region_rels 9 [false, true, false, true, true, false, false, false, false] [[], [], [], [], [1]] (fun kx h => if kx = 1 then sv C (.slice h.A h.n h.cap) else if kx = 3 then cv ⟨cx, s⟩ else (.tuple #[.slice h.A h.n h.cap, .int .i64 0]))
    (fun kx h w => if kx = 1 then OwnE ElR 63 w2.heap.size w (.slice h.A h.n h.cap) l else if kx = 4 then OwnE ElC 40 w2.heap.size w (.slice h.A h.n h.cap) (nextL l ⟨cx, s⟩) else True) [] (by kernel_rfl) (by kernel_rfl) ?_
  simp only [List.take_succ_cons, List.take_zero, List.drop_succ_cons, List.drop_zero]
  refine walkS_reads 1 _ _ _ _ (by kernel_rfl) (by kernel_rfl) (by simp) ?_
  simp only [List.take_succ_cons, List.take_zero, List.drop_succ_cons, List.drop_zero]
  repeat (go_big_quiet_step (fail))
  refine wpQuiet_nil ?_
  refine walkS_eff rfl (by kernel_rfl) (fun g hd => ?_) (fun h1 => ?_)
  · go_simp
    exact ⟨rfl, (hsy.out g).mono (fun e w' ⟨v', h1, h2, h3⟩ => by
      obtain ⟨A5, n5, c5, rfl, _⟩ := OwnE.shape h2
      exact ⟨⟨A5, n5, c5, 0, 0, false⟩, h1, h3, h2.lo_le g.h.size, fun e => by cases e⟩)⟩
  go_frame
  refine walkS_reads 1 _ _ _ _ (by kernel_rfl) (by kernel_rfl) (by simp) ?_
  simp only [List.take_succ_cons, List.take_zero, List.drop_succ_cons, List.drop_zero]
  repeat (go_big_quiet_step (fail))
  refine wpQuiet_nil ?_
  refine walkS_eff rfl (by kernel_rfl) (fun g hd => ?_) (fun h3 => ?_)
  · go_simp
    exact ⟨rfl, (hst.out g).mono (fun e w' ⟨h1, h3⟩ => ⟨default, h1, h3, trivial, fun e => by cases e⟩)⟩
  go_frame
  refine walkS_eff rfl (by kernel_rfl) (fun g hd => ?_) (fun h4 => ?_)
  · have hd1 := since_own (f := fun h => .slice h.A h.n h.cap) (by simpa using hd 1 (by simp) h1 rfl)
    go_simp
    exact ⟨rfl, (hcal.out g _ hd1).mono (fun e w' ⟨v', h1, h2, h3⟩ => by
      obtain ⟨A5, n5, c5, rfl, _⟩ := OwnE.shape h2
      exact ⟨⟨A5, n5, c5, 0, 0, false⟩, h1, h3, h2.lo_le g.h.size, fun e => by cases e⟩)⟩
  go_frame
  refine walkS_reads 4 _ _ _ _ (by kernel_rfl) (by kernel_rfl) (by simp) ?_
  simp only [List.take_succ_cons, List.take_zero, List.drop_succ_cons, List.drop_zero]
  repeat (go_big_quiet_step (fail))
  refine wpQuiet_nil ?_
  refine walkS_nil ?_
  rintro _ ⟨gY, rfl⟩ hK hS
  have hon := since_own (f := fun h => .slice h.A h.n h.cap) (by simpa using (hK 4 h4 rfl).1)
  obtain ⟨A3, n3, p3, _, _, _⟩ := h4
  clear a0 a1 a2 a3 hsy hst hcal
  obtain ⟨Y5, hY5⟩ := gY
  dsimp only at *
  replace k8 := Lib.hid (k8.out.below hY5 k8.out.lt)
  replace k9 := Lib.hid (k9.out.below hY5 k9.out.lt)
  replace hrl := Lib.hid (hrl.out.then hY5)
  replace hBw2 := Lib.hid (bthen hBw2.out hY5)
  have hn3 := Lib.hid (Els.len hon.els).1
  have hel := Lib.hid hon.els
  clear hon
  clear hK hS hY5
  have a0 : ∀ g : Gr Y5, g.w1.cell? ⟨b8, 0, none⟩ = some (.int .i64 C) := fun g => g.cell (k8.out.cell 0)
  have a1 : ∀ g : Gr Y5, g.w1.cell? ⟨b8, 1, none⟩ = some (.slice A1 n1 p1) := fun g => g.cell (k8.out.cell 1)
  have a2 : ∀ g : Gr Y5, g.w1.cell? ⟨b9, 0, none⟩ = some (.int .i64 cx) := fun g => g.cell (k9.out.cell 0)
  have a3 : ∀ g : Gr Y5, g.w1.cell? ⟨b9, 1, none⟩ = some (.string s) := fun g => g.cell (k9.out.cell 1)
  have hsy := Lib.hid (fun g : Gr Y5 => system_any g.w1 C _ l (hrl.out.then g.h) (by omega))
  have hst := Lib.hid (fun g : Gr Y5 => stack_any g.w1 cx s)
  have hcal := Lib.hid (fun (g : Gr Y5) (v : Value) (hv : OwnE ElR 63 Y5.heap.size g.w1 v l) => Endless_ok g.w1 C cx v l s hv.els (fun r hr => by have := hput4.out r hr; omega) (by omega) (allE_one e1.out e2.out))
  obtain ⟨EB, hEB⟩ : ∃ b, endlessB l cx s = b := ⟨_, rfl⟩
  rw [hEB] at hcal
  replace hEB := Lib.hid hEB
  go_upto_region 5 with (fail)
  refine wp_region_rels 9 [false, true, false, true, true, false, false, false, false] [[], [], [], [], [1]] (fun kx h => if kx = 1 then sv C (.slice h.A h.n h.cap) else if kx = 3 then cv ⟨cx, s⟩ else (.tuple #[.bool EB, .int .i64 0]))
    (fun kx h w => if kx = 1 then OwnE ElR 63 Y5.heap.size w (.slice h.A h.n h.cap) l else True) [] (by kernel_rfl) (by kernel_rfl) ?_
  simp only [List.take_succ_cons, List.take_zero, List.drop_succ_cons, List.drop_zero]
  refine walkS_reads 1 _ _ _ _ (by kernel_rfl) (by kernel_rfl) (by simp) ?_
  simp only [List.take_succ_cons, List.take_zero, List.drop_succ_cons, List.drop_zero]
  repeat (go_big_quiet_step (fail))
  refine wpQuiet_nil ?_
  refine walkS_eff rfl (by kernel_rfl) (fun g hd => ?_) (fun h1 => ?_)
  · go_simp
    exact ⟨rfl, (hsy.out g).mono (fun e w' ⟨v', h1, h2, h3⟩ => by
      obtain ⟨A5, n5, c5, rfl, _⟩ := OwnE.shape h2
      exact ⟨⟨A5, n5, c5, 0, 0, false⟩, h1, h3, h2.lo_le g.h.size, fun e => by cases e⟩)⟩
  go_frame
  refine walkS_reads 1 _ _ _ _ (by kernel_rfl) (by kernel_rfl) (by simp) ?_
  simp only [List.take_succ_cons, List.take_zero, List.drop_succ_cons, List.drop_zero]
  repeat (go_big_quiet_step (fail))
  refine wpQuiet_nil ?_
  refine walkS_eff rfl (by kernel_rfl) (fun g hd => ?_) (fun h3 => ?_)
  · go_simp
    exact ⟨rfl, (hst.out g).mono (fun e w' ⟨h1, h3⟩ => ⟨default, h1, h3, trivial, fun e => by cases e⟩)⟩
  go_frame
  refine walkS_eff rfl (by kernel_rfl) (fun g hd => ?_) (fun h4 => ?_)
  · have hd1 := since_own (f := fun h => .slice h.A h.n h.cap) (by simpa using hd 1 (by simp) h1 rfl)
    go_simp
    exact ⟨rfl, (hcal.out g _ hd1).mono (fun e w' ⟨h1, h3⟩ => ⟨default, h1, h3, trivial, fun e => by cases e⟩)⟩
  go_frame
  refine walkS_reads 4 _ _ _ _ (by kernel_rfl) (by kernel_rfl) (by simp) ?_
  simp only [List.take_succ_cons, List.take_zero, List.drop_succ_cons, List.drop_zero]
  repeat (go_big_quiet_step (fail))
  refine wpQuiet_nil ?_
  refine walkS_nil ?_
  rintro _ ⟨gY, rfl⟩ hK hS
  clear a0 a1 a2 a3 hsy hst hcal
  obtain ⟨Z, hZ⟩ := gY
  dsimp only at *
  replace k8 := Lib.hid (k8.out.below hZ k8.out.lt)
  replace k9 := Lib.hid (k9.out.below hZ k9.out.lt)
  replace hrl := Lib.hid (hrl.out.then hZ)
  replace hBw2 := Lib.hid (bthen hBw2.out hZ)
  replace hel := Lib.hid (hel.out.then hZ)
  clear hK hS hZ
  have hC0 := (sysB_iff.1 e1.out).1
  have hx0 : 0 ≤ cx := (properB_iff.1 e2.out).1
  obtain ⟨CN, rfl⟩ : ∃ m : Nat, C = m := ⟨C.toNat, by omega⟩
  obtain ⟨xN, rfl⟩ : ∃ m : Nat, cx = m := ⟨cx.toNat, by omega⟩
  clear hC0 hx0
  have hnr := Lib.hid (NextR_any Z CN xN _ l s hrl.out (put2 e1.out) (by omega) (by omega))
  have hen := Lib.hid (fun w' (hb : Below Z.heap.size Z w') => EndlessR_any w' CN xN _ l s (hrl.out.then hb) e1.out e2.out)
  simp only [hEB.out] at hen
  generalize nextL l ⟨xN, s⟩ = nl at *
  have a0 := k8.out.cell 0
  have a1 := k8.out.cell 1
  have a2 := k9.out.cell 0
  have a3 := k9.out.cell 1
  simp at a0 a1 a2 a3
  have hn3I : (n3 : Int) = nl.length := by rw [hn3.out]
  go_upto_region 7 with (go_at_call 17; refine hnr.out.mono ?_; clear hnr; rintro e w5 ⟨v5, rfl, ho5, hb5⟩; replace a0 := cell_below a0 hb5; replace a1 := cell_below a1 hb5; replace a2 := cell_below a2 hb5; replace a3 := cell_below a3 hb5; obtain ⟨A5, n5, p5, rfl, hn5⟩ := OwnE.shape ho5; have ho5 := Lib.hid ho5; have hb5 := Lib.hid hb5)
  replace hel := Lib.hid (hel.out.then hb5.out)
  replace hrl := Lib.hid (hrl.out.then hb5.out)
  replace hBw2 := Lib.hid (bthen hBw2.out hb5.out)
  have hew := Lib.hid ho5.out.els
  replace hen := Lib.hid (hen.out w5 hb5.out)
  have hn5I : (n5 : Int) = nl.length := by rw [hn5.out]
  have hnn : n3 = n5 := by omega
  subst hnn
  have hnl := Lib.hid (show n3 = nl.length by omega)
  have hmx : (n3 : Int) ≤ 9223372036854775807 := by
    have := Els.len hel.out
    unfold maxLen at this
    omega
  replace hn5 := Lib.hid hn5
  clear hn3I hn5I hb5 ho5 hn3
  cases EB
  all_goals go_upto_region 9 with (go_at_call 18; refine hen.out.mono ?_; rintro e w6 ⟨rfl, hb6⟩; have hb6 := Lib.hid hb6)
  all_goals
    clear a0 a1 a2 a3 hen
    replace hel := Lib.hid (hel.out.then hb6.out)
    replace hew := Lib.hid (hew.out.then hb6.out)
    replace hBw2 := Lib.hid (bthen hBw2.out hb6.out)
    go_wp2
    go_loopw [12] (fun c12 wp => ∃ k : Nat, k ≤ n3 ∧ c12 = .int .i64 (k : Int) ∧ Hid (Below w6.heap.size w6 wp)) (fun c _ => n3 - (intOf c).toNat)
    case atStart => exact ⟨0, Nat.zero_le _, rfl, Below.refl _ _⟩
    case round =>
      obtain ⟨k, hk, rfl, hBr⟩ := hrel
      by_cases hlt : k < n3
      case neg =>
        have hge : ¬ (k : Int) < n3 := by omega
        clear hlt hk
        go_wp2_with (go_at_call 12; refine (awake_any _).mono ?_; rintro e w9 ⟨rfl, hb9⟩; have hb9 := Lib.hid hb9)
        go_ret
        exact ⟨rfl, bthen hBw2.out (bthen hBr.out hb9.out)⟩
      have hltI : (k : Int) < (n3 : Int) := by omega
      have hltn : k < nl.length := by rw [← hnl.out]; exact hlt
      obtain ⟨eb, eo, rfl, hat⟩ := (hel.out.then hBr.out).cell (by omega)
      obtain ⟨fb, fo, rfl, hau⟩ := (hew.out.then hBr.out).cell (by omega)
      have z0 := hat k hltn 0 (.int .i64 nl[k].ctl) rfl
      have z1 := hat k hltn 1 (.string nl[k].st) rfl
      have y0 := hau k hltn 0 (.int .i64 nl[k].ctl) rfl
      have y1 := hau k hltn 1 (.string nl[k].st) rfl
      change wr.cell? ⟨eb, eo + k * 2, none⟩ = _ at z0
      change wr.cell? ⟨eb, eo + k * 2 + 1, none⟩ = _ at z1
      change wr.cell? ⟨fb, fo + k * 2, none⟩ = _ at y0
      change wr.cell? ⟨fb, fo + k * 2 + 1, none⟩ = _ at y1
      clear hat hau
      generalize nl[k] = nk at *
      obtain ⟨ux, us⟩ := nk
      dsimp only at z0 z1 y0 y1
      clear hltn
      go_wp2
      go_quiet (fail)
      go_wp2
      go_roundw
      case rel => exact ⟨k + 1, by omega, by go_num, below_drewN hBr.out _⟩
      case measure => simp [intOf]; omega
end Go.Proofs.YtaapnflhjbdmlaaDoor
