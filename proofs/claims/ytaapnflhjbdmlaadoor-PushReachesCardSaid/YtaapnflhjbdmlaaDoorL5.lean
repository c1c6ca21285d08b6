/- PushReaches: the walk. No condition. -/
import Derived.Test.YtaapnflhjbdmlaaDoorSC
namespace Go.Proofs.YtaapnflhjbdmlaaDoor
open Go.RowKit Go.Shelf
attribute [local go_sem] Oper.semAt_some

set_option maxRecDepth 8000 in
set_option maxHeartbeats 8000000 in
theorem law5 (w : World) (C cx dx : Int) (v : Value) (l0 : List RuleB) (s0 t0 : ByteArray) (h : Rls w v l0) (hs0 : s0.size ≤ 9223372036854775807) (ht0 : t0.size ≤ 9223372036854775807) :
    Calls Tryd.prog 5 #[sv C v, cv ⟨cx, s0⟩, cv ⟨dx, t0⟩] w fun e w' => e = .returned (.bool true) ∧ Below w.heap.size w w' := by
  obtain ⟨A, n, cap, rfl, hn⟩ := Els.shape h
  obtain ⟨W, hW⟩ : ∃ W, ((w.alloc (.cells #[.int .i64 C, .slice A n cap] 24)).alloc (.cells #[.int .i64 cx, .string s0] 26)).alloc (.cells #[.int .i64 dx, .string t0] 26) = W := ⟨_, rfl⟩
  have hBW : Below w.heap.size w W := by rw [← hW]; exact bthen (below1 _ _) (bthen (below1 _ _) (below1 _ _))
  have kS : Blk W w.heap.size 24 #[.int .i64 C, .slice A n cap] := by rw [← hW]; exact ((Blk.new w 24 _).alloc _).alloc _
  have kP : Blk W (w.heap.size + 1) 26 #[.int .i64 cx, .string s0] := by rw [← hW]; have := Blk.new (w.alloc (.cells #[.int .i64 C, .slice A n cap] 24)) 26 #[.int .i64 cx, .string s0]; rw [alloc_size] at this; exact this.alloc _
  have kQ : Blk W (w.heap.size + 1 + 1) 26 #[.int .i64 dx, .string t0] := by rw [← hW]; have := Blk.new ((w.alloc (.cells #[.int .i64 C, .slice A n cap] 24)).alloc (.cells #[.int .i64 cx, .string s0] 26)) 26 #[.int .i64 dx, .string t0]; rw [alloc_size, alloc_size] at this; exact this
  have c0 : ∀ g : Gr W, g.w1.cell? ⟨w.heap.size, 0, none⟩ = some (.int .i64 C) := fun g => g.cell (kS.cell 0)
  have c1 : ∀ g : Gr W, g.w1.cell? ⟨w.heap.size, 1, none⟩ = some (.slice A n cap) := fun g => g.cell (kS.cell 1)
  have c2 : ∀ g : Gr W, g.w1.cell? ⟨w.heap.size + 1, 0, none⟩ = some (.int .i64 cx) := fun g => g.cell (kP.cell 0)
  have c3 : ∀ g : Gr W, g.w1.cell? ⟨w.heap.size + 1, 1, none⟩ = some (.string s0) := fun g => g.cell (kP.cell 1)
  have c4 : ∀ g : Gr W, g.w1.cell? ⟨w.heap.size + 1 + 1, 0, none⟩ = some (.int .i64 dx) := fun g => g.cell (kQ.cell 0)
  have c5 : ∀ g : Gr W, g.w1.cell? ⟨w.heap.size + 1 + 1, 1, none⟩ = some (.string t0) := fun g => g.cell (kQ.cell 1)
  have hown := Lib.hid (fun g : Gr W => own_any g.w1 C _ l0 ((Els.then h hBW).then g.h))
  have hc1 := Lib.hid (fun g : Gr W => config_any g.w1 cx s0 hs0)
  have hc2 := Lib.hid (fun g : Gr W => config_any g.w1 dx t0 ht0)
  replace hBW := Lib.hid hBW
  clear h kS kP kQ
  go_enter Tryd.func5, Tryd.ntmps5
  go_wp2
  refine wp_region_rels 9 [false, true, false, true, false, true, true, true, true] [] (fun k h => if k = 1 then sv C (.slice h.A h.n h.cap) else if k = 3 then cv ⟨cx, cutP 21 s0⟩ else if k = 5 then cv ⟨dx, cutP 21 t0⟩ else .pointer (some ⟨h.k, 0, none⟩))
    (fun k h w => if k = 1 then OwnE ElR 61 W.heap.size w (.slice h.A h.n h.cap) (ownR l0) else if k = 6 then W.heap.size ≤ h.k ∧ Blk w h.k 24 #[.int .i64 0, .slice none 0 0] else if k = 7 ∨ k = 8 then W.heap.size ≤ h.k ∧ Blk w h.k 26 #[.int .i64 0, .string ⟨#[]⟩] else True) [false, false, false, false, false, false, true, true, true] (by kernel_rfl) (by kernel_rfl) ?_
  simp only [List.take_succ_cons, List.take_zero, List.drop_succ_cons, List.drop_zero]
  refine walkS_reads 1 _ _ _ _ (by kernel_rfl) (by kernel_rfl) (by simp) ?_
  simp only [List.take_succ_cons, List.take_zero, List.drop_succ_cons, List.drop_zero]
  repeat (go_big_quiet_step (fail))
  refine wpQuiet_nil ?_
  refine walkS_eff rfl (by kernel_rfl) (fun g hd => ?_) (fun h1 => ?_)
  · go_simp
    exact ⟨rfl, (hown.out g).mono (fun e w' ⟨v', h1, h2, h3⟩ => by
      obtain ⟨A5, n5, c5, rfl, _⟩ := OwnE.shape h2
      exact ⟨⟨A5, n5, c5, 0, 0, false⟩, h1, h3, h2.lo_le g.h.size, fun e => by cases e⟩)⟩
  go_frame
  refine walkS_reads 1 _ _ _ _ (by kernel_rfl) (by kernel_rfl) (by simp) ?_
  simp only [List.take_succ_cons, List.take_zero, List.drop_succ_cons, List.drop_zero]
  repeat (go_big_quiet_step (fail))
  refine wpQuiet_nil ?_
  refine walkS_eff rfl (by kernel_rfl) (fun g hd => ?_) (fun h4 => ?_)
  · go_simp
    exact ⟨rfl, (hc1.out g).mono (fun e w' ⟨h1, h3⟩ => ⟨default, h1, h3, trivial, fun e => by cases e⟩)⟩
  go_frame
  refine walkS_reads 1 _ _ _ _ (by kernel_rfl) (by kernel_rfl) (by simp) ?_
  simp only [List.take_succ_cons, List.take_zero, List.drop_succ_cons, List.drop_zero]
  repeat (go_big_quiet_step (fail))
  refine wpQuiet_nil ?_
  refine walkS_eff rfl (by kernel_rfl) (fun g hd => ?_) (fun h7 => ?_)
  · go_simp
    exact ⟨rfl, (hc2.out g).mono (fun e w' ⟨h1, h3⟩ => ⟨default, h1, h3, trivial, fun e => by cases e⟩)⟩
  go_frame
  refine walkS_eff rfl (by kernel_rfl) (fun g hd => ?_) (fun h8 => ?_)
  · go_simp
    exact ⟨⟨none, 0, 0, g.w1.heap.size, 0, false⟩, rfl, below1 _ _, ⟨g.h.size, Blk.new _ _ _⟩, fun _ => ⟨Nat.le_refl _, by simp⟩⟩
  go_frame
  refine walkS_eff rfl (by kernel_rfl) (fun g hd => ?_) (fun h9 => ?_)
  · go_simp
    exact ⟨⟨none, 0, 0, g.w1.heap.size, 0, false⟩, rfl, below1 _ _, ⟨g.h.size, Blk.new _ _ _⟩, fun _ => ⟨Nat.le_refl _, by simp⟩⟩
  go_frame
  refine walkS_eff rfl (by kernel_rfl) (fun g hd => ?_) (fun h10 => ?_)
  · go_simp
    exact ⟨⟨none, 0, 0, g.w1.heap.size, 0, false⟩, rfl, below1 _ _, ⟨g.h.size, Blk.new _ _ _⟩, fun _ => ⟨Nat.le_refl _, by simp⟩⟩
  go_frame
  refine walkS_nil ?_
  rintro _ ⟨gY, rfl⟩ hK hS
  have ho1 := since_own (f := fun h => .slice h.A h.n h.cap) (by simpa using (hK 1 h1 rfl).1)
  obtain ⟨m8, k8⟩ := since_blk (t := 24) (cs := #[.int .i64 0, .slice none 0 0]) (by simpa using (hK 6 h8 rfl).1)
  obtain ⟨m9, k9⟩ := since_blk (t := 26) (cs := #[.int .i64 0, .string ⟨#[]⟩]) (by simpa using (hK 7 h9 rfl).1)
  obtain ⟨m10, k10⟩ := since_blk (t := 26) (cs := #[.int .i64 0, .string ⟨#[]⟩]) (by simpa using (hK 8 h10 rfl).1)
  have hne := hS 7 8 h9 h10 (by decide) rfl rfl rfl rfl
  clear hK hS
  obtain ⟨Y, hBY⟩ := gY
  obtain ⟨A1, n1, p1, _, _, _⟩ := h1
  obtain ⟨_, _, _, b8, _, _⟩ := h8
  obtain ⟨_, _, _, b9, _, _⟩ := h9
  obtain ⟨_, _, _, b10, _, _⟩ := h10
  dsimp only at *
  have y80 := k8.cell 0
  have y81 := k8.cell 1
  have y90 := k9.cell 0
  have y91 := k9.cell 1
  have y100 := k10.cell 0
  have y101 := k10.cell 1
  have f80 := k8.free 0
  have f81 := k8.free 1
  have f90 := k9.free 0
  have f91 := k9.free 1
  have f100 := k10.free 0
  have f101 := k10.free 1
  simp at y80 y81 y90 y91 y100 y101
  have hst := Lib.hid (law_start k8 k9 k10 hne (.int .i64 C) (.slice A1 n1 p1) (.int .i64 cx) (.string (cutP 21 s0)) (.int .i64 dx) (.string (cutP 21 t0)))
  have n89 := k8.ne_of k9 (by decide)
  have n8a := k8.ne_of k10 (by decide)
  have hno : ∀ y ∈ [b8, b9, b10], (Value.slice A1 n1 p1).ownBlock ≠ some y := by
    intro y hy
    simp only [List.mem_cons, List.not_mem_nil, or_false] at hy
    rcases hy with rfl | rfl | rfl
    · exact ho1.ne_blk k8 (by decide)
    · exact ho1.ne_blk k9 (by decide)
    · exact ho1.ne_blk k10 (by decide)
  replace hno := Lib.hid hno
  replace ho1 := Lib.hid ho1
  replace hBY := Lib.hid hBY
  have hlt8 := k8.lt
  have hlt9 := k9.lt
  have hlt10 := k10.lt
  clear k8 k9 k10 c0 c1 c2 c3 c4 c5 hown hc1 hc2
  go_upto_region 2 with (fail)
  obtain ⟨Y2, hY2⟩ : ∃ Y2, (((((Y.setCell ⟨b8, 0, none⟩ (.int .i64 C)).setCell ⟨b8, 1, none⟩ (.slice A1 n1 p1)).setCell ⟨b9, 0, none⟩ (.int .i64 cx)).setCell ⟨b9, 1, none⟩ (.string (cutP 21 s0))).setCell ⟨b10, 0, none⟩ (.int .i64 dx)).setCell ⟨b10, 1, none⟩ (.string (cutP 21 t0)) = Y2 := ⟨_, rfl⟩
  rw [hY2] at hst ⊢
  obtain ⟨k8, k9, k10, hbx⟩ := hst.out
  have ho2 := ho1.out.of_block fun g hg => hbx.block g (ho1.out.lt g hg).2 fun hm => hno.out g hm hg
  have hBY2 : Below W.heap.size W Y2 := hBY.out.trans (hbx.below hBY.out.size (by simp; omega))
  have hBw2 := Lib.hid (bthen hBW.out hBY2)
  have hlen := ownR_len l0
  have hput4 := Lib.hid (ownR_put l0)
  have hsz1 := cutP_size 21 s0
  have hsz2 := cutP_size 21 t0
  have hWY := hBY2.size
  clear hY2 hst y80 y81 y90 y91 y100 y101 f80 f81 f90 f91 f100 f101 hbx hBY ho1 hBY2 hlt8 hlt9 hlt10
  generalize ownR l0 = l at *
  generalize cutP 21 s0 = s at *
  generalize cutP 21 t0 = t at *
  have hl31 : l.length ≤ 31 := by omega
  clear hlen
  replace k8 := Lib.hid k8
  replace k9 := Lib.hid k9
  replace k10 := Lib.hid k10
  replace ho2 := Lib.hid ho2
  have hrl := Lib.hid (show Rls Y2 (.slice A1 n1 p1) l from ho2.out.els)
  clear ho2 hno
  have hcR := Lib.hid (checkR_any Y2 C _ l hrl.out (fun r hr => by have := hput4.out r hr; omega))
  have a0 : Y2.cell? ⟨b8, 0, none⟩ = some (.int .i64 C) := k8.out.cell 0
  have a1 : Y2.cell? ⟨b8, 1, none⟩ = some (.slice A1 n1 p1) := k8.out.cell 1
  have a2 : Y2.cell? ⟨b9, 0, none⟩ = some (.int .i64 cx) := k9.out.cell 0
  have a3 : Y2.cell? ⟨b9, 1, none⟩ = some (.string s) := k9.out.cell 1
  have a4 : Y2.cell? ⟨b10, 0, none⟩ = some (.int .i64 dx) := k10.out.cell 0
  have a5 : Y2.cell? ⟨b10, 1, none⟩ = some (.string t) := k10.out.cell 1
  have hp1 := fun w' => Lib.hid (proper_any w' C (.slice A1 n1 p1) cx s (by omega) rfl)
  have hp2 := fun w' => Lib.hid (proper_any w' C (.slice A1 n1 p1) dx t (by omega) rfl)
  cases e1 : sysB C l with
  | false =>
    rw [e1] at hcR
    replace e1 := Lib.hid e1
    go_wp2_with (first
      | (go_at_call 10; refine hcR.out.mono ?_; rintro e w1 ⟨rfl, hb⟩; have hb := Lib.hid hb)
      | (go_at_call 12; refine (awake_any _).mono ?_; rintro e w9 ⟨rfl, hb9⟩; have hb9 := Lib.hid hb9))
    go_ret
    exact ⟨rfl, bthen hBw2.out (bthen hb.out hb9.out)⟩
  | true =>
  rw [e1] at hcR
  replace e1 := Lib.hid e1
  cases e2 : properB C ⟨cx, s⟩ with
  | false =>
    simp only [e2] at hp1
    replace e2 := Lib.hid e2
    go_wp2_with (first
      | (go_at_call 10; refine hcR.out.mono ?_; rintro e w1 ⟨rfl, hb⟩; replace a0 := cell_below a0 hb; replace a1 := cell_below a1 hb; replace a2 := cell_below a2 hb; replace a3 := cell_below a3 hb; have hb := Lib.hid hb)
      | (go_at_call 11; refine (hp1 _).out.mono ?_; rintro e w2 ⟨rfl, hb2⟩; have hb2 := Lib.hid hb2)
      | (go_at_call 12; refine (awake_any _).mono ?_; rintro e w9 ⟨rfl, hb9⟩; have hb9 := Lib.hid hb9))
    go_ret
    exact ⟨rfl, bthen hBw2.out (bthen hb.out (bthen hb2.out hb9.out))⟩
  | true =>
  simp only [e2] at hp1
  replace e2 := Lib.hid e2
  cases e3 : properB C ⟨dx, t⟩ with
  | false =>
    simp only [e3] at hp2
    replace e3 := Lib.hid e3
    go_wp2_with (first
      | (go_at_call 10; refine hcR.out.mono ?_; rintro e w1 ⟨rfl, hb⟩; replace a0 := cell_below a0 hb; replace a1 := cell_below a1 hb; replace a2 := cell_below a2 hb; replace a3 := cell_below a3 hb; replace a4 := cell_below a4 hb; replace a5 := cell_below a5 hb; have hb := Lib.hid hb)
      | (go_at_call 11; refine (hp1 _).out.mono ?_; clear hp1; rintro e w2 ⟨rfl, hb2⟩; replace a0 := cell_below a0 hb2; replace a1 := cell_below a1 hb2; replace a4 := cell_below a4 hb2; replace a5 := cell_below a5 hb2; have hb2 := Lib.hid hb2)
      | (go_at_call 11; refine (hp2 _).out.mono ?_; rintro e w3 ⟨rfl, hb3⟩; have hb3 := Lib.hid hb3)
      | (go_at_call 12; refine (awake_any _).mono ?_; rintro e w9 ⟨rfl, hb9⟩; have hb9 := Lib.hid hb9))
    go_ret
    exact ⟨rfl, bthen hBw2.out (bthen hb.out (bthen hb2.out (bthen hb3.out hb9.out)))⟩
  | true =>
  simp only [e3] at hp2
  replace e3 := Lib.hid e3
  go_upto_region 4 with (first
      | (go_at_call 10; refine hcR.out.mono ?_; rintro e w1 ⟨rfl, hb⟩; replace a0 := cell_below a0 hb; replace a1 := cell_below a1 hb; replace a2 := cell_below a2 hb; replace a3 := cell_below a3 hb; replace a4 := cell_below a4 hb; replace a5 := cell_below a5 hb; have hb := Lib.hid hb)
      | (go_at_call 11; refine (hp1 _).out.mono ?_; clear hp1; rintro e w2 ⟨rfl, hb2⟩; replace a0 := cell_below a0 hb2; replace a1 := cell_below a1 hb2; replace a4 := cell_below a4 hb2; replace a5 := cell_below a5 hb2; have hb2 := Lib.hid hb2)
      | (go_at_call 11; refine (hp2 _).out.mono ?_; clear hp2; rintro e w3 ⟨rfl, hb3⟩; replace a0 := cell_below a0 hb3; replace a1 := cell_below a1 hb3; have hb3 := Lib.hid hb3))
  have hb123 := bthen hb.out (bthen hb2.out hb3.out)
  replace k8 := Lib.hid (k8.out.below hb123 k8.out.lt)
  replace k9 := Lib.hid (k9.out.below hb123 k9.out.lt)
  replace k10 := Lib.hid (k10.out.below hb123 k10.out.lt)
  replace hrl := Lib.hid (hrl.out.then hb123)
  replace hBw2 := Lib.hid (bthen hBw2.out hb123)
  clear hb hb2 hb3 hb123 hcR a2 a3 a4 a5
  have hsy := Lib.hid (system_any w3 C _ l hrl.out (by omega))
  go_upto_region 5 with (go_at_call 14; refine hsy.out.mono ?_; clear hsy; rintro e w4 ⟨v4, rfl, ho4, hb4⟩; obtain ⟨A2, n2, p2, rfl, _⟩ := OwnE.shape ho4; have ho4 := Lib.hid ho4; have hb4 := Lib.hid hb4)
  obtain ⟨Z, hZ⟩ : ∃ Z, w4.alloc (.cells #[.int .i64 C, .slice A2 n2 p2] 38) = Z := ⟨_, rfl⟩
  obtain ⟨b11, hb11⟩ : ∃ b, w4.heap.size = b := ⟨_, rfl⟩
  have hb4Z : Below w4.heap.size w4 Z := by rw [← hZ]; exact below1 _ _
  have k11 := Lib.hid (show Blk Z b11 38 #[.int .i64 C, .slice A2 n2 p2] by rw [← hZ, ← hb11]; exact Blk.new _ _ _)
  have hom := Lib.hid (ho4.out.then hb4Z)
  have hrm := Lib.hid (show Rls Z (.slice A2 n2 p2) l from hom.out.els)
  have hb3Z := bthen hb4.out hb4Z
  replace k8 := Lib.hid (k8.out.below hb3Z k8.out.lt)
  replace k9 := Lib.hid (k9.out.below hb3Z k9.out.lt)
  replace k10 := Lib.hid (k10.out.below hb3Z k10.out.lt)
  replace hrl := Lib.hid (hrl.out.then hb3Z)
  replace hBw2 := Lib.hid (bthen hBw2.out hb3Z)
  rw [hZ, hb11]
  clear hZ hb11 hb4Z hb3Z hb4 ho4 a0 a1
  have hst1 := Lib.hid (fun g : Gr Z => stack_any g.w1 cx s)
  have hst2 := Lib.hid (fun g : Gr Z => stack_any g.w1 dx t)
  have hcal := Lib.hid (fun g : Gr Z => Reaches_any g.w1 C cx dx _ l s t (hrm.out.then g.h) (fun r hr => by have := hput4.out r hr; omega) (by omega) (by omega))
  obtain ⟨RB, hRB⟩ : ∃ b, reachB l cx s dx t = b := ⟨_, rfl⟩
  simp only [hRB, allE_zero e1.out e2.out e3.out, decide_true, Bool.true_and] at hcal
  replace hRB := Lib.hid hRB
  have a2 : ∀ g : Gr Z, g.w1.cell? ⟨b9, 0, none⟩ = some (.int .i64 cx) := fun g => g.cell (k9.out.cell 0)
  have a3 : ∀ g : Gr Z, g.w1.cell? ⟨b9, 1, none⟩ = some (.string s) := fun g => g.cell (k9.out.cell 1)
  have a4 : ∀ g : Gr Z, g.w1.cell? ⟨b10, 0, none⟩ = some (.int .i64 dx) := fun g => g.cell (k10.out.cell 0)
  have a5 : ∀ g : Gr Z, g.w1.cell? ⟨b10, 1, none⟩ = some (.string t) := fun g => g.cell (k10.out.cell 1)
  have a6 : ∀ g : Gr Z, g.w1.cell? ⟨b11, 0, none⟩ = some (.int .i64 C) := fun g => g.cell (k11.out.cell 0)
  have a7 : ∀ g : Gr Z, g.w1.cell? ⟨b11, 1, none⟩ = some (.slice A2 n2 p2) := fun g => g.cell (k11.out.cell 1)
  refine wp_region_rels 10 [false, false, true, false, true, true, false, false, false, false] [] (fun kx h => if kx = 2 then cv ⟨cx, s⟩ else if kx = 4 then cv ⟨dx, t⟩ else (.tuple #[.bool RB, .int .i64 0]))
    (fun kx h w => True) [] (by kernel_rfl) (by kernel_rfl) ?_
  simp only [List.take_succ_cons, List.take_zero, List.drop_succ_cons, List.drop_zero]
  refine walkS_reads 2 _ _ _ _ (by kernel_rfl) (by kernel_rfl) (by simp) ?_
  simp only [List.take_succ_cons, List.take_zero, List.drop_succ_cons, List.drop_zero]
  repeat (go_big_quiet_step (fail))
  refine wpQuiet_nil ?_
  refine walkS_eff rfl (by kernel_rfl) (fun g hd => ?_) (fun h2 => ?_)
  · go_simp
    exact ⟨rfl, (hst1.out g).mono (fun e w' ⟨h1, h3⟩ => ⟨default, h1, h3, trivial, fun e => by cases e⟩)⟩
  go_frame
  refine walkS_reads 1 _ _ _ _ (by kernel_rfl) (by kernel_rfl) (by simp) ?_
  simp only [List.take_succ_cons, List.take_zero, List.drop_succ_cons, List.drop_zero]
  repeat (go_big_quiet_step (fail))
  refine wpQuiet_nil ?_
  refine walkS_eff rfl (by kernel_rfl) (fun g hd => ?_) (fun h4 => ?_)
  · go_simp
    exact ⟨rfl, (hst2.out g).mono (fun e w' ⟨h1, h3⟩ => ⟨default, h1, h3, trivial, fun e => by cases e⟩)⟩
  go_frame
  refine walkS_eff rfl (by kernel_rfl) (fun g hd => ?_) (fun h5 => ?_)
  · go_simp
    exact ⟨rfl, (hcal.out g).mono (fun e w' ⟨h1, h3⟩ => ⟨default, h1, h3, trivial, fun e => by cases e⟩)⟩
  go_frame
  refine walkS_reads 4 _ _ _ _ (by kernel_rfl) (by kernel_rfl) (by simp) ?_
  simp only [List.take_succ_cons, List.take_zero, List.drop_succ_cons, List.drop_zero]
  repeat (go_big_quiet_step (fail))
  refine wpQuiet_nil ?_
  refine walkS_nil ?_
  rintro _ ⟨gY, rfl⟩ hK hS
  clear hst1 hst2 hcal
  clear a2 a3 a4 a5 a6 a7
  obtain ⟨Y5, hY5⟩ := gY
  dsimp only at *
  replace k8 := Lib.hid (k8.out.below hY5 k8.out.lt)
  replace k9 := Lib.hid (k9.out.below hY5 k9.out.lt)
  replace k10 := Lib.hid (k10.out.below hY5 k10.out.lt)
  replace k11 := Lib.hid (k11.out.below hY5 k11.out.lt)
  replace hrl := Lib.hid (hrl.out.then hY5)
  replace hrm := Lib.hid (hrm.out.then hY5)
  replace hBw2 := Lib.hid (bthen hBw2.out hY5)
  clear hK hS hY5
  have hst1 := Lib.hid (fun g : Gr Y5 => stack_any g.w1 cx s)
  have hst2 := Lib.hid (fun g : Gr Y5 => stack_any g.w1 dx t)
  have hrun := Lib.hid (fun g : Gr Y5 => Run_any g.w1 C cx dx _ l s t (hrm.out.then g.h) (fun r hr => by have := hput4.out r hr; omega) (by omega) (by omega) (allE_zero e1.out e2.out e3.out))
  go_upto_region 6 with (fail)
  have a2 : ∀ g : Gr Y5, g.w1.cell? ⟨b9, 0, none⟩ = some (.int .i64 cx) := fun g => g.cell (k9.out.cell 0)
  have a3 : ∀ g : Gr Y5, g.w1.cell? ⟨b9, 1, none⟩ = some (.string s) := fun g => g.cell (k9.out.cell 1)
  have a4 : ∀ g : Gr Y5, g.w1.cell? ⟨b10, 0, none⟩ = some (.int .i64 dx) := fun g => g.cell (k10.out.cell 0)
  have a5 : ∀ g : Gr Y5, g.w1.cell? ⟨b10, 1, none⟩ = some (.string t) := fun g => g.cell (k10.out.cell 1)
  have a6 : ∀ g : Gr Y5, g.w1.cell? ⟨b11, 0, none⟩ = some (.int .i64 C) := fun g => g.cell (k11.out.cell 0)
  have a7 : ∀ g : Gr Y5, g.w1.cell? ⟨b11, 1, none⟩ = some (.slice A2 n2 p2) := fun g => g.cell (k11.out.cell 1)
  refine wp_region_rels 12 [false, false, true, false, true, true, false, false, false, false, false, false] [] (fun kx h => if kx = 2 then cv ⟨cx, s⟩ else if kx = 4 then cv ⟨dx, t⟩ else runV h)
    (fun kx h w => if kx = 5 then RunRes l cx s dx t Y5.heap.size (.returned (runV h)) w else True) [] (by kernel_rfl) (by kernel_rfl) ?_
  simp only [List.take_succ_cons, List.take_zero, List.drop_succ_cons, List.drop_zero]
  refine walkS_reads 2 _ _ _ _ (by kernel_rfl) (by kernel_rfl) (by simp) ?_
  simp only [List.take_succ_cons, List.take_zero, List.drop_succ_cons, List.drop_zero]
  repeat (go_big_quiet_step (fail))
  refine wpQuiet_nil ?_
  refine walkS_eff rfl (by kernel_rfl) (fun g hd => ?_) (fun h2 => ?_)
  · go_simp
    exact ⟨rfl, (hst1.out g).mono (fun e w' ⟨h1, h3⟩ => ⟨default, h1, h3, trivial, fun e => by cases e⟩)⟩
  go_frame
  refine walkS_reads 1 _ _ _ _ (by kernel_rfl) (by kernel_rfl) (by simp) ?_
  simp only [List.take_succ_cons, List.take_zero, List.drop_succ_cons, List.drop_zero]
  repeat (go_big_quiet_step (fail))
  refine wpQuiet_nil ?_
  refine walkS_eff rfl (by kernel_rfl) (fun g hd => ?_) (fun h4 => ?_)
  · go_simp
    exact ⟨rfl, (hst2.out g).mono (fun e w' ⟨h1, h3⟩ => ⟨default, h1, h3, trivial, fun e => by cases e⟩)⟩
  go_frame
  refine walkS_eff rfl (by kernel_rfl) (fun g hd => ?_) (fun h5 => ?_)
  · go_simp
    exact ⟨rfl, (hrun.out g).mono (fun e w' ⟨h1, h3⟩ => by
      obtain ⟨q, rfl, h2⟩ := run_hole h1 g.h.size
      exact ⟨q, rfl, h3, h2, fun e => by cases e⟩)⟩
  go_frame
  refine walkS_reads 6 _ _ _ _ (by kernel_rfl) (by kernel_rfl) (by simp) ?_
  simp only [List.take_succ_cons, List.take_zero, List.drop_succ_cons, List.drop_zero]
  repeat (go_big_quiet_step (fail))
  refine wpQuiet_nil ?_
  refine walkS_nil ?_
  rintro _ ⟨gY, rfl⟩ hK hS
  have hres := since_run (by simpa using (hK 5 h5 rfl).1)
  clear hst1 hst2 hrun
  obtain ⟨A3, n3, p3, _, q3, o3⟩ := h5
  clear a2 a3 a4 a5 a6 a7
  obtain ⟨Y, hY⟩ := gY
  dsimp only at *
  replace k8 := Lib.hid (k8.out.below hY k8.out.lt)
  replace k9 := Lib.hid (k9.out.below hY k9.out.lt)
  replace k10 := Lib.hid (k10.out.below hY k10.out.lt)
  replace k11 := Lib.hid (k11.out.below hY k11.out.lt)
  replace hrl := Lib.hid (hrl.out.then hY)
  replace hrm := Lib.hid (hrm.out.then hY)
  replace hBw2 := Lib.hid (bthen hBw2.out hY)
  clear hK hS hY
  have hC0 := (sysB_iff.1 e1.out).1
  have hx0 : 0 ≤ cx := (properB_iff.1 e2.out).1
  have hy0 : 0 ≤ dx := (properB_iff.1 e3.out).1
  obtain ⟨CN, rfl⟩ : ∃ m : Nat, C = m := ⟨C.toNat, by omega⟩
  obtain ⟨xN, rfl⟩ : ∃ m : Nat, cx = m := ⟨cx.toNat, by omega⟩
  obtain ⟨yN, rfl⟩ : ∃ m : Nat, dx = m := ⟨dx.toNat, by omega⟩
  clear hC0 hx0 hy0
  have hstp := Lib.hid (Steps_any Y CN xN yN _ l s t hrl.out e1.out e2.out e3.out)
  have a0 : Y.cell? ⟨b8, 0, none⟩ = some (.int .i64 CN) := k8.out.cell 0
  have a1 : Y.cell? ⟨b8, 1, none⟩ = some (.slice A1 n1 p1) := k8.out.cell 1
  have a2 : Y.cell? ⟨b9, 0, none⟩ = some (.int .i64 xN) := k9.out.cell 0
  have a3 : Y.cell? ⟨b9, 1, none⟩ = some (.string s) := k9.out.cell 1
  have a4 : Y.cell? ⟨b10, 0, none⟩ = some (.int .i64 yN) := k10.out.cell 0
  have a5 : Y.cell? ⟨b10, 1, none⟩ = some (.string t) := k10.out.cell 1
  replace hres := Lib.hid hres
  go_upto_region 8 with (go_at_call 21; refine hstp.out.mono ?_; rintro e w7 ⟨K, rfl, hSN, hb7⟩; have hSN := Lib.hid hSN; have hb7 := Lib.hid hb7)
  clear a0 a1 a2 a3 a4 a5 hstp
  replace hres := hres.out
  replace k8 := Lib.hid (k8.out.below hb7.out k8.out.lt)
  replace k9 := Lib.hid (k9.out.below hb7.out k9.out.lt)
  replace k10 := Lib.hid (k10.out.below hb7.out k10.out.lt)
  replace k11 := Lib.hid (k11.out.below hb7.out k11.out.lt)
  replace hrl := Lib.hid (hrl.out.then hb7.out)
  replace hrm := Lib.hid (hrm.out.then hb7.out)
  replace hBw2 := Lib.hid (bthen hBw2.out hb7.out)
  obtain ⟨hN1, hN2, hN3, hN4⟩ := hSN.out
  rcases run_cases hres with ⟨hno, rfl, rfl, rfl, rfl, rfl⟩ | ⟨hre, hlong, rfl, rfl, rfl, rfl, rfl⟩ | ⟨rs, hsteps, hlen, rfl, rfl, ho⟩
  · have hKf : ¬ K < 1073741824 := fun h => hno (hN1.1 h)
    have hR0 : RB = false := by
      have := hRB.out
      cases hb : RB with
      | false => rfl
      | true => rw [hb] at this; exact absurd (reachB_iff.1 this) hno
    subst hR0
    have hKd : decide (K < 1073741824) = false := by simpa using hKf
    rw [hKd]
    clear hno hN1 hN2 hres hRB hKd
    go_wp2_with (go_at_call 12; refine (awake_any _).mono ?_; rintro e w9 ⟨rfl, hb9⟩; have hb9 := Lib.hid hb9)
    go_ret
    exact ⟨rfl, bthen hBw2.out hb9.out⟩
  · have hKf : K < 1073741824 := hN1.2 hre
    have hR0 : RB = true := by rw [← hRB.out]; exact reachB_iff.2 hre
    subst hR0
    have hK1 : 1000 < K := by
      rcases Int.lt_or_le 1000 K with h | h
      · exact h
      · obtain ⟨n, h1, h2⟩ := hN2.1 h
        have := hlong n h1
        omega
    have hKd : decide (K < 1073741824) = true := by simpa using hKf
    rw [hKd]
    clear hre hlong hN1 hN2 hres hRB hKd
    go_wp2_with (go_at_call 12; refine (awake_any _).mono ?_; rintro e w9 ⟨rfl, hb9⟩; have hb9 := Lib.hid hb9)
    go_ret
    exact ⟨rfl, bthen hBw2.out hb9.out⟩
  have hKf : K < 1073741824 := hN1.2 ⟨rs, hsteps⟩
  have hR0 : RB = true := by rw [← hRB.out]; exact reachB_iff.2 ⟨rs, hsteps⟩
  subst hR0
  have hK1 : ¬ 1000 < K := by have := hN2.2 ⟨rs, hsteps, hlen⟩; omega
  have hKd : decide (K < 1073741824) = true := by simpa using hKf
  rw [hKd]
  have hval := isRunB_of hsteps hlen
  have hrk := els_ints (ho.then hb7.out).els
  have hrk := Lib.hid hrk
  clear hN1 hN2 hres hRB hKd hsteps hlen ho
  have hisR := Lib.hid (fun g : Gr w7 => IsRunR_any g.w1 CN xN yN _ _ l s t _ (hrl.out.then g.h) (hrk.out.below (Nat.le_refl _) g.h) (put2 e1.out) (by omega))
  have hisr := Lib.hid (fun g : Gr w7 => IsRun_any g.w1 CN xN yN _ _ l s t _ (hrm.out.then g.h) (hrk.out.below (Nat.le_refl _) g.h) (fun r hr => by have := hput4.out r hr; omega) (by omega) (by omega))
  simp only [hval, allE_zero e1.out e2.out e3.out, decide_true, Bool.true_and, Bool.and_true] at hisR hisr
  clear hval
  have hst1 := Lib.hid (fun g : Gr w7 => stack_any g.w1 xN s)
  have hst2 := Lib.hid (fun g : Gr w7 => stack_any g.w1 yN t)
  go_upto_region 14 with (fail)
  have a0 : ∀ g : Gr w7, g.w1.cell? ⟨b8, 0, none⟩ = some (.int .i64 CN) := fun g => g.cell (k8.out.cell 0)
  have a1 : ∀ g : Gr w7, g.w1.cell? ⟨b8, 1, none⟩ = some (.slice A1 n1 p1) := fun g => g.cell (k8.out.cell 1)
  have a2 : ∀ g : Gr w7, g.w1.cell? ⟨b9, 0, none⟩ = some (.int .i64 xN) := fun g => g.cell (k9.out.cell 0)
  have a3 : ∀ g : Gr w7, g.w1.cell? ⟨b9, 1, none⟩ = some (.string s) := fun g => g.cell (k9.out.cell 1)
  have a4 : ∀ g : Gr w7, g.w1.cell? ⟨b10, 0, none⟩ = some (.int .i64 yN) := fun g => g.cell (k10.out.cell 0)
  have a5 : ∀ g : Gr w7, g.w1.cell? ⟨b10, 1, none⟩ = some (.string t) := fun g => g.cell (k10.out.cell 1)
  have a6 : ∀ g : Gr w7, g.w1.cell? ⟨b11, 0, none⟩ = some (.int .i64 CN) := fun g => g.cell (k11.out.cell 0)
  have a7 : ∀ g : Gr w7, g.w1.cell? ⟨b11, 1, none⟩ = some (.slice A2 n2 p2) := fun g => g.cell (k11.out.cell 1)
  refine wp_region_rels 24 [false, false, false, false, false, false, false, false, false, false, true, false, false, false, false, true, false, true, false, true, false, false, true, false] [] (fun kx h => if kx = 10 then .bool true else if kx = 15 then cv ⟨xN, s⟩ else if kx = 17 then cv ⟨yN, t⟩ else if kx = 19 then .bool true else .bool true)
    (fun kx h w => True) [] (by kernel_rfl) (by kernel_rfl) ?_
  simp only [List.take_succ_cons, List.take_zero, List.drop_succ_cons, List.drop_zero]
  refine walkS_reads 10 _ _ _ _ (by kernel_rfl) (by kernel_rfl) (by simp) ?_
  simp only [List.take_succ_cons, List.take_zero, List.drop_succ_cons, List.drop_zero]
  repeat (go_big_quiet_step (fail))
  refine wpQuiet_nil ?_
  refine walkS_eff rfl (by kernel_rfl) (fun g hd => ?_) (fun h10 => ?_)
  · go_simp
    exact ⟨rfl, (hisR.out g).mono (fun e w' ⟨h1, h3⟩ => ⟨default, h1, h3, trivial, fun e => by cases e⟩)⟩
  go_frame
  refine walkS_reads 4 _ _ _ _ (by kernel_rfl) (by kernel_rfl) (by simp) ?_
  simp only [List.take_succ_cons, List.take_zero, List.drop_succ_cons, List.drop_zero]
  repeat (go_big_quiet_step (fail))
  refine wpQuiet_nil ?_
  refine walkS_eff rfl (by kernel_rfl) (fun g hd => ?_) (fun h15 => ?_)
  · go_simp
    exact ⟨rfl, (hst1.out g).mono (fun e w' ⟨h1, h3⟩ => ⟨default, h1, h3, trivial, fun e => by cases e⟩)⟩
  go_frame
  refine walkS_reads 1 _ _ _ _ (by kernel_rfl) (by kernel_rfl) (by simp) ?_
  simp only [List.take_succ_cons, List.take_zero, List.drop_succ_cons, List.drop_zero]
  repeat (go_big_quiet_step (fail))
  refine wpQuiet_nil ?_
  refine walkS_eff rfl (by kernel_rfl) (fun g hd => ?_) (fun h17 => ?_)
  · go_simp
    exact ⟨rfl, (hst2.out g).mono (fun e w' ⟨h1, h3⟩ => ⟨default, h1, h3, trivial, fun e => by cases e⟩)⟩
  go_frame
  refine walkS_reads 1 _ _ _ _ (by kernel_rfl) (by kernel_rfl) (by simp) ?_
  simp only [List.take_succ_cons, List.take_zero, List.drop_succ_cons, List.drop_zero]
  repeat (go_big_quiet_step (fail))
  refine wpQuiet_nil ?_
  refine walkS_eff rfl (by kernel_rfl) (fun g hd => ?_) (fun h19 => ?_)
  · go_simp
    exact ⟨rfl, (hisr.out g).mono (fun e w' ⟨h1, h3⟩ => ⟨default, h1, h3, trivial, fun e => by cases e⟩)⟩
  go_frame
  refine walkS_reads 2 _ _ _ _ (by kernel_rfl) (by kernel_rfl) (by simp) ?_
  simp only [List.take_succ_cons, List.take_zero, List.drop_succ_cons, List.drop_zero]
  repeat (go_big_quiet_step (fail))
  refine wpQuiet_nil ?_
  refine walkS_eff rfl (by kernel_rfl) (fun g hd => ?_) (fun h22 => ?_)
  · go_simp
    exact ⟨rfl, (awake_any g.w1).mono (fun e w' ⟨h1, h3⟩ => ⟨default, h1, h3, trivial, fun e => by cases e⟩)⟩
  go_frame
  refine walkS_reads 1 _ _ _ _ (by kernel_rfl) (by kernel_rfl) (by simp) ?_
  simp only [List.take_succ_cons, List.take_zero, List.drop_succ_cons, List.drop_zero]
  repeat (go_big_quiet_step (fail))
  refine wpQuiet_nil ?_
  refine walkS_nil ?_
  rintro _ ⟨gY, rfl⟩ hK hS
  obtain ⟨Y9, hY9⟩ := gY
  dsimp only at *
  have hfin := Lib.hid (bthen hBw2.out hY9)
  clear hK hS hY9 a0 a1 a2 a3 a4 a5 a6 a7 hisR hisr hst1 hst2
  go_wp2
  go_ret
  exact ⟨rfl, hfin.out⟩
end Go.Proofs.YtaapnflhjbdmlaaDoor
