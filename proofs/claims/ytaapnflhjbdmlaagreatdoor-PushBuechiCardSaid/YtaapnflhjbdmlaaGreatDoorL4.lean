/- PushBuechi: the walk. No condition. -/
import Derived.Test.YtaapnflhjbdmlaaGreatDoorZu2
namespace Go.Proofs.YtaapnflhjbdmlaaGreatDoor
open Go.RowKit Go.Shelf
attribute [local go_sem] Oper.semAt_some

set_option maxRecDepth 100000 in
set_option maxHeartbeats 16000000 in
theorem law4 (w : World) (C cx dx : Int) (v : Value) (l0 : List RuleB) (s0 t0 : ByteArray) (h : Rls w v l0) (hs0 : s0.size ≤ 9223372036854775807) (ht0 : t0.size ≤ 9223372036854775807) :
    Calls Tryz.prog 4 #[sv C v, cv ⟨cx, s0⟩, cv ⟨dx, t0⟩] w fun e w' => e = .returned (.bool true) ∧ Below w.heap.size w w' := by
  obtain ⟨A, n, cap, rfl, hn⟩ := Els.shape h
  obtain ⟨W, hW⟩ : ∃ W, ((w.alloc (.cells #[.int .i64 C, .slice A n cap] 24)).alloc (.cells #[.int .i64 cx, .string s0] 53)).alloc (.cells #[.int .i64 dx, .string t0] 53) = W := ⟨_, rfl⟩
  have hBW : Below w.heap.size w W := by rw [← hW]; exact bthen (below1 _ _) (bthen (below1 _ _) (below1 _ _))
  have kS : Blk W w.heap.size 24 #[.int .i64 C, .slice A n cap] := by rw [← hW]; exact ((Blk.new w 24 _).alloc _).alloc _
  have kP : Blk W (w.heap.size + 1) 53 #[.int .i64 cx, .string s0] := by rw [← hW]; have := Blk.new (w.alloc (.cells #[.int .i64 C, .slice A n cap] 24)) 53 #[.int .i64 cx, .string s0]; rw [alloc_size] at this; exact this.alloc _
  have kQ : Blk W (w.heap.size + 1 + 1) 53 #[.int .i64 dx, .string t0] := by rw [← hW]; have := Blk.new ((w.alloc (.cells #[.int .i64 C, .slice A n cap] 24)).alloc (.cells #[.int .i64 cx, .string s0] 53)) 53 #[.int .i64 dx, .string t0]; rw [alloc_size, alloc_size] at this; exact this
  have c0 : ∀ g : Gr W, g.w1.cell? ⟨w.heap.size, 0, none⟩ = some (.int .i64 C) := fun g => g.cell (kS.cell 0)
  have c1 : ∀ g : Gr W, g.w1.cell? ⟨w.heap.size, 1, none⟩ = some (.slice A n cap) := fun g => g.cell (kS.cell 1)
  have c2 : ∀ g : Gr W, g.w1.cell? ⟨w.heap.size + 1, 0, none⟩ = some (.int .i64 cx) := fun g => g.cell (kP.cell 0)
  have c3 : ∀ g : Gr W, g.w1.cell? ⟨w.heap.size + 1, 1, none⟩ = some (.string s0) := fun g => g.cell (kP.cell 1)
  have c4 : ∀ g : Gr W, g.w1.cell? ⟨w.heap.size + 1 + 1, 0, none⟩ = some (.int .i64 dx) := fun g => g.cell (kQ.cell 0)
  have c5 : ∀ g : Gr W, g.w1.cell? ⟨w.heap.size + 1 + 1, 1, none⟩ = some (.string t0) := fun g => g.cell (kQ.cell 1)
  have hown := Lib.hid (fun g : Gr W => own_any g.w1 C _ l0 ((Els.then h hBW).then g.h))
  have hc1 := Lib.hid (fun g : Gr W => config_any g.w1 cx s0 hs0)
  have hc2 := Lib.hid (fun g : Gr W => config_any g.w1 dx t0 ht0)
  replace hBW := Lib.hid hBW
  clear h kS kP kQ
  go_enter Tryz.func4, Tryz.ntmps4
  go_wp2
  refine wp_region_rels 9 [false, true, false, true, false, true, true, true, true] [] (fun k h => if k = 1 then sv C (.slice h.A h.n h.cap) else if k = 3 then cv ⟨cx, cutP 21 s0⟩ else if k = 5 then cv ⟨dx, cutP 21 t0⟩ else .pointer (some ⟨h.k, 0, none⟩))
    (fun k h w => if k = 1 then OwnE ElR 76 W.heap.size w (.slice h.A h.n h.cap) (ownR l0) else if k = 6 then W.heap.size ≤ h.k ∧ Blk w h.k 24 #[.int .i64 0, .slice none 0 0] else if k = 7 ∨ k = 8 then W.heap.size ≤ h.k ∧ Blk w h.k 53 #[.int .i64 0, .string ⟨#[]⟩] else True) [false, false, false, false, false, false, true, true, true] (by kernel_rfl) (by kernel_rfl) ?_
  simp only [List.take_succ_cons, List.take_zero, List.drop_succ_cons, List.drop_zero]
  refine walkS_reads 1 _ _ _ _ (by kernel_rfl) (by kernel_rfl) (by simp) ?_
  simp only [List.take_succ_cons, List.take_zero, List.drop_succ_cons, List.drop_zero]
  repeat (go_big_quiet_step (fail))
  refine wpQuiet_nil ?_
  refine walkS_eff rfl (by kernel_rfl) (fun g hd => ?_) (fun h1 => ?_)
  · go_simp
    exact ⟨rfl, (hown.out g).mono (fun e w' ⟨v', h1, h2, h3⟩ => by
      obtain ⟨A5, n5, c5, rfl, _⟩ := OwnE.shape h2
      exact ⟨⟨A5, n5, c5, 0, 0, false⟩, h1, h3, h2.lo_le g.h.size, fun e => by cases e⟩)⟩
  go_frame
  refine walkS_reads 1 _ _ _ _ (by kernel_rfl) (by kernel_rfl) (by simp) ?_
  simp only [List.take_succ_cons, List.take_zero, List.drop_succ_cons, List.drop_zero]
  repeat (go_big_quiet_step (fail))
  refine wpQuiet_nil ?_
  refine walkS_eff rfl (by kernel_rfl) (fun g hd => ?_) (fun h4 => ?_)
  · go_simp
    exact ⟨rfl, (hc1.out g).mono (fun e w' ⟨h1, h3⟩ => ⟨default, h1, h3, trivial, fun e => by cases e⟩)⟩
  go_frame
  refine walkS_reads 1 _ _ _ _ (by kernel_rfl) (by kernel_rfl) (by simp) ?_
  simp only [List.take_succ_cons, List.take_zero, List.drop_succ_cons, List.drop_zero]
  repeat (go_big_quiet_step (fail))
  refine wpQuiet_nil ?_
  refine walkS_eff rfl (by kernel_rfl) (fun g hd => ?_) (fun h7 => ?_)
  · go_simp
    exact ⟨rfl, (hc2.out g).mono (fun e w' ⟨h1, h3⟩ => ⟨default, h1, h3, trivial, fun e => by cases e⟩)⟩
  go_frame
  refine walkS_eff rfl (by kernel_rfl) (fun g hd => ?_) (fun h8 => ?_)
  · go_simp
    exact ⟨⟨none, 0, 0, g.w1.heap.size, 0, false⟩, rfl, below1 _ _, ⟨g.h.size, Blk.new _ _ _⟩, fun _ => ⟨Nat.le_refl _, by simp⟩⟩
  go_frame
  refine walkS_eff rfl (by kernel_rfl) (fun g hd => ?_) (fun h9 => ?_)
  · go_simp
    exact ⟨⟨none, 0, 0, g.w1.heap.size, 0, false⟩, rfl, below1 _ _, ⟨g.h.size, Blk.new _ _ _⟩, fun _ => ⟨Nat.le_refl _, by simp⟩⟩
  go_frame
  refine walkS_eff rfl (by kernel_rfl) (fun g hd => ?_) (fun h10 => ?_)
  · go_simp
    exact ⟨⟨none, 0, 0, g.w1.heap.size, 0, false⟩, rfl, below1 _ _, ⟨g.h.size, Blk.new _ _ _⟩, fun _ => ⟨Nat.le_refl _, by simp⟩⟩
  go_frame
  refine walkS_nil ?_
  rintro _ ⟨gY, rfl⟩ hK hS
  have ho1 := since_own (f := fun h => .slice h.A h.n h.cap) (by simpa using (hK 1 h1 rfl).1)
  obtain ⟨m8, k8⟩ := since_blk (t := 24) (cs := #[.int .i64 0, .slice none 0 0]) (by simpa using (hK 6 h8 rfl).1)
  obtain ⟨m9, k9⟩ := since_blk (t := 53) (cs := #[.int .i64 0, .string ⟨#[]⟩]) (by simpa using (hK 7 h9 rfl).1)
  obtain ⟨m10, k10⟩ := since_blk (t := 53) (cs := #[.int .i64 0, .string ⟨#[]⟩]) (by simpa using (hK 8 h10 rfl).1)
  have hne := hS 7 8 h9 h10 (by decide) rfl rfl rfl rfl
  clear hK hS
  obtain ⟨Y, hBY⟩ := gY
  obtain ⟨A1, n1, p1, _, _, _⟩ := h1
  obtain ⟨_, _, _, b8, _, _⟩ := h8
  obtain ⟨_, _, _, b9, _, _⟩ := h9
  obtain ⟨_, _, _, b10, _, _⟩ := h10
  dsimp only at *
  have y80 := k8.cell 0
  have y81 := k8.cell 1
  have y90 := k9.cell 0
  have y91 := k9.cell 1
  have y100 := k10.cell 0
  have y101 := k10.cell 1
  have f80 := k8.free 0
  have f81 := k8.free 1
  have f90 := k9.free 0
  have f91 := k9.free 1
  have f100 := k10.free 0
  have f101 := k10.free 1
  simp at y80 y81 y90 y91 y100 y101
  have hst := Lib.hid (law_start k8 k9 k10 hne (.int .i64 C) (.slice A1 n1 p1) (.int .i64 cx) (.string (cutP 21 s0)) (.int .i64 dx) (.string (cutP 21 t0)))
  have n89 := k8.ne_of k9 (by decide)
  have n8a := k8.ne_of k10 (by decide)
  have hno : ∀ y ∈ [b8, b9, b10], (Value.slice A1 n1 p1).ownBlock ≠ some y := by
    intro y hy
    simp only [List.mem_cons, List.not_mem_nil, or_false] at hy
    rcases hy with rfl | rfl | rfl
    · exact ho1.ne_blk k8 (by decide)
    · exact ho1.ne_blk k9 (by decide)
    · exact ho1.ne_blk k10 (by decide)
  replace hno := Lib.hid hno
  replace ho1 := Lib.hid ho1
  replace hBY := Lib.hid hBY
  have hlt8 := k8.lt
  have hlt9 := k9.lt
  have hlt10 := k10.lt
  clear k8 k9 k10 c0 c1 c2 c3 c4 c5 hown hc1 hc2
  go_upto_region 2 with (fail)
  obtain ⟨Y2, hY2⟩ : ∃ Y2, (((((Y.setCell ⟨b8, 0, none⟩ (.int .i64 C)).setCell ⟨b8, 1, none⟩ (.slice A1 n1 p1)).setCell ⟨b9, 0, none⟩ (.int .i64 cx)).setCell ⟨b9, 1, none⟩ (.string (cutP 21 s0))).setCell ⟨b10, 0, none⟩ (.int .i64 dx)).setCell ⟨b10, 1, none⟩ (.string (cutP 21 t0)) = Y2 := ⟨_, rfl⟩
  rw [hY2] at hst ⊢
  obtain ⟨k8, k9, k10, hbx⟩ := hst.out
  have ho2 := ho1.out.of_block fun g hg => hbx.block g (ho1.out.lt g hg).2 fun hm => hno.out g hm hg
  have hBY2 : Below W.heap.size W Y2 := hBY.out.trans (hbx.below hBY.out.size (by simp; omega))
  have hBw2 := Lib.hid (bthen hBW.out hBY2)
  have hlen := ownR_len l0
  have hput4 := Lib.hid (ownR_put l0)
  have hsz1 := cutP_size 21 s0
  have hsz2 := cutP_size 21 t0
  have hWY := hBY2.size
  clear hY2 hst y80 y81 y90 y91 y100 y101 f80 f81 f90 f91 f100 f101 hbx hBY ho1 hBY2 hlt8 hlt9 hlt10
  generalize ownR l0 = l at *
  generalize cutP 21 s0 = s at *
  generalize cutP 21 t0 = t at *
  have hl31 : l.length ≤ 31 := by omega
  clear hlen
  have x90 := k9.cell 0
  have x91 := k9.cell 1
  have x100 := k10.cell 0
  have x101 := k10.cell 1
  have g91 := k9.free 1
  have g101 := k10.free 1
  simp at x90 x91 x100 x101
  obtain ⟨ks, hks⟩ : ∃ kk : Nat, min s.size 7 = kk := ⟨_, rfl⟩
  have hms : min (s.size : Int) 7 = (ks : Int) := by omega
  have hks1 : ks ≤ s.size := by omega
  have hks2 : ks ≤ 7 := by omega
  have hes : (s.extract 0 ks).size = ks := by rw [ByteArray.size_extract]; omega
  clear hks
  obtain ⟨kt, hkt⟩ : ∃ kk : Nat, min t.size 7 = kk := ⟨_, rfl⟩
  have hmt : min (t.size : Int) 7 = (kt : Int) := by omega
  have hkt1 : kt ≤ t.size := by omega
  have hkt2 : kt ≤ 7 := by omega
  have het : (t.extract 0 kt).size = kt := by rw [ByteArray.size_extract]; omega
  clear hkt
  replace k8 := Lib.hid k8
  replace k9 := Lib.hid k9
  replace k10 := Lib.hid k10
  replace ho2 := Lib.hid ho2
  go_upto_region 4 with (fail)
  obtain ⟨Y3, hY3⟩ : ∃ Y3, ((((Y2).setCell ⟨b9, 1, none⟩ (.string (s.extract 0 ks)))).setCell ⟨b10, 1, none⟩ (.string (t.extract 0 kt))) = Y3 := ⟨_, rfl⟩
  rw [hY3]
  have hbx : BX [b9, b10] Y2 Y3 := by rw [← hY3]; exact (((BX.refl _ Y2).set (p := ⟨b9, 1, none⟩) (by simp) (.string (s.extract 0 ks))).set (p := ⟨b10, 1, none⟩) (by simp) (.string (t.extract 0 kt)))
  replace k8 := Lib.hid (k8.out.bx hbx (by simp; omega))
  replace k9 := Lib.hid (show Blk Y3 b9 53 #[.int .i64 cx, .string (s.extract 0 ks)] by rw [← hY3]; simpa using ((k9.out.set 1 (.string (s.extract 0 ks))).far (p := ⟨b10, 1, none⟩) (by simp; omega) (.string (t.extract 0 kt))))
  replace k10 := Lib.hid (show Blk Y3 b10 53 #[.int .i64 dx, .string (t.extract 0 kt)] by rw [← hY3]; simpa using ((k10.out.far (p := ⟨b9, 1, none⟩) (by simp; omega) (.string (s.extract 0 ks))).set 1 (.string (t.extract 0 kt))))
  replace ho2 := Lib.hid (ho2.out.of_block fun g hg => hbx.block g (ho2.out.lt g hg).2 fun hm => hno.out g (by simp at hm ⊢; omega) hg)
  replace hBw2 := Lib.hid (hBw2.out.trans (hbx.below hBw2.out.size (by have := hBW.out.size; simp; omega)))
  clear hY3 hbx x90 x91 x100 x101 g91 g101
  generalize s.extract 0 ks = s at *
  clear hms hks1
  generalize t.extract 0 kt = t at *
  clear hmt hkt1
  have hrl := Lib.hid (show Rls Y3 (.slice A1 n1 p1) l from ho2.out.els)
  clear ho2 hno
  have hcR := Lib.hid (checkR_any Y3 C _ l hrl.out (fun r hr => by have := hput4.out r hr; omega))
  have a0 : Y3.cell? ⟨b8, 0, none⟩ = some (.int .i64 C) := k8.out.cell 0
  have a1 : Y3.cell? ⟨b8, 1, none⟩ = some (.slice A1 n1 p1) := k8.out.cell 1
  have a2 : Y3.cell? ⟨b9, 0, none⟩ = some (.int .i64 cx) := k9.out.cell 0
  have a3 : Y3.cell? ⟨b9, 1, none⟩ = some (.string s) := k9.out.cell 1
  have a4 : Y3.cell? ⟨b10, 0, none⟩ = some (.int .i64 dx) := k10.out.cell 0
  have a5 : Y3.cell? ⟨b10, 1, none⟩ = some (.string t) := k10.out.cell 1
  have hp1 := fun w' => Lib.hid (proper_any w' C (.slice A1 n1 p1) cx s (by omega) rfl)
  have hp2 := fun w' => Lib.hid (proper_any w' C (.slice A1 n1 p1) dx t (by omega) rfl)
  cases e1 : sysB C l with
  | false =>
    rw [e1] at hcR
    replace e1 := Lib.hid e1
    go_wp2_with (first
      | (go_at_call 8; refine hcR.out.mono ?_; rintro e w1 ⟨rfl, hb⟩; have hb := Lib.hid hb)
      | (go_at_call 10; refine (awake_any _).mono ?_; rintro e w9 ⟨rfl, hb9⟩; have hb9 := Lib.hid hb9))
    go_ret
    exact ⟨rfl, bthen hBw2.out (bthen hb.out hb9.out)⟩
  | true =>
  rw [e1] at hcR
  replace e1 := Lib.hid e1
  cases e2 : properB C ⟨cx, s⟩ with
  | false =>
    simp only [e2] at hp1
    replace e2 := Lib.hid e2
    go_wp2_with (first
      | (go_at_call 8; refine hcR.out.mono ?_; rintro e w1 ⟨rfl, hb⟩; replace a0 := cell_below a0 hb; replace a1 := cell_below a1 hb; replace a2 := cell_below a2 hb; replace a3 := cell_below a3 hb; have hb := Lib.hid hb)
      | (go_at_call 22; refine (hp1 _).out.mono ?_; rintro e w2 ⟨rfl, hb2⟩; have hb2 := Lib.hid hb2)
      | (go_at_call 10; refine (awake_any _).mono ?_; rintro e w9 ⟨rfl, hb9⟩; have hb9 := Lib.hid hb9))
    go_ret
    exact ⟨rfl, bthen hBw2.out (bthen hb.out (bthen hb2.out hb9.out))⟩
  | true =>
  simp only [e2] at hp1
  replace e2 := Lib.hid e2
  cases e3 : properB C ⟨dx, t⟩ with
  | false =>
    simp only [e3] at hp2
    replace e3 := Lib.hid e3
    go_wp2_with (first
      | (go_at_call 8; refine hcR.out.mono ?_; rintro e w1 ⟨rfl, hb⟩; replace a0 := cell_below a0 hb; replace a1 := cell_below a1 hb; replace a2 := cell_below a2 hb; replace a3 := cell_below a3 hb; replace a4 := cell_below a4 hb; replace a5 := cell_below a5 hb; have hb := Lib.hid hb)
      | (go_at_call 22; refine (hp1 _).out.mono ?_; clear hp1; rintro e w2 ⟨rfl, hb2⟩; replace a0 := cell_below a0 hb2; replace a1 := cell_below a1 hb2; replace a4 := cell_below a4 hb2; replace a5 := cell_below a5 hb2; have hb2 := Lib.hid hb2)
      | (go_at_call 22; refine (hp2 _).out.mono ?_; rintro e w3 ⟨rfl, hb3⟩; have hb3 := Lib.hid hb3)
      | (go_at_call 10; refine (awake_any _).mono ?_; rintro e w9 ⟨rfl, hb9⟩; have hb9 := Lib.hid hb9))
    go_ret
    exact ⟨rfl, bthen hBw2.out (bthen hb.out (bthen hb2.out (bthen hb3.out hb9.out)))⟩
  | true =>
  simp only [e3] at hp2
  replace e3 := Lib.hid e3
  go_upto_region 6 with (first
      | (go_at_call 8; refine hcR.out.mono ?_; rintro e w1 ⟨rfl, hb⟩; replace a0 := cell_below a0 hb; replace a1 := cell_below a1 hb; replace a2 := cell_below a2 hb; replace a3 := cell_below a3 hb; replace a4 := cell_below a4 hb; replace a5 := cell_below a5 hb; have hb := Lib.hid hb)
      | (go_at_call 22; refine (hp1 _).out.mono ?_; clear hp1; rintro e w2 ⟨rfl, hb2⟩; replace a0 := cell_below a0 hb2; replace a1 := cell_below a1 hb2; replace a4 := cell_below a4 hb2; replace a5 := cell_below a5 hb2; have hb2 := Lib.hid hb2)
      | (go_at_call 22; refine (hp2 _).out.mono ?_; clear hp2; rintro e w3 ⟨rfl, hb3⟩; replace a0 := cell_below a0 hb3; replace a1 := cell_below a1 hb3; have hb3 := Lib.hid hb3))
  have hb123 := bthen hb.out (bthen hb2.out hb3.out)
  replace k8 := Lib.hid (k8.out.below hb123 k8.out.lt)
  replace k9 := Lib.hid (k9.out.below hb123 k9.out.lt)
  replace k10 := Lib.hid (k10.out.below hb123 k10.out.lt)
  replace hrl := Lib.hid (hrl.out.then hb123)
  replace hBw2 := Lib.hid (bthen hBw2.out hb123)
  clear hb hb2 hb3 hb123 hcR a2 a3 a4 a5
  have hsy := Lib.hid (system_any w3 C _ l hrl.out (by omega))
  go_upto_region 7 with (go_at_call 12; refine hsy.out.mono ?_; clear hsy; rintro e w4 ⟨v4, rfl, ho4, hb4⟩; obtain ⟨A2, n2, p2, rfl, _⟩ := OwnE.shape ho4; have ho4 := Lib.hid ho4; have hb4 := Lib.hid hb4)
  obtain ⟨Z, hZ⟩ : ∃ Z, w4.alloc (.cells #[.int .i64 C, .slice A2 n2 p2] 40) = Z := ⟨_, rfl⟩
  obtain ⟨b11, hb11⟩ : ∃ b, w4.heap.size = b := ⟨_, rfl⟩
  have hb4Z : Below w4.heap.size w4 Z := by rw [← hZ]; exact below1 _ _
  have k11 := Lib.hid (show Blk Z b11 40 #[.int .i64 C, .slice A2 n2 p2] by rw [← hZ, ← hb11]; exact Blk.new _ _ _)
  have hom := Lib.hid (ho4.out.then hb4Z)
  have hrm := Lib.hid (show Rls Z (.slice A2 n2 p2) l from hom.out.els)
  have hb3Z := bthen hb4.out hb4Z
  replace k8 := Lib.hid (k8.out.below hb3Z k8.out.lt)
  replace k9 := Lib.hid (k9.out.below hb3Z k9.out.lt)
  replace k10 := Lib.hid (k10.out.below hb3Z k10.out.lt)
  replace hrl := Lib.hid (hrl.out.then hb3Z)
  replace hBw2 := Lib.hid (bthen hBw2.out hb3Z)
  rw [hZ, hb11]
  clear hZ hb11 hb4Z hb3Z hb4 ho4 a0 a1
  have hC0 := (sysB_iff.1 e1.out).1
  have hC5 := (sysB_iff.1 e1.out).2.1
  obtain ⟨hx0, hx1, hws, hs20⟩ := properB_iff.1 e2.out
  obtain ⟨hy0, hy1, hwt, ht20⟩ := properB_iff.1 e3.out
  simp only at hx0 hx1 hws hs20 hy0 hy1 hwt ht20
  obtain ⟨CN, rfl⟩ : ∃ m : Nat, C = m := ⟨C.toNat, by omega⟩
  obtain ⟨xN, rfl⟩ : ∃ m : Nat, cx = m := ⟨cx.toNat, by omega⟩
  obtain ⟨yN, rfl⟩ : ∃ m : Nat, dx = m := ⟨dx.toNat, by omega⟩
  obtain ⟨nQ, hnQ⟩ : ∃ m, CN + t.size = m := ⟨_, rfl⟩
  obtain ⟨nP, hnP⟩ : ∃ m, CN + s.size = m := ⟨_, rfl⟩
  have hxC : xN < CN := by omega
  have hyC : yN < CN := by omega
  have honQ := only_any Z CN yN n1 p1 nQ A1 t (by omega) (by omega) ht20 hwt hnQ
  have honP := fun V => only_any V CN xN n1 p1 nP A1 s (by omega) (by omega) hs20 hws hnP
  have hstQ : ∀ (fs : List Int) ms, givenB CN nQ ms fs = true → nQ ≤ 12 := fun fs ms h => by have := ((givenB_iff2 (Int.natCast_nonneg CN)).1 h).2.1; omega
  have hstP : ∀ (fs : List Int) ms, givenB CN nP ms fs = true → nP ≤ 12 := fun fs ms h => by have := ((givenB_iff2 (Int.natCast_nonneg CN)).1 h).2.1; omega
  replace hstQ := Lib.hid hstQ
  replace hstP := Lib.hid hstP
  have hal0 := Lib.hid (allE_ok (c := []) e1.out (fun i hi => absurd hi (Nat.not_lt_zero i)))
  have hput := Lib.hid (show ∀ r ∈ l, r.put.size ≤ 9223372036854775807 from fun r hr => by have := hput4.out r hr; omega)
  replace hws := Lib.hid hws
  replace hwt := Lib.hid hwt
  replace hnQ := Lib.hid hnQ
  replace hnP := Lib.hid hnP
  clear hC0 hx0 hy0 hx1 hy1
  obtain ⟨msQ, hmsQ⟩ : ∃ ms, chI CN yN (cs t) = ms := ⟨_, rfl⟩
  obtain ⟨fsQ, hfsQ⟩ : ∃ fs, [(atN CN yN t.size : Int)] = fs := ⟨_, rfl⟩
  obtain ⟨msP, hmsP⟩ : ∃ ms, chI CN xN (cs s) = ms := ⟨_, rfl⟩
  obtain ⟨fsP, hfsP⟩ : ∃ fs, [(atN CN xN s.size : Int)] = fs := ⟨_, rfl⟩
  rw [hmsQ, hfsQ] at honQ
  simp only [hmsP, hfsP] at honP
  have hlQ : msQ.length ≤ 20 ∧ fsQ.length ≤ 1 := ⟨by rw [← hmsQ]; unfold chI; rw [List.length_map, chM_len, cs_length]; exact ht20, by rw [← hfsQ]; simp⟩
  have hlP : msP.length ≤ 20 ∧ fsP.length ≤ 1 := ⟨by rw [← hmsP]; unfold chI; rw [List.length_map, chM_len, cs_length]; exact hs20, by rw [← hfsP]; simp⟩
  replace hmsQ := Lib.hid hmsQ
  replace hmsP := Lib.hid hmsP
  replace hfsQ := Lib.hid hfsQ
  replace hfsP := Lib.hid hfsP
  replace hlQ := Lib.hid hlQ
  replace hlP := Lib.hid hlP
  obtain ⟨gQ, hgQ⟩ : ∃ b, givenB CN nQ msQ fsQ = b := ⟨_, rfl⟩
  obtain ⟨gP, hgP⟩ : ∃ b, givenB CN nP msP fsP = b := ⟨_, rfl⟩
  rw [hgQ] at honQ
  simp only [hgP] at honP
  replace honQ := Lib.hid honQ
  replace honP := Lib.hid honP
  replace hgQ := Lib.hid hgQ
  replace hgP := Lib.hid hgP
  have ak80 : Z.cell? ⟨b8, 0, none⟩ = some (.int .i64 CN) := k8.out.cell 0
  have ak81 : Z.cell? ⟨b8, 1, none⟩ = some (.slice A1 n1 p1) := k8.out.cell 1
  have ak100 : Z.cell? ⟨b10, 0, none⟩ = some (.int .i64 yN) := k10.out.cell 0
  have ak101 : Z.cell? ⟨b10, 1, none⟩ = some (.string t) := k10.out.cell 1
  go_upto_region 8 with (go_at_call 23; refine honQ.out.mono ?_; clear honQ; rintro e w5 ⟨vm5, vf5, rfl, hm5, hf5, hb5⟩; obtain ⟨Am5, nm5, cm5, rfl, hnm5⟩ := Els.shape hm5; obtain ⟨Af5, nf5, cf5, rfl, _⟩ := Els.shape hf5; replace hm5 := Lib.hid hm5; replace hf5 := Lib.hid hf5; replace hb5 := Lib.hid hb5)
  clear ak80 ak81 ak100 ak101
  obtain ⟨Z5, hZ5⟩ : ∃ Z, w5.alloc (.cells #[.int .i64 nQ, .slice Am5 nm5 cm5, .slice Af5 nf5 cf5] 34) = Z := ⟨_, rfl⟩
  obtain ⟨b12, hb12⟩ : ∃ b, w5.heap.size = b := ⟨_, rfl⟩
  have hbZ5 : Below w5.heap.size w5 Z5 := by rw [← hZ5]; exact below1 _ _
  have k12 := Lib.hid (show Blk Z5 b12 34 #[.int .i64 nQ, .slice Am5 nm5 cm5, .slice Af5 nf5 cf5] by rw [← hZ5, ← hb12]; exact Blk.new _ _ _)
  rw [hZ5, hb12]
  clear hZ5 hb12
  replace k8 := Lib.hid (k8.out.below (bthen hb5.out hbZ5) k8.out.lt)
  replace k9 := Lib.hid (k9.out.below (bthen hb5.out hbZ5) k9.out.lt)
  replace k10 := Lib.hid (k10.out.below (bthen hb5.out hbZ5) k10.out.lt)
  replace k11 := Lib.hid (k11.out.below (bthen hb5.out hbZ5) k11.out.lt)
  replace hrl := Lib.hid (hrl.out.then (bthen hb5.out hbZ5))
  replace hrm := Lib.hid (hrm.out.then (bthen hb5.out hbZ5))
  replace hBw2 := Lib.hid (bthen hBw2.out (bthen hb5.out hbZ5))
  replace hm5 := Lib.hid (hm5.out.then hbZ5)
  replace hf5 := Lib.hid (hf5.out.then hbZ5)
  clear hb5 hbZ5
  have ak80 : Z5.cell? ⟨b8, 0, none⟩ = some (.int .i64 CN) := k8.out.cell 0
  have ak81 : Z5.cell? ⟨b8, 1, none⟩ = some (.slice A1 n1 p1) := k8.out.cell 1
  have ak90 : Z5.cell? ⟨b9, 0, none⟩ = some (.int .i64 xN) := k9.out.cell 0
  have ak91 : Z5.cell? ⟨b9, 1, none⟩ = some (.string s) := k9.out.cell 1
  go_upto_region 9 with (go_at_call 23; refine (honP.out Z5).mono ?_; clear honP; rintro e w6 ⟨vm6, vf6, rfl, hm6, hf6, hb6⟩; obtain ⟨Am6, nm6, cm6, rfl, hnm6⟩ := Els.shape hm6; obtain ⟨Af6, nf6, cf6, rfl, _⟩ := Els.shape hf6; replace hm6 := Lib.hid hm6; replace hf6 := Lib.hid hf6; replace hb6 := Lib.hid hb6)
  clear ak80 ak81 ak90 ak91
  obtain ⟨Z6, hZ6⟩ : ∃ Z, w6.alloc (.cells #[.int .i64 nP, .slice Am6 nm6 cm6, .slice Af6 nf6 cf6] 34) = Z := ⟨_, rfl⟩
  obtain ⟨b13, hb13⟩ : ∃ b, w6.heap.size = b := ⟨_, rfl⟩
  have hbZ6 : Below w6.heap.size w6 Z6 := by rw [← hZ6]; exact below1 _ _
  have k13 := Lib.hid (show Blk Z6 b13 34 #[.int .i64 nP, .slice Am6 nm6 cm6, .slice Af6 nf6 cf6] by rw [← hZ6, ← hb13]; exact Blk.new _ _ _)
  rw [hZ6, hb13]
  clear hZ6 hb13
  replace k8 := Lib.hid (k8.out.below (bthen hb6.out hbZ6) k8.out.lt)
  replace k9 := Lib.hid (k9.out.below (bthen hb6.out hbZ6) k9.out.lt)
  replace k10 := Lib.hid (k10.out.below (bthen hb6.out hbZ6) k10.out.lt)
  replace k11 := Lib.hid (k11.out.below (bthen hb6.out hbZ6) k11.out.lt)
  replace k12 := Lib.hid (k12.out.below (bthen hb6.out hbZ6) k12.out.lt)
  replace hrl := Lib.hid (hrl.out.then (bthen hb6.out hbZ6))
  replace hrm := Lib.hid (hrm.out.then (bthen hb6.out hbZ6))
  replace hm5 := Lib.hid (hm5.out.then (bthen hb6.out hbZ6))
  replace hf5 := Lib.hid (hf5.out.then (bthen hb6.out hbZ6))
  replace hBw2 := Lib.hid (bthen hBw2.out (bthen hb6.out hbZ6))
  replace hm6 := Lib.hid (hm6.out.then hbZ6)
  replace hf6 := Lib.hid (hf6.out.then hbZ6)
  clear hb6 hbZ6
  have hst1 := Lib.hid (fun g : Gr Z6 => stack_any g.w1 xN s)
  have hst2 := Lib.hid (fun g : Gr Z6 => stack_any g.w1 yN t)
  have hcal := fun g : Gr Z6 => Reaches_any g.w1 CN xN yN _ l s t (hrm.out.then g.h) hput.out (by omega) (by omega)
  obtain ⟨RB, hRB⟩ : ∃ b, reachB l xN s yN t = b := ⟨_, rfl⟩
  simp only [hRB, allE_zero e1.out e2.out e3.out, decide_true, Bool.true_and] at hcal
  replace hcal := Lib.hid hcal
  replace hRB := Lib.hid hRB
  have ak90 : ∀ g : Gr Z6, g.w1.cell? ⟨b9, 0, none⟩ = some (.int .i64 xN) := fun g => g.cell (k9.out.cell 0)
  have ak91 : ∀ g : Gr Z6, g.w1.cell? ⟨b9, 1, none⟩ = some (.string s) := fun g => g.cell (k9.out.cell 1)
  have ak100 : ∀ g : Gr Z6, g.w1.cell? ⟨b10, 0, none⟩ = some (.int .i64 yN) := fun g => g.cell (k10.out.cell 0)
  have ak101 : ∀ g : Gr Z6, g.w1.cell? ⟨b10, 1, none⟩ = some (.string t) := fun g => g.cell (k10.out.cell 1)
  have ak110 : ∀ g : Gr Z6, g.w1.cell? ⟨b11, 0, none⟩ = some (.int .i64 CN) := fun g => g.cell (k11.out.cell 0)
  have ak111 : ∀ g : Gr Z6, g.w1.cell? ⟨b11, 1, none⟩ = some (.slice A2 n2 p2) := fun g => g.cell (k11.out.cell 1)
  refine wp_region_rels 10 [false, false, true, false, true, true, false, false, false, false] [] (fun kx h => if kx = 2 then cv ⟨xN, s⟩ else if kx = 4 then cv ⟨yN, t⟩ else (.tuple #[.bool RB, .int .i64 0]))
    (fun kx h w => True) [] (by kernel_rfl) (by kernel_rfl) ?_
  simp only [List.take_succ_cons, List.take_zero, List.drop_succ_cons, List.drop_zero]
  refine walkS_reads 2 _ _ _ _ (by kernel_rfl) (by kernel_rfl) (by simp) ?_
  simp only [List.take_succ_cons, List.take_zero, List.drop_succ_cons, List.drop_zero]
  repeat (go_big_quiet_step (fail))
  refine wpQuiet_nil ?_
  refine walkS_eff rfl (by kernel_rfl) (fun g hd => ?_) (fun h2 => ?_)
  · go_simp
    exact ⟨rfl, (hst1.out g).mono (fun e w' ⟨h1, h3⟩ => ⟨default, h1, h3, trivial, fun e => by cases e⟩)⟩
  go_frame
  refine walkS_reads 1 _ _ _ _ (by kernel_rfl) (by kernel_rfl) (by simp) ?_
  simp only [List.take_succ_cons, List.take_zero, List.drop_succ_cons, List.drop_zero]
  repeat (go_big_quiet_step (fail))
  refine wpQuiet_nil ?_
  refine walkS_eff rfl (by kernel_rfl) (fun g hd => ?_) (fun h4 => ?_)
  · go_simp
    exact ⟨rfl, (hst2.out g).mono (fun e w' ⟨h1, h3⟩ => ⟨default, h1, h3, trivial, fun e => by cases e⟩)⟩
  go_frame
  refine walkS_eff rfl (by kernel_rfl) (fun g hd => ?_) (fun h5 => ?_)
  · go_simp
    exact ⟨rfl, (hcal.out g).mono (fun e w' ⟨h1, h3⟩ => ⟨default, h1, h3, trivial, fun e => by cases e⟩)⟩
  go_frame
  refine walkS_reads 4 _ _ _ _ (by kernel_rfl) (by kernel_rfl) (by simp) ?_
  simp only [List.take_succ_cons, List.take_zero, List.drop_succ_cons, List.drop_zero]
  repeat (go_big_quiet_step (fail))
  refine wpQuiet_nil ?_
  refine walkS_nil ?_
  rintro _ ⟨gY, rfl⟩ hK hS
  clear hst1 hst2 hcal
  clear ak90 ak91 ak100 ak101 ak110 ak111
  obtain ⟨Z7, hbZ7⟩ := gY
  dsimp only at *
  replace k8 := Lib.hid (k8.out.below hbZ7 k8.out.lt)
  replace k9 := Lib.hid (k9.out.below hbZ7 k9.out.lt)
  replace k10 := Lib.hid (k10.out.below hbZ7 k10.out.lt)
  replace k11 := Lib.hid (k11.out.below hbZ7 k11.out.lt)
  replace k12 := Lib.hid (k12.out.below hbZ7 k12.out.lt)
  replace k13 := Lib.hid (k13.out.below hbZ7 k13.out.lt)
  replace hrl := Lib.hid (hrl.out.then hbZ7)
  replace hrm := Lib.hid (hrm.out.then hbZ7)
  replace hm5 := Lib.hid (hm5.out.then hbZ7)
  replace hf5 := Lib.hid (hf5.out.then hbZ7)
  replace hm6 := Lib.hid (hm6.out.then hbZ7)
  replace hf6 := Lib.hid (hf6.out.then hbZ7)
  replace hBw2 := Lib.hid (bthen hBw2.out hbZ7)
  clear hK hS hbZ7
  go_upto_region 12 with (fail)
  go_cut [92] from 89 to 92 (fun u92 wx => u92 = .bool (gQ && gP) ∧ Hid (Below Z7.heap.size Z7 wx))
  case first =>
    cases gQ <;> cases gP
    all_goals
      go_wp2
      go_meet
      exact ⟨rfl, Below.refl _ _⟩
  case rest =>
  obtain ⟨rfl, hbc⟩ := hcut
  obtain ⟨Z0, hZ0⟩ : ∃ Z, Z = wc := ⟨_, rfl⟩
  subst hZ0
  replace k8 := Lib.hid (k8.out.below hbc.out k8.out.lt)
  replace k9 := Lib.hid (k9.out.below hbc.out k9.out.lt)
  replace k10 := Lib.hid (k10.out.below hbc.out k10.out.lt)
  replace k11 := Lib.hid (k11.out.below hbc.out k11.out.lt)
  replace k12 := Lib.hid (k12.out.below hbc.out k12.out.lt)
  replace k13 := Lib.hid (k13.out.below hbc.out k13.out.lt)
  replace hrl := Lib.hid (hrl.out.then hbc.out)
  replace hrm := Lib.hid (hrm.out.then hbc.out)
  replace hm5 := Lib.hid (hm5.out.then hbc.out)
  replace hf5 := Lib.hid (hf5.out.then hbc.out)
  replace hm6 := Lib.hid (hm6.out.then hbc.out)
  replace hf6 := Lib.hid (hf6.out.then hbc.out)
  replace hBw2 := Lib.hid (bthen hBw2.out hbc.out)
  clear hbc
  go_upto_if 92 with (fail)
  go_cut [] from 17 to 140 (fun wx => Hid (Below Z0.heap.size Z0 wx))
  case first =>
    by_cases hboth : gQ = true ∧ gP = true
    case neg =>
      cases gQ <;> cases gP
      · go_wp2
        go_meet
        exact Below.refl _ _
      · go_wp2
        go_meet
        exact Below.refl _ _
      · go_wp2
        go_meet
        exact Below.refl _ _
      · exact absurd ⟨rfl, rfl⟩ hboth
    obtain ⟨rfl, rfl⟩ := hboth
    have hBf := fun V v' vm' vf' (h1 : Rls V v' l) (h2 : Els ElZ V vm' msQ) (h3 : Els ElI V vf' fsQ) => pBefore_any V CN nQ v' vm' vf' l msQ fsQ h2 h3 h1 hput.out
    have hAf := fun V v' vm' vf' (h1 : Rls V v' l) (h2 : Els ElZ V vm' msP) (h3 : Els ElI V vf' fsP) => pAfter_any V CN nP v' vm' vf' l msP fsP h2 h3 h1 hput.out
    simp only [errA_all e1.out hgQ.out, hal0.out] at hBf
    simp only [errA_all e1.out hgP.out, hal0.out] at hAf
    replace hBf := Lib.hid hBf
    replace hAf := Lib.hid hAf
    have hB0 := Lib.hid (show Below Z0.heap.size Z0 Z0 from Below.refl _ _)
    have ak110 : Z0.cell? ⟨b11, 0, none⟩ = some (.int .i64 CN) := k11.out.cell 0
    have ak111 : Z0.cell? ⟨b11, 1, none⟩ = some (.slice A2 n2 p2) := k11.out.cell 1
    have ak120 : Z0.cell? ⟨b12, 0, none⟩ = some (.int .i64 nQ) := k12.out.cell 0
    have ak121 : Z0.cell? ⟨b12, 1, none⟩ = some (.slice Am5 nm5 cm5) := k12.out.cell 1
    have ak122 : Z0.cell? ⟨b12, 2, none⟩ = some (.slice Af5 nf5 cf5) := k12.out.cell 2
    go_upto_region 14 with (go_at_call 11; refine (hBf.out _ _ _ _ hrm.out hm5.out hf5.out).mono ?_; clear hBf; rintro e w7 ⟨n7, vm7, vf7, ms7, fs7, rfl, hm7, hf7, hx7, hb7⟩; obtain ⟨en, ef, hP7⟩ := hx7 trivial; rw [en]; rw [ef] at hf7; clear en ef hx7; replace hP7 := Lib.hid hP7; obtain ⟨Am7, nm7, cm7, rfl, hnm7⟩ := OwnE.shape hm7; obtain ⟨Af7, nf7, cf7, rfl, _⟩ := OwnE.shape hf7; replace hm7 := Lib.hid hm7.els; replace hf7 := Lib.hid hf7.els; replace hb7 := Lib.hid hb7)
    clear ak110 ak111 ak120 ak121 ak122
    obtain ⟨Z8, hZ8⟩ : ∃ Z, w7.alloc (.cells #[.int .i64 nQ, .slice Am7 nm7 cm7, .slice Af7 nf7 cf7] 34) = Z := ⟨_, rfl⟩
    obtain ⟨b14, hb14⟩ : ∃ b, w7.heap.size = b := ⟨_, rfl⟩
    have hbZ8 : Below w7.heap.size w7 Z8 := by rw [← hZ8]; exact below1 _ _
    have k14 := Lib.hid (show Blk Z8 b14 34 #[.int .i64 nQ, .slice Am7 nm7 cm7, .slice Af7 nf7 cf7] by rw [← hZ8, ← hb14]; exact Blk.new _ _ _)
    rw [hZ8, hb14]
    clear hZ8 hb14
    replace k8 := Lib.hid (k8.out.below (bthen hb7.out hbZ8) k8.out.lt)
    replace k9 := Lib.hid (k9.out.below (bthen hb7.out hbZ8) k9.out.lt)
    replace k10 := Lib.hid (k10.out.below (bthen hb7.out hbZ8) k10.out.lt)
    replace k11 := Lib.hid (k11.out.below (bthen hb7.out hbZ8) k11.out.lt)
    replace k12 := Lib.hid (k12.out.below (bthen hb7.out hbZ8) k12.out.lt)
    replace k13 := Lib.hid (k13.out.below (bthen hb7.out hbZ8) k13.out.lt)
    replace hrl := Lib.hid (hrl.out.then (bthen hb7.out hbZ8))
    replace hrm := Lib.hid (hrm.out.then (bthen hb7.out hbZ8))
    replace hm5 := Lib.hid (hm5.out.then (bthen hb7.out hbZ8))
    replace hf5 := Lib.hid (hf5.out.then (bthen hb7.out hbZ8))
    replace hm6 := Lib.hid (hm6.out.then (bthen hb7.out hbZ8))
    replace hf6 := Lib.hid (hf6.out.then (bthen hb7.out hbZ8))
    replace hB0 := Lib.hid (bthen hB0.out (bthen hb7.out hbZ8))
    replace hm7 := Lib.hid (hm7.out.then hbZ8)
    replace hf7 := Lib.hid (hf7.out.then hbZ8)
    clear hb7 hbZ8
    have ak110 : Z8.cell? ⟨b11, 0, none⟩ = some (.int .i64 CN) := k11.out.cell 0
    have ak111 : Z8.cell? ⟨b11, 1, none⟩ = some (.slice A2 n2 p2) := k11.out.cell 1
    have ak130 : Z8.cell? ⟨b13, 0, none⟩ = some (.int .i64 nP) := k13.out.cell 0
    have ak131 : Z8.cell? ⟨b13, 1, none⟩ = some (.slice Am6 nm6 cm6) := k13.out.cell 1
    have ak132 : Z8.cell? ⟨b13, 2, none⟩ = some (.slice Af6 nf6 cf6) := k13.out.cell 2
    go_upto_region 15 with (go_at_call 14; refine (hAf.out _ _ _ _ hrm.out hm6.out hf6.out).mono ?_; clear hAf; rintro e w8 ⟨n8, vm8, vf8, ms8, fs8, rfl, hm8, hf8, hx8, hb8⟩; replace hx8 := Lib.hid (hx8 trivial); obtain ⟨Am8, nm8, cm8, rfl, hnm8⟩ := OwnE.shape hm8; obtain ⟨Af8, nf8, cf8, rfl, _⟩ := OwnE.shape hf8; replace hm8 := Lib.hid hm8.els; replace hf8 := Lib.hid hf8.els; replace hb8 := Lib.hid hb8)
    clear ak110 ak111 ak130 ak131 ak132
    obtain ⟨nR, rfl⟩ : ∃ m : Nat, n8 = m := ⟨n8.toNat, by obtain ⟨_, h1, _⟩ := hx8.out; omega⟩
    obtain ⟨Z9, hZ9⟩ : ∃ Z, w8.alloc (.cells #[.int .i64 nR, .slice Am8 nm8 cm8, .slice Af8 nf8 cf8] 34) = Z := ⟨_, rfl⟩
    obtain ⟨b15, hb15⟩ : ∃ b, w8.heap.size = b := ⟨_, rfl⟩
    have hbZ9 : Below w8.heap.size w8 Z9 := by rw [← hZ9]; exact below1 _ _
    have k15 := Lib.hid (show Blk Z9 b15 34 #[.int .i64 nR, .slice Am8 nm8 cm8, .slice Af8 nf8 cf8] by rw [← hZ9, ← hb15]; exact Blk.new _ _ _)
    rw [hZ9, hb15]
    clear hZ9 hb15
    replace k8 := Lib.hid (k8.out.below (bthen hb8.out hbZ9) k8.out.lt)
    replace k9 := Lib.hid (k9.out.below (bthen hb8.out hbZ9) k9.out.lt)
    replace k10 := Lib.hid (k10.out.below (bthen hb8.out hbZ9) k10.out.lt)
    replace k11 := Lib.hid (k11.out.below (bthen hb8.out hbZ9) k11.out.lt)
    replace k12 := Lib.hid (k12.out.below (bthen hb8.out hbZ9) k12.out.lt)
    replace k13 := Lib.hid (k13.out.below (bthen hb8.out hbZ9) k13.out.lt)
    replace k14 := Lib.hid (k14.out.below (bthen hb8.out hbZ9) k14.out.lt)
    replace hrl := Lib.hid (hrl.out.then (bthen hb8.out hbZ9))
    replace hrm := Lib.hid (hrm.out.then (bthen hb8.out hbZ9))
    replace hm5 := Lib.hid (hm5.out.then (bthen hb8.out hbZ9))
    replace hf5 := Lib.hid (hf5.out.then (bthen hb8.out hbZ9))
    replace hm6 := Lib.hid (hm6.out.then (bthen hb8.out hbZ9))
    replace hf6 := Lib.hid (hf6.out.then (bthen hb8.out hbZ9))
    replace hm7 := Lib.hid (hm7.out.then (bthen hb8.out hbZ9))
    replace hf7 := Lib.hid (hf7.out.then (bthen hb8.out hbZ9))
    replace hB0 := Lib.hid (bthen hB0.out (bthen hb8.out hbZ9))
    replace hm8 := Lib.hid (hm8.out.then hbZ9)
    replace hf8 := Lib.hid (hf8.out.then hbZ9)
    clear hb8 hbZ9
    go_upto_region 17 with (fail)
    have hMb := Lib.hid (before_ok e1.out hgQ.out hP7.out)
    have hMc := Lib.hid (after_made e1.out hgP.out hx8.out)
    have htb := fun g : Gr Z9 => taken_any g.w1 nQ _ _ ms7 fsQ (hm7.out.then g.h) (hf7.out.then g.h)
    have htc := fun g : Gr Z9 => taken_any g.w1 nR _ _ ms8 fs8 (hm8.out.then g.h) (hf8.out.then g.h)
    simp only [List.take_of_length_le (show ms7.length ≤ 200000 from by have := hMb.out.few; omega), List.take_of_length_le (show fsQ.length ≤ 201 from by have := hlQ.out.2; omega)] at htb
    simp only [List.take_of_length_le (show ms8.length ≤ 200000 from by have := hMc.out.few; omega), List.take_of_length_le (show fs8.length ≤ 201 from by have := hMc.out.fin; omega)] at htc
    replace htb := Lib.hid htb
    replace htc := Lib.hid htc
    have ak140 : ∀ g : Gr Z9, g.w1.cell? ⟨b14, 0, none⟩ = some (.int .i64 nQ) := fun g => g.cell (k14.out.cell 0)
    have ak141 : ∀ g : Gr Z9, g.w1.cell? ⟨b14, 1, none⟩ = some (.slice Am7 nm7 cm7) := fun g => g.cell (k14.out.cell 1)
    have ak142 : ∀ g : Gr Z9, g.w1.cell? ⟨b14, 2, none⟩ = some (.slice Af7 nf7 cf7) := fun g => g.cell (k14.out.cell 2)
    have ak150 : ∀ g : Gr Z9, g.w1.cell? ⟨b15, 0, none⟩ = some (.int .i64 nR) := fun g => g.cell (k15.out.cell 0)
    have ak151 : ∀ g : Gr Z9, g.w1.cell? ⟨b15, 1, none⟩ = some (.slice Am8 nm8 cm8) := fun g => g.cell (k15.out.cell 1)
    have ak152 : ∀ g : Gr Z9, g.w1.cell? ⟨b15, 2, none⟩ = some (.slice Af8 nf8 cf8) := fun g => g.cell (k15.out.cell 2)
    refine wp_region_rels 6 [false, true, false, true, true, true] [] (fun kx h => if kx = 1 then acH h else if kx = 3 then acH h else if kx = 4 then .pointer (some ⟨h.k, 0, none⟩) else .pointer (some ⟨h.k, 0, none⟩))
      (fun kx h w => if kx = 1 then AcR Z9.heap.size (fun n' ms' fs' => n' = (nQ : Int) ∧ ms' = ms7 ∧ fs' = fsQ) h w else if kx = 3 then AcR Z9.heap.size (fun n' ms' fs' => n' = (nR : Int) ∧ ms' = ms8 ∧ fs' = fs8) h w else if kx = 4 then Z9.heap.size ≤ h.k ∧ Blk w h.k 28 #[.int .i64 0, .slice none 0 0, .slice none 0 0] else if kx = 5 then Z9.heap.size ≤ h.k ∧ Blk w h.k 28 #[.int .i64 0, .slice none 0 0, .slice none 0 0] else True) [false, false, false, false, true, true] (by kernel_rfl) (by kernel_rfl) ?_
    simp only [List.take_succ_cons, List.take_zero, List.drop_succ_cons, List.drop_zero]
    refine walkS_reads 1 _ _ _ _ (by kernel_rfl) (by kernel_rfl) (by simp) ?_
    simp only [List.take_succ_cons, List.take_zero, List.drop_succ_cons, List.drop_zero]
    repeat (go_big_quiet_step (fail))
    refine wpQuiet_nil ?_
    refine walkS_eff rfl (by kernel_rfl) (fun g hd => ?_) (fun h1 => ?_)
    · go_simp
      exact ⟨rfl, (htb.out g).mono (fun e w' ⟨vm', vf', h1, h2, h3, h4⟩ => by
        obtain ⟨q, e1, e2⟩ := ac_eff (P := fun n' ms' fs' => n' = (nQ : Int) ∧ ms' = ms7 ∧ fs' = fsQ) g.h.size h2 h3 ⟨rfl, rfl, rfl⟩
        exact ⟨q, by rw [h1, ← e1], h4, e2, fun e => by cases e⟩)⟩
    go_frame
    refine walkS_reads 1 _ _ _ _ (by kernel_rfl) (by kernel_rfl) (by simp) ?_
    simp only [List.take_succ_cons, List.take_zero, List.drop_succ_cons, List.drop_zero]
    repeat (go_big_quiet_step (fail))
    refine wpQuiet_nil ?_
    refine walkS_eff rfl (by kernel_rfl) (fun g hd => ?_) (fun h3 => ?_)
    · go_simp
      exact ⟨rfl, (htc.out g).mono (fun e w' ⟨vm', vf', h1, h2, h3, h4⟩ => by
        obtain ⟨q, e1, e2⟩ := ac_eff (P := fun n' ms' fs' => n' = (nR : Int) ∧ ms' = ms8 ∧ fs' = fs8) g.h.size h2 h3 ⟨rfl, rfl, rfl⟩
        exact ⟨q, by rw [h1, ← e1], h4, e2, fun e => by cases e⟩)⟩
    go_frame
    refine walkS_eff rfl (by kernel_rfl) (fun g hd => ?_) (fun h4 => ?_)
    · go_simp
      exact ⟨⟨none, 0, 0, g.w1.heap.size, 0, false⟩, rfl, below1 _ _, ⟨g.h.size, Blk.new _ _ _⟩, fun _ => ⟨Nat.le_refl _, by simp⟩⟩
    go_frame
    refine walkS_eff rfl (by kernel_rfl) (fun g hd => ?_) (fun h5 => ?_)
    · go_simp
      exact ⟨⟨none, 0, 0, g.w1.heap.size, 0, false⟩, rfl, below1 _ _, ⟨g.h.size, Blk.new _ _ _⟩, fun _ => ⟨Nat.le_refl _, by simp⟩⟩
    go_frame
    refine walkS_nil ?_
    rintro _ ⟨gY, rfl⟩ hK hS
    obtain ⟨nB, vmB, vfB, msB, fsB, eB, ho1, hf1, qB, em1, ef1⟩ := since_ac (show Since Z9 (AcR Z9.heap.size (fun n' ms' fs' => n' = (nQ : Int) ∧ ms' = ms7 ∧ fs' = fsQ)) h1 gY.w1 from by simpa using (hK 1 h1 rfl).1)
    obtain ⟨nC, vmC, vfC, msC, fsC, eC, ho2, hf2, qC, em2, ef2⟩ := since_ac (show Since Z9 (AcR Z9.heap.size (fun n' ms' fs' => n' = (nR : Int) ∧ ms' = ms8 ∧ fs' = fs8)) h3 gY.w1 from by simpa using (hK 3 h3 rfl).1)
    obtain ⟨m10, k16⟩ := since_blk (t := 28) (cs := #[.int .i64 0, .slice none 0 0, .slice none 0 0]) (by simpa using (hK 4 h4 rfl).1)
    obtain ⟨m11, k17⟩ := since_blk (t := 28) (cs := #[.int .i64 0, .slice none 0 0, .slice none 0 0]) (by simpa using (hK 5 h5 rfl).1)
    have hne := hS 4 5 h4 h5 (by decide) rfl rfl rfl rfl
    clear hK hS htb htc
    clear ak140 ak141 ak142 ak150 ak151 ak152
    rw [qB] at eB
    rw [qC] at eC
    rw [em1] at ho1
    rw [ef1] at hf1
    rw [em2] at ho2
    rw [ef2] at hf2
    clear qB qC em1 em2 ef1 ef2
    obtain ⟨Y, hBY⟩ := gY
    obtain ⟨Ad, xd, yd, rfl, hnd⟩ := OwnE.shape ho1
    obtain ⟨Ah, xh, yh, rfl, _⟩ := OwnE.shape hf1
    obtain ⟨Ae, xe, ye, rfl, hne2⟩ := OwnE.shape ho2
    obtain ⟨Ai, xi, yi, rfl, _⟩ := OwnE.shape hf2
    obtain ⟨_, _, _, b16, _, _⟩ := h4
    obtain ⟨_, _, _, b17, _, _⟩ := h5
    dsimp only at *
    rw [eB, eC]
    clear eB eC
    have hBYZ := hBY
    have y0 := k16.cell 0
    have y1 := k16.cell 1
    have y2 := k16.cell 2
    have y3 := k17.cell 0
    have y4 := k17.cell 1
    have y5 := k17.cell 2
    have f0 := k16.free 0
    have f1 := k16.free 1
    have f2 := k16.free 2
    have f3 := k17.free 0
    have f4 := k17.free 1
    have f5 := k17.free 2
    simp at y0 y1 y2 y3 y4 y5
    have hst := Lib.hid (law_aa k16 k17 hne (.int .i64 nQ) (.slice Ad xd yd) (.slice Ah xh yh) (.int .i64 nR) (.slice Ae xe ye) (.slice Ai xi yi))
    have hno1 := Lib.hid (And.intro (ho1.ne_blk k16 (by decide)) (ho1.ne_blk k17 (by decide)))
    have hno2 := Lib.hid (And.intro (hf1.ne_blk k16 (by decide)) (hf1.ne_blk k17 (by decide)))
    have hno3 := Lib.hid (And.intro (ho2.ne_blk k16 (by decide)) (ho2.ne_blk k17 (by decide)))
    have hno4 := Lib.hid (And.intro (hf2.ne_blk k16 (by decide)) (hf2.ne_blk k17 (by decide)))
    replace ho1 := Lib.hid ho1
    replace ho2 := Lib.hid ho2
    replace hf1 := Lib.hid hf1
    replace hf2 := Lib.hid hf2
    replace hBY := Lib.hid hBY
    clear k16 k17 hBYZ
    go_upto_region 18 with (fail)
    obtain ⟨Y2, hY2⟩ : ∃ Y2, (((((Y.setCell ⟨b16, 0, none⟩ (.int .i64 nQ)).setCell ⟨b16, 1, none⟩ (.slice Ad xd yd)).setCell ⟨b16, 2, none⟩ (.slice Ah xh yh)).setCell ⟨b17, 0, none⟩ (.int .i64 nR)).setCell ⟨b17, 1, none⟩ (.slice Ae xe ye)).setCell ⟨b17, 2, none⟩ (.slice Ai xi yi) = Y2 := ⟨_, rfl⟩
    rw [hY2] at hst ⊢
    obtain ⟨k16, k17, hbx⟩ := hst.out
    have hxo : ∀ {v : Value}, v.ownBlock ≠ some b16 ∧ v.ownBlock ≠ some b17 → ∀ g, v.ownBlock = some g → g ∉ [b16, b17] := fun hv g hg hm => by
      simp only [List.mem_cons, List.not_mem_nil, or_false] at hm
      rcases hm with rfl | rfl
      · exact hv.1 hg
      · exact hv.2 hg
    have hm1 := Lib.hid (ho1.out.of_block fun g hg => hbx.block g (ho1.out.lt g hg).2 (hxo hno1.out g hg)).els
    have hf1' := Lib.hid (hf1.out.of_block fun g hg => hbx.block g (hf1.out.lt g hg).2 (hxo hno2.out g hg)).els
    have hm2 := Lib.hid (ho2.out.of_block fun g hg => hbx.block g (ho2.out.lt g hg).2 (hxo hno3.out g hg)).els
    have hf2' := Lib.hid (hf2.out.of_block fun g hg => hbx.block g (hf2.out.lt g hg).2 (hxo hno4.out g hg)).els
    have hbc := hBY.out.trans (hbx.below hBY.out.size (by simp; omega))
    clear hY2 hst y0 y1 y2 y3 y4 y5 f0 f1 f2 f3 f4 f5 hbx hBY ho1 ho2 hf1 hf2 hno1 hno2 hno3 hno4 hxo m10 m11 hne
    replace k16 := Lib.hid k16
    replace k17 := Lib.hid k17
    replace k8 := Lib.hid (k8.out.below hbc k8.out.lt)
    replace k9 := Lib.hid (k9.out.below hbc k9.out.lt)
    replace k10 := Lib.hid (k10.out.below hbc k10.out.lt)
    replace k11 := Lib.hid (k11.out.below hbc k11.out.lt)
    replace k12 := Lib.hid (k12.out.below hbc k12.out.lt)
    replace k13 := Lib.hid (k13.out.below hbc k13.out.lt)
    replace k14 := Lib.hid (k14.out.below hbc k14.out.lt)
    replace k15 := Lib.hid (k15.out.below hbc k15.out.lt)
    replace hrl := Lib.hid (hrl.out.then hbc)
    replace hrm := Lib.hid (hrm.out.then hbc)
    replace hm5 := Lib.hid (hm5.out.then hbc)
    replace hf5 := Lib.hid (hf5.out.then hbc)
    replace hm6 := Lib.hid (hm6.out.then hbc)
    replace hf6 := Lib.hid (hf6.out.then hbc)
    replace hm7 := Lib.hid (hm7.out.then hbc)
    replace hf7 := Lib.hid (hf7.out.then hbc)
    replace hm8 := Lib.hid (hm8.out.then hbc)
    replace hf8 := Lib.hid (hf8.out.then hbc)
    replace hB0 := Lib.hid (bthen hB0.out hbc)
    clear hbc
    have hQ12 := hstQ.out _ _ hgQ.out
    have hP12 := hstP.out _ _ hgP.out
    have hnR : nP ≤ nR ∧ nR ≤ 42 := by obtain ⟨_, h1, _⟩ := hx8.out; omega
    have hQC : CN ≤ nQ := by have := hnQ.out; omega
    have hPC : CN ≤ nP := by have := hnP.out; omega
    have hmv2 : ∀ m ∈ ms7.map toMv, m.1 < nQ ∧ m.2.1 < 5 ∧ m.2.2 < nQ := fun m hm => by
      obtain ⟨m, hm', rfl⟩ := List.mem_map.1 hm
      have := hMb.out.rng m hm'
      have := hMb.out.non m hm'
      simp only [toMv]
      omega
    have hfv2 : ∀ f ∈ fsQ.map Int.toNat, f < nQ := fun f hf => by
      obtain ⟨f, hf', rfl⟩ := List.mem_map.1 hf
      have := hMb.out.frng f hf'
      omega
    have hmv3 : ∀ m ∈ ms8.map toMv, m.1 < nR ∧ m.2.1 < 5 ∧ m.2.2 < nR := fun m hm => by
      obtain ⟨m, hm', rfl⟩ := List.mem_map.1 hm
      have := hMc.out.rng m hm'
      have := hMc.out.non m hm'
      simp only [toMv]
      omega
    have hfv3 : ∀ f ∈ fs8.map Int.toNat, f < nR := fun f hf => by
      obtain ⟨f, hf', rfl⟩ := List.mem_map.1 hf
      have := hMc.out.frng f hf'
      omega
    have hofB := Lib.hid (fun g : Gr Y2 => of_eff (lo := Y2.heap.size) (ms := ms7.map toMv) (fs := fsQ.map Int.toNat) g.h.size (by omega) (by omega) (els_mv (hm1.out.then g.h) hMb.out.non) hmv2 (els_nat (hf1'.out.then g.h) (fun f hf => (hMb.out.frng f hf).1)) hfv2)
    have hofC := Lib.hid (fun g : Gr Y2 => of_eff (lo := Y2.heap.size) (ms := ms8.map toMv) (fs := fs8.map Int.toNat) g.h.size (by omega) (by omega) (els_mv (hm2.out.then g.h) hMc.out.non) hmv3 (els_nat (hf2'.out.then g.h) (fun f hf => (hMc.out.frng f hf).1)) hfv3)
    have hi1 := fun g : Gr Y2 => IsAcceptor_any g.w1 CN nQ 200 n1 p1 A1 _ _ ms7 fsQ (hm1.out.then g.h) (hf1'.out.then g.h)
    have hi2 := fun g : Gr Y2 => IsAcceptor_any g.w1 CN nR 200 n1 p1 A1 _ _ ms8 fs8 (hm2.out.then g.h) (hf2'.out.then g.h)
    simp only [hMb.out.acc] at hi1
    simp only [hMc.out.acc] at hi2
    replace hi1 := Lib.hid hi1
    replace hi2 := Lib.hid hi2
    have hacB : decide (bestN nQ (ofF (fsQ.map Int.toNat)) (costs nQ (ofX (ms7.map toMv)) (cs s) (only1 xN)) < 1073741824) = RB := by
      have h1 := hgQ.out
      have h2 := hP7.out
      rw [← hmsQ.out, ← hfsQ.out] at h1
      rw [← hmsQ.out] at h2
      rw [← hfsQ.out, before_acc e1.out h1 e2.out e3.out h2]
      exact hRB.out
    have hacC : decide (bestN nR (ofF (fs8.map Int.toNat)) (costs nR (ofX (ms8.map toMv)) (cs t) (only1 yN)) < 1073741824) = RB := by
      have h1 := hgP.out
      have h2 := hx8.out
      rw [← hmsP.out, ← hfsP.out] at h1
      rw [← hmsP.out, ← hfsP.out] at h2
      rw [after_acc e1.out h1 hnP.out e2.out e3.out h2]
      exact hRB.out
    have hAB := fun (g : Gr Y2) (k b off cap : Nat) (hT : TM g.w1 nQ k b off cap (ofX (ms7.map toMv)) (ofF (fsQ.map Int.toNat))) => AcceptsR_any g.w1 nQ xN k _ _ _ s hT.le.1 hT.le.2 hT.cua hT.fin (by omega) hws.out (by omega) hT.ok.rng (fun p q _ _ => ofX_eps (fun m hm => (hmv2 m hm).2.1) p q)
    have hAC := fun (g : Gr Y2) (k b off cap : Nat) (hT : TM g.w1 nR k b off cap (ofX (ms8.map toMv)) (ofF (fs8.map Int.toNat))) => AcceptsR_any g.w1 nR yN k _ _ _ t hT.le.1 hT.le.2 hT.cua hT.fin (by omega) hwt.out (by omega) hT.ok.rng (fun p q _ _ => ofX_eps (fun m hm => (hmv3 m hm).2.1) p q)
    simp only [hacB] at hAB
    simp only [hacC] at hAC
    replace hAB := Lib.hid hAB
    replace hAC := Lib.hid hAC
    have hRBn : (RB != RB) = false := by cases RB <;> rfl
    clear hacB hacC hmv2 hmv3 hfv2 hfv3
    have ak80 : ∀ g : Gr Y2, g.w1.cell? ⟨b8, 0, none⟩ = some (.int .i64 CN) := fun g => g.cell (k8.out.cell 0)
    have ak81 : ∀ g : Gr Y2, g.w1.cell? ⟨b8, 1, none⟩ = some (.slice A1 n1 p1) := fun g => g.cell (k8.out.cell 1)
    have ak90 : ∀ g : Gr Y2, g.w1.cell? ⟨b9, 0, none⟩ = some (.int .i64 xN) := fun g => g.cell (k9.out.cell 0)
    have ak91 : ∀ g : Gr Y2, g.w1.cell? ⟨b9, 1, none⟩ = some (.string s) := fun g => g.cell (k9.out.cell 1)
    have ak100 : ∀ g : Gr Y2, g.w1.cell? ⟨b10, 0, none⟩ = some (.int .i64 yN) := fun g => g.cell (k10.out.cell 0)
    have ak101 : ∀ g : Gr Y2, g.w1.cell? ⟨b10, 1, none⟩ = some (.string t) := fun g => g.cell (k10.out.cell 1)
    have ak160 : ∀ g : Gr Y2, g.w1.cell? ⟨b16, 0, none⟩ = some (.int .i64 nQ) := fun g => g.cell (k16.out.cell 0)
    have ak161 : ∀ g : Gr Y2, g.w1.cell? ⟨b16, 1, none⟩ = some (.slice Ad xd yd) := fun g => g.cell (k16.out.cell 1)
    have ak162 : ∀ g : Gr Y2, g.w1.cell? ⟨b16, 2, none⟩ = some (.slice Ah xh yh) := fun g => g.cell (k16.out.cell 2)
    have ak170 : ∀ g : Gr Y2, g.w1.cell? ⟨b17, 0, none⟩ = some (.int .i64 nR) := fun g => g.cell (k17.out.cell 0)
    have ak171 : ∀ g : Gr Y2, g.w1.cell? ⟨b17, 1, none⟩ = some (.slice Ae xe ye) := fun g => g.cell (k17.out.cell 1)
    have ak172 : ∀ g : Gr Y2, g.w1.cell? ⟨b17, 2, none⟩ = some (.slice Ai xi yi) := fun g => g.cell (k17.out.cell 2)
    refine wp_region_rels 25 [false, false, true, false, false, false, false, true, false, false, false, false, true, false, true, false, false, false, false, false, true, false, true, false, false] [[], [], [], [], [], [], [], [], [], [], [], [], [], [], [12], [], [], [], [], [], [], [], [20]] (fun kx h => if kx = 2 then .bool true else if kx = 7 then .bool true else if kx = 12 then .agg #[.slice h.A h.n h.cap, .slice (some ⟨h.k, 0, none⟩) nQ nQ] else if kx = 14 then .bool RB else if kx = 20 then .agg #[.slice h.A h.n h.cap, .slice (some ⟨h.k, 0, none⟩) nR nR] else .bool RB)
      (fun kx h w => if kx = 12 then TMx nQ (ofF (fsQ.map Int.toNat)) (fun X => X = ofX (ms7.map toMv)) h w else if kx = 20 then TMx nR (ofF (fs8.map Int.toNat)) (fun X => X = ofX (ms8.map toMv)) h w else True) [] (by kernel_rfl) (by kernel_rfl) ?_
    simp only [List.take_succ_cons, List.take_zero, List.drop_succ_cons, List.drop_zero]
    refine walkS_reads 2 _ _ _ _ (by kernel_rfl) (by kernel_rfl) (by simp) ?_
    simp only [List.take_succ_cons, List.take_zero, List.drop_succ_cons, List.drop_zero]
    repeat (go_big_quiet_step (fail))
    refine wpQuiet_nil ?_
    refine walkS_eff rfl (by kernel_rfl) (fun g hd => ?_) (fun h2 => ?_)
    · go_simp
      exact ⟨rfl, (hi1.out g).mono (fun e w' ⟨h1, h3⟩ => ⟨default, h1, h3, trivial, fun e => by cases e⟩)⟩
    go_frame
    simp only [Nat.reduceAdd, Nat.reduceEqDiff, reduceIte]
    refine walkS_reads 4 _ _ _ _ (by kernel_rfl) (by kernel_rfl) (by simp) ?_
    simp only [List.take_succ_cons, List.take_zero, List.drop_succ_cons, List.drop_zero]
    repeat (go_big_quiet_step (fail))
    refine wpQuiet_nil ?_
    refine walkS_eff rfl (by kernel_rfl) (fun g hd => ?_) (fun h7 => ?_)
    · go_simp
      exact ⟨rfl, (hi2.out g).mono (fun e w' ⟨h1, h3⟩ => ⟨default, h1, h3, trivial, fun e => by cases e⟩)⟩
    go_frame
    simp only [Nat.reduceAdd, Nat.reduceEqDiff, reduceIte]
    refine walkS_reads 4 _ _ _ _ (by kernel_rfl) (by kernel_rfl) (by simp) ?_
    simp only [List.take_succ_cons, List.take_zero, List.drop_succ_cons, List.drop_zero]
    repeat (go_big_quiet_step (fail))
    refine wpQuiet_nil ?_
    refine walkS_eff rfl (by kernel_rfl) (fun g hd => ?_) (fun h12 => ?_)
    · go_simp
      exact ⟨rfl, (hofB.out g).mono (fun e w' ⟨q, h1, h2, h3⟩ => ⟨q, h1, h3, h2, fun e => by cases e⟩)⟩
    go_frame
    simp only [Nat.reduceAdd, Nat.reduceEqDiff, reduceIte]
    refine walkS_reads 1 _ _ _ _ (by kernel_rfl) (by kernel_rfl) (by simp) ?_
    simp only [List.take_succ_cons, List.take_zero, List.drop_succ_cons, List.drop_zero]
    repeat (go_big_quiet_step (fail))
    refine wpQuiet_nil ?_
    refine walkS_eff rfl (by kernel_rfl) (fun g hd => ?_) (fun h14 => ?_)
    · go_simp
      obtain ⟨X, ⟨bX, oX, eX1, eX2, hTX⟩, hPX⟩ := since_tm (show Since Y2 (TMx nQ (ofF (fsQ.map Int.toNat)) (fun X => X = ofX (ms7.map toMv))) h12 g.w1 from by simpa using hd 12 (by simp) h12 rfl)
      obtain ⟨A9, n9, c9, k9', _, _⟩ := h12
      dsimp only at *
      subst eX1 eX2 hPX
      exact ⟨rfl, (hAB.out g _ _ _ _ hTX).mono (fun e w' ⟨h1, h3⟩ => ⟨default, h1, h3, trivial, fun e => by cases e⟩)⟩
    go_frame
    simp only [Nat.reduceAdd, Nat.reduceEqDiff, reduceIte]
    refine walkS_reads 5 _ _ _ _ (by kernel_rfl) (by kernel_rfl) (by simp) ?_
    simp only [List.take_succ_cons, List.take_zero, List.drop_succ_cons, List.drop_zero]
    repeat (go_big_quiet_step (fail))
    refine wpQuiet_nil ?_
    refine walkS_eff rfl (by kernel_rfl) (fun g hd => ?_) (fun h20 => ?_)
    · go_simp
      exact ⟨rfl, (hofC.out g).mono (fun e w' ⟨q, h1, h2, h3⟩ => ⟨q, h1, h3, h2, fun e => by cases e⟩)⟩
    go_frame
    simp only [Nat.reduceAdd, Nat.reduceEqDiff, reduceIte]
    refine walkS_reads 1 _ _ _ _ (by kernel_rfl) (by kernel_rfl) (by simp) ?_
    simp only [List.take_succ_cons, List.take_zero, List.drop_succ_cons, List.drop_zero]
    repeat (go_big_quiet_step (fail))
    refine wpQuiet_nil ?_
    refine walkS_eff rfl (by kernel_rfl) (fun g hd => ?_) (fun h22 => ?_)
    · go_simp
      obtain ⟨X, ⟨bX, oX, eX1, eX2, hTX⟩, hPX⟩ := since_tm (show Since Y2 (TMx nR (ofF (fs8.map Int.toNat)) (fun X => X = ofX (ms8.map toMv))) h20 g.w1 from by simpa using hd 20 (by simp) h20 rfl)
      obtain ⟨A9, n9, c9, k9', _, _⟩ := h20
      dsimp only at *
      subst eX1 eX2 hPX
      exact ⟨rfl, (hAC.out g _ _ _ _ hTX).mono (fun e w' ⟨h1, h3⟩ => ⟨default, h1, h3, trivial, fun e => by cases e⟩)⟩
    go_frame
    simp only [Nat.reduceAdd, Nat.reduceEqDiff, reduceIte]
    refine walkS_reads 2 _ _ _ _ (by kernel_rfl) (by kernel_rfl) (by simp) ?_
    simp only [List.take_succ_cons, List.take_zero, List.drop_succ_cons, List.drop_zero]
    repeat (go_big_quiet_step (fail))
    refine wpQuiet_nil ?_
    refine walkS_nil ?_
    rintro _ ⟨gY, rfl⟩ hK hS
    clear hK hS
    obtain ⟨YE, hYE⟩ := gY
    dsimp only at *
    replace hB0 := Lib.hid (bthen hB0.out hYE)
    replace hYE := Lib.hid hYE
    go_wp2
    go_meet
    exact hB0.out
  case rest =>
    have hbc := hcut.out
    obtain ⟨Z8, hZ8⟩ : ∃ Z, Z = wc := ⟨_, rfl⟩
    subst hZ8
    replace k8 := Lib.hid (k8.out.below hbc k8.out.lt)
    replace k9 := Lib.hid (k9.out.below hbc k9.out.lt)
    replace k10 := Lib.hid (k10.out.below hbc k10.out.lt)
    replace k11 := Lib.hid (k11.out.below hbc k11.out.lt)
    replace k12 := Lib.hid (k12.out.below hbc k12.out.lt)
    replace k13 := Lib.hid (k13.out.below hbc k13.out.lt)
    replace hrl := Lib.hid (hrl.out.then hbc)
    replace hrm := Lib.hid (hrm.out.then hbc)
    replace hm5 := Lib.hid (hm5.out.then hbc)
    replace hf5 := Lib.hid (hf5.out.then hbc)
    replace hm6 := Lib.hid (hm6.out.then hbc)
    replace hf6 := Lib.hid (hf6.out.then hbc)
    replace hBw2 := Lib.hid (bthen hBw2.out hbc)
    clear hcut hbc
    have hst1 := Lib.hid (fun g : Gr Z8 => stack_any g.w1 xN s)
    have hst2 := Lib.hid (fun g : Gr Z8 => stack_any g.w1 yN t)
    have hrun := Lib.hid (fun g : Gr Z8 => Run_any g.w1 CN xN yN _ l s t (hrm.out.then g.h) hput.out (by omega) (by omega) (allE_zero e1.out e2.out e3.out))
    go_upto_region 20 with (fail)
    have ak90 : ∀ g : Gr Z8, g.w1.cell? ⟨b9, 0, none⟩ = some (.int .i64 xN) := fun g => g.cell (k9.out.cell 0)
    have ak91 : ∀ g : Gr Z8, g.w1.cell? ⟨b9, 1, none⟩ = some (.string s) := fun g => g.cell (k9.out.cell 1)
    have ak100 : ∀ g : Gr Z8, g.w1.cell? ⟨b10, 0, none⟩ = some (.int .i64 yN) := fun g => g.cell (k10.out.cell 0)
    have ak101 : ∀ g : Gr Z8, g.w1.cell? ⟨b10, 1, none⟩ = some (.string t) := fun g => g.cell (k10.out.cell 1)
    have ak110 : ∀ g : Gr Z8, g.w1.cell? ⟨b11, 0, none⟩ = some (.int .i64 CN) := fun g => g.cell (k11.out.cell 0)
    have ak111 : ∀ g : Gr Z8, g.w1.cell? ⟨b11, 1, none⟩ = some (.slice A2 n2 p2) := fun g => g.cell (k11.out.cell 1)
    refine wp_region_rels 12 [false, false, true, false, true, true, false, false, false, false, false, false] [] (fun kx h => if kx = 2 then cv ⟨xN, s⟩ else if kx = 4 then cv ⟨yN, t⟩ else runV h)
      (fun kx h w => if kx = 5 then RunRes l xN s yN t Z8.heap.size (.returned (runV h)) w else True) [] (by kernel_rfl) (by kernel_rfl) ?_
    simp only [List.take_succ_cons, List.take_zero, List.drop_succ_cons, List.drop_zero]
    refine walkS_reads 2 _ _ _ _ (by kernel_rfl) (by kernel_rfl) (by simp) ?_
    simp only [List.take_succ_cons, List.take_zero, List.drop_succ_cons, List.drop_zero]
    repeat (go_big_quiet_step (fail))
    refine wpQuiet_nil ?_
    refine walkS_eff rfl (by kernel_rfl) (fun g hd => ?_) (fun h2 => ?_)
    · go_simp
      exact ⟨rfl, (hst1.out g).mono (fun e w' ⟨h1, h3⟩ => ⟨default, h1, h3, trivial, fun e => by cases e⟩)⟩
    go_frame
    refine walkS_reads 1 _ _ _ _ (by kernel_rfl) (by kernel_rfl) (by simp) ?_
    simp only [List.take_succ_cons, List.take_zero, List.drop_succ_cons, List.drop_zero]
    repeat (go_big_quiet_step (fail))
    refine wpQuiet_nil ?_
    refine walkS_eff rfl (by kernel_rfl) (fun g hd => ?_) (fun h4 => ?_)
    · go_simp
      exact ⟨rfl, (hst2.out g).mono (fun e w' ⟨h1, h3⟩ => ⟨default, h1, h3, trivial, fun e => by cases e⟩)⟩
    go_frame
    refine walkS_eff rfl (by kernel_rfl) (fun g hd => ?_) (fun h5 => ?_)
    · go_simp
      exact ⟨rfl, (hrun.out g).mono (fun e w' ⟨h1, h3⟩ => by
        obtain ⟨q, rfl, h2⟩ := run_hole h1 g.h.size
        exact ⟨q, rfl, h3, h2, fun e => by cases e⟩)⟩
    go_frame
    refine walkS_reads 6 _ _ _ _ (by kernel_rfl) (by kernel_rfl) (by simp) ?_
    simp only [List.take_succ_cons, List.take_zero, List.drop_succ_cons, List.drop_zero]
    repeat (go_big_quiet_step (fail))
    refine wpQuiet_nil ?_
    refine walkS_nil ?_
    rintro _ ⟨gY, rfl⟩ hK hS
    have hres := since_run (by simpa using (hK 5 h5 rfl).1)
    clear hst1 hst2 hrun
    clear ak90 ak91 ak100 ak101 ak110 ak111
    obtain ⟨A3, n3, p3, _, q3, o3⟩ := h5
    obtain ⟨Y, hbY⟩ := gY
    dsimp only at *
    replace k8 := Lib.hid (k8.out.below hbY k8.out.lt)
    replace k9 := Lib.hid (k9.out.below hbY k9.out.lt)
    replace k10 := Lib.hid (k10.out.below hbY k10.out.lt)
    replace k11 := Lib.hid (k11.out.below hbY k11.out.lt)
    replace k12 := Lib.hid (k12.out.below hbY k12.out.lt)
    replace k13 := Lib.hid (k13.out.below hbY k13.out.lt)
    replace hrl := Lib.hid (hrl.out.then hbY)
    replace hrm := Lib.hid (hrm.out.then hbY)
    replace hm5 := Lib.hid (hm5.out.then hbY)
    replace hf5 := Lib.hid (hf5.out.then hbY)
    replace hm6 := Lib.hid (hm6.out.then hbY)
    replace hf6 := Lib.hid (hf6.out.then hbY)
    replace hBw2 := Lib.hid (bthen hBw2.out hbY)
    clear hK hS hbY
    rcases run_cases hres with ⟨hno, rfl, rfl, rfl, rfl, rfl⟩ | ⟨hre, hlong, rfl, rfl, rfl, rfl, rfl⟩ | ⟨rs, hsteps, hlen, rfl, rfl, ho⟩
    · have hR0 : RB = false := by
        have := hRB.out
        cases hb : RB with
        | false => rfl
        | true => rw [hb] at this; exact absurd (reachB_iff.1 this) hno
      subst hR0
      clear hno hres hRB
      have hawk := Lib.hid (fun g : Gr Y => awake_any g.w1)
      go_upto_region 23 with (fail)
      refine wp_region_rels 19 [false, false, false, false, false, false, false, false, false, false, false, false, false, false, false, false, false, true, false] [] (fun kx h => .bool true)
        (fun kx h w => True) [] (by kernel_rfl) (by kernel_rfl) ?_
      simp only [List.take_succ_cons, List.take_zero, List.drop_succ_cons, List.drop_zero]
      refine walkS_reads 9 _ _ _ _ (by kernel_rfl) (by kernel_rfl) (by simp) ?_
      simp only [List.take_succ_cons, List.take_zero, List.drop_succ_cons, List.drop_zero]
      repeat (go_big_quiet_step (fail))
      refine wpQuiet_nil ?_
      refine walkS_skip (by decide) (by kernel_rfl) ?_
      go_frame
      refine walkS_reads 1 _ _ _ _ (by kernel_rfl) (by kernel_rfl) (by simp) ?_
      simp only [List.take_succ_cons, List.take_zero, List.drop_succ_cons, List.drop_zero]
      repeat (go_big_quiet_step (fail))
      refine wpQuiet_nil ?_
      refine walkS_skip (by decide) (by kernel_rfl) ?_
      go_frame
      refine walkS_reads 1 _ _ _ _ (by kernel_rfl) (by kernel_rfl) (by simp) ?_
      simp only [List.take_succ_cons, List.take_zero, List.drop_succ_cons, List.drop_zero]
      repeat (go_big_quiet_step (fail))
      refine wpQuiet_nil ?_
      refine walkS_skip (by decide) (by kernel_rfl) ?_
      go_frame
      refine walkS_reads 3 _ _ _ _ (by kernel_rfl) (by kernel_rfl) (by simp) ?_
      simp only [List.take_succ_cons, List.take_zero, List.drop_succ_cons, List.drop_zero]
      repeat (go_big_quiet_step (fail))
      refine wpQuiet_nil ?_
      refine walkS_eff rfl (by kernel_rfl) (fun g hd => ?_) (fun h17 => ?_)
      · go_simp
        exact ⟨rfl, (hawk.out g).mono (fun e w' ⟨h1, h3⟩ => ⟨default, h1, h3, trivial, fun e => by cases e⟩)⟩
      go_frame
      simp only [Nat.reduceAdd]
      refine walkS_reads 1 _ _ _ _ (by kernel_rfl) (by kernel_rfl) (by simp) ?_
      simp only [List.take_succ_cons, List.take_zero, List.drop_succ_cons, List.drop_zero]
      repeat (go_big_quiet_step (fail))
      refine wpQuiet_nil ?_
      refine walkS_nil ?_
      rintro _ ⟨gY, rfl⟩ hK hS
      obtain ⟨Y9, hY9⟩ := gY
      dsimp only at *
      have hfin := Lib.hid (bthen hBw2.out hY9)
      clear hK hS hY9
      go_wp2
      go_ret
      exact ⟨rfl, hfin.out⟩
    · have hR0 : RB = true := by rw [← hRB.out]; exact reachB_iff.2 hre
      subst hR0
      clear hre hlong hres hRB
      go_wp2_with (go_at_call 10; refine (awake_any _).mono ?_; rintro e w9 ⟨rfl, hb9⟩; have hb9 := Lib.hid hb9)
      go_ret
      exact ⟨rfl, bthen hBw2.out hb9.out⟩
    · have hR0 : RB = true := by rw [← hRB.out]; exact reachB_iff.2 ⟨rs, hsteps⟩
      subst hR0
      have hval := isRunB_of hsteps hlen
      have hrk := els_ints ho.els
      replace hrk := Lib.hid hrk
      clear hres hRB hsteps hlen ho
      have hisr := fun g : Gr Y => IsRun_any g.w1 CN xN yN _ _ l s t _ (hrm.out.then g.h) (hrk.out.below (Nat.le_refl _) g.h) hput.out (by omega) (by omega)
      simp only [hval, allE_zero e1.out e2.out e3.out, decide_true, Bool.and_true] at hisr
      replace hisr := Lib.hid hisr
      clear hval
      have hst1 := Lib.hid (fun g : Gr Y => stack_any g.w1 xN s)
      have hst2 := Lib.hid (fun g : Gr Y => stack_any g.w1 yN t)
      have hawk := Lib.hid (fun g : Gr Y => awake_any g.w1)
      go_upto_region 23 with (fail)
      have ak90 : ∀ g : Gr Y, g.w1.cell? ⟨b9, 0, none⟩ = some (.int .i64 xN) := fun g => g.cell (k9.out.cell 0)
      have ak91 : ∀ g : Gr Y, g.w1.cell? ⟨b9, 1, none⟩ = some (.string s) := fun g => g.cell (k9.out.cell 1)
      have ak100 : ∀ g : Gr Y, g.w1.cell? ⟨b10, 0, none⟩ = some (.int .i64 yN) := fun g => g.cell (k10.out.cell 0)
      have ak101 : ∀ g : Gr Y, g.w1.cell? ⟨b10, 1, none⟩ = some (.string t) := fun g => g.cell (k10.out.cell 1)
      have ak110 : ∀ g : Gr Y, g.w1.cell? ⟨b11, 0, none⟩ = some (.int .i64 CN) := fun g => g.cell (k11.out.cell 0)
      have ak111 : ∀ g : Gr Y, g.w1.cell? ⟨b11, 1, none⟩ = some (.slice A2 n2 p2) := fun g => g.cell (k11.out.cell 1)
      refine wp_region_rels 19 [false, false, false, false, false, false, false, false, false, true, false, true, false, true, false, false, false, true, false] [] (fun kx h => if kx = 9 then cv ⟨xN, s⟩ else if kx = 11 then cv ⟨yN, t⟩ else if kx = 13 then .bool true else .bool true)
        (fun kx h w => True) [] (by kernel_rfl) (by kernel_rfl) ?_
      simp only [List.take_succ_cons, List.take_zero, List.drop_succ_cons, List.drop_zero]
      refine walkS_reads 9 _ _ _ _ (by kernel_rfl) (by kernel_rfl) (by simp) ?_
      simp only [List.take_succ_cons, List.take_zero, List.drop_succ_cons, List.drop_zero]
      repeat (go_big_quiet_step (fail))
      refine wpQuiet_nil ?_
      refine walkS_eff rfl (by kernel_rfl) (fun g hd => ?_) (fun h9 => ?_)
      · go_simp
        exact ⟨rfl, (hst1.out g).mono (fun e w' ⟨h1, h3⟩ => ⟨default, h1, h3, trivial, fun e => by cases e⟩)⟩
      go_frame
      simp only [Nat.reduceAdd, Nat.reduceEqDiff, reduceIte]
      refine walkS_reads 1 _ _ _ _ (by kernel_rfl) (by kernel_rfl) (by simp) ?_
      simp only [List.take_succ_cons, List.take_zero, List.drop_succ_cons, List.drop_zero]
      repeat (go_big_quiet_step (fail))
      refine wpQuiet_nil ?_
      refine walkS_eff rfl (by kernel_rfl) (fun g hd => ?_) (fun h11 => ?_)
      · go_simp
        exact ⟨rfl, (hst2.out g).mono (fun e w' ⟨h1, h3⟩ => ⟨default, h1, h3, trivial, fun e => by cases e⟩)⟩
      go_frame
      simp only [Nat.reduceAdd, Nat.reduceEqDiff, reduceIte]
      refine walkS_reads 1 _ _ _ _ (by kernel_rfl) (by kernel_rfl) (by simp) ?_
      simp only [List.take_succ_cons, List.take_zero, List.drop_succ_cons, List.drop_zero]
      repeat (go_big_quiet_step (fail))
      refine wpQuiet_nil ?_
      refine walkS_eff rfl (by kernel_rfl) (fun g hd => ?_) (fun h13 => ?_)
      · go_simp
        exact ⟨rfl, (hisr.out g).mono (fun e w' ⟨h1, h3⟩ => ⟨default, h1, h3, trivial, fun e => by cases e⟩)⟩
      go_frame
      simp only [Nat.reduceAdd, Nat.reduceEqDiff, reduceIte]
      refine walkS_reads 3 _ _ _ _ (by kernel_rfl) (by kernel_rfl) (by simp) ?_
      simp only [List.take_succ_cons, List.take_zero, List.drop_succ_cons, List.drop_zero]
      repeat (go_big_quiet_step (fail))
      refine wpQuiet_nil ?_
      refine walkS_eff rfl (by kernel_rfl) (fun g hd => ?_) (fun h17 => ?_)
      · go_simp
        exact ⟨rfl, (hawk.out g).mono (fun e w' ⟨h1, h3⟩ => ⟨default, h1, h3, trivial, fun e => by cases e⟩)⟩
      go_frame
      simp only [Nat.reduceAdd, Nat.reduceEqDiff, reduceIte]
      refine walkS_reads 1 _ _ _ _ (by kernel_rfl) (by kernel_rfl) (by simp) ?_
      simp only [List.take_succ_cons, List.take_zero, List.drop_succ_cons, List.drop_zero]
      repeat (go_big_quiet_step (fail))
      refine wpQuiet_nil ?_
      refine walkS_nil ?_
      rintro _ ⟨gY, rfl⟩ hK hS
      obtain ⟨Y9, hY9⟩ := gY
      dsimp only at *
      have hfin := Lib.hid (bthen hBw2.out hY9)
      clear hK hS hY9
      go_wp2
      go_ret
      exact ⟨rfl, hfin.out⟩
end Go.Proofs.YtaapnflhjbdmlaaGreatDoor
