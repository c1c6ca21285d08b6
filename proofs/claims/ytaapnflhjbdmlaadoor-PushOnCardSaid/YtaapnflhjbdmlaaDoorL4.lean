/- PushOn: the walk. No condition. -/
import Derived.Test.YtaapnflhjbdmlaaDoorLC
namespace Go.Proofs.YtaapnflhjbdmlaaDoor
open Go.RowKit Go.Shelf
attribute [local go_sem] Oper.semAt_some

theorem any_take_succ {α : Type} {l : List α} {k : Nat} (h : k < l.length) (f : α → Bool) : (l.take (k + 1)).any f = ((l.take k).any f || f l[k]) := by
  rw [List.take_add_one, List.getElem?_eq_getElem h, List.any_append]
  simp
set_option maxRecDepth 8000 in
set_option maxHeartbeats 8000000 in
theorem law4 (w : World) (C cx dx : Int) (v : Value) (l0 : List RuleB) (s0 t0 : ByteArray) (h : Rls w v l0) (hs0 : s0.size ≤ 9223372036854775807) (ht0 : t0.size ≤ 9223372036854775807) :
    Calls Tryd.prog 4 #[sv C v, cv ⟨cx, s0⟩, cv ⟨dx, t0⟩] w fun e w' => e = .returned (.bool true) ∧ Below w.heap.size w w' := by
  obtain ⟨A, n, cap, rfl, hn⟩ := Els.shape h
  obtain ⟨W, hW⟩ : ∃ W, ((w.alloc (.cells #[.int .i64 C, .slice A n cap] 24)).alloc (.cells #[.int .i64 cx, .string s0] 26)).alloc (.cells #[.int .i64 dx, .string t0] 26) = W := ⟨_, rfl⟩
  have hBW : Below w.heap.size w W := by rw [← hW]; exact bthen (below1 _ _) (bthen (below1 _ _) (below1 _ _))
  have kS : Blk W w.heap.size 24 #[.int .i64 C, .slice A n cap] := by rw [← hW]; exact ((Blk.new w 24 _).alloc _).alloc _
  have kP : Blk W (w.heap.size + 1) 26 #[.int .i64 cx, .string s0] := by rw [← hW]; have := Blk.new (w.alloc (.cells #[.int .i64 C, .slice A n cap] 24)) 26 #[.int .i64 cx, .string s0]; rw [alloc_size] at this; exact this.alloc _
  have kQ : Blk W (w.heap.size + 1 + 1) 26 #[.int .i64 dx, .string t0] := by rw [← hW]; have := Blk.new ((w.alloc (.cells #[.int .i64 C, .slice A n cap] 24)).alloc (.cells #[.int .i64 cx, .string s0] 26)) 26 #[.int .i64 dx, .string t0]; rw [alloc_size, alloc_size] at this; exact this
  have c0 : ∀ g : Gr W, g.w1.cell? ⟨w.heap.size, 0, none⟩ = some (.int .i64 C) := fun g => g.cell (kS.cell 0)
  have c1 : ∀ g : Gr W, g.w1.cell? ⟨w.heap.size, 1, none⟩ = some (.slice A n cap) := fun g => g.cell (kS.cell 1)
  have c2 : ∀ g : Gr W, g.w1.cell? ⟨w.heap.size + 1, 0, none⟩ = some (.int .i64 cx) := fun g => g.cell (kP.cell 0)
  have c3 : ∀ g : Gr W, g.w1.cell? ⟨w.heap.size + 1, 1, none⟩ = some (.string s0) := fun g => g.cell (kP.cell 1)
  have c4 : ∀ g : Gr W, g.w1.cell? ⟨w.heap.size + 1 + 1, 0, none⟩ = some (.int .i64 dx) := fun g => g.cell (kQ.cell 0)
  have c5 : ∀ g : Gr W, g.w1.cell? ⟨w.heap.size + 1 + 1, 1, none⟩ = some (.string t0) := fun g => g.cell (kQ.cell 1)
  have hown := Lib.hid (fun g : Gr W => own_any g.w1 C _ l0 ((Els.then h hBW).then g.h))
  have hc1 := Lib.hid (fun g : Gr W => config_any g.w1 cx s0 hs0)
  have hc2 := Lib.hid (fun g : Gr W => config_any g.w1 dx t0 ht0)
  replace hBW := Lib.hid hBW
  clear h kS kP kQ
  go_enter Tryd.func4, Tryd.ntmps4
  go_wp2
  refine wp_region_rels 9 [false, true, false, true, false, true, true, true, true] [] (fun k h => if k = 1 then sv C (.slice h.A h.n h.cap) else if k = 3 then cv ⟨cx, cutP 21 s0⟩ else if k = 5 then cv ⟨dx, cutP 21 t0⟩ else .pointer (some ⟨h.k, 0, none⟩))
    (fun k h w => if k = 1 then OwnE ElR 61 W.heap.size w (.slice h.A h.n h.cap) (ownR l0) else if k = 6 then W.heap.size ≤ h.k ∧ Blk w h.k 24 #[.int .i64 0, .slice none 0 0] else if k = 7 ∨ k = 8 then W.heap.size ≤ h.k ∧ Blk w h.k 26 #[.int .i64 0, .string ⟨#[]⟩] else True) [false, false, false, false, false, false, true, true, true] (by kernel_rfl) (by kernel_rfl) ?_
  simp only [List.take_succ_cons, List.take_zero, List.drop_succ_cons, List.drop_zero]
  refine walkS_reads 1 _ _ _ _ (by kernel_rfl) (by kernel_rfl) (by simp) ?_
  simp only [List.take_succ_cons, List.take_zero, List.drop_succ_cons, List.drop_zero]
  repeat (go_big_quiet_step (fail))
  refine wpQuiet_nil ?_
  refine walkS_eff rfl (by kernel_rfl) (fun g hd => ?_) (fun h1 => ?_)
  · go_simp
    exact ⟨rfl, (hown.out g).mono (fun e w' ⟨v', h1, h2, h3⟩ => by
      obtain ⟨A5, n5, c5, rfl, _⟩ := OwnE.shape h2
      exact ⟨⟨A5, n5, c5, 0, 0, false⟩, h1, h3, h2.lo_le g.h.size, fun e => by cases e⟩)⟩
  go_frame
  refine walkS_reads 1 _ _ _ _ (by kernel_rfl) (by kernel_rfl) (by simp) ?_
  simp only [List.take_succ_cons, List.take_zero, List.drop_succ_cons, List.drop_zero]
  repeat (go_big_quiet_step (fail))
  refine wpQuiet_nil ?_
  refine walkS_eff rfl (by kernel_rfl) (fun g hd => ?_) (fun h4 => ?_)
  · go_simp
    exact ⟨rfl, (hc1.out g).mono (fun e w' ⟨h1, h3⟩ => ⟨default, h1, h3, trivial, fun e => by cases e⟩)⟩
  go_frame
  refine walkS_reads 1 _ _ _ _ (by kernel_rfl) (by kernel_rfl) (by simp) ?_
  simp only [List.take_succ_cons, List.take_zero, List.drop_succ_cons, List.drop_zero]
  repeat (go_big_quiet_step (fail))
  refine wpQuiet_nil ?_
  refine walkS_eff rfl (by kernel_rfl) (fun g hd => ?_) (fun h7 => ?_)
  · go_simp
    exact ⟨rfl, (hc2.out g).mono (fun e w' ⟨h1, h3⟩ => ⟨default, h1, h3, trivial, fun e => by cases e⟩)⟩
  go_frame
  refine walkS_eff rfl (by kernel_rfl) (fun g hd => ?_) (fun h8 => ?_)
  · go_simp
    exact ⟨⟨none, 0, 0, g.w1.heap.size, 0, false⟩, rfl, below1 _ _, ⟨g.h.size, Blk.new _ _ _⟩, fun _ => ⟨Nat.le_refl _, by simp⟩⟩
  go_frame
  refine walkS_eff rfl (by kernel_rfl) (fun g hd => ?_) (fun h9 => ?_)
  · go_simp
    exact ⟨⟨none, 0, 0, g.w1.heap.size, 0, false⟩, rfl, below1 _ _, ⟨g.h.size, Blk.new _ _ _⟩, fun _ => ⟨Nat.le_refl _, by simp⟩⟩
  go_frame
  refine walkS_eff rfl (by kernel_rfl) (fun g hd => ?_) (fun h10 => ?_)
  · go_simp
    exact ⟨⟨none, 0, 0, g.w1.heap.size, 0, false⟩, rfl, below1 _ _, ⟨g.h.size, Blk.new _ _ _⟩, fun _ => ⟨Nat.le_refl _, by simp⟩⟩
  go_frame
  refine walkS_nil ?_
  rintro _ ⟨gY, rfl⟩ hK hS
  have ho1 := since_own (f := fun h => .slice h.A h.n h.cap) (by simpa using (hK 1 h1 rfl).1)
  obtain ⟨m8, k8⟩ := since_blk (t := 24) (cs := #[.int .i64 0, .slice none 0 0]) (by simpa using (hK 6 h8 rfl).1)
  obtain ⟨m9, k9⟩ := since_blk (t := 26) (cs := #[.int .i64 0, .string ⟨#[]⟩]) (by simpa using (hK 7 h9 rfl).1)
  obtain ⟨m10, k10⟩ := since_blk (t := 26) (cs := #[.int .i64 0, .string ⟨#[]⟩]) (by simpa using (hK 8 h10 rfl).1)
  have hne := hS 7 8 h9 h10 (by decide) rfl rfl rfl rfl
  clear hK hS
  obtain ⟨Y, hBY⟩ := gY
  obtain ⟨A1, n1, p1, _, _, _⟩ := h1
  obtain ⟨_, _, _, b8, _, _⟩ := h8
  obtain ⟨_, _, _, b9, _, _⟩ := h9
  obtain ⟨_, _, _, b10, _, _⟩ := h10
  dsimp only at *
  have y80 := k8.cell 0
  have y81 := k8.cell 1
  have y90 := k9.cell 0
  have y91 := k9.cell 1
  have y100 := k10.cell 0
  have y101 := k10.cell 1
  have f80 := k8.free 0
  have f81 := k8.free 1
  have f90 := k9.free 0
  have f91 := k9.free 1
  have f100 := k10.free 0
  have f101 := k10.free 1
  simp at y80 y81 y90 y91 y100 y101
  have hst := Lib.hid (law_start k8 k9 k10 hne (.int .i64 C) (.slice A1 n1 p1) (.int .i64 cx) (.string (cutP 21 s0)) (.int .i64 dx) (.string (cutP 21 t0)))
  have n89 := k8.ne_of k9 (by decide)
  have n8a := k8.ne_of k10 (by decide)
  have hno : ∀ y ∈ [b8, b9, b10], (Value.slice A1 n1 p1).ownBlock ≠ some y := by
    intro y hy
    simp only [List.mem_cons, List.not_mem_nil, or_false] at hy
    rcases hy with rfl | rfl | rfl
    · exact ho1.ne_blk k8 (by decide)
    · exact ho1.ne_blk k9 (by decide)
    · exact ho1.ne_blk k10 (by decide)
  replace hno := Lib.hid hno
  replace ho1 := Lib.hid ho1
  replace hBY := Lib.hid hBY
  have hlt8 := k8.lt
  have hlt9 := k9.lt
  have hlt10 := k10.lt
  clear k8 k9 k10 c0 c1 c2 c3 c4 c5 hown hc1 hc2
  go_upto_region 2 with (fail)
  obtain ⟨Y2, hY2⟩ : ∃ Y2, (((((Y.setCell ⟨b8, 0, none⟩ (.int .i64 C)).setCell ⟨b8, 1, none⟩ (.slice A1 n1 p1)).setCell ⟨b9, 0, none⟩ (.int .i64 cx)).setCell ⟨b9, 1, none⟩ (.string (cutP 21 s0))).setCell ⟨b10, 0, none⟩ (.int .i64 dx)).setCell ⟨b10, 1, none⟩ (.string (cutP 21 t0)) = Y2 := ⟨_, rfl⟩
  rw [hY2] at hst ⊢
  obtain ⟨k8, k9, k10, hbx⟩ := hst.out
  have ho2 := ho1.out.of_block fun g hg => hbx.block g (ho1.out.lt g hg).2 fun hm => hno.out g hm hg
  have hBY2 : Below W.heap.size W Y2 := hBY.out.trans (hbx.below hBY.out.size (by simp; omega))
  have hBw2 := Lib.hid (bthen hBW.out hBY2)
  have hlen := ownR_len l0
  have hput4 := Lib.hid (ownR_put l0)
  have hsz1 := cutP_size 21 s0
  have hsz2 := cutP_size 21 t0
  have hWY := hBY2.size
  clear hY2 hst y80 y81 y90 y91 y100 y101 f80 f81 f90 f91 f100 f101 hbx hBY ho1 hBY2 hlt8 hlt9 hlt10
  generalize ownR l0 = l at *
  generalize cutP 21 s0 = s at *
  generalize cutP 21 t0 = t at *
  have hl31 : l.length ≤ 31 := by omega
  clear hlen
  have x90 := k9.cell 0
  have x91 := k9.cell 1
  have x100 := k10.cell 0
  have x101 := k10.cell 1
  have g91 := k9.free 1
  have g101 := k10.free 1
  simp at x90 x91 x100 x101
  obtain ⟨ks, hks⟩ : ∃ kk : Nat, min s.size 10 = kk := ⟨_, rfl⟩
  have hms : min (s.size : Int) 10 = (ks : Int) := by omega
  have hks1 : ks ≤ s.size := by omega
  have hks2 : ks ≤ 10 := by omega
  have hes : (s.extract 0 ks).size = ks := by rw [ByteArray.size_extract]; omega
  clear hks
  replace k8 := Lib.hid k8
  replace k9 := Lib.hid k9
  replace k10 := Lib.hid k10
  replace ho2 := Lib.hid ho2
  go_upto_region 3 with (fail)
  obtain ⟨Y3, hY3⟩ : ∃ Y3, ((Y2).setCell ⟨b9, 1, none⟩ (.string (s.extract 0 ks))) = Y3 := ⟨_, rfl⟩
  rw [hY3]
  have hbx : BX [b9] Y2 Y3 := by rw [← hY3]; exact ((BX.refl _ Y2).set (p := ⟨b9, 1, none⟩) (by simp) (.string (s.extract 0 ks)))
  replace k8 := Lib.hid (k8.out.bx hbx (by simp; omega))
  replace k9 := Lib.hid (show Blk Y3 b9 26 #[.int .i64 cx, .string (s.extract 0 ks)] by rw [← hY3]; simpa using (k9.out.set 1 (.string (s.extract 0 ks))))
  replace k10 := Lib.hid (k10.out.bx hbx (by simp; omega))
  replace ho2 := Lib.hid (ho2.out.of_block fun g hg => hbx.block g (ho2.out.lt g hg).2 fun hm => hno.out g (by simp at hm ⊢; omega) hg)
  replace hBw2 := Lib.hid (hBw2.out.trans (hbx.below hBw2.out.size (by have := hBW.out.size; simp; omega)))
  clear hY3 hbx x90 x91 x100 x101 g91 g101
  generalize s.extract 0 ks = s at *
  clear hms hks1
  have hrl := Lib.hid (show Rls Y3 (.slice A1 n1 p1) l from ho2.out.els)
  clear ho2 hno
  have hcR := Lib.hid (checkR_any Y3 C _ l hrl.out (fun r hr => by have := hput4.out r hr; omega))
  have a0 : Y3.cell? ⟨b8, 0, none⟩ = some (.int .i64 C) := k8.out.cell 0
  have a1 : Y3.cell? ⟨b8, 1, none⟩ = some (.slice A1 n1 p1) := k8.out.cell 1
  have a2 : Y3.cell? ⟨b9, 0, none⟩ = some (.int .i64 cx) := k9.out.cell 0
  have a3 : Y3.cell? ⟨b9, 1, none⟩ = some (.string s) := k9.out.cell 1
  have a4 : Y3.cell? ⟨b10, 0, none⟩ = some (.int .i64 dx) := k10.out.cell 0
  have a5 : Y3.cell? ⟨b10, 1, none⟩ = some (.string t) := k10.out.cell 1
  have hp1 := fun w' => Lib.hid (proper_any w' C (.slice A1 n1 p1) cx s (by omega) rfl)
  have hp2 := fun w' => Lib.hid (proper_any w' C (.slice A1 n1 p1) dx t (by omega) rfl)
  cases e1 : sysB C l with
  | false =>
    rw [e1] at hcR
    replace e1 := Lib.hid e1
    go_wp2_with (first
      | (go_at_call 10; refine hcR.out.mono ?_; rintro e w1 ⟨rfl, hb⟩; have hb := Lib.hid hb)
      | (go_at_call 12; refine (awake_any _).mono ?_; rintro e w9 ⟨rfl, hb9⟩; have hb9 := Lib.hid hb9))
    go_ret
    exact ⟨rfl, bthen hBw2.out (bthen hb.out hb9.out)⟩
  | true =>
  rw [e1] at hcR
  replace e1 := Lib.hid e1
  cases e2 : properB C ⟨cx, s⟩ with
  | false =>
    simp only [e2] at hp1
    replace e2 := Lib.hid e2
    go_wp2_with (first
      | (go_at_call 10; refine hcR.out.mono ?_; rintro e w1 ⟨rfl, hb⟩; replace a0 := cell_below a0 hb; replace a1 := cell_below a1 hb; replace a2 := cell_below a2 hb; replace a3 := cell_below a3 hb; have hb := Lib.hid hb)
      | (go_at_call 11; refine (hp1 _).out.mono ?_; rintro e w2 ⟨rfl, hb2⟩; have hb2 := Lib.hid hb2)
      | (go_at_call 12; refine (awake_any _).mono ?_; rintro e w9 ⟨rfl, hb9⟩; have hb9 := Lib.hid hb9))
    go_ret
    exact ⟨rfl, bthen hBw2.out (bthen hb.out (bthen hb2.out hb9.out))⟩
  | true =>
  simp only [e2] at hp1
  replace e2 := Lib.hid e2
  cases e3 : properB C ⟨dx, t⟩ with
  | false =>
    simp only [e3] at hp2
    replace e3 := Lib.hid e3
    go_wp2_with (first
      | (go_at_call 10; refine hcR.out.mono ?_; rintro e w1 ⟨rfl, hb⟩; replace a0 := cell_below a0 hb; replace a1 := cell_below a1 hb; replace a2 := cell_below a2 hb; replace a3 := cell_below a3 hb; replace a4 := cell_below a4 hb; replace a5 := cell_below a5 hb; have hb := Lib.hid hb)
      | (go_at_call 11; refine (hp1 _).out.mono ?_; clear hp1; rintro e w2 ⟨rfl, hb2⟩; replace a0 := cell_below a0 hb2; replace a1 := cell_below a1 hb2; replace a4 := cell_below a4 hb2; replace a5 := cell_below a5 hb2; have hb2 := Lib.hid hb2)
      | (go_at_call 11; refine (hp2 _).out.mono ?_; rintro e w3 ⟨rfl, hb3⟩; have hb3 := Lib.hid hb3)
      | (go_at_call 12; refine (awake_any _).mono ?_; rintro e w9 ⟨rfl, hb9⟩; have hb9 := Lib.hid hb9))
    go_ret
    exact ⟨rfl, bthen hBw2.out (bthen hb.out (bthen hb2.out (bthen hb3.out hb9.out)))⟩
  | true =>
  simp only [e3] at hp2
  replace e3 := Lib.hid e3
  go_upto_region 5 with (first
      | (go_at_call 10; refine hcR.out.mono ?_; rintro e w1 ⟨rfl, hb⟩; replace a0 := cell_below a0 hb; replace a1 := cell_below a1 hb; replace a2 := cell_below a2 hb; replace a3 := cell_below a3 hb; replace a4 := cell_below a4 hb; replace a5 := cell_below a5 hb; have hb := Lib.hid hb)
      | (go_at_call 11; refine (hp1 _).out.mono ?_; clear hp1; rintro e w2 ⟨rfl, hb2⟩; replace a0 := cell_below a0 hb2; replace a1 := cell_below a1 hb2; replace a4 := cell_below a4 hb2; replace a5 := cell_below a5 hb2; have hb2 := Lib.hid hb2)
      | (go_at_call 11; refine (hp2 _).out.mono ?_; clear hp2; rintro e w3 ⟨rfl, hb3⟩; replace a0 := cell_below a0 hb3; replace a1 := cell_below a1 hb3; have hb3 := Lib.hid hb3))
  have hb123 := bthen hb.out (bthen hb2.out hb3.out)
  replace k8 := Lib.hid (k8.out.below hb123 k8.out.lt)
  replace k9 := Lib.hid (k9.out.below hb123 k9.out.lt)
  replace k10 := Lib.hid (k10.out.below hb123 k10.out.lt)
  replace hrl := Lib.hid (hrl.out.then hb123)
  replace hBw2 := Lib.hid (bthen hBw2.out hb123)
  clear hb hb2 hb3 hb123 hcR a2 a3 a4 a5
  have hsy := Lib.hid (system_any w3 C _ l hrl.out (by omega))
  go_upto_region 6 with (go_at_call 14; refine hsy.out.mono ?_; clear hsy; rintro e w4 ⟨v4, rfl, ho4, hb4⟩; obtain ⟨A2, n2, p2, rfl, _⟩ := OwnE.shape ho4; have ho4 := Lib.hid ho4; have hb4 := Lib.hid hb4)
  obtain ⟨Z, hZ⟩ : ∃ Z, w4.alloc (.cells #[.int .i64 C, .slice A2 n2 p2] 38) = Z := ⟨_, rfl⟩
  obtain ⟨b11, hb11⟩ : ∃ b, w4.heap.size = b := ⟨_, rfl⟩
  have hb4Z : Below w4.heap.size w4 Z := by rw [← hZ]; exact below1 _ _
  have k11 := Lib.hid (show Blk Z b11 38 #[.int .i64 C, .slice A2 n2 p2] by rw [← hZ, ← hb11]; exact Blk.new _ _ _)
  have hom := Lib.hid (ho4.out.then hb4Z)
  have hrm := Lib.hid (show Rls Z (.slice A2 n2 p2) l from hom.out.els)
  have hb3Z := bthen hb4.out hb4Z
  replace k8 := Lib.hid (k8.out.below hb3Z k8.out.lt)
  replace k9 := Lib.hid (k9.out.below hb3Z k9.out.lt)
  replace k10 := Lib.hid (k10.out.below hb3Z k10.out.lt)
  replace hrl := Lib.hid (hrl.out.then hb3Z)
  replace hBw2 := Lib.hid (bthen hBw2.out hb3Z)
  rw [hZ, hb11]
  clear hZ hb11 hb4Z hb3Z hb4 ho4 a0 a1
  have hst1 := Lib.hid (fun g : Gr Z => stack_any g.w1 cx s)
  have hst2 := Lib.hid (fun g : Gr Z => stack_any g.w1 dx t)
  have hcal := Lib.hid (fun g : Gr Z => Next_all g.w1 C cx _ l s (hrm.out.then g.h) e1.out e2.out)
  have a2 : ∀ g : Gr Z, g.w1.cell? ⟨b9, 0, none⟩ = some (.int .i64 cx) := fun g => g.cell (k9.out.cell 0)
  have a3 : ∀ g : Gr Z, g.w1.cell? ⟨b9, 1, none⟩ = some (.string s) := fun g => g.cell (k9.out.cell 1)
  have a4 : ∀ g : Gr Z, g.w1.cell? ⟨b10, 0, none⟩ = some (.int .i64 dx) := fun g => g.cell (k10.out.cell 0)
  have a5 : ∀ g : Gr Z, g.w1.cell? ⟨b10, 1, none⟩ = some (.string t) := fun g => g.cell (k10.out.cell 1)
  have a6 : ∀ g : Gr Z, g.w1.cell? ⟨b11, 0, none⟩ = some (.int .i64 C) := fun g => g.cell (k11.out.cell 0)
  have a7 : ∀ g : Gr Z, g.w1.cell? ⟨b11, 1, none⟩ = some (.slice A2 n2 p2) := fun g => g.cell (k11.out.cell 1)
  refine wp_region_rels 8 [false, false, true, true, false, false, false, false] [] (fun kx h => if kx = 2 then cv ⟨cx, s⟩ else (.tuple #[.slice h.A h.n h.cap, .int .i64 0]))
    (fun kx h w => if kx = 3 then OwnE ElC 40 Z.heap.size w (.slice h.A h.n h.cap) (nextL l ⟨cx, s⟩) else True) [] (by kernel_rfl) (by kernel_rfl) ?_
  simp only [List.take_succ_cons, List.take_zero, List.drop_succ_cons, List.drop_zero]
  refine walkS_reads 2 _ _ _ _ (by kernel_rfl) (by kernel_rfl) (by simp) ?_
  simp only [List.take_succ_cons, List.take_zero, List.drop_succ_cons, List.drop_zero]
  repeat (go_big_quiet_step (fail))
  refine wpQuiet_nil ?_
  refine walkS_eff rfl (by kernel_rfl) (fun g hd => ?_) (fun h2 => ?_)
  · go_simp
    exact ⟨rfl, (hst1.out g).mono (fun e w' ⟨h1, h3⟩ => ⟨default, h1, h3, trivial, fun e => by cases e⟩)⟩
  go_frame
  refine walkS_eff rfl (by kernel_rfl) (fun g hd => ?_) (fun h3 => ?_)
  · go_simp
    exact ⟨rfl, (hcal.out g).mono (fun e w' ⟨v', h1, h2, h3⟩ => by
      obtain ⟨A5, n5, c5, rfl, _⟩ := OwnE.shape h2
      exact ⟨⟨A5, n5, c5, 0, 0, false⟩, h1, h3, h2.lo_le g.h.size, fun e => by cases e⟩)⟩
  go_frame
  refine walkS_reads 4 _ _ _ _ (by kernel_rfl) (by kernel_rfl) (by simp) ?_
  simp only [List.take_succ_cons, List.take_zero, List.drop_succ_cons, List.drop_zero]
  repeat (go_big_quiet_step (fail))
  refine wpQuiet_nil ?_
  refine walkS_nil ?_
  rintro _ ⟨gY, rfl⟩ hK hS
  have hon := since_own (f := fun h => .slice h.A h.n h.cap) (by simpa using (hK 3 h3 rfl).1)
  obtain ⟨A3, n3, p3, _, _, _⟩ := h3
  clear hst1 hst2 hcal
  clear a2 a3 a4 a5 a6 a7
  obtain ⟨Y5, hY5⟩ := gY
  dsimp only at *
  replace k8 := Lib.hid (k8.out.below hY5 k8.out.lt)
  replace k9 := Lib.hid (k9.out.below hY5 k9.out.lt)
  replace k10 := Lib.hid (k10.out.below hY5 k10.out.lt)
  replace k11 := Lib.hid (k11.out.below hY5 k11.out.lt)
  replace hrl := Lib.hid (hrl.out.then hY5)
  replace hrm := Lib.hid (hrm.out.then hY5)
  replace hBw2 := Lib.hid (bthen hBw2.out hY5)
  have hn3 := (Els.len hon.els).1
  have hel := Lib.hid hon.els
  clear hon
  clear hK hS hY5
  have hst1 := Lib.hid (fun g : Gr Y5 => stack_any g.w1 cx s)
  have hst2 := Lib.hid (fun g : Gr Y5 => stack_any g.w1 dx t)
  have hcal := Lib.hid (fun g : Gr Y5 => Endless_ok g.w1 C cx _ l s (hrm.out.then g.h) (fun r hr => by have := hput4.out r hr; omega) (by omega) (allE_one e1.out e2.out))
  obtain ⟨EB, hEB⟩ : ∃ b, endlessB l cx s = b := ⟨_, rfl⟩
  rw [hEB] at hcal
  replace hEB := Lib.hid hEB
  go_upto_region 7 with (fail)
  have a2 : ∀ g : Gr Y5, g.w1.cell? ⟨b9, 0, none⟩ = some (.int .i64 cx) := fun g => g.cell (k9.out.cell 0)
  have a3 : ∀ g : Gr Y5, g.w1.cell? ⟨b9, 1, none⟩ = some (.string s) := fun g => g.cell (k9.out.cell 1)
  have a4 : ∀ g : Gr Y5, g.w1.cell? ⟨b10, 0, none⟩ = some (.int .i64 dx) := fun g => g.cell (k10.out.cell 0)
  have a5 : ∀ g : Gr Y5, g.w1.cell? ⟨b10, 1, none⟩ = some (.string t) := fun g => g.cell (k10.out.cell 1)
  have a6 : ∀ g : Gr Y5, g.w1.cell? ⟨b11, 0, none⟩ = some (.int .i64 C) := fun g => g.cell (k11.out.cell 0)
  have a7 : ∀ g : Gr Y5, g.w1.cell? ⟨b11, 1, none⟩ = some (.slice A2 n2 p2) := fun g => g.cell (k11.out.cell 1)
  refine wp_region_rels 8 [false, false, true, true, false, false, false, false] [] (fun kx h => if kx = 2 then cv ⟨cx, s⟩ else (.tuple #[.bool EB, .int .i64 0]))
    (fun kx h w => True) [] (by kernel_rfl) (by kernel_rfl) ?_
  simp only [List.take_succ_cons, List.take_zero, List.drop_succ_cons, List.drop_zero]
  refine walkS_reads 2 _ _ _ _ (by kernel_rfl) (by kernel_rfl) (by simp) ?_
  simp only [List.take_succ_cons, List.take_zero, List.drop_succ_cons, List.drop_zero]
  repeat (go_big_quiet_step (fail))
  refine wpQuiet_nil ?_
  refine walkS_eff rfl (by kernel_rfl) (fun g hd => ?_) (fun h2 => ?_)
  · go_simp
    exact ⟨rfl, (hst1.out g).mono (fun e w' ⟨h1, h3⟩ => ⟨default, h1, h3, trivial, fun e => by cases e⟩)⟩
  go_frame
  refine walkS_eff rfl (by kernel_rfl) (fun g hd => ?_) (fun h3 => ?_)
  · go_simp
    exact ⟨rfl, (hcal.out g).mono (fun e w' ⟨h1, h3⟩ => ⟨default, h1, h3, trivial, fun e => by cases e⟩)⟩
  go_frame
  refine walkS_reads 4 _ _ _ _ (by kernel_rfl) (by kernel_rfl) (by simp) ?_
  simp only [List.take_succ_cons, List.take_zero, List.drop_succ_cons, List.drop_zero]
  repeat (go_big_quiet_step (fail))
  refine wpQuiet_nil ?_
  refine walkS_nil ?_
  rintro _ ⟨gY, rfl⟩ hK hS
  clear hst1 hst2 hcal
  clear a2 a3 a4 a5 a6 a7
  obtain ⟨Y6, hY6⟩ := gY
  dsimp only at *
  replace k8 := Lib.hid (k8.out.below hY6 k8.out.lt)
  replace k9 := Lib.hid (k9.out.below hY6 k9.out.lt)
  replace k10 := Lib.hid (k10.out.below hY6 k10.out.lt)
  replace k11 := Lib.hid (k11.out.below hY6 k11.out.lt)
  replace hrl := Lib.hid (hrl.out.then hY6)
  replace hrm := Lib.hid (hrm.out.then hY6)
  replace hBw2 := Lib.hid (bthen hBw2.out hY6)
  replace hel := Lib.hid (hel.out.then hY6)
  clear hK hS hY6
  have hst1 := Lib.hid (fun g : Gr Y6 => stack_any g.w1 cx s)
  have hst2 := Lib.hid (fun g : Gr Y6 => stack_any g.w1 dx t)
  have hcal := Lib.hid (fun g : Gr Y6 => Reaches_any g.w1 C cx dx _ l s t (hrm.out.then g.h) (fun r hr => by have := hput4.out r hr; omega) (by omega) (by omega))
  obtain ⟨RB, hRB⟩ : ∃ b, reachB l cx s dx t = b := ⟨_, rfl⟩
  simp only [hRB, allE_zero e1.out e2.out e3.out, decide_true, Bool.true_and] at hcal
  replace hRB := Lib.hid hRB
  go_upto_region 8 with (fail)
  have a2 : ∀ g : Gr Y6, g.w1.cell? ⟨b9, 0, none⟩ = some (.int .i64 cx) := fun g => g.cell (k9.out.cell 0)
  have a3 : ∀ g : Gr Y6, g.w1.cell? ⟨b9, 1, none⟩ = some (.string s) := fun g => g.cell (k9.out.cell 1)
  have a4 : ∀ g : Gr Y6, g.w1.cell? ⟨b10, 0, none⟩ = some (.int .i64 dx) := fun g => g.cell (k10.out.cell 0)
  have a5 : ∀ g : Gr Y6, g.w1.cell? ⟨b10, 1, none⟩ = some (.string t) := fun g => g.cell (k10.out.cell 1)
  have a6 : ∀ g : Gr Y6, g.w1.cell? ⟨b11, 0, none⟩ = some (.int .i64 C) := fun g => g.cell (k11.out.cell 0)
  have a7 : ∀ g : Gr Y6, g.w1.cell? ⟨b11, 1, none⟩ = some (.slice A2 n2 p2) := fun g => g.cell (k11.out.cell 1)
  refine wp_region_rels 10 [false, false, true, false, true, true, false, false, false, false] [] (fun kx h => if kx = 2 then cv ⟨cx, s⟩ else if kx = 4 then cv ⟨dx, t⟩ else (.tuple #[.bool RB, .int .i64 0]))
    (fun kx h w => True) [] (by kernel_rfl) (by kernel_rfl) ?_
  simp only [List.take_succ_cons, List.take_zero, List.drop_succ_cons, List.drop_zero]
  refine walkS_reads 2 _ _ _ _ (by kernel_rfl) (by kernel_rfl) (by simp) ?_
  simp only [List.take_succ_cons, List.take_zero, List.drop_succ_cons, List.drop_zero]
  repeat (go_big_quiet_step (fail))
  refine wpQuiet_nil ?_
  refine walkS_eff rfl (by kernel_rfl) (fun g hd => ?_) (fun h2 => ?_)
  · go_simp
    exact ⟨rfl, (hst1.out g).mono (fun e w' ⟨h1, h3⟩ => ⟨default, h1, h3, trivial, fun e => by cases e⟩)⟩
  go_frame
  refine walkS_reads 1 _ _ _ _ (by kernel_rfl) (by kernel_rfl) (by simp) ?_
  simp only [List.take_succ_cons, List.take_zero, List.drop_succ_cons, List.drop_zero]
  repeat (go_big_quiet_step (fail))
  refine wpQuiet_nil ?_
  refine walkS_eff rfl (by kernel_rfl) (fun g hd => ?_) (fun h4 => ?_)
  · go_simp
    exact ⟨rfl, (hst2.out g).mono (fun e w' ⟨h1, h3⟩ => ⟨default, h1, h3, trivial, fun e => by cases e⟩)⟩
  go_frame
  refine walkS_eff rfl (by kernel_rfl) (fun g hd => ?_) (fun h5 => ?_)
  · go_simp
    exact ⟨rfl, (hcal.out g).mono (fun e w' ⟨h1, h3⟩ => ⟨default, h1, h3, trivial, fun e => by cases e⟩)⟩
  go_frame
  refine walkS_reads 4 _ _ _ _ (by kernel_rfl) (by kernel_rfl) (by simp) ?_
  simp only [List.take_succ_cons, List.take_zero, List.drop_succ_cons, List.drop_zero]
  repeat (go_big_quiet_step (fail))
  refine wpQuiet_nil ?_
  refine walkS_nil ?_
  rintro _ ⟨gY, rfl⟩ hK hS
  clear hst1 hst2 hcal
  clear a2 a3 a4 a5 a6 a7
  obtain ⟨Y7, hY7⟩ := gY
  dsimp only at *
  replace k8 := Lib.hid (k8.out.below hY7 k8.out.lt)
  replace k9 := Lib.hid (k9.out.below hY7 k9.out.lt)
  replace k10 := Lib.hid (k10.out.below hY7 k10.out.lt)
  replace k11 := Lib.hid (k11.out.below hY7 k11.out.lt)
  replace hrl := Lib.hid (hrl.out.then hY7)
  replace hrm := Lib.hid (hrm.out.then hY7)
  replace hBw2 := Lib.hid (bthen hBw2.out hY7)
  replace hel := Lib.hid (hel.out.then hY7)
  clear hK hS hY7
  have hst1 := Lib.hid (fun g : Gr Y7 => stack_any g.w1 cx s)
  have hst2 := Lib.hid (fun g : Gr Y7 => stack_any g.w1 dx t)
  have hcal := Lib.hid (fun g : Gr Y7 => Reaches_any g.w1 C cx cx _ l s s (hrm.out.then g.h) (fun r hr => by have := hput4.out r hr; omega) (by omega) (by omega))
  simp only [reach_self, allE_zero e1.out e2.out e2.out, decide_true, Bool.true_and] at hcal
  go_upto_region 9 with (fail)
  have a2 : ∀ g : Gr Y7, g.w1.cell? ⟨b9, 0, none⟩ = some (.int .i64 cx) := fun g => g.cell (k9.out.cell 0)
  have a3 : ∀ g : Gr Y7, g.w1.cell? ⟨b9, 1, none⟩ = some (.string s) := fun g => g.cell (k9.out.cell 1)
  have a4 : ∀ g : Gr Y7, g.w1.cell? ⟨b10, 0, none⟩ = some (.int .i64 dx) := fun g => g.cell (k10.out.cell 0)
  have a5 : ∀ g : Gr Y7, g.w1.cell? ⟨b10, 1, none⟩ = some (.string t) := fun g => g.cell (k10.out.cell 1)
  have a6 : ∀ g : Gr Y7, g.w1.cell? ⟨b11, 0, none⟩ = some (.int .i64 C) := fun g => g.cell (k11.out.cell 0)
  have a7 : ∀ g : Gr Y7, g.w1.cell? ⟨b11, 1, none⟩ = some (.slice A2 n2 p2) := fun g => g.cell (k11.out.cell 1)
  refine wp_region_rels 10 [false, false, true, false, true, true, false, false, false, false] [] (fun kx h => if kx = 2 then cv ⟨cx, s⟩ else if kx = 4 then cv ⟨cx, s⟩ else (.tuple #[.bool true, .int .i64 0]))
    (fun kx h w => True) [] (by kernel_rfl) (by kernel_rfl) ?_
  simp only [List.take_succ_cons, List.take_zero, List.drop_succ_cons, List.drop_zero]
  refine walkS_reads 2 _ _ _ _ (by kernel_rfl) (by kernel_rfl) (by simp) ?_
  simp only [List.take_succ_cons, List.take_zero, List.drop_succ_cons, List.drop_zero]
  repeat (go_big_quiet_step (fail))
  refine wpQuiet_nil ?_
  refine walkS_eff rfl (by kernel_rfl) (fun g hd => ?_) (fun h2 => ?_)
  · go_simp
    exact ⟨rfl, (hst1.out g).mono (fun e w' ⟨h1, h3⟩ => ⟨default, h1, h3, trivial, fun e => by cases e⟩)⟩
  go_frame
  refine walkS_reads 1 _ _ _ _ (by kernel_rfl) (by kernel_rfl) (by simp) ?_
  simp only [List.take_succ_cons, List.take_zero, List.drop_succ_cons, List.drop_zero]
  repeat (go_big_quiet_step (fail))
  refine wpQuiet_nil ?_
  refine walkS_eff rfl (by kernel_rfl) (fun g hd => ?_) (fun h4 => ?_)
  · go_simp
    exact ⟨rfl, (hst1.out g).mono (fun e w' ⟨h1, h3⟩ => ⟨default, h1, h3, trivial, fun e => by cases e⟩)⟩
  go_frame
  refine walkS_eff rfl (by kernel_rfl) (fun g hd => ?_) (fun h5 => ?_)
  · go_simp
    exact ⟨rfl, (hcal.out g).mono (fun e w' ⟨h1, h3⟩ => ⟨default, h1, h3, trivial, fun e => by cases e⟩)⟩
  go_frame
  refine walkS_reads 4 _ _ _ _ (by kernel_rfl) (by kernel_rfl) (by simp) ?_
  simp only [List.take_succ_cons, List.take_zero, List.drop_succ_cons, List.drop_zero]
  repeat (go_big_quiet_step (fail))
  refine wpQuiet_nil ?_
  refine walkS_nil ?_
  rintro _ ⟨gY, rfl⟩ hK hS
  clear hst1 hst2 hcal
  clear a2 a3 a4 a5 a6 a7
  obtain ⟨V, hV⟩ := gY
  dsimp only at *
  replace k8 := Lib.hid (k8.out.below hV k8.out.lt)
  replace k9 := Lib.hid (k9.out.below hV k9.out.lt)
  replace k10 := Lib.hid (k10.out.below hV k10.out.lt)
  replace k11 := Lib.hid (k11.out.below hV k11.out.lt)
  replace hrl := Lib.hid (hrl.out.then hV)
  replace hrm := Lib.hid (hrm.out.then hV)
  replace hBw2 := Lib.hid (bthen hBw2.out hV)
  replace hel := Lib.hid (hel.out.then hV)
  clear hK hS hV
  have hmem := Lib.hid (fun c (hc : c ∈ nextL l ⟨cx, s⟩) => And.intro (next_proper e1.out e2.out (by omega) hc) (reach_mem hc))
  replace hEB := Lib.hid ((endless_next e1.out cx s).symm.trans hEB.out)
  replace hRB := Lib.hid ((reach_next l cx s dx t).symm.trans hRB.out)
  generalize nextL l ⟨cx, s⟩ = nl at *
  replace hn3 := Lib.hid hn3
  have x90 := k9.out.cell 0
  have x91 := k9.out.cell 1
  have x100 := k10.out.cell 0
  have x101 := k10.out.cell 1
  simp at x90 x91 x100 x101
  go_upto_region 12 with (fail)
  go_cut [19, 20] from 110 to 112 (fun u19 u20 wx => u19 = .bool false ∧ u20 = .bool (eqC ⟨cx, s⟩ ⟨dx, t⟩) ∧ Hid (Below V.heap.size V wx))
  case first =>
    have hq : ∀ (h1 : cx = dx) (h2 : s.toList = t.toList), eqC ⟨cx, s⟩ ⟨dx, t⟩ = true := fun h1 h2 => by unfold eqC; simp [h1, h2]
    have hq1 : ∀ (h2 : ¬ s.toList = t.toList), eqC ⟨cx, s⟩ ⟨dx, t⟩ = false := fun h2 => by unfold eqC; simp [h2]
    have hq2 : ∀ (h1 : ¬ cx = dx), eqC ⟨cx, s⟩ ⟨dx, t⟩ = false := fun h1 => by unfold eqC; simp [h1]
    generalize eqC ⟨cx, s⟩ ⟨dx, t⟩ = qv at *
    by_cases q1 : cx = dx
    · by_cases q2 : s.toList = t.toList
      · obtain rfl := hq q1 q2
        clear hq hq1 hq2
        go_region
        all_goals (go_wp2; go_meet)
        all_goals exact ⟨rfl, rfl, below_drew _⟩
      · obtain rfl := hq1 q2
        clear hq hq1 hq2
        go_region
        all_goals (go_wp2; go_meet)
        all_goals exact ⟨rfl, rfl, below_drew _⟩
    · obtain rfl := hq2 q1
      clear hq hq1 hq2
      go_region
      all_goals (go_wp2; go_meet)
      all_goals exact ⟨rfl, rfl, below_drew _⟩
  case rest =>
    obtain ⟨rfl, rfl, hVc⟩ := hcut
    obtain ⟨V2, hV2⟩ : ∃ V2, V2 = wc := ⟨_, rfl⟩
    subst hV2
    have k9 := Lib.hid (k9.out.below hVc.out k9.out.lt)
    have k10 := Lib.hid (k10.out.below hVc.out k10.out.lt)
    have k11 := Lib.hid (k11.out.below hVc.out k11.out.lt)
    replace hel := Lib.hid (hel.out.then hVc.out)
    replace hrm := Lib.hid (hrm.out.then hVc.out)
    have hBwV := Lib.hid (bthen hBw2.out hVc.out)
    clear x90 x91 x100 x101 hVc
    obtain ⟨qv, hqv⟩ : ∃ q, eqC ⟨cx, s⟩ ⟨dx, t⟩ = q := ⟨_, rfl⟩
    rw [hqv] at hRB ⊢
    have hn3l : n3 ≤ nl.length := Nat.le_of_eq hn3.out
    have hn3r : nl.length ≤ n3 := Nat.le_of_eq hn3.out.symm
    obtain ⟨hmx0, hmx1, hmx2⟩ := Els.len hel.out
    unfold maxLen at hmx2
    have hmx : nl.length ≤ 9223372036854775807 := by omega
    clear hmx0 hmx1 hmx2
    go_wp2
    go_loopw [19, 20, 21] (fun c19 c20 c21 wp => ∃ k : Nat, k ≤ nl.length ∧ c19 = .bool ((nl.take k).any fun c => endlessB l c.ctl c.st) ∧ c20 = .bool (qv || (nl.take k).any fun c => reachB l c.ctl c.st dx t) ∧ c21 = .int .i64 (k : Int) ∧ Hid (Below V2.heap.size V2 wp)) (fun _ _ c _ => nl.length - (intOf c).toNat)
    case atStart => exact ⟨0, Nat.zero_le _, by simp, by simp, rfl, Below.refl _ _⟩
    case round =>
      obtain ⟨k, hk, rfl, rfl, rfl, hBr⟩ := hrel
      by_cases hlt : k < nl.length
      case neg =>
        have hge : ¬ (k : Int) < n3 := by omega
        have htk : nl.take k = nl := List.take_of_length_le (by omega)
        rw [htk, hEB.out, hRB.out]
        clear htk hlt hk
        go_wp2_with (go_at_call 12; refine (awake_any _).mono ?_; rintro e w9 ⟨rfl, hb9⟩; have hb9 := Lib.hid hb9)
        go_ret
        exact ⟨rfl, bthen hBwV.out (bthen hBr.out hb9.out)⟩
      have hltI : (k : Int) < (n3 : Int) := by omega
      have hltN : k < n3 := by omega
      obtain ⟨⟨hpr, hcz⟩, hrc⟩ := hmem.out nl[k] (List.getElem_mem hlt)
      have hs1 := any_take_succ hlt (fun c => endlessB l c.ctl c.st)
      have hs2 := any_take_succ hlt (fun c => reachB l c.ctl c.st dx t)
      obtain ⟨eb, eo, rfl, hat⟩ := hel.out.cell (by omega)
      have z0 := hat k hlt 0 (.int .i64 nl[k].ctl) rfl
      have z1 := hat k hlt 1 (.string nl[k].st) rfl
      change V2.cell? ⟨eb, eo + k * 2 + 0, none⟩ = _ at z0
      change V2.cell? ⟨eb, eo + k * 2 + 1, none⟩ = _ at z1
      clear hat
      generalize nl[k] = nk at *
      obtain ⟨ux, us⟩ := nk
      dsimp only at hpr hcz hrc hs1 hs2 z0 z1
      obtain ⟨F1, hF1⟩ : ∃ b, endlessB l ux us = b := ⟨_, rfl⟩
      obtain ⟨F2, hF2⟩ : ∃ b, reachB l ux us dx t = b := ⟨_, rfl⟩
      rw [hF1] at hs1
      rw [hF2] at hs2
      obtain ⟨G1, hG1⟩ : ∃ b, (nl.take k).any (fun c => endlessB l c.ctl c.st) = b := ⟨_, rfl⟩
      obtain ⟨G2, hG2⟩ : ∃ b, (nl.take k).any (fun c => reachB l c.ctl c.st dx t) = b := ⟨_, rfl⟩
      rw [hG1] at hs1 ⊢
      rw [hG2] at hs2 ⊢
      replace hs1 := Lib.hid hs1
      replace hs2 := Lib.hid hs2
      replace hpr := Lib.hid hpr
      replace hrc := Lib.hid hrc
      replace hF1 := Lib.hid hF1
      replace hF2 := Lib.hid hF2
      clear hG1 hG2 hlt
      have hcal := Lib.hid (fun g : Gr wr => Endless_ok g.w1 C ux _ l us (hrm.out.then (bthen hBr.out g.h)) (fun r hr => by have := hput4.out r hr; omega) (by omega) (allE_one e1.out hpr.out))
      rw [hF1.out] at hcal
      go_upto_region 16 with (fail)
      have a6 : ∀ g : Gr wr, g.w1.cell? ⟨b11, 0, none⟩ = some (.int .i64 C) := fun g => cell_below (k11.out.cell 0) (bthen hBr.out g.h)
      have a7 : ∀ g : Gr wr, g.w1.cell? ⟨b11, 1, none⟩ = some (.slice A2 n2 p2) := fun g => cell_below (k11.out.cell 1) (bthen hBr.out g.h)
      have e0 : ∀ g : Gr wr, g.w1.cell? ⟨eb, eo + k * 2, none⟩ = some (.int .i64 ux) := fun g => cell_below z0 (bthen hBr.out g.h)
      have e1' : ∀ g : Gr wr, g.w1.cell? ⟨eb, eo + k * 2 + 1, none⟩ = some (.string us) := fun g => cell_below z1 (bthen hBr.out g.h)
      refine wp_region_rels 10 [false, false, false, false, false, true, false, false, false, false] [] (fun kx h => (.tuple #[.bool F1, .int .i64 0]))
        (fun kx h w => True) [] (by kernel_rfl) (by kernel_rfl) ?_
      simp only [List.take_succ_cons, List.take_zero, List.drop_succ_cons, List.drop_zero]
      refine walkS_reads 5 _ _ _ _ (by kernel_rfl) (by kernel_rfl) (by simp) ?_
      simp only [List.take_succ_cons, List.take_zero, List.drop_succ_cons, List.drop_zero]
      repeat (go_big_quiet_step (fail))
      refine wpQuiet_nil ?_
      refine walkS_eff rfl (by kernel_rfl) (fun g hd => ?_) (fun h5 => ?_)
      · go_simp
        exact ⟨rfl, (hcal.out g).mono (fun e w' ⟨h1, h3⟩ => ⟨default, h1, h3, trivial, fun e => by cases e⟩)⟩
      go_frame
      refine walkS_reads 4 _ _ _ _ (by kernel_rfl) (by kernel_rfl) (by simp) ?_
      simp only [List.take_succ_cons, List.take_zero, List.drop_succ_cons, List.drop_zero]
      repeat (go_big_quiet_step (fail))
      refine wpQuiet_nil ?_
      refine walkS_nil ?_
      rintro _ ⟨gY, rfl⟩ hK hS
      clear a6 a7 e0 e1' hcal
      obtain ⟨X1, hX1⟩ := gY
      dsimp only at *
      have hBX1 := Lib.hid (bthen hBr.out hX1)
      clear hK hS hX1
      have hst2 := Lib.hid (fun g : Gr X1 => stack_any g.w1 dx t)
      have hcal := Lib.hid (fun g : Gr X1 => Reaches_any g.w1 C ux dx _ l us t (hrm.out.then (bthen hBX1.out g.h)) (fun r hr => by have := hput4.out r hr; omega) (by omega) (by omega))
      simp only [hF2.out, allE_zero e1.out hpr.out e3.out, decide_true, Bool.true_and] at hcal
      go_upto_region 17 with (fail)
      have a4 : ∀ g : Gr X1, g.w1.cell? ⟨b10, 0, none⟩ = some (.int .i64 dx) := fun g => cell_below (k10.out.cell 0) (bthen hBX1.out g.h)
      have a5 : ∀ g : Gr X1, g.w1.cell? ⟨b10, 1, none⟩ = some (.string t) := fun g => cell_below (k10.out.cell 1) (bthen hBX1.out g.h)
      have a6 : ∀ g : Gr X1, g.w1.cell? ⟨b11, 0, none⟩ = some (.int .i64 C) := fun g => cell_below (k11.out.cell 0) (bthen hBX1.out g.h)
      have a7 : ∀ g : Gr X1, g.w1.cell? ⟨b11, 1, none⟩ = some (.slice A2 n2 p2) := fun g => cell_below (k11.out.cell 1) (bthen hBX1.out g.h)
      have e0 : ∀ g : Gr X1, g.w1.cell? ⟨eb, eo + k * 2, none⟩ = some (.int .i64 ux) := fun g => cell_below z0 (bthen hBX1.out g.h)
      have e1' : ∀ g : Gr X1, g.w1.cell? ⟨eb, eo + k * 2 + 1, none⟩ = some (.string us) := fun g => cell_below z1 (bthen hBX1.out g.h)
      refine wp_region_rels 12 [false, false, false, false, false, false, true, true, false, false, false, false] [] (fun kx h => if kx = 6 then cv ⟨dx, t⟩ else (.tuple #[.bool F2, .int .i64 0]))
        (fun kx h w => True) [] (by kernel_rfl) (by kernel_rfl) ?_
      simp only [List.take_succ_cons, List.take_zero, List.drop_succ_cons, List.drop_zero]
      refine walkS_reads 6 _ _ _ _ (by kernel_rfl) (by kernel_rfl) (by simp) ?_
      simp only [List.take_succ_cons, List.take_zero, List.drop_succ_cons, List.drop_zero]
      repeat (go_big_quiet_step (fail))
      refine wpQuiet_nil ?_
      refine walkS_eff rfl (by kernel_rfl) (fun g hd => ?_) (fun h6 => ?_)
      · go_simp
        exact ⟨rfl, (hst2.out g).mono (fun e w' ⟨h1, h3⟩ => ⟨default, h1, h3, trivial, fun e => by cases e⟩)⟩
      go_frame
      refine walkS_eff rfl (by kernel_rfl) (fun g hd => ?_) (fun h7 => ?_)
      · go_simp
        exact ⟨rfl, (hcal.out g).mono (fun e w' ⟨h1, h3⟩ => ⟨default, h1, h3, trivial, fun e => by cases e⟩)⟩
      go_frame
      refine walkS_reads 4 _ _ _ _ (by kernel_rfl) (by kernel_rfl) (by simp) ?_
      simp only [List.take_succ_cons, List.take_zero, List.drop_succ_cons, List.drop_zero]
      repeat (go_big_quiet_step (fail))
      refine wpQuiet_nil ?_
      refine walkS_nil ?_
      rintro _ ⟨gY, rfl⟩ hK hS
      clear hst2
      clear a4 a5 a6 a7 e0 e1' hcal
      obtain ⟨X2, hX2⟩ := gY
      dsimp only at *
      have hBX2 := Lib.hid (bthen hBX1.out hX2)
      clear hK hS hX2
      have hst1 := Lib.hid (fun g : Gr X2 => stack_any g.w1 cx s)
      have hcal := Lib.hid (fun g : Gr X2 => Reaches_any g.w1 C cx ux _ l s us (hrm.out.then (bthen hBX2.out g.h)) (fun r hr => by have := hput4.out r hr; omega) (by omega) (by omega))
      simp only [hrc.out, allE_zero e1.out e2.out hpr.out, decide_true, Bool.true_and] at hcal
      go_upto_region 18 with (fail)
      have a2 : ∀ g : Gr X2, g.w1.cell? ⟨b9, 0, none⟩ = some (.int .i64 cx) := fun g => cell_below (k9.out.cell 0) (bthen hBX2.out g.h)
      have a3 : ∀ g : Gr X2, g.w1.cell? ⟨b9, 1, none⟩ = some (.string s) := fun g => cell_below (k9.out.cell 1) (bthen hBX2.out g.h)
      have a6 : ∀ g : Gr X2, g.w1.cell? ⟨b11, 0, none⟩ = some (.int .i64 C) := fun g => cell_below (k11.out.cell 0) (bthen hBX2.out g.h)
      have a7 : ∀ g : Gr X2, g.w1.cell? ⟨b11, 1, none⟩ = some (.slice A2 n2 p2) := fun g => cell_below (k11.out.cell 1) (bthen hBX2.out g.h)
      have e0 : ∀ g : Gr X2, g.w1.cell? ⟨eb, eo + k * 2, none⟩ = some (.int .i64 ux) := fun g => cell_below z0 (bthen hBX2.out g.h)
      have e1' : ∀ g : Gr X2, g.w1.cell? ⟨eb, eo + k * 2 + 1, none⟩ = some (.string us) := fun g => cell_below z1 (bthen hBX2.out g.h)
      refine wp_region_rels 12 [false, false, true, false, false, false, false, true, false, false, false, false] [] (fun kx h => if kx = 2 then cv ⟨cx, s⟩ else (.tuple #[.bool true, .int .i64 0]))
        (fun kx h w => True) [] (by kernel_rfl) (by kernel_rfl) ?_
      simp only [List.take_succ_cons, List.take_zero, List.drop_succ_cons, List.drop_zero]
      refine walkS_reads 2 _ _ _ _ (by kernel_rfl) (by kernel_rfl) (by simp) ?_
      simp only [List.take_succ_cons, List.take_zero, List.drop_succ_cons, List.drop_zero]
      repeat (go_big_quiet_step (fail))
      refine wpQuiet_nil ?_
      refine walkS_eff rfl (by kernel_rfl) (fun g hd => ?_) (fun h2 => ?_)
      · go_simp
        exact ⟨rfl, (hst1.out g).mono (fun e w' ⟨h1, h3⟩ => ⟨default, h1, h3, trivial, fun e => by cases e⟩)⟩
      go_frame
      refine walkS_reads 4 _ _ _ _ (by kernel_rfl) (by kernel_rfl) (by simp) ?_
      simp only [List.take_succ_cons, List.take_zero, List.drop_succ_cons, List.drop_zero]
      repeat (go_big_quiet_step (fail))
      refine wpQuiet_nil ?_
      refine walkS_eff rfl (by kernel_rfl) (fun g hd => ?_) (fun h7 => ?_)
      · go_simp
        exact ⟨rfl, (hcal.out g).mono (fun e w' ⟨h1, h3⟩ => ⟨default, h1, h3, trivial, fun e => by cases e⟩)⟩
      go_frame
      refine walkS_reads 4 _ _ _ _ (by kernel_rfl) (by kernel_rfl) (by simp) ?_
      simp only [List.take_succ_cons, List.take_zero, List.drop_succ_cons, List.drop_zero]
      repeat (go_big_quiet_step (fail))
      refine wpQuiet_nil ?_
      refine walkS_nil ?_
      rintro _ ⟨gY, rfl⟩ hK hS
      clear hst1
      clear a2 a3 a6 a7 e0 e1' hcal
      obtain ⟨X3, hX3⟩ := gY
      dsimp only at *
      have hBX3 := Lib.hid (bthen hBX2.out hX3)
      clear hK hS hX3
      clear z0 z1
      cases G1 <;> cases G2 <;> cases qv
      all_goals go_wp2
      all_goals go_roundw
      all_goals first
        | exact ⟨k + 1, by omega, by rw [hs1.out]; simp, by rw [hs2.out]; simp, by go_num, hBX3.out⟩
        | (simp [intOf]; omega)
end Go.Proofs.YtaapnflhjbdmlaaDoor
