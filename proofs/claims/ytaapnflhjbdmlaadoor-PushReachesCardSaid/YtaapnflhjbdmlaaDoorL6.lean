/- PushRuns: the walk. No condition. -/
import Derived.Test.YtaapnflhjbdmlaaDoorAA
import Derived.Test.YtaapnflhjbdmlaaDoorRs
import Derived.Test.YtaapnflhjbdmlaaDoorW6
namespace Go.Proofs.YtaapnflhjbdmlaaDoor
open Go.RowKit Go.Shelf
attribute [local go_sem] Oper.semAt_some

theorem ints_els {w : World} {v : Value} {xs : List Int} (h : Ints w v xs) : Els ElI w v xs := by
  obtain ⟨A, cap, rfl, h1, h2, h3, h4⟩ := h
  refine ⟨A, cap, rfl, h1, h2, h3, fun i hi => ?_⟩
  obtain ⟨b, off, c, hA, _, hc, hr⟩ := h4 i hi
  refine ⟨b, off, hA, fun j u hu => ?_⟩
  have : j = 0 := by
    have := (List.getElem?_eq_some_iff.1 hu).1
    simp [ElI] at this
    exact this
  subst this
  simp [ElI] at hu
  subst hu
  simp only [ElI, Nat.mul_one, Nat.add_zero]
  rw [hc]
  exact congrArg _ hr

theorem walkS_nil {P : Program} {ops : Array Oper} {W : World} {mask : List Bool} {deps : List (List Nat)} {val : Nat → Hole → Value} {φ : Nat → Hole → World → Prop} {sp : List Bool} {Fin : (Nat → Option Hole) → Act → Prop} {k : Nat} {F : Nat → Option Hole} {a : Act} (h : Fin F a) : walkS P ops W mask deps val φ sp Fin [] k F a := h
theorem since_own {W : World} {α : Type} {E : El α} {e lo : Nat} {f : Hole → Value} {l : List α} {h : Hole} {w : World} (hs : Since W (fun h w => OwnE E e lo w (f h) l) h w) : OwnE E e lo w (f h) l := by
  obtain ⟨w0, h1, _, hb⟩ := hs
  exact h1.then hb
theorem since_blk {W : World} {t : Nat} {cs : Array Value} {h : Hole} {w : World} (hs : Since W (fun h w => W.heap.size ≤ h.k ∧ Blk w h.k t cs) h w) : W.heap.size ≤ h.k ∧ Blk w h.k t cs := by
  obtain ⟨w0, ⟨h2, h1⟩, _, hb⟩ := hs
  exact ⟨h2, h1.below hb h1.lt⟩
theorem law_start {Y : World} {b8 b9 b10 : Nat} {x y : Value} {x' y' x'' y'' : Value} (k8 : Blk Y b8 24 #[x, y]) (k9 : Blk Y b9 26 #[x', y']) (k10 : Blk Y b10 26 #[x'', y'']) (hne : b9 ≠ b10) (u0 u1 v0 v1 z0 z1 : Value) :
    Blk ((((((Y.setCell ⟨b8, 0, none⟩ u0).setCell ⟨b8, 1, none⟩ u1).setCell ⟨b9, 0, none⟩ v0).setCell ⟨b9, 1, none⟩ v1).setCell ⟨b10, 0, none⟩ z0).setCell ⟨b10, 1, none⟩ z1) b8 24 #[u0, u1] ∧
    Blk ((((((Y.setCell ⟨b8, 0, none⟩ u0).setCell ⟨b8, 1, none⟩ u1).setCell ⟨b9, 0, none⟩ v0).setCell ⟨b9, 1, none⟩ v1).setCell ⟨b10, 0, none⟩ z0).setCell ⟨b10, 1, none⟩ z1) b9 26 #[v0, v1] ∧
    Blk ((((((Y.setCell ⟨b8, 0, none⟩ u0).setCell ⟨b8, 1, none⟩ u1).setCell ⟨b9, 0, none⟩ v0).setCell ⟨b9, 1, none⟩ v1).setCell ⟨b10, 0, none⟩ z0).setCell ⟨b10, 1, none⟩ z1) b10 26 #[z0, z1] ∧
    BX [b8, b9, b10] Y ((((((Y.setCell ⟨b8, 0, none⟩ u0).setCell ⟨b8, 1, none⟩ u1).setCell ⟨b9, 0, none⟩ v0).setCell ⟨b9, 1, none⟩ v1).setCell ⟨b10, 0, none⟩ z0).setCell ⟨b10, 1, none⟩ z1) := by
  have n1 : b8 ≠ b9 := k8.ne_of k9 (by decide)
  have n2 : b8 ≠ b10 := k8.ne_of k10 (by decide)
  have a8 := (k8.set 0 u0).set 1 u1
  have a9 := (((k9.far (p := ⟨b8, 0, none⟩) n1.symm u0).far (p := ⟨b8, 1, none⟩) n1.symm u1).set 0 v0).set 1 v1
  have a10 := (((((k10.far (p := ⟨b8, 0, none⟩) n2.symm u0).far (p := ⟨b8, 1, none⟩) n2.symm u1).far (p := ⟨b9, 0, none⟩) hne.symm v0).far (p := ⟨b9, 1, none⟩) hne.symm v1).set 0 z0).set 1 z1
  refine ⟨?_, ?_, ?_, ((((((BX.refl _ Y).set (by simp) u0).set (by simp) u1).set (by simp) v0).set (by simp) v1).set (by simp) z0).set (by simp) z1⟩
  · exact (((a8.far (p := ⟨b9, 0, none⟩) n1 v0).far (p := ⟨b9, 1, none⟩) n1 v1).far (p := ⟨b10, 0, none⟩) n2 z0).far (p := ⟨b10, 1, none⟩) n2 z1
  · exact (a9.far (p := ⟨b10, 0, none⟩) hne z0).far (p := ⟨b10, 1, none⟩) hne z1
  · exact a10
abbrev pairV (c d : ConfB) : Value := .agg #[.int .i64 c.ctl, .string c.st, .int .i64 d.ctl, .string d.st]

theorem els_ints {w : World} {v : Value} {xs : List Int} (h : Els ElI w v xs) : Ints w v xs := by
  obtain ⟨A, cap, rfl, h1, h2, h3, h4⟩ := h
  refine ⟨A, cap, rfl, h1, h2, h3, fun i hi => ?_⟩
  obtain ⟨b, off, hA, hc⟩ := h4 i hi
  refine ⟨b, off, .int .i64 xs[i], hA, trivial, ?_, rfl⟩
  have := hc 0 (.int .i64 xs[i]) rfl
  simpa [ElI] using this
theorem ownR_put (l0 : List RuleB) : ∀ r ∈ ownR l0, r.put.size ≤ 4 := by
  intro r hr
  unfold ownR at hr
  obtain ⟨q, _, rfl⟩ := List.mem_map.1 hr
  show (cutP 4 q.put).size ≤ 4
  unfold cutP
  rw [ByteArray.size_extract]
  omega
theorem cutP_size (k : Nat) (s : ByteArray) : (cutP k s).size ≤ k := by
  unfold cutP
  rw [ByteArray.size_extract]
  omega
theorem allE_iff {C : Int} {l : List RuleB} {c d : ConfB} : decide (allE C l [c, d] = 0) = (sysB C l && properB C c && properB C d) := by
  unfold allE
  cases h : sysB C l
  · rfl
  · cases h1 : properB C c
    · simp [h1]
    · cases h2 : properB C d <;> simp [h1, h2]

set_option maxRecDepth 8000 in
set_option maxHeartbeats 8000000 in
theorem law6 (w : World) (C cx dx : Int) (v vr : Value) (l0 : List RuleB) (s0 t0 : ByteArray) (rs0 : List Int) (h : Rls w v l0) (hrs : Ints w vr rs0) (hs0 : s0.size ≤ 9223372036854775807) (ht0 : t0.size ≤ 9223372036854775807) :
    Calls Tryd.prog 6 #[sv C v, pairV ⟨cx, s0⟩ ⟨dx, t0⟩, vr] w fun e w' => e = .returned (.bool true) ∧ Below w.heap.size w w' := by
  obtain ⟨A, n, cap, rfl, hn⟩ := Els.shape h
  obtain ⟨W, hW⟩ : ∃ W, (w.alloc (.cells #[.int .i64 C, .slice A n cap] 24)).alloc (.cells #[.int .i64 cx, .string s0, .int .i64 dx, .string t0] 56) = W := ⟨_, rfl⟩
  have hBW : Below w.heap.size w W := by rw [← hW]; exact bthen (below1 _ _) (below1 _ _)
  have kS : Blk W w.heap.size 24 #[.int .i64 C, .slice A n cap] := by rw [← hW]; exact (Blk.new w 24 _).alloc _
  have kP : Blk W (w.heap.size + 1) 56 #[.int .i64 cx, .string s0, .int .i64 dx, .string t0] := by rw [← hW]; have := Blk.new (w.alloc (.cells #[.int .i64 C, .slice A n cap] 24)) 56 #[.int .i64 cx, .string s0, .int .i64 dx, .string t0]; rw [alloc_size] at this; exact this
  have c0 : ∀ g : Gr W, g.w1.cell? ⟨w.heap.size, 0, none⟩ = some (.int .i64 C) := fun g => g.cell (kS.cell 0)
  have c1 : ∀ g : Gr W, g.w1.cell? ⟨w.heap.size, 1, none⟩ = some (.slice A n cap) := fun g => g.cell (kS.cell 1)
  have c2 : ∀ g : Gr W, g.w1.cell? ⟨w.heap.size + 1, 0, none⟩ = some (.int .i64 cx) := fun g => g.cell (kP.cell 0)
  have c3 : ∀ g : Gr W, g.w1.cell? ⟨w.heap.size + 1, 1, none⟩ = some (.string s0) := fun g => g.cell (kP.cell 1)
  have c4 : ∀ g : Gr W, g.w1.cell? ⟨w.heap.size + 1, 2, none⟩ = some (.int .i64 dx) := fun g => g.cell (kP.cell 2)
  have c5 : ∀ g : Gr W, g.w1.cell? ⟨w.heap.size + 1, 3, none⟩ = some (.string t0) := fun g => g.cell (kP.cell 3)
  have hown := Lib.hid (fun g : Gr W => own_any g.w1 C _ l0 ((Els.then h hBW).then g.h))
  have hc1 := Lib.hid (fun g : Gr W => config_any g.w1 cx s0 hs0)
  have hc2 := Lib.hid (fun g : Gr W => config_any g.w1 dx t0 ht0)
  replace hBW := Lib.hid hBW
  replace hrs := Lib.hid hrs
  clear h kS kP
  go_enter Tryd.func6, Tryd.ntmps6
  go_wp2
  refine wp_region_rels 11 [false, true, false, false, true, false, false, true, true, true, true] [] (fun k h => if k = 1 then sv C (.slice h.A h.n h.cap) else if k = 4 then cv ⟨cx, cutP 21 s0⟩ else if k = 7 then cv ⟨dx, cutP 21 t0⟩ else .pointer (some ⟨h.k, 0, none⟩))
    (fun k h w => if k = 1 then OwnE ElR 61 W.heap.size w (.slice h.A h.n h.cap) (ownR l0) else if k = 8 then W.heap.size ≤ h.k ∧ Blk w h.k 24 #[.int .i64 0, .slice none 0 0] else if k = 9 ∨ k = 10 then W.heap.size ≤ h.k ∧ Blk w h.k 26 #[.int .i64 0, .string ⟨#[]⟩] else True)
    [false, false, false, false, false, false, false, false, true, true, true] (by kernel_rfl) (by kernel_rfl) ?_
  simp only [List.take_succ_cons, List.take_zero, List.drop_succ_cons, List.drop_zero]
  refine walkS_reads 1 _ _ _ _ (by kernel_rfl) (by kernel_rfl) (by simp) ?_
  simp only [List.take_succ_cons, List.take_zero, List.drop_succ_cons, List.drop_zero]
  repeat (go_big_quiet_step (fail))
  refine wpQuiet_nil ?_
  refine walkS_eff rfl (by kernel_rfl) (fun g _ => ?_) (fun h1 => ?_)
  · go_simp
    exact ⟨rfl, (hown.out g).mono (fun e w' ⟨v', h1, h2, h3⟩ => by
      obtain ⟨A5, n5, c5, rfl, _⟩ := OwnE.shape h2
      exact ⟨⟨A5, n5, c5, 0, 0, false⟩, h1, h3, h2.lo_le g.h.size, fun e => by cases e⟩)⟩
  go_frame
  refine walkS_reads 2 _ _ _ _ (by kernel_rfl) (by kernel_rfl) (by simp) ?_
  simp only [List.take_succ_cons, List.take_zero, List.drop_succ_cons, List.drop_zero]
  repeat (go_big_quiet_step (fail))
  refine wpQuiet_nil ?_
  refine walkS_eff rfl (by kernel_rfl) (fun g _ => ?_) (fun h4 => ?_)
  · go_simp
    exact ⟨rfl, (hc1.out g).mono (fun e w' ⟨h1, h3⟩ => ⟨default, h1, h3, trivial, fun e => by cases e⟩)⟩
  go_frame
  refine walkS_reads 2 _ _ _ _ (by kernel_rfl) (by kernel_rfl) (by simp) ?_
  simp only [List.take_succ_cons, List.take_zero, List.drop_succ_cons, List.drop_zero]
  repeat (go_big_quiet_step (fail))
  refine wpQuiet_nil ?_
  refine walkS_eff rfl (by kernel_rfl) (fun g _ => ?_) (fun h7 => ?_)
  · go_simp
    exact ⟨rfl, (hc2.out g).mono (fun e w' ⟨h1, h3⟩ => ⟨default, h1, h3, trivial, fun e => by cases e⟩)⟩
  go_frame
  refine walkS_eff rfl (by kernel_rfl) (fun g _ => ?_) (fun h8 => ?_)
  · go_simp
    exact ⟨⟨none, 0, 0, g.w1.heap.size, 0, false⟩, rfl, below1 _ _, ⟨g.h.size, Blk.new _ _ _⟩, fun _ => ⟨Nat.le_refl _, by simp⟩⟩
  go_frame
  refine walkS_eff rfl (by kernel_rfl) (fun g _ => ?_) (fun h9 => ?_)
  · go_simp
    exact ⟨⟨none, 0, 0, g.w1.heap.size, 0, false⟩, rfl, below1 _ _, ⟨g.h.size, Blk.new _ _ _⟩, fun _ => ⟨Nat.le_refl _, by simp⟩⟩
  go_frame
  refine walkS_eff rfl (by kernel_rfl) (fun g _ => ?_) (fun h10 => ?_)
  · go_simp
    exact ⟨⟨none, 0, 0, g.w1.heap.size, 0, false⟩, rfl, below1 _ _, ⟨g.h.size, Blk.new _ _ _⟩, fun _ => ⟨Nat.le_refl _, by simp⟩⟩
  go_frame
  refine walkS_nil ?_
  rintro _ ⟨gY, rfl⟩ hK hS
  have ho1 := since_own (f := fun h => .slice h.A h.n h.cap) (by simpa using (hK 1 h1 rfl).1)
  obtain ⟨m8, k8⟩ := since_blk (t := 24) (cs := #[.int .i64 0, .slice none 0 0]) (by simpa using (hK 8 h8 rfl).1)
  obtain ⟨m9, k9⟩ := since_blk (t := 26) (cs := #[.int .i64 0, .string ⟨#[]⟩]) (by simpa using (hK 9 h9 rfl).1)
  obtain ⟨m10, k10⟩ := since_blk (t := 26) (cs := #[.int .i64 0, .string ⟨#[]⟩]) (by simpa using (hK 10 h10 rfl).1)
  have hne := hS 9 10 h9 h10 (by decide) rfl rfl rfl rfl
  clear hK hS
  obtain ⟨Y, hBY⟩ := gY
  obtain ⟨A1, n1, p1, _, _, _⟩ := h1
  obtain ⟨_, _, _, b8, _, _⟩ := h8
  obtain ⟨_, _, _, b9, _, _⟩ := h9
  obtain ⟨_, _, _, b10, _, _⟩ := h10
  dsimp only at *
  have y80 := k8.cell 0
  have y81 := k8.cell 1
  have y90 := k9.cell 0
  have y91 := k9.cell 1
  have y100 := k10.cell 0
  have y101 := k10.cell 1
  have f80 := k8.free 0
  have f81 := k8.free 1
  have f90 := k9.free 0
  have f91 := k9.free 1
  have f100 := k10.free 0
  have f101 := k10.free 1
  simp at y80 y81 y90 y91 y100 y101
  have hst := Lib.hid (law_start k8 k9 k10 hne (.int .i64 C) (.slice A1 n1 p1) (.int .i64 cx) (.string (cutP 21 s0)) (.int .i64 dx) (.string (cutP 21 t0)))
  have n89 := k8.ne_of k9 (by decide)
  have n8a := k8.ne_of k10 (by decide)
  have hno : ∀ y ∈ [b8, b9, b10], (Value.slice A1 n1 p1).ownBlock ≠ some y := by
    intro y hy
    simp only [List.mem_cons, List.not_mem_nil, or_false] at hy
    rcases hy with rfl | rfl | rfl
    · exact ho1.ne_blk k8 (by decide)
    · exact ho1.ne_blk k9 (by decide)
    · exact ho1.ne_blk k10 (by decide)
  replace hno := Lib.hid hno
  replace ho1 := Lib.hid ho1
  replace hBY := Lib.hid hBY
  have hlt8 := k8.lt
  have hlt9 := k9.lt
  have hlt10 := k10.lt
  clear k8 k9 k10 c0 c1 c2 c3 c4 c5 hown hc1 hc2
  go_upto_region 2 with (fail)
  obtain ⟨Y2, hY2⟩ : ∃ Y2, (((((Y.setCell ⟨b8, 0, none⟩ (.int .i64 C)).setCell ⟨b8, 1, none⟩ (.slice A1 n1 p1)).setCell ⟨b9, 0, none⟩ (.int .i64 cx)).setCell ⟨b9, 1, none⟩ (.string (cutP 21 s0))).setCell ⟨b10, 0, none⟩ (.int .i64 dx)).setCell ⟨b10, 1, none⟩ (.string (cutP 21 t0)) = Y2 := ⟨_, rfl⟩
  rw [hY2] at hst ⊢
  obtain ⟨k8, k9, k10, hbx⟩ := hst.out
  have ho2 := ho1.out.of_block fun g hg => hbx.block g (ho1.out.lt g hg).2 fun hm => hno.out g hm hg
  have hBY2 : Below W.heap.size W Y2 := hBY.out.trans (hbx.below hBY.out.size (by simp; omega))
  have hBw2 := Lib.hid (bthen hBW.out hBY2)
  have hlen := ownR_len l0
  have hput4 := Lib.hid (ownR_put l0)
  have hsz1 := cutP_size 21 s0
  have hsz2 := cutP_size 21 t0
  clear hY2 hst y80 y81 y90 y91 y100 y101 f80 f81 f90 f91 f100 f101
  generalize ownR l0 = l at *
  generalize cutP 21 s0 = s at *
  generalize cutP 21 t0 = t at *
  have hl31 : l.length ≤ 31 := by omega
  have hrl := Lib.hid (show Rls Y2 (.slice A1 n1 p1) l from ho2.els)
  obtain ⟨Ar, nr, capr, rfl, hnr⟩ := Slc.shape hrs.out
  have hE := ints_els (hrs.out.below (Nat.le_refl _) hBw2.out)
  obtain ⟨hnr1, hnr2, hnr3⟩ := Els.len hE
  unfold maxLen at hnr3
  obtain ⟨kk, hkk⟩ : ∃ kk : Nat, min nr 1001 = kk := ⟨_, rfl⟩
  have hmin : min (nr : Int) 1001 = (kk : Int) := by omega
  have hkn : kk ≤ nr := by omega
  have hkc : kk ≤ capr := by omega
  have hk1 : kk ≤ 1001 := by omega
  have hEt := Lib.hid (Els.take hE kk (by omega))
  have hrsl := Lib.hid (show (rs0.take kk).length = kk by rw [List.length_take]; omega)
  clear hkk hE hnr1
  replace hnr := Lib.hid hnr
  have hzY : Y2.heap.size ≤ Y2.heap.size := Nat.le_refl _
  replace k8 := Lib.hid k8
  replace k9 := Lib.hid k9
  replace k10 := Lib.hid k10
  replace hbx := Lib.hid hbx
  replace ho2 := Lib.hid ho2
  clear hlen hbx ho1 hno hBY hBY2
  generalize rs0.take kk = rs at *
  go_upto_region 4 with (at_builtin; refine wpList_append_els (E := ElI) _ rfl (.tmp 24) (.tmp 29) 48 rfl Y2.heap.size Tryd.underlying48 info3 rfl rfl (by decide) (.slice none 0 0) [] rfl (OwnE.nil _ _ _) (.slice Ar kk capr) rfl rs hEt.out (by have := hrsl.out; simp; omega) hzY ?_; intro v3 Y3 ho3 hb3 hg3 hl3; clear hg3 hl3; obtain ⟨A3, n3, p3, rfl, hn3⟩ := OwnE.shape ho3; have ho3 := Lib.hid ho3; have hb3 := Lib.hid hb3)
  have k8' := k8.out.below hb3.out k8.out.lt
  have k9' := k9.out.below hb3.out k9.out.lt
  have k10' := k10.out.below hb3.out k10.out.lt
  have hrl3 := Lib.hid (hrl.out.then hb3.out)
  have hBw3 := Lib.hid (bthen hBw2.out hb3.out)
  have a0 : Y3.cell? ⟨b8, 0, none⟩ = some (.int .i64 C) := k8'.cell 0
  have a1 : Y3.cell? ⟨b8, 1, none⟩ = some (.slice A1 n1 p1) := k8'.cell 1
  have a2 : Y3.cell? ⟨b9, 0, none⟩ = some (.int .i64 cx) := k9'.cell 0
  have a3 : Y3.cell? ⟨b9, 1, none⟩ = some (.string s) := k9'.cell 1
  have a4 : Y3.cell? ⟨b10, 0, none⟩ = some (.int .i64 dx) := k10'.cell 0
  have a5 : Y3.cell? ⟨b10, 1, none⟩ = some (.string t) := k10'.cell 1
  have hcR := Lib.hid (checkR_any Y3 C _ l hrl3.out (fun r hr => by have := hput4.out r hr; omega))
  replace k8' := Lib.hid k8'
  replace k9' := Lib.hid k9'
  replace k10' := Lib.hid k10'
  clear k8 k9 k10 hrl ho2
  have hp1 := fun w' => Lib.hid (proper_any w' C (.slice A1 n1 p1) cx s (by omega) rfl)
  have hp2 := fun w' => Lib.hid (proper_any w' C (.slice A1 n1 p1) dx t (by omega) rfl)
  go_cut [11] from 31 (fun u11 wx => u11 = .bool (sysB C l && properB C ⟨cx, s⟩ && properB C ⟨dx, t⟩) ∧ Hid (Below Y3.heap.size Y3 wx))
  case first =>
    cases e1 : sysB C l with
    | false =>
      rw [e1] at hcR
      replace e1 := Lib.hid e1
      go_wp2_with (go_at_call 10; refine hcR.out.mono ?_; rintro e w1 ⟨rfl, hb⟩; have hb := Lib.hid hb)
      go_meet
      exact ⟨by rw [e1.out]; rfl, hb.out⟩
    | true =>
      rw [e1] at hcR
      replace e1 := Lib.hid e1
      cases e2 : properB C ⟨cx, s⟩ with
      | false =>
        simp only [e2] at hp1
        replace e2 := Lib.hid e2
        go_wp2_with (first
          | (go_at_call 10; refine hcR.out.mono ?_; rintro e w1 ⟨rfl, hb⟩; replace a0 := cell_below a0 hb; replace a1 := cell_below a1 hb; replace a2 := cell_below a2 hb; replace a3 := cell_below a3 hb; have hb := Lib.hid hb)
          | (go_at_call 11; refine (hp1 _).out.mono ?_; rintro e w2 ⟨rfl, hb2⟩; have hb2 := Lib.hid hb2))
        go_meet
        exact ⟨by rw [e1.out, e2.out]; rfl, bthen hb.out hb2.out⟩
      | true =>
        simp only [e2] at hp1
        replace e2 := Lib.hid e2
        go_wp2_with (first
          | (go_at_call 10; refine hcR.out.mono ?_; rintro e w1 ⟨rfl, hb⟩; replace a0 := cell_below a0 hb; replace a1 := cell_below a1 hb; replace a2 := cell_below a2 hb; replace a3 := cell_below a3 hb; replace a4 := cell_below a4 hb; replace a5 := cell_below a5 hb; have hb := Lib.hid hb)
          | (go_at_call 11; refine (hp1 _).out.mono ?_; clear hp1; rintro e w2 ⟨rfl, hb2⟩; replace a0 := cell_below a0 hb2; replace a1 := cell_below a1 hb2; replace a4 := cell_below a4 hb2; replace a5 := cell_below a5 hb2; have hb2 := Lib.hid hb2)
          | (go_at_call 11; refine (hp2 _).out.mono ?_; rintro e w3 ⟨rfl, hb3⟩; have hb3 := Lib.hid hb3))
        go_meet
        exact ⟨by rw [e1.out, e2.out]; rfl, bthen hb.out (bthen hb2.out hb3.out)⟩
  case rest =>
    obtain ⟨rfl, hbc⟩ := hcut
    clear a0 a1 a2 a3 a4 a5 hcR hp1 hp2
    obtain ⟨want, hwant⟩ : ∃ b, (sysB C l && properB C ⟨cx, s⟩ && properB C ⟨dx, t⟩) = b := ⟨_, rfl⟩
    rw [hwant]
    have k8 := k8'.out.below hbc.out k8'.out.lt
    have k9 := k9'.out.below hbc.out k9'.out.lt
    have k10 := k10'.out.below hbc.out k10'.out.lt
    have hrlc := hrl3.out.then hbc.out
    have hrsc := els_ints (ho3.out.els.then hbc.out)
    have a0 : ∀ g : Gr wc, g.w1.cell? ⟨b8, 0, none⟩ = some (.int .i64 C) := fun g => g.cell (k8.cell 0)
    have a1 : ∀ g : Gr wc, g.w1.cell? ⟨b8, 1, none⟩ = some (.slice A1 n1 p1) := fun g => g.cell (k8.cell 1)
    have a2 : ∀ g : Gr wc, g.w1.cell? ⟨b9, 0, none⟩ = some (.int .i64 cx) := fun g => g.cell (k9.cell 0)
    have a3 : ∀ g : Gr wc, g.w1.cell? ⟨b9, 1, none⟩ = some (.string s) := fun g => g.cell (k9.cell 1)
    have a4 : ∀ g : Gr wc, g.w1.cell? ⟨b10, 0, none⟩ = some (.int .i64 dx) := fun g => g.cell (k10.cell 0)
    have a5 : ∀ g : Gr wc, g.w1.cell? ⟨b10, 1, none⟩ = some (.string t) := fun g => g.cell (k10.cell 1)
    have hsysC := Lib.hid (fun g : Gr wc => system_any g.w1 C _ l (hrlc.then g.h) (by omega))
    have hst1 := Lib.hid (fun g : Gr wc => stack_any g.w1 cx s)
    have hst2 := Lib.hid (fun g : Gr wc => stack_any g.w1 dx t)
    have hisr := Lib.hid (fun (g : Gr wc) (v : Value) (hv : OwnE ElR 63 wc.heap.size g.w1 v l) => IsRun_any g.w1 C cx dx v (.slice A3 n3 p3) l s t rs hv.els (hrsc.below (Nat.le_refl _) g.h) (fun r hr => by have := hput4.out r hr; omega) (by omega) (by omega))
    have hval : decide (allE C l [⟨cx, s⟩, ⟨dx, t⟩] = 0) = want := by rw [allE_iff, hwant]
    rw [hval] at hisr
    obtain ⟨rb, hrb⟩ : ∃ b, isRunB l ⟨cx, s⟩ ⟨dx, t⟩ rs = b := ⟨_, rfl⟩
    have hput2 : want = true → ∀ r ∈ l, r.put.size ≤ 2 := fun h => by
      rw [h, Bool.and_eq_true, Bool.and_eq_true] at hwant
      exact put2 hwant.1.1
    have hisR := Lib.hid (fun (h : want = true) (g : Gr wc) => IsRunR_any g.w1 C cx dx _ (.slice A3 n3 p3) l s t rs (hrlc.then g.h) (hrsc.below (Nat.le_refl _) g.h) (hput2 h) (by omega))
    rw [hrb] at hisr hisR
    replace k8 := Lib.hid k8
    replace k9 := Lib.hid k9
    replace k10 := Lib.hid k10
    replace hrlc := Lib.hid hrlc
    replace hrsc := Lib.hid hrsc
    replace hwant := Lib.hid hwant
    replace hval := Lib.hid hval
    replace hrb := Lib.hid hrb
    replace hput2 := Lib.hid hput2
    cases want with
    | false =>
      simp only [Bool.false_and] at hisr
      go_wp2
      refine wp_region_rels 16 [false, true, false, true, false, true, false, true] [[], [], [], [], [], [], [], [1]] (fun k h => if k = 1 then sv C (.slice h.A h.n h.cap) else if k = 3 then cv ⟨cx, s⟩ else if k = 5 then cv ⟨dx, t⟩ else .bool false)
        (fun k h w => if k = 1 then OwnE ElR 63 wc.heap.size w (.slice h.A h.n h.cap) l else True) [] (by kernel_rfl) (by kernel_rfl) ?_
      simp only [List.take_succ_cons, List.take_zero, List.drop_succ_cons, List.drop_zero]
      refine walkS_reads 1 _ _ _ _ (by kernel_rfl) (by kernel_rfl) (by simp) ?_
      simp only [List.take_succ_cons, List.take_zero, List.drop_succ_cons, List.drop_zero]
      repeat (go_big_quiet_step (fail))
      refine wpQuiet_nil ?_
      refine walkS_eff rfl (by kernel_rfl) (fun g _ => ?_) (fun h1 => ?_)
      · go_simp
        exact ⟨rfl, (hsysC.out g).mono (fun e w' ⟨v', h1, h2, h3⟩ => by
          obtain ⟨A5, n5, c5, rfl, _⟩ := OwnE.shape h2
          exact ⟨⟨A5, n5, c5, 0, 0, false⟩, h1, h3, h2.lo_le g.h.size, fun e => by cases e⟩)⟩
      go_frame
      refine walkS_reads 1 _ _ _ _ (by kernel_rfl) (by kernel_rfl) (by simp) ?_
      simp only [List.take_succ_cons, List.take_zero, List.drop_succ_cons, List.drop_zero]
      repeat (go_big_quiet_step (fail))
      refine wpQuiet_nil ?_
      refine walkS_eff rfl (by kernel_rfl) (fun g _ => ?_) (fun h3 => ?_)
      · go_simp
        exact ⟨rfl, (hst1.out g).mono (fun e w' ⟨h1, h3⟩ => ⟨default, h1, h3, trivial, fun e => by cases e⟩)⟩
      go_frame
      refine walkS_reads 1 _ _ _ _ (by kernel_rfl) (by kernel_rfl) (by simp) ?_
      simp only [List.take_succ_cons, List.take_zero, List.drop_succ_cons, List.drop_zero]
      repeat (go_big_quiet_step (fail))
      refine wpQuiet_nil ?_
      refine walkS_eff rfl (by kernel_rfl) (fun g _ => ?_) (fun h5 => ?_)
      · go_simp
        exact ⟨rfl, (hst2.out g).mono (fun e w' ⟨h1, h3⟩ => ⟨default, h1, h3, trivial, fun e => by cases e⟩)⟩
      go_frame
      refine walkS_reads 1 _ _ _ _ (by kernel_rfl) (by kernel_rfl) (by simp) ?_
      simp only [List.take_succ_cons, List.take_zero, List.drop_succ_cons, List.drop_zero]
      repeat (go_big_quiet_step (fail))
      refine wpQuiet_nil ?_
      refine walkS_eff rfl (by kernel_rfl) (fun g hd => ?_) (fun h7 => ?_)
      · have hd1 := since_own (f := fun h => .slice h.A h.n h.cap) (by simpa using hd 1 (by simp) h1 rfl)
        go_simp
        exact ⟨rfl, (hisr.out g _ hd1).mono (fun e w' ⟨h1, h3⟩ => ⟨default, h1, h3, trivial, fun e => by cases e⟩)⟩
      go_frame
      refine walkS_reads 6 _ _ _ _ (by kernel_rfl) (by kernel_rfl) (by simp) ?_
      simp only [List.take_succ_cons, List.take_zero, List.drop_succ_cons, List.drop_zero]
      repeat (go_big_quiet_step (fail))
      refine wpQuiet_nil ?_
      refine walkS_skip (by decide) (by kernel_rfl) ?_
      go_frame
      refine walkS_reads 1 _ _ _ _ (by kernel_rfl) (by kernel_rfl) (by simp) ?_
      simp only [List.take_succ_cons, List.take_zero, List.drop_succ_cons, List.drop_zero]
      repeat (go_big_quiet_step (fail))
      refine wpQuiet_nil ?_
      refine walkS_nil ?_
      rintro _ ⟨gY, rfl⟩ hK hS
      have hBY := Lib.hid gY.h
      clear hK hS a0 a1 a2 a3 a4 a5 hsysC hst1 hst2 hisr hisR
      go_wp2_with (go_at_call 12; refine (awake_any _).mono ?_; rintro e w9 ⟨rfl, hb9⟩; have hb9 := Lib.hid hb9)
      go_ret
      exact ⟨rfl, bthen hBw3.out (bthen hbc.out (bthen hBY.out hb9.out))⟩
    | true =>
      simp only [Bool.true_and] at hisr
      go_wp2
      refine wp_region_rels 16 [false, true, false, true, false, true, false, true, false, false, false, false, false, false, true] [[], [], [], [], [], [], [], [1]] (fun k h => if k = 1 then sv C (.slice h.A h.n h.cap) else if k = 3 then cv ⟨cx, s⟩ else if k = 5 then cv ⟨dx, t⟩ else .bool rb)
        (fun k h w => if k = 1 then OwnE ElR 63 wc.heap.size w (.slice h.A h.n h.cap) l else True) [] (by kernel_rfl) (by kernel_rfl) ?_
      simp only [List.take_succ_cons, List.take_zero, List.drop_succ_cons, List.drop_zero]
      refine walkS_reads 1 _ _ _ _ (by kernel_rfl) (by kernel_rfl) (by simp) ?_
      simp only [List.take_succ_cons, List.take_zero, List.drop_succ_cons, List.drop_zero]
      repeat (go_big_quiet_step (fail))
      refine wpQuiet_nil ?_
      refine walkS_eff rfl (by kernel_rfl) (fun g hd => ?_) (fun h1 => ?_)
      · go_simp
        exact ⟨rfl, (hsysC.out g).mono (fun e w' ⟨v', h1, h2, h3⟩ => by
          obtain ⟨A5, n5, c5, rfl, _⟩ := OwnE.shape h2
          exact ⟨⟨A5, n5, c5, 0, 0, false⟩, h1, h3, h2.lo_le g.h.size, fun e => by cases e⟩)⟩
      go_frame
      refine walkS_reads 1 _ _ _ _ (by kernel_rfl) (by kernel_rfl) (by simp) ?_
      simp only [List.take_succ_cons, List.take_zero, List.drop_succ_cons, List.drop_zero]
      repeat (go_big_quiet_step (fail))
      refine wpQuiet_nil ?_
      refine walkS_eff rfl (by kernel_rfl) (fun g hd => ?_) (fun h3 => ?_)
      · go_simp
        exact ⟨rfl, (hst1.out g).mono (fun e w' ⟨h1, h3⟩ => ⟨default, h1, h3, trivial, fun e => by cases e⟩)⟩
      go_frame
      refine walkS_reads 1 _ _ _ _ (by kernel_rfl) (by kernel_rfl) (by simp) ?_
      simp only [List.take_succ_cons, List.take_zero, List.drop_succ_cons, List.drop_zero]
      repeat (go_big_quiet_step (fail))
      refine wpQuiet_nil ?_
      refine walkS_eff rfl (by kernel_rfl) (fun g hd => ?_) (fun h5 => ?_)
      · go_simp
        exact ⟨rfl, (hst2.out g).mono (fun e w' ⟨h1, h3⟩ => ⟨default, h1, h3, trivial, fun e => by cases e⟩)⟩
      go_frame
      refine walkS_reads 1 _ _ _ _ (by kernel_rfl) (by kernel_rfl) (by simp) ?_
      simp only [List.take_succ_cons, List.take_zero, List.drop_succ_cons, List.drop_zero]
      repeat (go_big_quiet_step (fail))
      refine wpQuiet_nil ?_
      refine walkS_eff rfl (by kernel_rfl) (fun g hd => ?_) (fun h7 => ?_)
      · have hd1 := since_own (f := fun h => .slice h.A h.n h.cap) (by simpa using hd 1 (by simp) h1 rfl)
        go_simp
        exact ⟨rfl, (hisr.out g _ hd1).mono (fun e w' ⟨h1, h3⟩ => ⟨default, h1, h3, trivial, fun e => by cases e⟩)⟩
      go_frame
      refine walkS_reads 6 _ _ _ _ (by kernel_rfl) (by kernel_rfl) (by simp) ?_
      simp only [List.take_succ_cons, List.take_zero, List.drop_succ_cons, List.drop_zero]
      repeat (go_big_quiet_step (fail))
      refine wpQuiet_nil ?_
      refine walkS_eff rfl (by kernel_rfl) (fun g hd => ?_) (fun h14 => ?_)
      · go_simp
        exact ⟨rfl, (hisR.out trivial g).mono (fun e w' ⟨h1, h3⟩ => ⟨default, h1, h3, trivial, fun e => by cases e⟩)⟩
      go_frame
      refine walkS_reads 1 _ _ _ _ (by kernel_rfl) (by kernel_rfl) (by simp) ?_
      simp only [List.take_succ_cons, List.take_zero, List.drop_succ_cons, List.drop_zero]
      repeat (go_big_quiet_step (fail))
      refine wpQuiet_nil ?_
      refine walkS_nil ?_
      rintro _ ⟨gY, rfl⟩ hK hS
      obtain ⟨Y, hYb⟩ := gY
      dsimp only at *
      have hprs := hwant.out
      rw [Bool.and_eq_true, Bool.and_eq_true] at hprs
      obtain ⟨⟨hsysT, hpcT⟩, _⟩ := hprs
      have hputT := put2 hsysT
      have d0 := cell_below (k9.out.cell 0) hYb
      have d1 := cell_below (k9.out.cell 1) hYb
      simp at d0 d1
      obtain ⟨Z1, hZ1⟩ : ∃ Z1, Y.alloc (.cells #[.int .i64 cx, .string s] 26) = Z1 := ⟨_, rfl⟩
      have hBZ : Below Y.heap.size Y Z1 := by rw [← hZ1]; exact below1 _ _
      have k12 : Blk Z1 Y.heap.size 26 #[.int .i64 cx, .string s] := by rw [← hZ1]; exact Blk.new _ _ _
      replace hrsc := Lib.hid (show Ints wc (.slice A3 n3 p3) rs by simpa using hrsc.out)
      have hBcZ := bthen hYb hBZ
      have hBwc := Lib.hid (bthen hBw3.out hbc.out)
      have hb8 := k8.out.lt
      have hb9 := k9.out.lt
      have hYc : wc.heap.size ≤ Y.heap.size := hYb.size
      have hn3' : n3 = rs.length := by rw [hn3.out]; simp
      have hn31 : n3 ≤ rs.length := Nat.le_of_eq hn3'
      have hn32 : rs.length ≤ n3 := Nat.le_of_eq hn3'.symm
      have hr1001 : rs.length ≤ 1001 := by rw [hrsl.out]; exact hk1
      obtain ⟨hp3, hmax3⟩ : rs.length ≤ p3 ∧ n3 = n3 := by
        obtain ⟨_, _, e, hc3, _⟩ := hrsc.out.open
        cases e
        exact ⟨hc3, rfl⟩
      clear hmax3
      replace hputT := Lib.hid hputT
      replace hsysT := Lib.hid hsysT
      replace hpcT := Lib.hid hpcT
      replace hBcZ := Lib.hid hBcZ
      replace k12 := Lib.hid k12
      clear hBZ hn3' hK hS a0 a1 a2 a3 a4 a5 hsysC hst1 hst2 hisr hisR hYb k8' k9' k10' k10 hrl3 hbc hwant hval
      go_wp2
      clear d0 d1
      obtain ⟨b12, hb12⟩ : ∃ b12, Y.heap.size = b12 := ⟨_, rfl⟩
      rw [hb12] at k12 hYc ⊢
      clear hZ1 hb12
      obtain ⟨V0, hV0⟩ : ∃ V0, V0 = wc := ⟨_, rfl⟩
      subst hV0
      go_loopw [13] (fun c wp => ∃ (k : Nat) (x' : Int) (s' : ByteArray), k ≤ rs.length ∧ c = .int .i64 (k : Int) ∧ Hid (runB l ⟨cx, s⟩ (rs.take k) = some ⟨x', s'⟩) ∧ Hid (Blk wp b12 26 #[.int .i64 x', .string s']) ∧ Hid (Below V0.heap.size V0 wp)) (fun c _ => rs.length - (intOf c).toNat)
      case atStart => exact ⟨0, cx, s, Nat.zero_le _, rfl, rfl, k12.out, hBcZ.out⟩
      case round =>
        obtain ⟨k, x', s', hk, rfl, hrun, kb12, hBx⟩ := hrel
        have hsz0 := runB_size hputT.out hrun.out
        simp only at hsz0
        have htl : (rs.take k).length ≤ k := List.length_take_le k rs
        have hsz : s'.size ≤ 1022 := by omega
        clear hsz0 htl
        clear k12 hBcZ
        by_cases hlt : k < rs.length
        case neg =>
          have hge : ¬ (k : Int) < n3 := by omega
          have k8w := k8.out.below hBx.out k8.out.lt
          have k9w := k9.out.below hBx.out k9.out.lt
          have hrlw := Lib.hid (hrlc.out.then hBx.out)
          have hrsw := Lib.hid (hrsc.out.below (Nat.le_refl _) hBx.out)
          obtain ⟨e0, e1⟩ := k8w.two
          obtain ⟨e2, e3⟩ := kb12.out.two
          replace k8w := Lib.hid k8w
          replace k9w := Lib.hid k9w
          have hp := Lib.hid (proper_any wr C (.slice A1 n1 p1) x' s' (by omega) rfl)
          cases kp : properB C ⟨x', s'⟩ with
          | false =>
            rw [kp] at hp
            replace kp := Lib.hid kp
            go_wp2_with (first | (go_at_call 11; refine hp.out.mono ?_; rintro e w1 ⟨rfl, hb1⟩; have hb1 := Lib.hid hb1) | (go_at_call 12; refine (awake_any _).mono ?_; rintro e w9 ⟨rfl, hb9⟩; have hb9 := Lib.hid hb9))
            go_ret
            exact ⟨rfl, bthen hBwc.out (bthen hBx.out (bthen hb1.out hb9.out))⟩
          | true =>
            rw [kp] at hp
            replace kp := Lib.hid kp
            go_upto_region 18 with (go_at_call 11; refine hp.out.mono ?_; rintro e w1 ⟨rfl, hb1⟩; have hb1 := Lib.hid hb1)
            have j8 := k8w.out.below hb1.out k8w.out.lt
            have j9 := k9w.out.below hb1.out k9w.out.lt
            have j12 := kb12.out.below hb1.out kb12.out.lt
            have hrl1 := Lib.hid (hrlw.out.then hb1.out)
            have hrs1 := hrsw.out.below (Nat.le_refl _) hb1.out
            have a0 : ∀ g : Gr w1, g.w1.cell? ⟨b8, 0, none⟩ = some (.int .i64 C) := fun g => g.cell (j8.cell 0)
            have a1 : ∀ g : Gr w1, g.w1.cell? ⟨b8, 1, none⟩ = some (.slice A1 n1 p1) := fun g => g.cell (j8.cell 1)
            have a2 : ∀ g : Gr w1, g.w1.cell? ⟨b9, 0, none⟩ = some (.int .i64 cx) := fun g => g.cell (j9.cell 0)
            have a3 : ∀ g : Gr w1, g.w1.cell? ⟨b9, 1, none⟩ = some (.string s) := fun g => g.cell (j9.cell 1)
            have a4 : ∀ g : Gr w1, g.w1.cell? ⟨b12, 0, none⟩ = some (.int .i64 x') := fun g => g.cell (j12.cell 0)
            have a5 : ∀ g : Gr w1, g.w1.cell? ⟨b12, 1, none⟩ = some (.string s') := fun g => g.cell (j12.cell 1)
            have hrk := els_ints (Els.take (ints_els hrs1) k hk)
            have hval : isRunB l ⟨cx, s⟩ ⟨x', s'⟩ (rs.take k) = decide ((k : Int) ≤ 1000) := by
              unfold isRunB
              rw [hrun.out]
              have : (rs.take k).length = k := by rw [List.length_take]; omega
              rw [this]
              simp [eqC]
              omega
            have hall : decide (allE C l [⟨cx, s⟩, ⟨x', s'⟩] = 0) = true := by
              rw [allE_iff, hsysT.out, hpcT.out, kp.out]; rfl
            have hsysC := Lib.hid (fun g : Gr w1 => system_any g.w1 C _ l (hrl1.out.then g.h) (by omega))
            have hst1 := Lib.hid (fun g : Gr w1 => stack_any g.w1 cx s)
            have hst2 := Lib.hid (fun g : Gr w1 => stack_any g.w1 x' s')
            have hisr := Lib.hid (fun (g : Gr w1) (v : Value) (hv : OwnE ElR 63 w1.heap.size g.w1 v l) => IsRun_any g.w1 C cx x' v (.slice A3 k p3) l s s' (rs.take k) hv.els (hrk.below (Nat.le_refl _) g.h) (fun r hr => by have := hput4.out r hr; omega) (by omega) (by omega))
            rw [hval, hall] at hisr
            simp only [Bool.true_and] at hisr
            have hkp : k ≤ p3 := by omega
            have hkpI : (k : Int) ≤ (p3 : Int) := by omega
            clear hval hall hrk j8 j9 j12 e0 e1 e2 e3 hrs1
            refine wp_region_rels 15 [false, true, false, true, false, true, false, false, false, true, false, false, false, false, true] [[], [], [], [], [], [], [], [], [], [1]] (fun kx h => if kx = 1 then sv C (.slice h.A h.n h.cap) else if kx = 3 then cv ⟨cx, s⟩ else if kx = 5 then cv ⟨x', s'⟩ else if kx = 9 then .bool (decide ((k : Int) ≤ 1000)) else .bool true)
              (fun kx h w => if kx = 1 then OwnE ElR 63 w1.heap.size w (.slice h.A h.n h.cap) l else True) [] (by kernel_rfl) (by kernel_rfl) ?_
            simp only [List.take_succ_cons, List.take_zero, List.drop_succ_cons, List.drop_zero]
            refine walkS_reads 1 _ _ _ _ (by kernel_rfl) (by kernel_rfl) (by simp) ?_
            simp only [List.take_succ_cons, List.take_zero, List.drop_succ_cons, List.drop_zero]
            repeat (go_big_quiet_step (fail))
            refine wpQuiet_nil ?_
            refine walkS_eff rfl (by kernel_rfl) (fun g hd => ?_) (fun h1 => ?_)
            · go_simp
              exact ⟨rfl, (hsysC.out g).mono (fun e w' ⟨v', h1, h2, h3⟩ => by
                obtain ⟨A5, n5, c5, rfl, _⟩ := OwnE.shape h2
                exact ⟨⟨A5, n5, c5, 0, 0, false⟩, h1, h3, h2.lo_le g.h.size, fun e => by cases e⟩)⟩
            go_frame
            refine walkS_reads 1 _ _ _ _ (by kernel_rfl) (by kernel_rfl) (by simp) ?_
            simp only [List.take_succ_cons, List.take_zero, List.drop_succ_cons, List.drop_zero]
            repeat (go_big_quiet_step (fail))
            refine wpQuiet_nil ?_
            refine walkS_eff rfl (by kernel_rfl) (fun g hd => ?_) (fun h3 => ?_)
            · go_simp
              exact ⟨rfl, (hst1.out g).mono (fun e w' ⟨h1, h3⟩ => ⟨default, h1, h3, trivial, fun e => by cases e⟩)⟩
            go_frame
            refine walkS_reads 1 _ _ _ _ (by kernel_rfl) (by kernel_rfl) (by simp) ?_
            simp only [List.take_succ_cons, List.take_zero, List.drop_succ_cons, List.drop_zero]
            repeat (go_big_quiet_step (fail))
            refine wpQuiet_nil ?_
            refine walkS_eff rfl (by kernel_rfl) (fun g hd => ?_) (fun h5 => ?_)
            · go_simp
              exact ⟨rfl, (hst2.out g).mono (fun e w' ⟨h1, h3⟩ => ⟨default, h1, h3, trivial, fun e => by cases e⟩)⟩
            go_frame
            refine walkS_reads 3 _ _ _ _ (by kernel_rfl) (by kernel_rfl) (by simp) ?_
            simp only [List.take_succ_cons, List.take_zero, List.drop_succ_cons, List.drop_zero]
            repeat (go_big_quiet_step (fail))
            refine wpQuiet_nil ?_
            refine walkS_eff rfl (by kernel_rfl) (fun g hd => ?_) (fun h9 => ?_)
            · have hd1 := since_own (f := fun h => .slice h.A h.n h.cap) (by simpa using hd 1 (by simp) h1 rfl)
              go_simp
              exact ⟨rfl, (hisr.out g _ hd1).mono (fun e w' ⟨h1, h3⟩ => ⟨default, h1, h3, trivial, fun e => by cases e⟩)⟩
            go_frame
            refine walkS_reads 4 _ _ _ _ (by kernel_rfl) (by kernel_rfl) (by simp) ?_
            simp only [List.take_succ_cons, List.take_zero, List.drop_succ_cons, List.drop_zero]
            repeat (go_big_quiet_step (fail))
            refine wpQuiet_nil ?_
            refine walkS_eff rfl (by kernel_rfl) (fun g hd => ?_) (fun h14 => ?_)
            · go_simp
              exact ⟨rfl, (awake_any g.w1).mono (fun e w' ⟨h1, h3⟩ => ⟨default, h1, h3, trivial, fun e => by cases e⟩)⟩
            go_frame
            refine walkS_nil ?_
            rintro _ ⟨gY, rfl⟩ hK hS
            have hBY := Lib.hid gY.h
            clear hK hS a0 a1 a2 a3 a4 a5 hsysC hst1 hst2 hisr
            go_wp2
            go_ret
            exact ⟨rfl, bthen hBwc.out (bthen hBx.out (bthen hb1.out hBY.out))⟩
        obtain ⟨hx, br, offr, rfl, hat⟩ := (Ints.below hrsc.out (Nat.le_refl _) hBx.out).addr (show 0 < rs.length by omega)
        clear hx
        have e0 := hat k hlt
        have k8r := k8.out.below hBx.out k8.out.lt
        have k9r := k9.out.below hBx.out k9.out.lt
        have y0 : wr.cell? ⟨b8, 0, none⟩ = some (.int .i64 C) := k8r.cell 0
        have y1 : wr.cell? ⟨b8, 1, none⟩ = some (.slice A1 n1 p1) := k8r.cell 1
        have d0 : wr.cell? ⟨b12, 0, none⟩ = some (.int .i64 x') := kb12.out.cell 0
        have d1 : wr.cell? ⟨b12, 1, none⟩ = some (.string s') := kb12.out.cell 1
        have hgood := Lib.hid (fun hm => stepD_take hlt hrun.out hm)
        clear hat k8r k9r
        generalize at0 rs k = i at *
        have hcall := Lib.hid (fun W' (hb : Below wr.heap.size wr W') => Step_any W' C x' i _ l s' ((hrlc.out.then hBx.out).then hb) hputT.out (by omega))
        obtain ⟨d, hd⟩ : ∃ d, stepD l ⟨x', s'⟩ i = d := ⟨_, rfl⟩
        obtain ⟨b, hb⟩ : ∃ b, mayB l ⟨x', s'⟩ i = b := ⟨_, rfl⟩
        rw [hd] at hcall hgood
        rw [hb] at hcall hgood
        obtain ⟨ux, us⟩ := d
        clear hd hb
        have e0a := fun o => cell_below e0 (below1 wr o)
        have d0a := fun o => cell_below d0 (below1 wr o)
        have d1a := fun o => cell_below d1 (below1 wr o)
        have y0a := fun o => cell_below y0 (below1 wr o)
        have y1a := fun o => cell_below y1 (below1 wr o)
        have hltI : (k : Int) < (n3 : Int) := by omega
        have hltN : k < n3 := by omega
        go_upto_region 12 with (fail)
        go_cut [14, 15] from 64 to 82 (fun u10 u11 wx => ∃ g, u10 = .pointer (some ⟨g, 0, none⟩) ∧ u11 = .bool b ∧ Hid (Blk wx g 26 #[.int .i64 ux, .string us]) ∧ Hid (Below wr.heap.size wr wx))
        case first =>
          go_region_held3 (fun w' => w'.cell? ⟨br, offr + k, none⟩ = some (.int .i64 i) ∧ w'.cell? ⟨b12, 0, none⟩ = some (.int .i64 x') ∧ w'.cell? ⟨b12, 1, none⟩ = some (.string s') ∧ w'.cell? ⟨b8, 0, none⟩ = some (.int .i64 C) ∧ w'.cell? ⟨b8, 1, none⟩ = some (.slice A1 n1 p1))
            (first | exact keep5 e0 d0 d1 y0 y1 (below_drew _) | exact keep5 e0 d0 d1 y0 y1 (below_adrew _ _) | exact keep5 e0 d0 d1 y0 y1 (‹Hid (Below wr.heap.size wr _)›).out | exact keep5 e0 d0 d1 y0 y1 (bthen (‹Hid (Below wr.heap.size wr _)›).out (below1 _ _)) | exact keep5 e0 d0 d1 y0 y1 (below_set2 (‹Hid (Below wr.heap.size wr _)›).out _ _))
            (first
            | (go_at_call 24; refine (hcall.out _ (below_drew wr)).mono ?_; rintro e w1 ⟨rfl, hB1⟩; have hB1 := Lib.hid (bthen (below_drew wr) hB1))
            | (go_at_call 24; refine (hcall.out _ (below_adrew wr (.cells #[.int .i64 0, .string ⟨#[]⟩] 26))).mono ?_; rintro e w1 ⟨rfl, hB1⟩; have bk := Blk.below (Blk.drewN (Blk.new wr 26 #[.int .i64 0, .string ⟨#[]⟩]) 1) hB1 (Blk.drewN (Blk.new wr 26 #[.int .i64 0, .string ⟨#[]⟩]) 1).lt; have b0 : w1.cell? ⟨wr.heap.size, 0, none⟩ = some (.int .i64 0) := bk.cell 0; have b1 : w1.cell? ⟨wr.heap.size, 1, none⟩ = some (.string ⟨#[]⟩) := bk.cell 1; have b2 := bk.free 0; have b3 := bk.free 1; have bk := Lib.hid bk; have hB1 := Lib.hid (bthen (below_adrew wr (.cells #[.int .i64 0, .string ⟨#[]⟩] 26)) hB1)))
          · go_wp2
            go_meet
            exact ⟨_, rfl, rfl, Blk.new _ _ _, bthen hB1.out (below1 _ _)⟩
          · go_wp2
            go_meet
            refine ⟨_, rfl, rfl, ?_, below_set2 hB1.out _ _⟩
            have := (bk.out.set 0 (.int .i64 ux)).set 1 (.string us)
            show Blk _ _ _ _
            simpa using this
        case rest =>
          obtain ⟨g, rfl, rfl, kg, hBc⟩ := hcut
          clear e0a d0a d1a y0a y1a e0 d0 d1 y0 y1 hcall
          replace kb12 := Lib.hid (kb12.out.below hBc.out kb12.out.lt)
          have hb12 := kb12.out.lt
          replace hBx := Lib.hid (hBx.out.trans (hBc.out.mono hBx.out.size))
          clear hBc
          cases b with
          | false =>
            clear hgood kg
            have k8w := k8.out.below hBx.out k8.out.lt
            have k9w := k9.out.below hBx.out k9.out.lt
            have hrlw := Lib.hid (hrlc.out.then hBx.out)
            have hrsw := Lib.hid (hrsc.out.below (Nat.le_refl _) hBx.out)
            obtain ⟨e0, e1⟩ := k8w.two
            obtain ⟨e2, e3⟩ := kb12.out.two
            replace k8w := Lib.hid k8w
            replace k9w := Lib.hid k9w
            have hp := Lib.hid (proper_any wc C (.slice A1 n1 p1) x' s' (by omega) rfl)
            cases kp : properB C ⟨x', s'⟩ with
            | false =>
              rw [kp] at hp
              replace kp := Lib.hid kp
              go_wp2_with (first | (go_at_call 11; refine hp.out.mono ?_; rintro e w1 ⟨rfl, hb1⟩; have hb1 := Lib.hid hb1) | (go_at_call 12; refine (awake_any _).mono ?_; rintro e w9 ⟨rfl, hb9⟩; have hb9 := Lib.hid hb9))
              go_ret
              exact ⟨rfl, bthen hBwc.out (bthen hBx.out (bthen hb1.out hb9.out))⟩
            | true =>
              rw [kp] at hp
              replace kp := Lib.hid kp
              go_upto_region 18 with (go_at_call 11; refine hp.out.mono ?_; rintro e w1 ⟨rfl, hb1⟩; have hb1 := Lib.hid hb1)
              have j8 := k8w.out.below hb1.out k8w.out.lt
              have j9 := k9w.out.below hb1.out k9w.out.lt
              have j12 := kb12.out.below hb1.out kb12.out.lt
              have hrl1 := Lib.hid (hrlw.out.then hb1.out)
              have hrs1 := hrsw.out.below (Nat.le_refl _) hb1.out
              have a0 : ∀ g : Gr w1, g.w1.cell? ⟨b8, 0, none⟩ = some (.int .i64 C) := fun g => g.cell (j8.cell 0)
              have a1 : ∀ g : Gr w1, g.w1.cell? ⟨b8, 1, none⟩ = some (.slice A1 n1 p1) := fun g => g.cell (j8.cell 1)
              have a2 : ∀ g : Gr w1, g.w1.cell? ⟨b9, 0, none⟩ = some (.int .i64 cx) := fun g => g.cell (j9.cell 0)
              have a3 : ∀ g : Gr w1, g.w1.cell? ⟨b9, 1, none⟩ = some (.string s) := fun g => g.cell (j9.cell 1)
              have a4 : ∀ g : Gr w1, g.w1.cell? ⟨b12, 0, none⟩ = some (.int .i64 x') := fun g => g.cell (j12.cell 0)
              have a5 : ∀ g : Gr w1, g.w1.cell? ⟨b12, 1, none⟩ = some (.string s') := fun g => g.cell (j12.cell 1)
              have hrk := els_ints (Els.take (ints_els hrs1) k hk)
              have hval : isRunB l ⟨cx, s⟩ ⟨x', s'⟩ (rs.take k) = decide ((k : Int) ≤ 1000) := by
                unfold isRunB
                rw [hrun.out]
                have : (rs.take k).length = k := by rw [List.length_take]; omega
                rw [this]
                simp [eqC]
                omega
              have hall : decide (allE C l [⟨cx, s⟩, ⟨x', s'⟩] = 0) = true := by
                rw [allE_iff, hsysT.out, hpcT.out, kp.out]; rfl
              have hsysC := Lib.hid (fun g : Gr w1 => system_any g.w1 C _ l (hrl1.out.then g.h) (by omega))
              have hst1 := Lib.hid (fun g : Gr w1 => stack_any g.w1 cx s)
              have hst2 := Lib.hid (fun g : Gr w1 => stack_any g.w1 x' s')
              have hisr := Lib.hid (fun (g : Gr w1) (v : Value) (hv : OwnE ElR 63 w1.heap.size g.w1 v l) => IsRun_any g.w1 C cx x' v (.slice (some ⟨br, offr, none⟩) k p3) l s s' (rs.take k) hv.els (hrk.below (Nat.le_refl _) g.h) (fun r hr => by have := hput4.out r hr; omega) (by omega) (by omega))
              rw [hval, hall] at hisr
              simp only [Bool.true_and] at hisr
              have hkp : k ≤ p3 := by omega
              have hkpI : (k : Int) ≤ (p3 : Int) := by omega
              clear hval hall hrk j8 j9 j12 e0 e1 e2 e3 hrs1
              refine wp_region_rels 15 [false, true, false, true, false, true, false, false, false, true, false, false, false, false, true] [[], [], [], [], [], [], [], [], [], [1]] (fun kx h => if kx = 1 then sv C (.slice h.A h.n h.cap) else if kx = 3 then cv ⟨cx, s⟩ else if kx = 5 then cv ⟨x', s'⟩ else if kx = 9 then .bool (decide ((k : Int) ≤ 1000)) else .bool true)
                (fun kx h w => if kx = 1 then OwnE ElR 63 w1.heap.size w (.slice h.A h.n h.cap) l else True) [] (by kernel_rfl) (by kernel_rfl) ?_
              simp only [List.take_succ_cons, List.take_zero, List.drop_succ_cons, List.drop_zero]
              refine walkS_reads 1 _ _ _ _ (by kernel_rfl) (by kernel_rfl) (by simp) ?_
              simp only [List.take_succ_cons, List.take_zero, List.drop_succ_cons, List.drop_zero]
              repeat (go_big_quiet_step (fail))
              refine wpQuiet_nil ?_
              refine walkS_eff rfl (by kernel_rfl) (fun g hd => ?_) (fun h1 => ?_)
              · go_simp
                exact ⟨rfl, (hsysC.out g).mono (fun e w' ⟨v', h1, h2, h3⟩ => by
                  obtain ⟨A5, n5, c5, rfl, _⟩ := OwnE.shape h2
                  exact ⟨⟨A5, n5, c5, 0, 0, false⟩, h1, h3, h2.lo_le g.h.size, fun e => by cases e⟩)⟩
              go_frame
              refine walkS_reads 1 _ _ _ _ (by kernel_rfl) (by kernel_rfl) (by simp) ?_
              simp only [List.take_succ_cons, List.take_zero, List.drop_succ_cons, List.drop_zero]
              repeat (go_big_quiet_step (fail))
              refine wpQuiet_nil ?_
              refine walkS_eff rfl (by kernel_rfl) (fun g hd => ?_) (fun h3 => ?_)
              · go_simp
                exact ⟨rfl, (hst1.out g).mono (fun e w' ⟨h1, h3⟩ => ⟨default, h1, h3, trivial, fun e => by cases e⟩)⟩
              go_frame
              refine walkS_reads 1 _ _ _ _ (by kernel_rfl) (by kernel_rfl) (by simp) ?_
              simp only [List.take_succ_cons, List.take_zero, List.drop_succ_cons, List.drop_zero]
              repeat (go_big_quiet_step (fail))
              refine wpQuiet_nil ?_
              refine walkS_eff rfl (by kernel_rfl) (fun g hd => ?_) (fun h5 => ?_)
              · go_simp
                exact ⟨rfl, (hst2.out g).mono (fun e w' ⟨h1, h3⟩ => ⟨default, h1, h3, trivial, fun e => by cases e⟩)⟩
              go_frame
              refine walkS_reads 3 _ _ _ _ (by kernel_rfl) (by kernel_rfl) (by simp) ?_
              simp only [List.take_succ_cons, List.take_zero, List.drop_succ_cons, List.drop_zero]
              repeat (go_big_quiet_step (fail))
              refine wpQuiet_nil ?_
              refine walkS_eff rfl (by kernel_rfl) (fun g hd => ?_) (fun h9 => ?_)
              · have hd1 := since_own (f := fun h => .slice h.A h.n h.cap) (by simpa using hd 1 (by simp) h1 rfl)
                go_simp
                exact ⟨rfl, (hisr.out g _ hd1).mono (fun e w' ⟨h1, h3⟩ => ⟨default, h1, h3, trivial, fun e => by cases e⟩)⟩
              go_frame
              refine walkS_reads 4 _ _ _ _ (by kernel_rfl) (by kernel_rfl) (by simp) ?_
              simp only [List.take_succ_cons, List.take_zero, List.drop_succ_cons, List.drop_zero]
              repeat (go_big_quiet_step (fail))
              refine wpQuiet_nil ?_
              refine walkS_eff rfl (by kernel_rfl) (fun g hd => ?_) (fun h14 => ?_)
              · go_simp
                exact ⟨rfl, (awake_any g.w1).mono (fun e w' ⟨h1, h3⟩ => ⟨default, h1, h3, trivial, fun e => by cases e⟩)⟩
              go_frame
              refine walkS_nil ?_
              rintro _ ⟨gY, rfl⟩ hK hS
              have hBY := Lib.hid gY.h
              clear hK hS a0 a1 a2 a3 a4 a5 hsysC hst1 hst2 hisr
              go_wp2
              go_ret
              exact ⟨rfl, bthen hBwc.out (bthen hBx.out (bthen hb1.out hBY.out))⟩
          | true =>
            have hnew := Lib.hid (hgood.out rfl)
            have z1 := kb12.out.cell 0
            have z2 := kb12.out.cell 1
            have z3 := kb12.out.free 0
            have z4 := kb12.out.free 1
            have z5 := kg.out.cell 0
            have z6 := kg.out.cell 1
            simp at z1 z2 z5 z6
            have kn := Lib.hid ((kb12.out.set 0 (.int .i64 ux)).set 1 (.string us))
            go_wp2
            go_roundw
            case rel =>
              refine ⟨k + 1, ux, us, by omega, by go_num, hnew.out, by show Blk _ _ _ _; simpa using kn.out, ?_⟩
              exact (hBx.out.setCell (by show V0.heap.size ≤ b12; omega) _).setCell (by show V0.heap.size ≤ b12; omega) _
            case measure => simp [intOf]; omega
end Go.Proofs.YtaapnflhjbdmlaaDoor
