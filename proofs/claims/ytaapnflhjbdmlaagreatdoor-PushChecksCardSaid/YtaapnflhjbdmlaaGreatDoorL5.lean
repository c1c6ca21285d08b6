/- PushChecks: the walk. No condition. -/
import Derived.Test.YtaapnflhjbdmlaaGreatDoorACE
import Derived.Test.YtaapnflhjbdmlaaGreatDoorZT
namespace Go.Proofs.YtaapnflhjbdmlaaGreatDoor
open Go.RowKit Go.Shelf
attribute [local go_sem] Oper.semAt_some

theorem law_sac {Y : World} {b c d t1 t2 t3 : Nat} {x y x' y' z' x'' y'' : Value} (k : Blk Y b t1 #[x, y]) (q : Blk Y c t2 #[x', y', z']) (p : Blk Y d t3 #[x'', y'']) (h1 : b ≠ c) (h2 : b ≠ d) (h3 : c ≠ d) (u0 u1 v0 v1 v2 z0 z1 : Value) :
    Blk (((((((Y.setCell ⟨b, 0, none⟩ u0).setCell ⟨b, 1, none⟩ u1).setCell ⟨c, 0, none⟩ v0).setCell ⟨c, 1, none⟩ v1).setCell ⟨c, 2, none⟩ v2).setCell ⟨d, 0, none⟩ z0).setCell ⟨d, 1, none⟩ z1) b t1 #[u0, u1] ∧
    Blk (((((((Y.setCell ⟨b, 0, none⟩ u0).setCell ⟨b, 1, none⟩ u1).setCell ⟨c, 0, none⟩ v0).setCell ⟨c, 1, none⟩ v1).setCell ⟨c, 2, none⟩ v2).setCell ⟨d, 0, none⟩ z0).setCell ⟨d, 1, none⟩ z1) c t2 #[v0, v1, v2] ∧
    Blk (((((((Y.setCell ⟨b, 0, none⟩ u0).setCell ⟨b, 1, none⟩ u1).setCell ⟨c, 0, none⟩ v0).setCell ⟨c, 1, none⟩ v1).setCell ⟨c, 2, none⟩ v2).setCell ⟨d, 0, none⟩ z0).setCell ⟨d, 1, none⟩ z1) d t3 #[z0, z1] ∧
    BX [b, c, d] Y (((((((Y.setCell ⟨b, 0, none⟩ u0).setCell ⟨b, 1, none⟩ u1).setCell ⟨c, 0, none⟩ v0).setCell ⟨c, 1, none⟩ v1).setCell ⟨c, 2, none⟩ v2).setCell ⟨d, 0, none⟩ z0).setCell ⟨d, 1, none⟩ z1) := by
  obtain ⟨k1, x1⟩ := set2 k u0 u1
  have q1 := q.bx x1 (by simpa using h1.symm)
  have p1 := p.bx x1 (by simpa using h2.symm)
  obtain ⟨q2, x2⟩ := set3 q1 v0 v1 v2
  have k2 := k1.bx x2 (by simpa using h1)
  have p2 := p1.bx x2 (by simpa using h3.symm)
  obtain ⟨p3, x3⟩ := set2 p2 z0 z1
  exact ⟨k2.bx x3 (by simpa using h2), q2.bx x3 (by simpa using h3), p3, (x1.two x2).two x3⟩

theorem ints_nil (w : World) : Ints w (.slice none 0 0) [] := ⟨none, 0, rfl, Nat.le_refl _, Nat.zero_le _, fun _ => rfl, fun i h => absurd h (by simp)⟩

set_option maxRecDepth 100000 in
set_option maxHeartbeats 16000000 in
theorem law5 (w : World) (C st cx : Int) (v vm0 vf0 : Value) (l0 : List RuleB) (ms0 : List Mi) (fs0 : List Int) (s0 : ByteArray) (h : Rls w v l0) (hm : Els ElZ w vm0 ms0) (hf : Els ElI w vf0 fs0) (hs0 : s0.size ≤ 9223372036854775807) :
    Calls Tryz.prog 5 #[sv C v, acV st vm0 vf0, cv ⟨cx, s0⟩] w fun e w' => e = .returned (.bool true) ∧ Below w.heap.size w w' := by
  obtain ⟨A, n, cap, rfl, hn⟩ := Els.shape h
  obtain ⟨Am0, nm0, cm0, rfl, _⟩ := Els.shape hm
  obtain ⟨Af0, nf0, cf0, rfl, _⟩ := Els.shape hf
  obtain ⟨W, hW⟩ : ∃ W, ((w.alloc (.cells #[.int .i64 C, .slice A n cap] 24)).alloc (.cells #[.int .i64 st, .slice Am0 nm0 cm0, .slice Af0 nf0 cf0] 28)).alloc (.cells #[.int .i64 cx, .string s0] 53) = W := ⟨_, rfl⟩
  have hBW : Below w.heap.size w W := by rw [← hW]; exact bthen (below1 _ _) (bthen (below1 _ _) (below1 _ _))
  have kS : Blk W w.heap.size 24 #[.int .i64 C, .slice A n cap] := by rw [← hW]; exact ((Blk.new w 24 _).alloc _).alloc _
  have kP : Blk W (w.heap.size + 1) 28 #[.int .i64 st, .slice Am0 nm0 cm0, .slice Af0 nf0 cf0] := by rw [← hW]; have := Blk.new (w.alloc (.cells #[.int .i64 C, .slice A n cap] 24)) 28 #[.int .i64 st, .slice Am0 nm0 cm0, .slice Af0 nf0 cf0]; rw [alloc_size] at this; exact this.alloc _
  have kQ : Blk W (w.heap.size + 1 + 1) 53 #[.int .i64 cx, .string s0] := by rw [← hW]; have := Blk.new ((w.alloc (.cells #[.int .i64 C, .slice A n cap] 24)).alloc (.cells #[.int .i64 st, .slice Am0 nm0 cm0, .slice Af0 nf0 cf0] 28)) 53 #[.int .i64 cx, .string s0]; rw [alloc_size, alloc_size] at this; exact this
  have c0 : ∀ g : Gr W, g.w1.cell? ⟨w.heap.size, 0, none⟩ = some (.int .i64 C) := fun g => g.cell (kS.cell 0)
  have c1 : ∀ g : Gr W, g.w1.cell? ⟨w.heap.size, 1, none⟩ = some (.slice A n cap) := fun g => g.cell (kS.cell 1)
  have c2 : ∀ g : Gr W, g.w1.cell? ⟨w.heap.size + 1, 0, none⟩ = some (.int .i64 st) := fun g => g.cell (kP.cell 0)
  have c3 : ∀ g : Gr W, g.w1.cell? ⟨w.heap.size + 1, 1, none⟩ = some (.slice Am0 nm0 cm0) := fun g => g.cell (kP.cell 1)
  have c4 : ∀ g : Gr W, g.w1.cell? ⟨w.heap.size + 1, 2, none⟩ = some (.slice Af0 nf0 cf0) := fun g => g.cell (kP.cell 2)
  have c5 : ∀ g : Gr W, g.w1.cell? ⟨w.heap.size + 1 + 1, 0, none⟩ = some (.int .i64 cx) := fun g => g.cell (kQ.cell 0)
  have c6 : ∀ g : Gr W, g.w1.cell? ⟨w.heap.size + 1 + 1, 1, none⟩ = some (.string s0) := fun g => g.cell (kQ.cell 1)
  have hown := Lib.hid (fun g : Gr W => own_any g.w1 C _ l0 ((Els.then h hBW).then g.h))
  have hmade := Lib.hid (fun g : Gr W => made_any g.w1 st _ _ ms0 fs0 ((Els.then hm hBW).then g.h) ((Els.then hf hBW).then g.h))
  have hcfg := Lib.hid (fun g : Gr W => config_any g.w1 cx s0 hs0)
  replace hBW := Lib.hid hBW
  clear h hm hf kS kP kQ
  go_enter Tryz.func5, Tryz.ntmps5
  go_wp2
  refine wp_region_rels 9 [false, true, false, true, false, true, true, true, true] [] (fun kx h => if kx = 1 then sv C (.slice h.A h.n h.cap) else if kx = 3 then acH h else if kx = 5 then cv ⟨cx, cutP 21 s0⟩ else if kx = 6 then .pointer (some ⟨h.k, 0, none⟩) else if kx = 7 then .pointer (some ⟨h.k, 0, none⟩) else .pointer (some ⟨h.k, 0, none⟩))
    (fun kx h w => if kx = 1 then OwnE ElR 76 W.heap.size w (.slice h.A h.n h.cap) (ownR l0) else if kx = 3 then AcR W.heap.size (fun n ms fs => n = st ∧ ms = ms0.take 101 ∧ fs = fs0.take 20) h w else if kx = 6 then W.heap.size ≤ h.k ∧ Blk w h.k 24 #[.int .i64 0, .slice none 0 0] else if kx = 7 then W.heap.size ≤ h.k ∧ Blk w h.k 28 #[.int .i64 0, .slice none 0 0, .slice none 0 0] else if kx = 8 then W.heap.size ≤ h.k ∧ Blk w h.k 53 #[.int .i64 0, .string ⟨#[]⟩] else True) [false, false, false, false, false, false, true, true, true] (by kernel_rfl) (by kernel_rfl) ?_
  simp only [List.take_succ_cons, List.take_zero, List.drop_succ_cons, List.drop_zero]
  refine walkS_reads 1 _ _ _ _ (by kernel_rfl) (by kernel_rfl) (by simp) ?_
  simp only [List.take_succ_cons, List.take_zero, List.drop_succ_cons, List.drop_zero]
  repeat (go_big_quiet_step (fail))
  refine wpQuiet_nil ?_
  refine walkS_eff rfl (by kernel_rfl) (fun g hd => ?_) (fun h1 => ?_)
  · go_simp
    exact ⟨rfl, (hown.out g).mono (fun e w' ⟨v', h1, h2, h3⟩ => by
      obtain ⟨A5, n5, c5, rfl, _⟩ := OwnE.shape h2
      exact ⟨⟨A5, n5, c5, 0, 0, false⟩, h1, h3, h2.lo_le g.h.size, fun e => by cases e⟩)⟩
  go_frame
  refine walkS_reads 1 _ _ _ _ (by kernel_rfl) (by kernel_rfl) (by simp) ?_
  simp only [List.take_succ_cons, List.take_zero, List.drop_succ_cons, List.drop_zero]
  repeat (go_big_quiet_step (fail))
  refine wpQuiet_nil ?_
  refine walkS_eff rfl (by kernel_rfl) (fun g hd => ?_) (fun h3 => ?_)
  · go_simp
    exact ⟨rfl, (hmade.out g).mono (fun e w' ⟨vm', vf', h1, h2, h3, h4⟩ => by
      obtain ⟨q, e1, e2⟩ := ac_eff (P := fun n ms fs => n = st ∧ ms = ms0.take 101 ∧ fs = fs0.take 20) g.h.size h2 h3 ⟨rfl, rfl, rfl⟩
      exact ⟨q, by rw [h1, ← e1], h4, e2, fun e => by cases e⟩)⟩
  go_frame
  refine walkS_reads 1 _ _ _ _ (by kernel_rfl) (by kernel_rfl) (by simp) ?_
  simp only [List.take_succ_cons, List.take_zero, List.drop_succ_cons, List.drop_zero]
  repeat (go_big_quiet_step (fail))
  refine wpQuiet_nil ?_
  refine walkS_eff rfl (by kernel_rfl) (fun g hd => ?_) (fun h5 => ?_)
  · go_simp
    exact ⟨rfl, (hcfg.out g).mono (fun e w' ⟨h1, h3⟩ => ⟨default, h1, h3, trivial, fun e => by cases e⟩)⟩
  go_frame
  refine walkS_eff rfl (by kernel_rfl) (fun g hd => ?_) (fun h6 => ?_)
  · go_simp
    exact ⟨⟨none, 0, 0, g.w1.heap.size, 0, false⟩, rfl, below1 _ _, ⟨g.h.size, Blk.new _ _ _⟩, fun _ => ⟨Nat.le_refl _, by simp⟩⟩
  go_frame
  refine walkS_eff rfl (by kernel_rfl) (fun g hd => ?_) (fun h7 => ?_)
  · go_simp
    exact ⟨⟨none, 0, 0, g.w1.heap.size, 0, false⟩, rfl, below1 _ _, ⟨g.h.size, Blk.new _ _ _⟩, fun _ => ⟨Nat.le_refl _, by simp⟩⟩
  go_frame
  refine walkS_eff rfl (by kernel_rfl) (fun g hd => ?_) (fun h8 => ?_)
  · go_simp
    exact ⟨⟨none, 0, 0, g.w1.heap.size, 0, false⟩, rfl, below1 _ _, ⟨g.h.size, Blk.new _ _ _⟩, fun _ => ⟨Nat.le_refl _, by simp⟩⟩
  go_frame
  refine walkS_nil ?_
  rintro _ ⟨gY, rfl⟩ hK hS
  have ho1 := since_own (f := fun h => .slice h.A h.n h.cap) (by simpa using (hK 1 h1 rfl).1)
  have ha3 := since_ac (show Since W (AcR W.heap.size (fun n ms fs => n = st ∧ ms = ms0.take 101 ∧ fs = fs0.take 20)) h3 gY.w1 from by simpa using (hK 3 h3 rfl).1)
  obtain ⟨m8, kS⟩ := since_blk (t := 24) (cs := #[.int .i64 0, .slice none 0 0]) (by simpa using (hK 6 h6 rfl).1)
  obtain ⟨m9, kA⟩ := since_blk (t := 28) (cs := #[.int .i64 0, .slice none 0 0, .slice none 0 0]) (by simpa using (hK 7 h7 rfl).1)
  obtain ⟨m10, kC⟩ := since_blk (t := 53) (cs := #[.int .i64 0, .string ⟨#[]⟩]) (by simpa using (hK 8 h8 rfl).1)
  clear hK hS
  obtain ⟨Y, hBY⟩ := gY
  obtain ⟨st', vm, vf, ms9, fs9, e3, ho3, hf3, es, em9, ef9⟩ := ha3
  rw [es] at e3
  rw [em9] at ho3
  rw [ef9] at hf3
  clear es em9 ef9
  obtain ⟨Am, nm, cm, rfl, hnm⟩ := OwnE.shape ho3
  obtain ⟨Af, nf, cf, rfl, hnf⟩ := OwnE.shape hf3
  obtain ⟨A1, n1, p1, _, _, _⟩ := h1
  obtain ⟨_, _, _, b8, _, _⟩ := h6
  obtain ⟨_, _, _, b9, _, _⟩ := h7
  obtain ⟨_, _, _, b10, _, _⟩ := h8
  dsimp only at *
  rw [e3]
  clear e3
  have y80 := kS.cell 0
  have fy80 := kS.free 0
  have y81 := kS.cell 1
  have fy81 := kS.free 1
  have y90 := kA.cell 0
  have fy90 := kA.free 0
  have y91 := kA.cell 1
  have fy91 := kA.free 1
  have y92 := kA.cell 2
  have fy92 := kA.free 2
  have y100 := kC.cell 0
  have fy100 := kC.free 0
  have y101 := kC.cell 1
  have fy101 := kC.free 1
  simp at y80 y81 y90 y91 y92 y100 y101
  have n1' := kS.ne_of kA (by decide)
  have n2' := kS.ne_of kC (by decide)
  have n3' := kA.ne_of kC (by decide)
  have hst := Lib.hid (law_sac kS kA kC n1' n2' n3' (.int .i64 C) (.slice A1 n1 p1) (.int .i64 st) (.slice Am nm cm) (.slice Af nf cf) (.int .i64 cx) (.string (cutP 21 s0)))
  have hno1 := Lib.hid (And.intro (ho1.ne_blk kS (by decide)) (And.intro (ho1.ne_blk kA (by decide)) (ho1.ne_blk kC (by decide))))
  have hno2 := Lib.hid (And.intro (ho3.ne_blk kS (by decide)) (And.intro (ho3.ne_blk kA (by decide)) (ho3.ne_blk kC (by decide))))
  have hno3 := Lib.hid (And.intro (hf3.ne_blk kS (by decide)) (And.intro (hf3.ne_blk kA (by decide)) (hf3.ne_blk kC (by decide))))
  replace ho1 := Lib.hid ho1
  replace ho3 := Lib.hid ho3
  replace hf3 := Lib.hid hf3
  replace hBY := Lib.hid hBY
  have hlt8 := kS.lt
  have hlt9 := kA.lt
  have hlt10 := kC.lt
  clear kS kA kC
  go_upto_region 2 with (fail)
  obtain ⟨Y2, hY2⟩ : ∃ Y2, ((((((Y.setCell ⟨b8, 0, none⟩ (.int .i64 C)).setCell ⟨b8, 1, none⟩ (.slice A1 n1 p1)).setCell ⟨b9, 0, none⟩ (.int .i64 st)).setCell ⟨b9, 1, none⟩ (.slice Am nm cm)).setCell ⟨b9, 2, none⟩ (.slice Af nf cf)).setCell ⟨b10, 0, none⟩ (.int .i64 cx)).setCell ⟨b10, 1, none⟩ (.string (cutP 21 s0)) = Y2 := ⟨_, rfl⟩
  rw [hY2] at hst ⊢
  obtain ⟨kS, kA, kC, hbx⟩ := hst.out
  have hxo : ∀ {v : Value}, v.ownBlock ≠ some b8 ∧ v.ownBlock ≠ some b9 ∧ v.ownBlock ≠ some b10 → ∀ g, v.ownBlock = some g → g ∉ [b8, b9, b10] := fun hv g hg hm => by
    simp only [List.mem_cons, List.not_mem_nil, or_false] at hm
    rcases hm with rfl | rfl | rfl
    · exact hv.1 hg
    · exact hv.2.1 hg
    · exact hv.2.2 hg
  have hrN := Lib.hid (ho1.out.of_block fun g hg => hbx.block g (ho1.out.lt g hg).2 (hxo hno1.out g hg)).els
  have hmN := Lib.hid (ho3.out.of_block fun g hg => hbx.block g (ho3.out.lt g hg).2 (hxo hno2.out g hg)).els
  have hfN := Lib.hid (hf3.out.of_block fun g hg => hbx.block g (hf3.out.lt g hg).2 (hxo hno3.out g hg)).els
  have hBN : Below W.heap.size W Y2 := hBY.out.trans (hbx.below hBY.out.size (by simp; omega))
  clear hY2 hst y80 y81 y90 y91 y92 y100 y101 fy80 fy81 fy90 fy91 fy92 fy100 fy101 hbx hBY ho1 ho3 hf3 hlt8 hlt9 hlt10 hno1 hno2 hno3 hxo m8 m9 m10 n1' n2' n3'
  replace kS := Lib.hid kS
  replace kA := Lib.hid kA
  replace kC := Lib.hid kC
  clear hown hmade hcfg c0 c1 c2 c3 c4 c5 c6
  have hBw := Lib.hid (bthen hBW.out hBN)
  have hlen := ownR_len l0
  have hput4 := Lib.hid (ownR_put l0)
  have hml9 : (ms0.take 101).length ≤ 101 := List.length_take_le _ _
  have hfl9 : (fs0.take 20).length ≤ 20 := List.length_take_le _ _
  have hsz1 := cutP_size 21 s0
  generalize ownR l0 = l at *
  generalize ms0.take 101 = ms at *
  generalize fs0.take 20 = fs at *
  generalize cutP 21 s0 = s at *
  have hl31 : l.length ≤ 31 := by omega
  obtain ⟨k8, hk8⟩ : ∃ k : Hid _, k = kS := ⟨_, rfl⟩
  obtain ⟨k9, hk9⟩ : ∃ k : Hid _, k = kA := ⟨_, rfl⟩
  obtain ⟨k10, hk10⟩ : ∃ k : Hid _, k = kC := ⟨_, rfl⟩
  obtain ⟨hrl, hrl'⟩ : ∃ k : Hid _, k = hrN := ⟨_, rfl⟩
  obtain ⟨hml, hml'⟩ : ∃ k : Hid _, k = hmN := ⟨_, rfl⟩
  obtain ⟨hfl, hfl'⟩ : ∃ k : Hid _, k = hfN := ⟨_, rfl⟩
  clear hk8 hk9 hk10 hrl' hml' hfl' kS kA kC hrN hmN hfN hBN hlen hW
  have c0 : ∀ g : Gr Y2, g.w1.cell? ⟨b8, 0, none⟩ = some (.int .i64 C) := fun g => g.cell (k8.out.cell 0)
  have c1 : ∀ g : Gr Y2, g.w1.cell? ⟨b8, 1, none⟩ = some (.slice A1 n1 p1) := fun g => g.cell (k8.out.cell 1)
  have c2 : ∀ g : Gr Y2, g.w1.cell? ⟨b9, 0, none⟩ = some (.int .i64 st) := fun g => g.cell (k9.out.cell 0)
  have c3 : ∀ g : Gr Y2, g.w1.cell? ⟨b9, 1, none⟩ = some (.slice Am nm cm) := fun g => g.cell (k9.out.cell 1)
  have c4 : ∀ g : Gr Y2, g.w1.cell? ⟨b9, 2, none⟩ = some (.slice Af nf cf) := fun g => g.cell (k9.out.cell 2)
  have c5 : ∀ g : Gr Y2, g.w1.cell? ⟨b10, 0, none⟩ = some (.int .i64 cx) := fun g => g.cell (k10.out.cell 0)
  have c6 : ∀ g : Gr Y2, g.w1.cell? ⟨b10, 1, none⟩ = some (.string s) := fun g => g.cell (k10.out.cell 1)
  have hsys := Lib.hid (fun g : Gr Y2 => system_any g.w1 C _ l (hrl.out.then g.h) (by omega))
  have hacp := Lib.hid (fun g : Gr Y2 => acceptor_any g.w1 st _ _ ms fs (hml.out.then g.h) (hfl.out.then g.h) (by omega) (by omega))
  have hstk := Lib.hid (fun g : Gr Y2 => stack_any g.w1 cx s)
  refine wp_region_rels 9 [false, true, false, true, false, true, true, true, true] [] (fun kx h => if kx = 1 then sv C (.slice h.A h.n h.cap) else if kx = 3 then acH h else if kx = 5 then cv ⟨cx, s⟩ else if kx = 6 then .pointer (some ⟨h.k, 0, none⟩) else if kx = 7 then .pointer (some ⟨h.k, 0, none⟩) else .pointer (some ⟨h.k, 0, none⟩))
    (fun kx h w => if kx = 1 then OwnE ElR 79 Y2.heap.size w (.slice h.A h.n h.cap) l else if kx = 3 then AcR Y2.heap.size (fun n' ms' fs' => n' = st ∧ ms' = ms ∧ fs' = fs) h w else if kx = 6 then Y2.heap.size ≤ h.k ∧ Blk w h.k 40 #[.int .i64 0, .slice none 0 0] else if kx = 7 then Y2.heap.size ≤ h.k ∧ Blk w h.k 34 #[.int .i64 0, .slice none 0 0, .slice none 0 0] else if kx = 8 then Y2.heap.size ≤ h.k ∧ Blk w h.k 60 #[.int .i64 0, .string ⟨#[]⟩] else True) [false, false, false, false, false, false, true, true, true] (by kernel_rfl) (by kernel_rfl) ?_
  simp only [List.take_succ_cons, List.take_zero, List.drop_succ_cons, List.drop_zero]
  refine walkS_reads 1 _ _ _ _ (by kernel_rfl) (by kernel_rfl) (by simp) ?_
  simp only [List.take_succ_cons, List.take_zero, List.drop_succ_cons, List.drop_zero]
  repeat (go_big_quiet_step (fail))
  refine wpQuiet_nil ?_
  refine walkS_eff rfl (by kernel_rfl) (fun g hd => ?_) (fun h1 => ?_)
  · go_simp
    exact ⟨rfl, (hsys.out g).mono (fun e w' ⟨v', h1, h2, h3⟩ => by
      obtain ⟨A5, n5, c5, rfl, _⟩ := OwnE.shape h2
      exact ⟨⟨A5, n5, c5, 0, 0, false⟩, h1, h3, h2.lo_le g.h.size, fun e => by cases e⟩)⟩
  go_frame
  refine walkS_reads 1 _ _ _ _ (by kernel_rfl) (by kernel_rfl) (by simp) ?_
  simp only [List.take_succ_cons, List.take_zero, List.drop_succ_cons, List.drop_zero]
  repeat (go_big_quiet_step (fail))
  refine wpQuiet_nil ?_
  refine walkS_eff rfl (by kernel_rfl) (fun g hd => ?_) (fun h3 => ?_)
  · go_simp
    exact ⟨rfl, (hacp.out g).mono (fun e w' ⟨vm', vf', h1, h2, h3, h4⟩ => by
      obtain ⟨q, e1, e2⟩ := ac_eff (P := fun n' ms' fs' => n' = st ∧ ms' = ms ∧ fs' = fs) g.h.size h2 h3 ⟨rfl, rfl, rfl⟩
      exact ⟨q, by rw [h1, ← e1], h4, e2, fun e => by cases e⟩)⟩
  go_frame
  refine walkS_reads 1 _ _ _ _ (by kernel_rfl) (by kernel_rfl) (by simp) ?_
  simp only [List.take_succ_cons, List.take_zero, List.drop_succ_cons, List.drop_zero]
  repeat (go_big_quiet_step (fail))
  refine wpQuiet_nil ?_
  refine walkS_eff rfl (by kernel_rfl) (fun g hd => ?_) (fun h5 => ?_)
  · go_simp
    exact ⟨rfl, (hstk.out g).mono (fun e w' ⟨h1, h3⟩ => ⟨default, h1, h3, trivial, fun e => by cases e⟩)⟩
  go_frame
  refine walkS_eff rfl (by kernel_rfl) (fun g hd => ?_) (fun h6 => ?_)
  · go_simp
    exact ⟨⟨none, 0, 0, g.w1.heap.size, 0, false⟩, rfl, below1 _ _, ⟨g.h.size, Blk.new _ _ _⟩, fun _ => ⟨Nat.le_refl _, by simp⟩⟩
  go_frame
  refine walkS_eff rfl (by kernel_rfl) (fun g hd => ?_) (fun h7 => ?_)
  · go_simp
    exact ⟨⟨none, 0, 0, g.w1.heap.size, 0, false⟩, rfl, below1 _ _, ⟨g.h.size, Blk.new _ _ _⟩, fun _ => ⟨Nat.le_refl _, by simp⟩⟩
  go_frame
  refine walkS_eff rfl (by kernel_rfl) (fun g hd => ?_) (fun h8 => ?_)
  · go_simp
    exact ⟨⟨none, 0, 0, g.w1.heap.size, 0, false⟩, rfl, below1 _ _, ⟨g.h.size, Blk.new _ _ _⟩, fun _ => ⟨Nat.le_refl _, by simp⟩⟩
  go_frame
  refine walkS_nil ?_
  rintro _ ⟨gY, rfl⟩ hK hS
  have ho1 := since_own (f := fun h => .slice h.A h.n h.cap) (by simpa using (hK 1 h1 rfl).1)
  have ha3 := since_ac (show Since Y2 (AcR Y2.heap.size (fun n' ms' fs' => n' = st ∧ ms' = ms ∧ fs' = fs)) h3 gY.w1 from by simpa using (hK 3 h3 rfl).1)
  obtain ⟨m8, kS⟩ := since_blk (t := 40) (cs := #[.int .i64 0, .slice none 0 0]) (by simpa using (hK 6 h6 rfl).1)
  obtain ⟨m9, kA⟩ := since_blk (t := 34) (cs := #[.int .i64 0, .slice none 0 0, .slice none 0 0]) (by simpa using (hK 7 h7 rfl).1)
  obtain ⟨m10, kC⟩ := since_blk (t := 60) (cs := #[.int .i64 0, .string ⟨#[]⟩]) (by simpa using (hK 8 h8 rfl).1)
  clear hK hS
  obtain ⟨X, hBY⟩ := gY
  obtain ⟨st', vm, vf, ms9, fs9, e3, ho3, hf3, es, em9, ef9⟩ := ha3
  rw [es] at e3
  rw [em9] at ho3
  rw [ef9] at hf3
  clear es em9 ef9
  obtain ⟨Am2, nm2, cm2, rfl, hnm⟩ := OwnE.shape ho3
  obtain ⟨Af2, nf2, cf2, rfl, hnf⟩ := OwnE.shape hf3
  obtain ⟨A2, n2, p2, _, _, _⟩ := h1
  obtain ⟨_, _, _, b11, _, _⟩ := h6
  obtain ⟨_, _, _, b12, _, _⟩ := h7
  obtain ⟨_, _, _, b13, _, _⟩ := h8
  dsimp only at *
  rw [e3]
  clear e3
  have y80 := kS.cell 0
  have fy80 := kS.free 0
  have y81 := kS.cell 1
  have fy81 := kS.free 1
  have y90 := kA.cell 0
  have fy90 := kA.free 0
  have y91 := kA.cell 1
  have fy91 := kA.free 1
  have y92 := kA.cell 2
  have fy92 := kA.free 2
  have y100 := kC.cell 0
  have fy100 := kC.free 0
  have y101 := kC.cell 1
  have fy101 := kC.free 1
  simp at y80 y81 y90 y91 y92 y100 y101
  have n1' := kS.ne_of kA (by decide)
  have n2' := kS.ne_of kC (by decide)
  have n3' := kA.ne_of kC (by decide)
  have hst := Lib.hid (law_sac kS kA kC n1' n2' n3' (.int .i64 C) (.slice A2 n2 p2) (.int .i64 st) (.slice Am2 nm2 cm2) (.slice Af2 nf2 cf2) (.int .i64 cx) (.string (s)))
  have hno1 := Lib.hid (And.intro (ho1.ne_blk kS (by decide)) (And.intro (ho1.ne_blk kA (by decide)) (ho1.ne_blk kC (by decide))))
  have hno2 := Lib.hid (And.intro (ho3.ne_blk kS (by decide)) (And.intro (ho3.ne_blk kA (by decide)) (ho3.ne_blk kC (by decide))))
  have hno3 := Lib.hid (And.intro (hf3.ne_blk kS (by decide)) (And.intro (hf3.ne_blk kA (by decide)) (hf3.ne_blk kC (by decide))))
  replace ho1 := Lib.hid ho1
  replace ho3 := Lib.hid ho3
  replace hf3 := Lib.hid hf3
  replace hBY := Lib.hid hBY
  have hlt8 := kS.lt
  have hlt9 := kA.lt
  have hlt10 := kC.lt
  clear kS kA kC
  go_upto_region 3 with (fail)
  obtain ⟨Z, hY2⟩ : ∃ Y2, ((((((X.setCell ⟨b11, 0, none⟩ (.int .i64 C)).setCell ⟨b11, 1, none⟩ (.slice A2 n2 p2)).setCell ⟨b12, 0, none⟩ (.int .i64 st)).setCell ⟨b12, 1, none⟩ (.slice Am2 nm2 cm2)).setCell ⟨b12, 2, none⟩ (.slice Af2 nf2 cf2)).setCell ⟨b13, 0, none⟩ (.int .i64 cx)).setCell ⟨b13, 1, none⟩ (.string (s)) = Y2 := ⟨_, rfl⟩
  rw [hY2] at hst ⊢
  obtain ⟨kS, kA, kC, hbx⟩ := hst.out
  have hxo : ∀ {v : Value}, v.ownBlock ≠ some b11 ∧ v.ownBlock ≠ some b12 ∧ v.ownBlock ≠ some b13 → ∀ g, v.ownBlock = some g → g ∉ [b11, b12, b13] := fun hv g hg hm => by
    simp only [List.mem_cons, List.not_mem_nil, or_false] at hm
    rcases hm with rfl | rfl | rfl
    · exact hv.1 hg
    · exact hv.2.1 hg
    · exact hv.2.2 hg
  have hrN := Lib.hid (ho1.out.of_block fun g hg => hbx.block g (ho1.out.lt g hg).2 (hxo hno1.out g hg)).els
  have hmN := Lib.hid (ho3.out.of_block fun g hg => hbx.block g (ho3.out.lt g hg).2 (hxo hno2.out g hg)).els
  have hfN := Lib.hid (hf3.out.of_block fun g hg => hbx.block g (hf3.out.lt g hg).2 (hxo hno3.out g hg)).els
  have hBN : Below Y2.heap.size Y2 Z := hBY.out.trans (hbx.below hBY.out.size (by simp; omega))
  clear hY2 hst y80 y81 y90 y91 y92 y100 y101 fy80 fy81 fy90 fy91 fy92 fy100 fy101 hbx hBY ho1 ho3 hf3 hlt8 hlt9 hlt10 hno1 hno2 hno3 hxo m8 m9 m10 n1' n2' n3'
  replace kS := Lib.hid kS
  replace kA := Lib.hid kA
  replace kC := Lib.hid kC
  clear hsys hacp hstk c0 c1 c2 c3 c4 c5 c6
  replace k8 := Lib.hid (k8.out.below hBN k8.out.lt)
  replace k9 := Lib.hid (k9.out.below hBN k9.out.lt)
  replace k10 := Lib.hid (k10.out.below hBN k10.out.lt)
  replace hrl := Lib.hid (hrl.out.then hBN)
  replace hml := Lib.hid (hml.out.then hBN)
  replace hfl := Lib.hid (hfl.out.then hBN)
  replace hBw := Lib.hid (bthen hBw.out hBN)
  clear hBN
  have hput := Lib.hid (show ∀ r ∈ l, r.put.size ≤ 9223372036854775807 from fun r hr => by have := hput4.out r hr; omega)
  have hss : s.size ≤ 9223372036854775807 := by omega
  have hkeep := Lib.hid (show ∀ V, Below Z.heap.size Z V → V.cell? ⟨b8, 0, none⟩ = some (.int .i64 C) ∧ V.cell? ⟨b8, 1, none⟩ = some (.slice A1 n1 p1) ∧ V.cell? ⟨b9, 0, none⟩ = some (.int .i64 st) ∧ V.cell? ⟨b9, 1, none⟩ = some (.slice Am nm cm) ∧ V.cell? ⟨b9, 2, none⟩ = some (.slice Af nf cf) ∧ V.cell? ⟨b10, 0, none⟩ = some (.int .i64 cx) ∧ V.cell? ⟨b10, 1, none⟩ = some (.string s) ∧ V.cell? ⟨b11, 0, none⟩ = some (.int .i64 C) ∧ V.cell? ⟨b11, 1, none⟩ = some (.slice A2 n2 p2) ∧ V.cell? ⟨b12, 0, none⟩ = some (.int .i64 st) ∧ V.cell? ⟨b12, 1, none⟩ = some (.slice Am2 nm2 cm2) ∧ V.cell? ⟨b12, 2, none⟩ = some (.slice Af2 nf2 cf2) ∧ V.cell? ⟨b13, 0, none⟩ = some (.int .i64 cx) ∧ V.cell? ⟨b13, 1, none⟩ = some (.string s) from fun V hV => ⟨(k8.out.below hV k8.out.lt).cell 0, (k8.out.below hV k8.out.lt).cell 1, (k9.out.below hV k9.out.lt).cell 0, (k9.out.below hV k9.out.lt).cell 1, (k9.out.below hV k9.out.lt).cell 2, (k10.out.below hV k10.out.lt).cell 0, (k10.out.below hV k10.out.lt).cell 1, (kS.out.below hV kS.out.lt).cell 0, (kS.out.below hV kS.out.lt).cell 1, (kA.out.below hV kA.out.lt).cell 0, (kA.out.below hV kA.out.lt).cell 1, (kA.out.below hV kA.out.lt).cell 2, (kC.out.below hV kC.out.lt).cell 0, (kC.out.below hV kC.out.lt).cell 1⟩)
  have hcR := Lib.hid (fun V (hV : Below Z.heap.size Z V) => checkR_any V C _ l (hrl.out.then hV) hput.out)
  have hck := Lib.hid (fun V (hV : Below Z.heap.size Z V) => check_any V C _ l (hrN.out.then hV) hput.out)
  have hgv := Lib.hid (fun V (hV : Below Z.heap.size Z V) => Given_any V C st n1 p1 A1 _ _ ms fs (hml.out.then hV) (hfl.out.then hV))
  have hbf := Lib.hid (fun V (hV : Below Z.heap.size Z V) => pBefore_any V C st _ _ _ l ms fs (hmN.out.then hV) (hfN.out.then hV) (hrN.out.then hV) hput.out)
  have haf := Lib.hid (fun V (hV : Below Z.heap.size Z V) => pAfter_any V C st _ _ _ l ms fs (hmN.out.then hV) (hfN.out.then hV) (hrN.out.then hV) hput.out)
  have hca := Lib.hid (fun V (hV : Below Z.heap.size Z V) => CheckAcceptor_any V C st _ _ _ l ms fs (hmN.out.then hV) (hfN.out.then hV) (hrN.out.then hV) hput.out)
  have hac := Lib.hid (fun V (hV : Below Z.heap.size Z V) => Accepts_any V C st cx _ _ _ l ms fs s (hmN.out.then hV) (hfN.out.then hV) (hrN.out.then hV) hput.out hss)
  have hpr := Lib.hid (fun V (_ : Below Z.heap.size Z V) => proper_any V C (.slice A1 n1 p1) cx s hss rfl)
  have haw := Lib.hid (fun V (_ : Below Z.heap.size Z V) => awake_any V)
  have hnx := Lib.hid (fun V (hV : Below Z.heap.size Z V) (he : allE C l [⟨cx, s⟩] ≠ 0) => Next_err V C cx _ l s (hrN.out.then hV) hput.out hss (.inl he))
  have hen := Lib.hid (fun V (hV : Below Z.heap.size Z V) (he : allE C l [⟨cx, s⟩] ≠ 0) => Endless_err V C cx _ l s (hrN.out.then hV) hput.out hss he)
  have hrc := Lib.hid (fun V (hV : Below Z.heap.size Z V) => Reaches_any V C cx 0 _ l s ⟨#[]⟩ (hrN.out.then hV) hput.out hss (by decide))
  have hru := Lib.hid (fun V (hV : Below Z.heap.size Z V) (he : allE C l [⟨0, ⟨#[]⟩⟩, ⟨cx, s⟩] ≠ 0) => Run_err V C 0 cx _ l ⟨#[]⟩ s (hrN.out.then hV) hput.out (by decide) hss he)
  have hir := Lib.hid (fun V (hV : Below Z.heap.size Z V) => IsRun_any V C cx cx _ (.slice none 0 0) l s s [] (hrN.out.then hV) (ints_nil V) hput.out hss hss)
  have hv := Lib.hid (show Below Z.heap.size Z Z from Below.refl _ _)
  obtain ⟨a80, a81, a90, a91, a92, a100, a101, a110, a111, a120, a121, a122, a130, a131⟩ := hkeep.out _ hv.out
  clear k8 k9 k10 kS kA kC
  cases e1 : sysB C l with
  | false =>
    simp only [e1] at hcR
    replace e1 := Lib.hid e1
    have hE0 := errA_sys (st := st) (ms := ms) (fs := fs) (c := []) e1.out
    have hE1 := errA_sys (st := st) (ms := ms) (fs := fs) (c := [⟨cx, s⟩]) e1.out
    have hC0 : checkE C l = 40 := by unfold checkE; rw [e1.out]; rfl
    have hA1 : allE C l [⟨cx, s⟩] = 40 := allE_sys e1.out
    have hA2 : allE C l [⟨cx, s⟩, ⟨0, ⟨#[]⟩⟩] = 40 := allE_sys e1.out
    have hA3 : allE C l [⟨0, ⟨#[]⟩⟩, ⟨cx, s⟩] = 40 := allE_sys e1.out
    have hA4 : allE C l [⟨cx, s⟩, ⟨cx, s⟩] = 40 := allE_sys e1.out
    have hz2 : decide ((40 : Int) = 0) = false := rfl
    replace hnx := Lib.hid (fun V hV => hnx.out V hV (by rw [hA1]; decide))
    replace hen := Lib.hid (fun V hV => hen.out V hV (by rw [hA1]; decide))
    replace hru := Lib.hid (fun V hV => hru.out V hV (by rw [hA3]; decide))
    simp only [hA1] at hnx hen
    simp only [hA2, hz2, Bool.false_and] at hrc
    simp only [hA3] at hru
    simp only [hA4, hz2, Bool.false_and] at hir
    clear hA1 hA2 hA3 hA4 hz2
    simp only [hC0] at hck
    simp only [hE0] at hbf haf hca
    simp only [hE1] at hac
    clear hC0 hE0 hE1
    go_upto_region 10 with (first
      | (go_at_call 8; refine (hcR.out _ hv.out).mono ?_; rintro e w' ⟨rfl, hb⟩; replace hv := Lib.hid (bthen hv.out hb); clear hb a80 a81 a90 a91 a92 a100 a101 a110 a111 a120 a121 a122 a130 a131; obtain ⟨a80, a81, a90, a91, a92, a100, a101, a110, a111, a120, a121, a122, a130, a131⟩ := hkeep.out _ hv.out)
      | (go_at_call 29; refine (hck.out _ hv.out).mono ?_; rintro e w' ⟨rfl, hb⟩; replace hv := Lib.hid (bthen hv.out hb); clear hb a80 a81 a90 a91 a92 a100 a101 a110 a111 a120 a121 a122 a130 a131; obtain ⟨a80, a81, a90, a91, a92, a100, a101, a110, a111, a120, a121, a122, a130, a131⟩ := hkeep.out _ hv.out)
      | (go_at_call 9; refine (hgv.out _ hv.out).mono ?_; rintro e w' ⟨rfl, hb⟩; replace hv := Lib.hid (bthen hv.out hb); clear hb a80 a81 a90 a91 a92 a100 a101 a110 a111 a120 a121 a122 a130 a131; obtain ⟨a80, a81, a90, a91, a92, a100, a101, a110, a111, a120, a121, a122, a130, a131⟩ := hkeep.out _ hv.out))
    go_upto_region 11 with (go_at_call 11; refine (hbf.out _ hv.out).mono ?_; rintro e w' ⟨n7, vm7, vf7, ms7, fs7, rfl, hm7, hf7, hx7, hb⟩; clear hx7; obtain ⟨Am7, nm7, cm7, rfl, _⟩ := OwnE.shape hm7; obtain ⟨Af7, nf7, cf7, rfl, _⟩ := OwnE.shape hf7; clear hm7 hf7; replace hv := Lib.hid (bthen hv.out hb); clear hb a80 a81 a90 a91 a92 a100 a101 a110 a111 a120 a121 a122 a130 a131; obtain ⟨a80, a81, a90, a91, a92, a100, a101, a110, a111, a120, a121, a122, a130, a131⟩ := hkeep.out _ hv.out)
    obtain ⟨Z5, hZ5⟩ : ∃ Z, w'.alloc (.cells #[.int .i64 n7, .slice Am7 nm7 cm7, .slice Af7 nf7 cf7] 34) = Z := ⟨_, rfl⟩
    have hbZ5 : Below w'.heap.size w' Z5 := by rw [← hZ5]; exact below1 _ _
    obtain ⟨b14, hb14⟩ : ∃ b, w'.heap.size = b := ⟨_, rfl⟩
    rw [hZ5, hb14]
    clear hZ5 hb14 a80 a81 a90 a91 a92 a100 a101 a110 a111 a120 a121 a122 a130 a131
    replace hv := Lib.hid (bthen hv.out hbZ5)
    clear hbZ5
    obtain ⟨a80, a81, a90, a91, a92, a100, a101, a110, a111, a120, a121, a122, a130, a131⟩ := hkeep.out _ hv.out
    go_upto_region 12 with (go_at_call 14; refine (haf.out _ hv.out).mono ?_; rintro e w' ⟨n7, vm7, vf7, ms7, fs7, rfl, hm7, hf7, hx7, hb⟩; clear hx7; obtain ⟨Am7, nm7, cm7, rfl, _⟩ := OwnE.shape hm7; obtain ⟨Af7, nf7, cf7, rfl, _⟩ := OwnE.shape hf7; clear hm7 hf7; replace hv := Lib.hid (bthen hv.out hb); clear hb a80 a81 a90 a91 a92 a100 a101 a110 a111 a120 a121 a122 a130 a131; obtain ⟨a80, a81, a90, a91, a92, a100, a101, a110, a111, a120, a121, a122, a130, a131⟩ := hkeep.out _ hv.out)
    obtain ⟨Z6, hZ6⟩ : ∃ Z, w'.alloc (.cells #[.int .i64 n7, .slice Am7 nm7 cm7, .slice Af7 nf7 cf7] 34) = Z := ⟨_, rfl⟩
    have hbZ6 : Below w'.heap.size w' Z6 := by rw [← hZ6]; exact below1 _ _
    obtain ⟨b16, hb16⟩ : ∃ b, w'.heap.size = b := ⟨_, rfl⟩
    rw [hZ6, hb16]
    clear hZ6 hb16 a80 a81 a90 a91 a92 a100 a101 a110 a111 a120 a121 a122 a130 a131
    replace hv := Lib.hid (bthen hv.out hbZ6)
    clear hbZ6
    obtain ⟨a80, a81, a90, a91, a92, a100, a101, a110, a111, a120, a121, a122, a130, a131⟩ := hkeep.out _ hv.out
    go_wp2_with (first
      | (go_at_call 30; refine (hca.out _ hv.out).mono ?_; rintro e w' ⟨rfl, hb⟩; replace hv := Lib.hid (bthen hv.out hb); clear hb a80 a81 a90 a91 a92 a100 a101 a110 a111 a120 a121 a122 a130 a131; obtain ⟨a80, a81, a90, a91, a92, a100, a101, a110, a111, a120, a121, a122, a130, a131⟩ := hkeep.out _ hv.out)
      | (go_at_call 22; refine (hpr.out _ hv.out).mono ?_; rintro e w' ⟨rfl, hb⟩; replace hv := Lib.hid (bthen hv.out hb); clear hb a80 a81 a90 a91 a92 a100 a101 a110 a111 a120 a121 a122 a130 a131; obtain ⟨a80, a81, a90, a91, a92, a100, a101, a110, a111, a120, a121, a122, a130, a131⟩ := hkeep.out _ hv.out)
      | (go_at_call 31; refine (hac.out _ hv.out).mono ?_; rintro e w' ⟨bv, rfl, hbt, hbv, hb⟩; obtain rfl := hbv (by decide); clear hbt hbv; replace hv := Lib.hid (bthen hv.out hb); clear hb a80 a81 a90 a91 a92 a100 a101 a110 a111 a120 a121 a122 a130 a131; obtain ⟨a80, a81, a90, a91, a92, a100, a101, a110, a111, a120, a121, a122, a130, a131⟩ := hkeep.out _ hv.out)
      | (go_at_call 8; refine (hcR.out _ hv.out).mono ?_; rintro e w' ⟨rfl, hb⟩; replace hv := Lib.hid (bthen hv.out hb); clear hb a80 a81 a90 a91 a92 a100 a101 a110 a111 a120 a121 a122 a130 a131; obtain ⟨a80, a81, a90, a91, a92, a100, a101, a110, a111, a120, a121, a122, a130, a131⟩ := hkeep.out _ hv.out)
      | (go_at_call 10; refine (haw.out _ hv.out).mono ?_; rintro e w' ⟨rfl, hb⟩; replace hv := Lib.hid (bthen hv.out hb); clear hb a80 a81 a90 a91 a92 a100 a101 a110 a111 a120 a121 a122 a130 a131; obtain ⟨a80, a81, a90, a91, a92, a100, a101, a110, a111, a120, a121, a122, a130, a131⟩ := hkeep.out _ hv.out)
      | (go_at_call 32; refine (hnx.out _ hv.out).mono ?_; rintro e w' ⟨rfl, hb⟩; replace hv := Lib.hid (bthen hv.out hb); clear hb a80 a81 a90 a91 a92 a100 a101 a110 a111 a120 a121 a122 a130 a131; obtain ⟨a80, a81, a90, a91, a92, a100, a101, a110, a111, a120, a121, a122, a130, a131⟩ := hkeep.out _ hv.out)
      | (go_at_call 24; refine (hrc.out _ hv.out).mono ?_; rintro e w' ⟨rfl, hb⟩; replace hv := Lib.hid (bthen hv.out hb); clear hb a80 a81 a90 a91 a92 a100 a101 a110 a111 a120 a121 a122 a130 a131; obtain ⟨a80, a81, a90, a91, a92, a100, a101, a110, a111, a120, a121, a122, a130, a131⟩ := hkeep.out _ hv.out)
      | (go_at_call 27; refine (hru.out _ hv.out).mono ?_; rintro e w' ⟨rfl, hb⟩; replace hv := Lib.hid (bthen hv.out hb); clear hb a80 a81 a90 a91 a92 a100 a101 a110 a111 a120 a121 a122 a130 a131; obtain ⟨a80, a81, a90, a91, a92, a100, a101, a110, a111, a120, a121, a122, a130, a131⟩ := hkeep.out _ hv.out)
      | (go_at_call 33; refine (hen.out _ hv.out).mono ?_; rintro e w' ⟨rfl, hb⟩; replace hv := Lib.hid (bthen hv.out hb); clear hb a80 a81 a90 a91 a92 a100 a101 a110 a111 a120 a121 a122 a130 a131; obtain ⟨a80, a81, a90, a91, a92, a100, a101, a110, a111, a120, a121, a122, a130, a131⟩ := hkeep.out _ hv.out)
      | (go_at_call 28; refine (hir.out _ hv.out).mono ?_; rintro e w' ⟨rfl, hb⟩; replace hv := Lib.hid (bthen hv.out hb); clear hb a80 a81 a90 a91 a92 a100 a101 a110 a111 a120 a121 a122 a130 a131; obtain ⟨a80, a81, a90, a91, a92, a100, a101, a110, a111, a120, a121, a122, a130, a131⟩ := hkeep.out _ hv.out))
    go_ret
    exact ⟨rfl, bthen hBw.out hv.out⟩
  | true =>
  simp only [e1] at hcR
  replace e1 := Lib.hid e1
  cases e2 : givenB C st ms fs with
  | false =>
    simp only [e2] at hgv
    replace e2 := Lib.hid e2
    cases e3 : properB C ⟨cx, s⟩ with
    | false =>
      simp only [e3] at hpr
      replace e3 := Lib.hid e3
      have hC0 : checkE C l = 0 := by unfold checkE; rw [e1.out]; rfl
      have hE0 := errA_acc (c := []) e1.out e2.out
      have hE1 := errA_acc (c := [⟨cx, s⟩]) e1.out e2.out
      have hA1 : allE C l [⟨cx, s⟩] = 21 := allE_bad (c := [⟨cx, s⟩]) e1.out (i := 0) (by simp) e3.out
      have hA2 : allE C l [⟨cx, s⟩, ⟨0, ⟨#[]⟩⟩] = 21 := allE_bad (c := [⟨cx, s⟩, ⟨0, ⟨#[]⟩⟩]) e1.out (i := 0) (by simp) e3.out
      have hA3 : allE C l [⟨0, ⟨#[]⟩⟩, ⟨cx, s⟩] = 21 := allE_bad (c := [⟨0, ⟨#[]⟩⟩, ⟨cx, s⟩]) e1.out (i := 1) (by simp) e3.out
      have hA4 : allE C l [⟨cx, s⟩, ⟨cx, s⟩] = 21 := allE_bad (c := [⟨cx, s⟩, ⟨cx, s⟩]) e1.out (i := 0) (by simp) e3.out
      have hz2 : decide ((21 : Int) = 0) = false := rfl
      replace hnx := Lib.hid (fun V hV => hnx.out V hV (by rw [hA1]; decide))
      replace hen := Lib.hid (fun V hV => hen.out V hV (by rw [hA1]; decide))
      replace hru := Lib.hid (fun V hV => hru.out V hV (by rw [hA3]; decide))
      simp only [hA1] at hnx hen
      simp only [hA2, hz2, Bool.false_and] at hrc
      simp only [hA3] at hru
      simp only [hA4, hz2, Bool.false_and] at hir
      clear hA1 hA2 hA3 hA4 hz2
      simp only [hC0] at hck
      simp only [hE0] at hbf haf hca
      simp only [hE1] at hac
      clear hC0 hE0 hE1
      go_upto_region 10 with (first
        | (go_at_call 8; refine (hcR.out _ hv.out).mono ?_; rintro e w' ⟨rfl, hb⟩; replace hv := Lib.hid (bthen hv.out hb); clear hb a80 a81 a90 a91 a92 a100 a101 a110 a111 a120 a121 a122 a130 a131; obtain ⟨a80, a81, a90, a91, a92, a100, a101, a110, a111, a120, a121, a122, a130, a131⟩ := hkeep.out _ hv.out)
        | (go_at_call 29; refine (hck.out _ hv.out).mono ?_; rintro e w' ⟨rfl, hb⟩; replace hv := Lib.hid (bthen hv.out hb); clear hb a80 a81 a90 a91 a92 a100 a101 a110 a111 a120 a121 a122 a130 a131; obtain ⟨a80, a81, a90, a91, a92, a100, a101, a110, a111, a120, a121, a122, a130, a131⟩ := hkeep.out _ hv.out)
        | (go_at_call 9; refine (hgv.out _ hv.out).mono ?_; rintro e w' ⟨rfl, hb⟩; replace hv := Lib.hid (bthen hv.out hb); clear hb a80 a81 a90 a91 a92 a100 a101 a110 a111 a120 a121 a122 a130 a131; obtain ⟨a80, a81, a90, a91, a92, a100, a101, a110, a111, a120, a121, a122, a130, a131⟩ := hkeep.out _ hv.out))
      go_upto_region 11 with (go_at_call 11; refine (hbf.out _ hv.out).mono ?_; rintro e w' ⟨n7, vm7, vf7, ms7, fs7, rfl, hm7, hf7, hx7, hb⟩; clear hx7; obtain ⟨Am7, nm7, cm7, rfl, _⟩ := OwnE.shape hm7; obtain ⟨Af7, nf7, cf7, rfl, _⟩ := OwnE.shape hf7; clear hm7 hf7; replace hv := Lib.hid (bthen hv.out hb); clear hb a80 a81 a90 a91 a92 a100 a101 a110 a111 a120 a121 a122 a130 a131; obtain ⟨a80, a81, a90, a91, a92, a100, a101, a110, a111, a120, a121, a122, a130, a131⟩ := hkeep.out _ hv.out)
      obtain ⟨Z5, hZ5⟩ : ∃ Z, w'.alloc (.cells #[.int .i64 n7, .slice Am7 nm7 cm7, .slice Af7 nf7 cf7] 34) = Z := ⟨_, rfl⟩
      have hbZ5 : Below w'.heap.size w' Z5 := by rw [← hZ5]; exact below1 _ _
      obtain ⟨b14, hb14⟩ : ∃ b, w'.heap.size = b := ⟨_, rfl⟩
      rw [hZ5, hb14]
      clear hZ5 hb14 a80 a81 a90 a91 a92 a100 a101 a110 a111 a120 a121 a122 a130 a131
      replace hv := Lib.hid (bthen hv.out hbZ5)
      clear hbZ5
      obtain ⟨a80, a81, a90, a91, a92, a100, a101, a110, a111, a120, a121, a122, a130, a131⟩ := hkeep.out _ hv.out
      go_upto_region 12 with (go_at_call 14; refine (haf.out _ hv.out).mono ?_; rintro e w' ⟨n7, vm7, vf7, ms7, fs7, rfl, hm7, hf7, hx7, hb⟩; clear hx7; obtain ⟨Am7, nm7, cm7, rfl, _⟩ := OwnE.shape hm7; obtain ⟨Af7, nf7, cf7, rfl, _⟩ := OwnE.shape hf7; clear hm7 hf7; replace hv := Lib.hid (bthen hv.out hb); clear hb a80 a81 a90 a91 a92 a100 a101 a110 a111 a120 a121 a122 a130 a131; obtain ⟨a80, a81, a90, a91, a92, a100, a101, a110, a111, a120, a121, a122, a130, a131⟩ := hkeep.out _ hv.out)
      obtain ⟨Z6, hZ6⟩ : ∃ Z, w'.alloc (.cells #[.int .i64 n7, .slice Am7 nm7 cm7, .slice Af7 nf7 cf7] 34) = Z := ⟨_, rfl⟩
      have hbZ6 : Below w'.heap.size w' Z6 := by rw [← hZ6]; exact below1 _ _
      obtain ⟨b16, hb16⟩ : ∃ b, w'.heap.size = b := ⟨_, rfl⟩
      rw [hZ6, hb16]
      clear hZ6 hb16 a80 a81 a90 a91 a92 a100 a101 a110 a111 a120 a121 a122 a130 a131
      replace hv := Lib.hid (bthen hv.out hbZ6)
      clear hbZ6
      obtain ⟨a80, a81, a90, a91, a92, a100, a101, a110, a111, a120, a121, a122, a130, a131⟩ := hkeep.out _ hv.out
      go_wp2_with (first
        | (go_at_call 30; refine (hca.out _ hv.out).mono ?_; rintro e w' ⟨rfl, hb⟩; replace hv := Lib.hid (bthen hv.out hb); clear hb a80 a81 a90 a91 a92 a100 a101 a110 a111 a120 a121 a122 a130 a131; obtain ⟨a80, a81, a90, a91, a92, a100, a101, a110, a111, a120, a121, a122, a130, a131⟩ := hkeep.out _ hv.out)
        | (go_at_call 22; refine (hpr.out _ hv.out).mono ?_; rintro e w' ⟨rfl, hb⟩; replace hv := Lib.hid (bthen hv.out hb); clear hb a80 a81 a90 a91 a92 a100 a101 a110 a111 a120 a121 a122 a130 a131; obtain ⟨a80, a81, a90, a91, a92, a100, a101, a110, a111, a120, a121, a122, a130, a131⟩ := hkeep.out _ hv.out)
        | (go_at_call 31; refine (hac.out _ hv.out).mono ?_; rintro e w' ⟨bv, rfl, hbt, hbv, hb⟩; obtain rfl := hbv (by decide); clear hbt hbv; replace hv := Lib.hid (bthen hv.out hb); clear hb a80 a81 a90 a91 a92 a100 a101 a110 a111 a120 a121 a122 a130 a131; obtain ⟨a80, a81, a90, a91, a92, a100, a101, a110, a111, a120, a121, a122, a130, a131⟩ := hkeep.out _ hv.out)
        | (go_at_call 8; refine (hcR.out _ hv.out).mono ?_; rintro e w' ⟨rfl, hb⟩; replace hv := Lib.hid (bthen hv.out hb); clear hb a80 a81 a90 a91 a92 a100 a101 a110 a111 a120 a121 a122 a130 a131; obtain ⟨a80, a81, a90, a91, a92, a100, a101, a110, a111, a120, a121, a122, a130, a131⟩ := hkeep.out _ hv.out)
        | (go_at_call 10; refine (haw.out _ hv.out).mono ?_; rintro e w' ⟨rfl, hb⟩; replace hv := Lib.hid (bthen hv.out hb); clear hb a80 a81 a90 a91 a92 a100 a101 a110 a111 a120 a121 a122 a130 a131; obtain ⟨a80, a81, a90, a91, a92, a100, a101, a110, a111, a120, a121, a122, a130, a131⟩ := hkeep.out _ hv.out)
        | (go_at_call 32; refine (hnx.out _ hv.out).mono ?_; rintro e w' ⟨rfl, hb⟩; replace hv := Lib.hid (bthen hv.out hb); clear hb a80 a81 a90 a91 a92 a100 a101 a110 a111 a120 a121 a122 a130 a131; obtain ⟨a80, a81, a90, a91, a92, a100, a101, a110, a111, a120, a121, a122, a130, a131⟩ := hkeep.out _ hv.out)
        | (go_at_call 24; refine (hrc.out _ hv.out).mono ?_; rintro e w' ⟨rfl, hb⟩; replace hv := Lib.hid (bthen hv.out hb); clear hb a80 a81 a90 a91 a92 a100 a101 a110 a111 a120 a121 a122 a130 a131; obtain ⟨a80, a81, a90, a91, a92, a100, a101, a110, a111, a120, a121, a122, a130, a131⟩ := hkeep.out _ hv.out)
        | (go_at_call 27; refine (hru.out _ hv.out).mono ?_; rintro e w' ⟨rfl, hb⟩; replace hv := Lib.hid (bthen hv.out hb); clear hb a80 a81 a90 a91 a92 a100 a101 a110 a111 a120 a121 a122 a130 a131; obtain ⟨a80, a81, a90, a91, a92, a100, a101, a110, a111, a120, a121, a122, a130, a131⟩ := hkeep.out _ hv.out)
        | (go_at_call 33; refine (hen.out _ hv.out).mono ?_; rintro e w' ⟨rfl, hb⟩; replace hv := Lib.hid (bthen hv.out hb); clear hb a80 a81 a90 a91 a92 a100 a101 a110 a111 a120 a121 a122 a130 a131; obtain ⟨a80, a81, a90, a91, a92, a100, a101, a110, a111, a120, a121, a122, a130, a131⟩ := hkeep.out _ hv.out)
        | (go_at_call 28; refine (hir.out _ hv.out).mono ?_; rintro e w' ⟨rfl, hb⟩; replace hv := Lib.hid (bthen hv.out hb); clear hb a80 a81 a90 a91 a92 a100 a101 a110 a111 a120 a121 a122 a130 a131; obtain ⟨a80, a81, a90, a91, a92, a100, a101, a110, a111, a120, a121, a122, a130, a131⟩ := hkeep.out _ hv.out))
      go_ret
      exact ⟨rfl, bthen hBw.out hv.out⟩
    | true =>
      simp only [e3] at hpr
      replace e3 := Lib.hid e3
      have hC0 : checkE C l = 0 := by unfold checkE; rw [e1.out]; rfl
      have hE0 := errA_acc (c := []) e1.out e2.out
      have hE1 := errA_acc (c := [⟨cx, s⟩]) e1.out e2.out
      simp only [hC0] at hck
      simp only [hE0] at hbf haf hca
      simp only [hE1] at hac
      clear hC0 hE0 hE1
      go_upto_region 10 with (first
        | (go_at_call 8; refine (hcR.out _ hv.out).mono ?_; rintro e w' ⟨rfl, hb⟩; replace hv := Lib.hid (bthen hv.out hb); clear hb a80 a81 a90 a91 a92 a100 a101 a110 a111 a120 a121 a122 a130 a131; obtain ⟨a80, a81, a90, a91, a92, a100, a101, a110, a111, a120, a121, a122, a130, a131⟩ := hkeep.out _ hv.out)
        | (go_at_call 29; refine (hck.out _ hv.out).mono ?_; rintro e w' ⟨rfl, hb⟩; replace hv := Lib.hid (bthen hv.out hb); clear hb a80 a81 a90 a91 a92 a100 a101 a110 a111 a120 a121 a122 a130 a131; obtain ⟨a80, a81, a90, a91, a92, a100, a101, a110, a111, a120, a121, a122, a130, a131⟩ := hkeep.out _ hv.out)
        | (go_at_call 9; refine (hgv.out _ hv.out).mono ?_; rintro e w' ⟨rfl, hb⟩; replace hv := Lib.hid (bthen hv.out hb); clear hb a80 a81 a90 a91 a92 a100 a101 a110 a111 a120 a121 a122 a130 a131; obtain ⟨a80, a81, a90, a91, a92, a100, a101, a110, a111, a120, a121, a122, a130, a131⟩ := hkeep.out _ hv.out))
      go_upto_region 11 with (go_at_call 11; refine (hbf.out _ hv.out).mono ?_; rintro e w' ⟨n7, vm7, vf7, ms7, fs7, rfl, hm7, hf7, hx7, hb⟩; clear hx7; obtain ⟨Am7, nm7, cm7, rfl, _⟩ := OwnE.shape hm7; obtain ⟨Af7, nf7, cf7, rfl, _⟩ := OwnE.shape hf7; clear hm7 hf7; replace hv := Lib.hid (bthen hv.out hb); clear hb a80 a81 a90 a91 a92 a100 a101 a110 a111 a120 a121 a122 a130 a131; obtain ⟨a80, a81, a90, a91, a92, a100, a101, a110, a111, a120, a121, a122, a130, a131⟩ := hkeep.out _ hv.out)
      obtain ⟨Z5, hZ5⟩ : ∃ Z, w'.alloc (.cells #[.int .i64 n7, .slice Am7 nm7 cm7, .slice Af7 nf7 cf7] 34) = Z := ⟨_, rfl⟩
      have hbZ5 : Below w'.heap.size w' Z5 := by rw [← hZ5]; exact below1 _ _
      obtain ⟨b14, hb14⟩ : ∃ b, w'.heap.size = b := ⟨_, rfl⟩
      rw [hZ5, hb14]
      clear hZ5 hb14 a80 a81 a90 a91 a92 a100 a101 a110 a111 a120 a121 a122 a130 a131
      replace hv := Lib.hid (bthen hv.out hbZ5)
      clear hbZ5
      obtain ⟨a80, a81, a90, a91, a92, a100, a101, a110, a111, a120, a121, a122, a130, a131⟩ := hkeep.out _ hv.out
      go_upto_region 12 with (go_at_call 14; refine (haf.out _ hv.out).mono ?_; rintro e w' ⟨n7, vm7, vf7, ms7, fs7, rfl, hm7, hf7, hx7, hb⟩; clear hx7; obtain ⟨Am7, nm7, cm7, rfl, _⟩ := OwnE.shape hm7; obtain ⟨Af7, nf7, cf7, rfl, _⟩ := OwnE.shape hf7; clear hm7 hf7; replace hv := Lib.hid (bthen hv.out hb); clear hb a80 a81 a90 a91 a92 a100 a101 a110 a111 a120 a121 a122 a130 a131; obtain ⟨a80, a81, a90, a91, a92, a100, a101, a110, a111, a120, a121, a122, a130, a131⟩ := hkeep.out _ hv.out)
      obtain ⟨Z6, hZ6⟩ : ∃ Z, w'.alloc (.cells #[.int .i64 n7, .slice Am7 nm7 cm7, .slice Af7 nf7 cf7] 34) = Z := ⟨_, rfl⟩
      have hbZ6 : Below w'.heap.size w' Z6 := by rw [← hZ6]; exact below1 _ _
      obtain ⟨b16, hb16⟩ : ∃ b, w'.heap.size = b := ⟨_, rfl⟩
      rw [hZ6, hb16]
      clear hZ6 hb16 a80 a81 a90 a91 a92 a100 a101 a110 a111 a120 a121 a122 a130 a131
      replace hv := Lib.hid (bthen hv.out hbZ6)
      clear hbZ6
      obtain ⟨a80, a81, a90, a91, a92, a100, a101, a110, a111, a120, a121, a122, a130, a131⟩ := hkeep.out _ hv.out
      go_wp2_with (first
        | (go_at_call 30; refine (hca.out _ hv.out).mono ?_; rintro e w' ⟨rfl, hb⟩; replace hv := Lib.hid (bthen hv.out hb); clear hb a80 a81 a90 a91 a92 a100 a101 a110 a111 a120 a121 a122 a130 a131; obtain ⟨a80, a81, a90, a91, a92, a100, a101, a110, a111, a120, a121, a122, a130, a131⟩ := hkeep.out _ hv.out)
        | (go_at_call 22; refine (hpr.out _ hv.out).mono ?_; rintro e w' ⟨rfl, hb⟩; replace hv := Lib.hid (bthen hv.out hb); clear hb a80 a81 a90 a91 a92 a100 a101 a110 a111 a120 a121 a122 a130 a131; obtain ⟨a80, a81, a90, a91, a92, a100, a101, a110, a111, a120, a121, a122, a130, a131⟩ := hkeep.out _ hv.out)
        | (go_at_call 31; refine (hac.out _ hv.out).mono ?_; rintro e w' ⟨bv, rfl, hbt, hbv, hb⟩; obtain rfl := hbv (by decide); clear hbt hbv; replace hv := Lib.hid (bthen hv.out hb); clear hb a80 a81 a90 a91 a92 a100 a101 a110 a111 a120 a121 a122 a130 a131; obtain ⟨a80, a81, a90, a91, a92, a100, a101, a110, a111, a120, a121, a122, a130, a131⟩ := hkeep.out _ hv.out)
        | (go_at_call 8; refine (hcR.out _ hv.out).mono ?_; rintro e w' ⟨rfl, hb⟩; replace hv := Lib.hid (bthen hv.out hb); clear hb a80 a81 a90 a91 a92 a100 a101 a110 a111 a120 a121 a122 a130 a131; obtain ⟨a80, a81, a90, a91, a92, a100, a101, a110, a111, a120, a121, a122, a130, a131⟩ := hkeep.out _ hv.out)
        | (go_at_call 10; refine (haw.out _ hv.out).mono ?_; rintro e w' ⟨rfl, hb⟩; replace hv := Lib.hid (bthen hv.out hb); clear hb a80 a81 a90 a91 a92 a100 a101 a110 a111 a120 a121 a122 a130 a131; obtain ⟨a80, a81, a90, a91, a92, a100, a101, a110, a111, a120, a121, a122, a130, a131⟩ := hkeep.out _ hv.out))
      go_ret
      exact ⟨rfl, bthen hBw.out hv.out⟩
  | true =>
  simp only [e2] at hgv
  replace e2 := Lib.hid e2
  cases e3 : properB C ⟨cx, s⟩ with
  | false =>
    simp only [e3] at hpr
    replace e3 := Lib.hid e3
    have hC0 : checkE C l = 0 := by unfold checkE; rw [e1.out]; rfl
    have hE0 : errA C st l ms fs [] = 0 := (errA_all e1.out e2.out).trans (allE_ok (c := []) e1.out (fun i hi => absurd hi (Nat.not_lt_zero i)))
    have hE1 : errA C st l ms fs [⟨cx, s⟩] = 21 := (errA_all e1.out e2.out).trans (allE_bad (c := [⟨cx, s⟩]) e1.out (i := 0) (by simp) e3.out)
    have hA1 : allE C l [⟨cx, s⟩] = 21 := allE_bad (c := [⟨cx, s⟩]) e1.out (i := 0) (by simp) e3.out
    have hA2 : allE C l [⟨cx, s⟩, ⟨0, ⟨#[]⟩⟩] = 21 := allE_bad (c := [⟨cx, s⟩, ⟨0, ⟨#[]⟩⟩]) e1.out (i := 0) (by simp) e3.out
    have hA3 : allE C l [⟨0, ⟨#[]⟩⟩, ⟨cx, s⟩] = 21 := allE_bad (c := [⟨0, ⟨#[]⟩⟩, ⟨cx, s⟩]) e1.out (i := 1) (by simp) e3.out
    have hA4 : allE C l [⟨cx, s⟩, ⟨cx, s⟩] = 21 := allE_bad (c := [⟨cx, s⟩, ⟨cx, s⟩]) e1.out (i := 0) (by simp) e3.out
    have hz2 : decide ((21 : Int) = 0) = false := rfl
    replace hnx := Lib.hid (fun V hV => hnx.out V hV (by rw [hA1]; decide))
    replace hen := Lib.hid (fun V hV => hen.out V hV (by rw [hA1]; decide))
    replace hru := Lib.hid (fun V hV => hru.out V hV (by rw [hA3]; decide))
    simp only [hA1] at hnx hen
    simp only [hA2, hz2, Bool.false_and] at hrc
    simp only [hA3] at hru
    simp only [hA4, hz2, Bool.false_and] at hir
    clear hA1 hA2 hA3 hA4 hz2
    simp only [hC0] at hck
    simp only [hE0] at hbf haf hca
    simp only [hE1] at hac
    clear hC0 hE0 hE1
    go_upto_region 10 with (first
      | (go_at_call 8; refine (hcR.out _ hv.out).mono ?_; rintro e w' ⟨rfl, hb⟩; replace hv := Lib.hid (bthen hv.out hb); clear hb a80 a81 a90 a91 a92 a100 a101 a110 a111 a120 a121 a122 a130 a131; obtain ⟨a80, a81, a90, a91, a92, a100, a101, a110, a111, a120, a121, a122, a130, a131⟩ := hkeep.out _ hv.out)
      | (go_at_call 29; refine (hck.out _ hv.out).mono ?_; rintro e w' ⟨rfl, hb⟩; replace hv := Lib.hid (bthen hv.out hb); clear hb a80 a81 a90 a91 a92 a100 a101 a110 a111 a120 a121 a122 a130 a131; obtain ⟨a80, a81, a90, a91, a92, a100, a101, a110, a111, a120, a121, a122, a130, a131⟩ := hkeep.out _ hv.out)
      | (go_at_call 9; refine (hgv.out _ hv.out).mono ?_; rintro e w' ⟨rfl, hb⟩; replace hv := Lib.hid (bthen hv.out hb); clear hb a80 a81 a90 a91 a92 a100 a101 a110 a111 a120 a121 a122 a130 a131; obtain ⟨a80, a81, a90, a91, a92, a100, a101, a110, a111, a120, a121, a122, a130, a131⟩ := hkeep.out _ hv.out))
    go_upto_region 11 with (go_at_call 11; refine (hbf.out _ hv.out).mono ?_; rintro e w' ⟨n7, vm7, vf7, ms7, fs7, rfl, hm7, hf7, hx7, hb⟩; clear hx7; obtain ⟨Am7, nm7, cm7, rfl, _⟩ := OwnE.shape hm7; obtain ⟨Af7, nf7, cf7, rfl, _⟩ := OwnE.shape hf7; clear hm7 hf7; replace hv := Lib.hid (bthen hv.out hb); clear hb a80 a81 a90 a91 a92 a100 a101 a110 a111 a120 a121 a122 a130 a131; obtain ⟨a80, a81, a90, a91, a92, a100, a101, a110, a111, a120, a121, a122, a130, a131⟩ := hkeep.out _ hv.out)
    obtain ⟨Z5, hZ5⟩ : ∃ Z, w'.alloc (.cells #[.int .i64 n7, .slice Am7 nm7 cm7, .slice Af7 nf7 cf7] 34) = Z := ⟨_, rfl⟩
    have hbZ5 : Below w'.heap.size w' Z5 := by rw [← hZ5]; exact below1 _ _
    obtain ⟨b14, hb14⟩ : ∃ b, w'.heap.size = b := ⟨_, rfl⟩
    rw [hZ5, hb14]
    clear hZ5 hb14 a80 a81 a90 a91 a92 a100 a101 a110 a111 a120 a121 a122 a130 a131
    replace hv := Lib.hid (bthen hv.out hbZ5)
    clear hbZ5
    obtain ⟨a80, a81, a90, a91, a92, a100, a101, a110, a111, a120, a121, a122, a130, a131⟩ := hkeep.out _ hv.out
    go_upto_region 12 with (go_at_call 14; refine (haf.out _ hv.out).mono ?_; rintro e w' ⟨n7, vm7, vf7, ms7, fs7, rfl, hm7, hf7, hx7, hb⟩; clear hx7; obtain ⟨Am7, nm7, cm7, rfl, _⟩ := OwnE.shape hm7; obtain ⟨Af7, nf7, cf7, rfl, _⟩ := OwnE.shape hf7; clear hm7 hf7; replace hv := Lib.hid (bthen hv.out hb); clear hb a80 a81 a90 a91 a92 a100 a101 a110 a111 a120 a121 a122 a130 a131; obtain ⟨a80, a81, a90, a91, a92, a100, a101, a110, a111, a120, a121, a122, a130, a131⟩ := hkeep.out _ hv.out)
    obtain ⟨Z6, hZ6⟩ : ∃ Z, w'.alloc (.cells #[.int .i64 n7, .slice Am7 nm7 cm7, .slice Af7 nf7 cf7] 34) = Z := ⟨_, rfl⟩
    have hbZ6 : Below w'.heap.size w' Z6 := by rw [← hZ6]; exact below1 _ _
    obtain ⟨b16, hb16⟩ : ∃ b, w'.heap.size = b := ⟨_, rfl⟩
    rw [hZ6, hb16]
    clear hZ6 hb16 a80 a81 a90 a91 a92 a100 a101 a110 a111 a120 a121 a122 a130 a131
    replace hv := Lib.hid (bthen hv.out hbZ6)
    clear hbZ6
    obtain ⟨a80, a81, a90, a91, a92, a100, a101, a110, a111, a120, a121, a122, a130, a131⟩ := hkeep.out _ hv.out
    go_wp2_with (first
      | (go_at_call 30; refine (hca.out _ hv.out).mono ?_; rintro e w' ⟨rfl, hb⟩; replace hv := Lib.hid (bthen hv.out hb); clear hb a80 a81 a90 a91 a92 a100 a101 a110 a111 a120 a121 a122 a130 a131; obtain ⟨a80, a81, a90, a91, a92, a100, a101, a110, a111, a120, a121, a122, a130, a131⟩ := hkeep.out _ hv.out)
      | (go_at_call 22; refine (hpr.out _ hv.out).mono ?_; rintro e w' ⟨rfl, hb⟩; replace hv := Lib.hid (bthen hv.out hb); clear hb a80 a81 a90 a91 a92 a100 a101 a110 a111 a120 a121 a122 a130 a131; obtain ⟨a80, a81, a90, a91, a92, a100, a101, a110, a111, a120, a121, a122, a130, a131⟩ := hkeep.out _ hv.out)
      | (go_at_call 31; refine (hac.out _ hv.out).mono ?_; rintro e w' ⟨bv, rfl, hbt, hbv, hb⟩; obtain rfl := hbv (by decide); clear hbt hbv; replace hv := Lib.hid (bthen hv.out hb); clear hb a80 a81 a90 a91 a92 a100 a101 a110 a111 a120 a121 a122 a130 a131; obtain ⟨a80, a81, a90, a91, a92, a100, a101, a110, a111, a120, a121, a122, a130, a131⟩ := hkeep.out _ hv.out)
      | (go_at_call 8; refine (hcR.out _ hv.out).mono ?_; rintro e w' ⟨rfl, hb⟩; replace hv := Lib.hid (bthen hv.out hb); clear hb a80 a81 a90 a91 a92 a100 a101 a110 a111 a120 a121 a122 a130 a131; obtain ⟨a80, a81, a90, a91, a92, a100, a101, a110, a111, a120, a121, a122, a130, a131⟩ := hkeep.out _ hv.out)
      | (go_at_call 10; refine (haw.out _ hv.out).mono ?_; rintro e w' ⟨rfl, hb⟩; replace hv := Lib.hid (bthen hv.out hb); clear hb a80 a81 a90 a91 a92 a100 a101 a110 a111 a120 a121 a122 a130 a131; obtain ⟨a80, a81, a90, a91, a92, a100, a101, a110, a111, a120, a121, a122, a130, a131⟩ := hkeep.out _ hv.out)
      | (go_at_call 32; refine (hnx.out _ hv.out).mono ?_; rintro e w' ⟨rfl, hb⟩; replace hv := Lib.hid (bthen hv.out hb); clear hb a80 a81 a90 a91 a92 a100 a101 a110 a111 a120 a121 a122 a130 a131; obtain ⟨a80, a81, a90, a91, a92, a100, a101, a110, a111, a120, a121, a122, a130, a131⟩ := hkeep.out _ hv.out)
      | (go_at_call 24; refine (hrc.out _ hv.out).mono ?_; rintro e w' ⟨rfl, hb⟩; replace hv := Lib.hid (bthen hv.out hb); clear hb a80 a81 a90 a91 a92 a100 a101 a110 a111 a120 a121 a122 a130 a131; obtain ⟨a80, a81, a90, a91, a92, a100, a101, a110, a111, a120, a121, a122, a130, a131⟩ := hkeep.out _ hv.out)
      | (go_at_call 27; refine (hru.out _ hv.out).mono ?_; rintro e w' ⟨rfl, hb⟩; replace hv := Lib.hid (bthen hv.out hb); clear hb a80 a81 a90 a91 a92 a100 a101 a110 a111 a120 a121 a122 a130 a131; obtain ⟨a80, a81, a90, a91, a92, a100, a101, a110, a111, a120, a121, a122, a130, a131⟩ := hkeep.out _ hv.out)
      | (go_at_call 33; refine (hen.out _ hv.out).mono ?_; rintro e w' ⟨rfl, hb⟩; replace hv := Lib.hid (bthen hv.out hb); clear hb a80 a81 a90 a91 a92 a100 a101 a110 a111 a120 a121 a122 a130 a131; obtain ⟨a80, a81, a90, a91, a92, a100, a101, a110, a111, a120, a121, a122, a130, a131⟩ := hkeep.out _ hv.out)
      | (go_at_call 28; refine (hir.out _ hv.out).mono ?_; rintro e w' ⟨rfl, hb⟩; replace hv := Lib.hid (bthen hv.out hb); clear hb a80 a81 a90 a91 a92 a100 a101 a110 a111 a120 a121 a122 a130 a131; obtain ⟨a80, a81, a90, a91, a92, a100, a101, a110, a111, a120, a121, a122, a130, a131⟩ := hkeep.out _ hv.out))
    go_ret
    exact ⟨rfl, bthen hBw.out hv.out⟩
  | true =>
  simp only [e3] at hpr
  replace e3 := Lib.hid e3
  have hC0 : checkE C l = 0 := by unfold checkE; rw [e1.out]; rfl
  have hE0 : errA C st l ms fs [] = 0 := (errA_all e1.out e2.out).trans (allE_ok (c := []) e1.out (fun i hi => absurd hi (Nat.not_lt_zero i)))
  have hE1 : errA C st l ms fs [⟨cx, s⟩] = 0 := (errA_all e1.out e2.out).trans (allE_one e1.out e3.out)
  simp only [hC0] at hck
  simp only [hE0] at hbf haf hca
  simp only [hE1] at hac
  clear hC0 hE0 hE1
  go_upto_region 10 with (first
    | (go_at_call 8; refine (hcR.out _ hv.out).mono ?_; rintro e w' ⟨rfl, hb⟩; replace hv := Lib.hid (bthen hv.out hb); clear hb a80 a81 a90 a91 a92 a100 a101 a110 a111 a120 a121 a122 a130 a131; obtain ⟨a80, a81, a90, a91, a92, a100, a101, a110, a111, a120, a121, a122, a130, a131⟩ := hkeep.out _ hv.out)
    | (go_at_call 29; refine (hck.out _ hv.out).mono ?_; rintro e w' ⟨rfl, hb⟩; replace hv := Lib.hid (bthen hv.out hb); clear hb a80 a81 a90 a91 a92 a100 a101 a110 a111 a120 a121 a122 a130 a131; obtain ⟨a80, a81, a90, a91, a92, a100, a101, a110, a111, a120, a121, a122, a130, a131⟩ := hkeep.out _ hv.out)
    | (go_at_call 9; refine (hgv.out _ hv.out).mono ?_; rintro e w' ⟨rfl, hb⟩; replace hv := Lib.hid (bthen hv.out hb); clear hb a80 a81 a90 a91 a92 a100 a101 a110 a111 a120 a121 a122 a130 a131; obtain ⟨a80, a81, a90, a91, a92, a100, a101, a110, a111, a120, a121, a122, a130, a131⟩ := hkeep.out _ hv.out))
  go_upto_region 11 with (go_at_call 11; refine (hbf.out _ hv.out).mono ?_; rintro e w' ⟨n7, vm7, vf7, ms7, fs7, rfl, hm7, hf7, hx7, hb⟩; clear hx7; obtain ⟨Am7, nm7, cm7, rfl, _⟩ := OwnE.shape hm7; obtain ⟨Af7, nf7, cf7, rfl, _⟩ := OwnE.shape hf7; clear hm7 hf7; replace hv := Lib.hid (bthen hv.out hb); clear hb a80 a81 a90 a91 a92 a100 a101 a110 a111 a120 a121 a122 a130 a131; obtain ⟨a80, a81, a90, a91, a92, a100, a101, a110, a111, a120, a121, a122, a130, a131⟩ := hkeep.out _ hv.out)
  obtain ⟨Z5, hZ5⟩ : ∃ Z, w'.alloc (.cells #[.int .i64 n7, .slice Am7 nm7 cm7, .slice Af7 nf7 cf7] 34) = Z := ⟨_, rfl⟩
  have hbZ5 : Below w'.heap.size w' Z5 := by rw [← hZ5]; exact below1 _ _
  obtain ⟨b14, hb14⟩ : ∃ b, w'.heap.size = b := ⟨_, rfl⟩
  rw [hZ5, hb14]
  clear hZ5 hb14 a80 a81 a90 a91 a92 a100 a101 a110 a111 a120 a121 a122 a130 a131
  replace hv := Lib.hid (bthen hv.out hbZ5)
  clear hbZ5
  obtain ⟨a80, a81, a90, a91, a92, a100, a101, a110, a111, a120, a121, a122, a130, a131⟩ := hkeep.out _ hv.out
  go_upto_region 12 with (go_at_call 14; refine (haf.out _ hv.out).mono ?_; rintro e w' ⟨n7, vm7, vf7, ms7, fs7, rfl, hm7, hf7, hx7, hb⟩; clear hx7; obtain ⟨Am7, nm7, cm7, rfl, _⟩ := OwnE.shape hm7; obtain ⟨Af7, nf7, cf7, rfl, _⟩ := OwnE.shape hf7; clear hm7 hf7; replace hv := Lib.hid (bthen hv.out hb); clear hb a80 a81 a90 a91 a92 a100 a101 a110 a111 a120 a121 a122 a130 a131; obtain ⟨a80, a81, a90, a91, a92, a100, a101, a110, a111, a120, a121, a122, a130, a131⟩ := hkeep.out _ hv.out)
  obtain ⟨Z6, hZ6⟩ : ∃ Z, w'.alloc (.cells #[.int .i64 n7, .slice Am7 nm7 cm7, .slice Af7 nf7 cf7] 34) = Z := ⟨_, rfl⟩
  have hbZ6 : Below w'.heap.size w' Z6 := by rw [← hZ6]; exact below1 _ _
  obtain ⟨b16, hb16⟩ : ∃ b, w'.heap.size = b := ⟨_, rfl⟩
  rw [hZ6, hb16]
  clear hZ6 hb16 a80 a81 a90 a91 a92 a100 a101 a110 a111 a120 a121 a122 a130 a131
  replace hv := Lib.hid (bthen hv.out hbZ6)
  clear hbZ6
  obtain ⟨a80, a81, a90, a91, a92, a100, a101, a110, a111, a120, a121, a122, a130, a131⟩ := hkeep.out _ hv.out
  go_upto_region 20 with (first
    | (go_at_call 30; refine (hca.out _ hv.out).mono ?_; rintro e w' ⟨rfl, hb⟩; replace hv := Lib.hid (bthen hv.out hb); clear hb a80 a81 a90 a91 a92 a100 a101 a110 a111 a120 a121 a122 a130 a131; obtain ⟨a80, a81, a90, a91, a92, a100, a101, a110, a111, a120, a121, a122, a130, a131⟩ := hkeep.out _ hv.out)
    | (go_at_call 22; refine (hpr.out _ hv.out).mono ?_; rintro e w' ⟨rfl, hb⟩; replace hv := Lib.hid (bthen hv.out hb); clear hb a80 a81 a90 a91 a92 a100 a101 a110 a111 a120 a121 a122 a130 a131; obtain ⟨a80, a81, a90, a91, a92, a100, a101, a110, a111, a120, a121, a122, a130, a131⟩ := hkeep.out _ hv.out)
    | (go_at_call 31; refine (hac.out _ hv.out).mono ?_; rintro e w' ⟨bv, rfl, hbt, hbv, hb⟩; replace hbt := Lib.hid (show bv = true ↔ ∃ f ∈ fs, PathA (BofI ms) cx (cs s) f from by first | exact hbt trivial | exact hbt rfl | exact hbt); clear hbv; replace hv := Lib.hid (bthen hv.out hb); clear hb a80 a81 a90 a91 a92 a100 a101 a110 a111 a120 a121 a122 a130 a131; obtain ⟨a80, a81, a90, a91, a92, a100, a101, a110, a111, a120, a121, a122, a130, a131⟩ := hkeep.out _ hv.out))
  have hG := givenB_iff2 (C := C) (st := st) (ms := ms) (fs := fs) (by have := (sysB_iff.1 e1.out).1; omega)
  have hCp := (sysB_iff.1 e1.out).1
  obtain ⟨hx0, hx1, hwd, hs20⟩ := properB_iff.1 e3.out
  simp only at hx0 hx1 hwd hs20
  have hst12 := (hG.1 e2.out).2.1
  have hCst := (hG.1 e2.out).1
  clear hG
  obtain ⟨CN, hCN⟩ : ∃ m : Nat, C = m := ⟨C.toNat, by omega⟩
  obtain ⟨SN, hSN⟩ : ∃ m : Nat, st = m := ⟨st.toNat, by omega⟩
  obtain ⟨XN, hXN⟩ : ∃ m : Nat, cx = m := ⟨cx.toNat, by omega⟩
  subst hCN hSN hXN
  have hin := given_in (Int.natCast_nonneg CN) e2.out
  have hfi := given_fin (Int.natCast_nonneg CN) e2.out
  have hmv : ∀ m ∈ ms.map toMv, m.1 < SN ∧ m.2.1 < 5 ∧ m.2.2 < SN := fun m hm => by
    obtain ⟨m', h', rfl⟩ := List.mem_map.1 hm
    have := hin m' h'
    simp only [toMv]
    omega
  have hfv : ∀ f ∈ fs.map Int.toNat, f < SN := fun f hf => by
    obtain ⟨f', h', rfl⟩ := List.mem_map.1 hf
    have := hfi f' h'
    omega
  obtain ⟨V, hVw⟩ : ∃ V, V = w' := ⟨_, rfl⟩
  subst hVw
  have hof := Lib.hid (fun g : Gr V => of_eff (lo := V.heap.size) (ms := ms.map toMv) (fs := fs.map Int.toNat) g.h.size (by omega) (by omega) (els_mv ((hml.out.then hv.out).then g.h) (given_non (Int.natCast_nonneg CN) e2.out)) hmv (els_nat ((hfl.out.then hv.out).then g.h) (fun f hf => (hfi f hf).1)) hfv)
  have hacD : decide (bestN SN (ofF (fs.map Int.toNat)) (costs SN (ofX (ms.map toMv)) (cs s) (only1 XN)) < 1073741824) = bv := by
    rw [Bool.eq_iff_iff, decide_eq_true_iff, given_acc e2.out e3.out]
    exact hbt.out.symm
  have hAB := fun (g : Gr V) (k b off cap : Nat) (hT : TM g.w1 SN k b off cap (ofX (ms.map toMv)) (ofF (fs.map Int.toNat))) => AcceptsR_any g.w1 SN XN k _ _ _ s hT.le.1 hT.le.2 hT.cua hT.fin (by omega) hwd (by omega) hT.ok.rng (fun p q _ _ => ofX_eps (fun m hm => (hmv m hm).2.1) p q)
  simp only [hacD] at hAB
  replace hAB := Lib.hid hAB
  have hbn : (bv != bv) = false := by cases bv <;> rfl
  clear hacD hmv hfv hin hfi hst12 hCst hwd hs20 hx0 hx1 hCp hbt
  have hB0 := Lib.hid hv.out
  have ga90 : ∀ g : Gr V, g.w1.cell? ⟨b9, 0, none⟩ = some (.int .i64 (SN : Int)) := fun g => g.cell a90
  have ga91 : ∀ g : Gr V, g.w1.cell? ⟨b9, 1, none⟩ = some (.slice Am nm cm) := fun g => g.cell a91
  have ga92 : ∀ g : Gr V, g.w1.cell? ⟨b9, 2, none⟩ = some (.slice Af nf cf) := fun g => g.cell a92
  have ga100 : ∀ g : Gr V, g.w1.cell? ⟨b10, 0, none⟩ = some (.int .i64 (XN : Int)) := fun g => g.cell a100
  have ga101 : ∀ g : Gr V, g.w1.cell? ⟨b10, 1, none⟩ = some (.string s) := fun g => g.cell a101
  clear a80 a81 a90 a91 a92 a100 a101 a110 a111 a120 a121 a122 a130 a131
  refine wp_region_rels 9 [false, false, false, false, false, true, false, true, false] [[], [], [], [], [], [], [], [5]] (fun kx h => if kx = 5 then .agg #[.slice h.A h.n h.cap, .slice (some ⟨h.k, 0, none⟩) SN SN] else .bool bv)
    (fun kx h w => if kx = 5 then TMx SN (ofF (fs.map Int.toNat)) (fun X => X = ofX (ms.map toMv)) h w else True) [] (by kernel_rfl) (by kernel_rfl) ?_
  simp only [List.take_succ_cons, List.take_zero, List.drop_succ_cons, List.drop_zero]
  refine walkS_reads 5 _ _ _ _ (by kernel_rfl) (by kernel_rfl) (by simp) ?_
  simp only [List.take_succ_cons, List.take_zero, List.drop_succ_cons, List.drop_zero]
  repeat (go_big_quiet_step (fail))
  refine wpQuiet_nil ?_
  refine walkS_eff rfl (by kernel_rfl) (fun g hd => ?_) (fun h5 => ?_)
  · go_simp
    exact ⟨rfl, (hof.out g).mono (fun e w' ⟨q, h1, h2, h3⟩ => ⟨q, h1, h3, h2, fun e => by cases e⟩)⟩
  go_frame
  refine walkS_reads 1 _ _ _ _ (by kernel_rfl) (by kernel_rfl) (by simp) ?_
  simp only [List.take_succ_cons, List.take_zero, List.drop_succ_cons, List.drop_zero]
  repeat (go_big_quiet_step (fail))
  refine wpQuiet_nil ?_
  refine walkS_eff rfl (by kernel_rfl) (fun g hd => ?_) (fun h7 => ?_)
  · go_simp
    obtain ⟨X, ⟨bX, oX, eX1, eX2, hTX⟩, hPX⟩ := since_tm (show Since V (TMx SN (ofF (fs.map Int.toNat)) (fun X => X = ofX (ms.map toMv))) h5 g.w1 from by simpa using hd 5 (by simp) h5 rfl)
    obtain ⟨A9, n9, c9, k9', _, _⟩ := h5
    dsimp only at *
    subst eX1 eX2 hPX
    exact ⟨rfl, (hAB.out g _ _ _ _ hTX).mono (fun e w' ⟨h1, h3⟩ => ⟨default, h1, h3, trivial, fun e => by cases e⟩)⟩
  go_frame
  refine walkS_reads 1 _ _ _ _ (by kernel_rfl) (by kernel_rfl) (by simp) ?_
  simp only [List.take_succ_cons, List.take_zero, List.drop_succ_cons, List.drop_zero]
  repeat (go_big_quiet_step (fail))
  refine wpQuiet_nil ?_
  refine walkS_nil ?_
  rintro _ ⟨gY, rfl⟩ hK hS
  clear hK hS
  obtain ⟨YE, hYE⟩ := gY
  dsimp only at *
  replace hv := Lib.hid (bthen hv.out hYE)
  clear ga90 ga91 ga92 ga100 ga101
  obtain ⟨a80, a81, a90, a91, a92, a100, a101, a110, a111, a120, a121, a122, a130, a131⟩ := hkeep.out _ hv.out
  go_wp2_with (first
    | (go_at_call 8; refine (hcR.out _ hv.out).mono ?_; rintro e w' ⟨rfl, hb⟩; replace hv := Lib.hid (bthen hv.out hb); clear hb a80 a81 a90 a91 a92 a100 a101 a110 a111 a120 a121 a122 a130 a131; obtain ⟨a80, a81, a90, a91, a92, a100, a101, a110, a111, a120, a121, a122, a130, a131⟩ := hkeep.out _ hv.out)
    | (go_at_call 22; refine (hpr.out _ hv.out).mono ?_; rintro e w' ⟨rfl, hb⟩; replace hv := Lib.hid (bthen hv.out hb); clear hb a80 a81 a90 a91 a92 a100 a101 a110 a111 a120 a121 a122 a130 a131; obtain ⟨a80, a81, a90, a91, a92, a100, a101, a110, a111, a120, a121, a122, a130, a131⟩ := hkeep.out _ hv.out)
    | (go_at_call 10; refine (haw.out _ hv.out).mono ?_; rintro e w' ⟨rfl, hb⟩; replace hv := Lib.hid (bthen hv.out hb); clear hb a80 a81 a90 a91 a92 a100 a101 a110 a111 a120 a121 a122 a130 a131; obtain ⟨a80, a81, a90, a91, a92, a100, a101, a110, a111, a120, a121, a122, a130, a131⟩ := hkeep.out _ hv.out))
  go_ret
  exact ⟨rfl, bthen hBw.out hv.out⟩
end Go.Proofs.YtaapnflhjbdmlaaGreatDoor
