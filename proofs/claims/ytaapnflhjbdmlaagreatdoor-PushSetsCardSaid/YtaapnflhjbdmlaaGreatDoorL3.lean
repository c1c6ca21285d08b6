/- PushSets: the walk. No condition. -/
import Derived.Test.YtaapnflhjbdmlaaGreatDoorZT
namespace Go.Proofs.YtaapnflhjbdmlaaGreatDoor
open Go.RowKit Go.Shelf
attribute [local go_sem] Oper.semAt_some

set_option maxRecDepth 100000 in
set_option maxHeartbeats 16000000 in
theorem law3 (w : World) (C st : Int) (v vm0 vf0 : Value) (l0 : List RuleB) (ms0 : List Mi) (fs0 : List Int) (h : Rls w v l0) (hm : Els ElZ w vm0 ms0) (hf : Els ElI w vf0 fs0) :
    Calls Tryz.prog 3 #[sv C v, acV st vm0 vf0] w fun e w' => e = .returned (.bool true) ∧ Below w.heap.size w w' := by
  obtain ⟨A, n, cap, rfl, hn⟩ := Els.shape h
  obtain ⟨Am0, nm0, cm0, rfl, _⟩ := Els.shape hm
  obtain ⟨Af0, nf0, cf0, rfl, _⟩ := Els.shape hf
  obtain ⟨W, hW⟩ : ∃ W, (w.alloc (.cells #[.int .i64 C, .slice A n cap] 24)).alloc (.cells #[.int .i64 st, .slice Am0 nm0 cm0, .slice Af0 nf0 cf0] 28) = W := ⟨_, rfl⟩
  have hBW : Below w.heap.size w W := by rw [← hW]; exact bthen (below1 _ _) (below1 _ _)
  have kS : Blk W w.heap.size 24 #[.int .i64 C, .slice A n cap] := by rw [← hW]; exact (Blk.new w 24 _).alloc _
  have kP : Blk W (w.heap.size + 1) 28 #[.int .i64 st, .slice Am0 nm0 cm0, .slice Af0 nf0 cf0] := by rw [← hW]; have := Blk.new (w.alloc (.cells #[.int .i64 C, .slice A n cap] 24)) 28 #[.int .i64 st, .slice Am0 nm0 cm0, .slice Af0 nf0 cf0]; rw [alloc_size] at this; exact this
  have c0 : ∀ g : Gr W, g.w1.cell? ⟨w.heap.size, 0, none⟩ = some (.int .i64 C) := fun g => g.cell (kS.cell 0)
  have c1 : ∀ g : Gr W, g.w1.cell? ⟨w.heap.size, 1, none⟩ = some (.slice A n cap) := fun g => g.cell (kS.cell 1)
  have c2 : ∀ g : Gr W, g.w1.cell? ⟨w.heap.size + 1, 0, none⟩ = some (.int .i64 st) := fun g => g.cell (kP.cell 0)
  have c3 : ∀ g : Gr W, g.w1.cell? ⟨w.heap.size + 1, 1, none⟩ = some (.slice Am0 nm0 cm0) := fun g => g.cell (kP.cell 1)
  have c4 : ∀ g : Gr W, g.w1.cell? ⟨w.heap.size + 1, 2, none⟩ = some (.slice Af0 nf0 cf0) := fun g => g.cell (kP.cell 2)
  have hown := Lib.hid (fun g : Gr W => own_any g.w1 C _ l0 ((Els.then h hBW).then g.h))
  have hmade := Lib.hid (fun g : Gr W => made_any g.w1 st _ _ ms0 fs0 ((Els.then hm hBW).then g.h) ((Els.then hf hBW).then g.h))
  replace hBW := Lib.hid hBW
  clear h hm hf kS kP
  go_enter Tryz.func3, Tryz.ntmps3
  go_wp2
  refine wp_region_rels 6 [false, true, false, true, true, true] [] (fun kx h => if kx = 1 then sv C (.slice h.A h.n h.cap) else if kx = 3 then acH h else if kx = 4 then .pointer (some ⟨h.k, 0, none⟩) else .pointer (some ⟨h.k, 0, none⟩))
    (fun kx h w => if kx = 1 then OwnE ElR 76 W.heap.size w (.slice h.A h.n h.cap) (ownR l0) else if kx = 3 then AcR W.heap.size (fun n ms fs => n = st ∧ ms = ms0.take 101 ∧ fs = fs0.take 20) h w else if kx = 4 then W.heap.size ≤ h.k ∧ Blk w h.k 24 #[.int .i64 0, .slice none 0 0] else if kx = 5 then W.heap.size ≤ h.k ∧ Blk w h.k 28 #[.int .i64 0, .slice none 0 0, .slice none 0 0] else True) [false, false, false, false, true, true] (by kernel_rfl) (by kernel_rfl) ?_
  simp only [List.take_succ_cons, List.take_zero, List.drop_succ_cons, List.drop_zero]
  refine walkS_reads 1 _ _ _ _ (by kernel_rfl) (by kernel_rfl) (by simp) ?_
  simp only [List.take_succ_cons, List.take_zero, List.drop_succ_cons, List.drop_zero]
  repeat (go_big_quiet_step (fail))
  refine wpQuiet_nil ?_
  refine walkS_eff rfl (by kernel_rfl) (fun g hd => ?_) (fun h1 => ?_)
  · go_simp
    exact ⟨rfl, (hown.out g).mono (fun e w' ⟨v', h1, h2, h3⟩ => by
      obtain ⟨A5, n5, c5, rfl, _⟩ := OwnE.shape h2
      exact ⟨⟨A5, n5, c5, 0, 0, false⟩, h1, h3, h2.lo_le g.h.size, fun e => by cases e⟩)⟩
  go_frame
  refine walkS_reads 1 _ _ _ _ (by kernel_rfl) (by kernel_rfl) (by simp) ?_
  simp only [List.take_succ_cons, List.take_zero, List.drop_succ_cons, List.drop_zero]
  repeat (go_big_quiet_step (fail))
  refine wpQuiet_nil ?_
  refine walkS_eff rfl (by kernel_rfl) (fun g hd => ?_) (fun h3 => ?_)
  · go_simp
    exact ⟨rfl, (hmade.out g).mono (fun e w' ⟨vm', vf', h1, h2, h3, h4⟩ => by
      obtain ⟨q, e1, e2⟩ := ac_eff (P := fun n ms fs => n = st ∧ ms = ms0.take 101 ∧ fs = fs0.take 20) g.h.size h2 h3 ⟨rfl, rfl, rfl⟩
      exact ⟨q, by rw [h1, ← e1], h4, e2, fun e => by cases e⟩)⟩
  go_frame
  refine walkS_eff rfl (by kernel_rfl) (fun g hd => ?_) (fun h4 => ?_)
  · go_simp
    exact ⟨⟨none, 0, 0, g.w1.heap.size, 0, false⟩, rfl, below1 _ _, ⟨g.h.size, Blk.new _ _ _⟩, fun _ => ⟨Nat.le_refl _, by simp⟩⟩
  go_frame
  refine walkS_eff rfl (by kernel_rfl) (fun g hd => ?_) (fun h5 => ?_)
  · go_simp
    exact ⟨⟨none, 0, 0, g.w1.heap.size, 0, false⟩, rfl, below1 _ _, ⟨g.h.size, Blk.new _ _ _⟩, fun _ => ⟨Nat.le_refl _, by simp⟩⟩
  go_frame
  refine walkS_nil ?_
  rintro _ ⟨gY, rfl⟩ hK hS
  have ho1 := since_own (f := fun h => .slice h.A h.n h.cap) (by simpa using (hK 1 h1 rfl).1)
  have ha3 := since_ac (show Since W (AcR W.heap.size (fun n ms fs => n = st ∧ ms = ms0.take 101 ∧ fs = fs0.take 20)) h3 gY.w1 from by simpa using (hK 3 h3 rfl).1)
  obtain ⟨m8, k8⟩ := since_blk (t := 24) (cs := #[.int .i64 0, .slice none 0 0]) (by simpa using (hK 4 h4 rfl).1)
  obtain ⟨m9, k9⟩ := since_blk (t := 28) (cs := #[.int .i64 0, .slice none 0 0, .slice none 0 0]) (by simpa using (hK 5 h5 rfl).1)
  clear hK hS hown hmade c0 c1 c2 c3 c4
  obtain ⟨Y, hBY⟩ := gY
  obtain ⟨st', vm, vf, _, _, e3, ho3, hf3, es, rfl, rfl⟩ := ha3
  rw [es] at e3
  clear es
  obtain ⟨Am, nm, cm, rfl, hnm⟩ := OwnE.shape ho3
  obtain ⟨Af, nf, cf, rfl, hnf⟩ := OwnE.shape hf3
  obtain ⟨A1, n1, p1, _, _, _⟩ := h1
  obtain ⟨_, _, _, b8, _, _⟩ := h4
  obtain ⟨_, _, _, b9, _, _⟩ := h5
  dsimp only at *
  rw [e3]
  clear e3
  have y80 := k8.cell 0
  have y81 := k8.cell 1
  have y90 := k9.cell 0
  have y91 := k9.cell 1
  have y92 := k9.cell 2
  have f80 := k8.free 0
  have f81 := k8.free 1
  have f90 := k9.free 0
  have f91 := k9.free 1
  have f92 := k9.free 2
  simp at y80 y81 y90 y91 y92
  have hst := Lib.hid (law_sa k8 k9 (.int .i64 C) (.slice A1 n1 p1) (.int .i64 st) (.slice Am nm cm) (.slice Af nf cf))
  have n89 := k8.ne_of k9 (by decide)
  have hno1 := Lib.hid (And.intro (ho1.ne_blk k8 (by decide)) (ho1.ne_blk k9 (by decide)))
  have hno2 := Lib.hid (And.intro (ho3.ne_blk k8 (by decide)) (ho3.ne_blk k9 (by decide)))
  have hno3 := Lib.hid (And.intro (hf3.ne_blk k8 (by decide)) (hf3.ne_blk k9 (by decide)))
  replace ho1 := Lib.hid ho1
  replace ho3 := Lib.hid ho3
  replace hf3 := Lib.hid hf3
  replace hBY := Lib.hid hBY
  have hlt8 := k8.lt
  have hlt9 := k9.lt
  clear k8 k9
  go_upto_region 2 with (fail)
  obtain ⟨Y2, hY2⟩ : ∃ Y2, ((((Y.setCell ⟨b8, 0, none⟩ (.int .i64 C)).setCell ⟨b8, 1, none⟩ (.slice A1 n1 p1)).setCell ⟨b9, 0, none⟩ (.int .i64 st)).setCell ⟨b9, 1, none⟩ (.slice Am nm cm)).setCell ⟨b9, 2, none⟩ (.slice Af nf cf) = Y2 := ⟨_, rfl⟩
  rw [hY2] at hst ⊢
  obtain ⟨k8, k9, hbx⟩ := hst.out
  have hxo : ∀ {v : Value}, v.ownBlock ≠ some b8 ∧ v.ownBlock ≠ some b9 → ∀ g, v.ownBlock = some g → g ∉ [b8, b9] := fun hv g hg hm => by
    simp only [List.mem_cons, List.not_mem_nil, or_false] at hm
    rcases hm with rfl | rfl
    · exact hv.1 hg
    · exact hv.2 hg
  have hrl := Lib.hid (ho1.out.of_block fun g hg => hbx.block g (ho1.out.lt g hg).2 (hxo hno1.out g hg)).els
  have hml := Lib.hid (ho3.out.of_block fun g hg => hbx.block g (ho3.out.lt g hg).2 (hxo hno2.out g hg)).els
  have hfl := Lib.hid (hf3.out.of_block fun g hg => hbx.block g (hf3.out.lt g hg).2 (hxo hno3.out g hg)).els
  have hBY2 : Below W.heap.size W Y2 := hBY.out.trans (hbx.below hBY.out.size (by simp; omega))
  have hBw := Lib.hid (bthen hBW.out hBY2)
  have hlen := ownR_len l0
  have hput4 := Lib.hid (ownR_put l0)
  have hml9 : (ms0.take 101).length ≤ 101 := List.length_take_le _ _
  have hfl9 : (fs0.take 20).length ≤ 20 := List.length_take_le _ _
  clear hY2 hst y80 y81 y90 y91 y92 f80 f81 f90 f91 f92 hbx hBY ho1 ho3 hf3 hBY2 hlt8 hlt9 hno1 hno2 hno3 hxo m8 m9 n89
  generalize ownR l0 = l at *
  generalize ms0.take 101 = ms at *
  generalize fs0.take 20 = fs at *
  have hl31 : l.length ≤ 31 := by omega
  clear hlen hW
  replace k8 := Lib.hid k8
  replace k9 := Lib.hid k9
  have hput := Lib.hid (show ∀ r ∈ l, r.put.size ≤ 9223372036854775807 from fun r hr => by have := hput4.out r hr; omega)
  have hcR := Lib.hid (checkR_any Y2 C _ l hrl.out hput.out)
  have hgv := Lib.hid (fun V (hV : Below Y2.heap.size Y2 V) => Given_any V C st n1 p1 A1 _ _ ms fs (hml.out.then hV) (hfl.out.then hV))
  have a0 : Y2.cell? ⟨b8, 0, none⟩ = some (.int .i64 C) := k8.out.cell 0
  have a1 : Y2.cell? ⟨b8, 1, none⟩ = some (.slice A1 n1 p1) := k8.out.cell 1
  have a2 : Y2.cell? ⟨b9, 0, none⟩ = some (.int .i64 st) := k9.out.cell 0
  have a3 : Y2.cell? ⟨b9, 1, none⟩ = some (.slice Am nm cm) := k9.out.cell 1
  have a4 : Y2.cell? ⟨b9, 2, none⟩ = some (.slice Af nf cf) := k9.out.cell 2
  cases e1 : sysB C l with
  | false =>
    rw [e1] at hcR
    replace e1 := Lib.hid e1
    go_wp2_with (first
      | (go_at_call 8; refine hcR.out.mono ?_; rintro e w1 ⟨rfl, hb⟩; have hb := Lib.hid hb)
      | (go_at_call 10; refine (awake_any _).mono ?_; rintro e w9 ⟨rfl, hb9⟩; have hb9 := Lib.hid hb9))
    go_ret
    exact ⟨rfl, bthen hBw.out (bthen hb.out hb9.out)⟩
  | true =>
  rw [e1] at hcR
  replace e1 := Lib.hid e1
  cases e2 : givenB C st ms fs with
  | false =>
    simp only [e2] at hgv
    replace e2 := Lib.hid e2
    go_wp2_with (first
      | (go_at_call 8; refine hcR.out.mono ?_; rintro e w1 ⟨rfl, hb⟩; replace a0 := cell_below a0 hb; replace a1 := cell_below a1 hb; replace a2 := cell_below a2 hb; replace a3 := cell_below a3 hb; replace a4 := cell_below a4 hb; have hb := Lib.hid hb)
      | (go_at_call 9; refine (hgv.out _ hb.out).mono ?_; rintro e w2 ⟨rfl, hb2⟩; have hb2 := Lib.hid hb2)
      | (go_at_call 10; refine (awake_any _).mono ?_; rintro e w9 ⟨rfl, hb9⟩; have hb9 := Lib.hid hb9))
    go_ret
    exact ⟨rfl, bthen hBw.out (bthen hb.out (bthen hb2.out hb9.out))⟩
  | true =>
  simp only [e2] at hgv
  replace e2 := Lib.hid e2
  go_upto_region 4 with (first
      | (go_at_call 8; refine hcR.out.mono ?_; rintro e w1 ⟨rfl, hb⟩; replace a0 := cell_below a0 hb; replace a1 := cell_below a1 hb; replace a2 := cell_below a2 hb; replace a3 := cell_below a3 hb; replace a4 := cell_below a4 hb; have hb := Lib.hid hb)
      | (go_at_call 9; refine (hgv.out _ hb.out).mono ?_; rintro e w2 ⟨rfl, hb2⟩; have hb2 := Lib.hid hb2))
  have hb12 := bthen hb.out hb2.out
  replace k8 := Lib.hid (k8.out.below hb12 k8.out.lt)
  replace k9 := Lib.hid (k9.out.below hb12 k9.out.lt)
  replace hrl := Lib.hid (hrl.out.then hb12)
  replace hml := Lib.hid (hml.out.then hb12)
  replace hfl := Lib.hid (hfl.out.then hb12)
  replace hBw := Lib.hid (bthen hBw.out hb12)
  clear hb hb2 hb12 hcR hgv a0 a1 a2 a3 a4
  have hal0 : allE C l [] = 0 := allE_ok e1.out (fun i hi => absurd hi (Nat.not_lt_zero i))
  replace hal0 := Lib.hid hal0
  have hsy := Lib.hid (fun V (hV : Below w2.heap.size w2 V) => system_any V C _ l (hrl.out.then hV) (by omega))
  have hac := Lib.hid (fun V (hV : Below w2.heap.size w2 V) => acceptor_any V st _ _ ms fs (hml.out.then hV) (hfl.out.then hV) (by omega) (by omega))
  have hbf := fun V v' vm' vf' (h1 : Rls V v' l) (h2 : Els ElZ V vm' ms) (h3 : Els ElI V vf' fs) => pBefore_any V C st v' vm' vf' l ms fs h2 h3 h1 hput.out
  simp only [errA_all e1.out e2.out, hal0.out] at hbf
  replace hbf := Lib.hid hbf
  have hkeep := Lib.hid (show ∀ V, Below w2.heap.size w2 V → V.cell? ⟨b8, 0, none⟩ = some (.int .i64 C) ∧ V.cell? ⟨b8, 1, none⟩ = some (.slice A1 n1 p1) ∧ V.cell? ⟨b9, 0, none⟩ = some (.int .i64 st) ∧ V.cell? ⟨b9, 1, none⟩ = some (.slice Am nm cm) ∧ V.cell? ⟨b9, 2, none⟩ = some (.slice Af nf cf) from fun V hV => ⟨(k8.out.below hV k8.out.lt).cell 0, (k8.out.below hV k8.out.lt).cell 1, (k9.out.below hV k9.out.lt).cell 0, (k9.out.below hV k9.out.lt).cell 1, (k9.out.below hV k9.out.lt).cell 2⟩)
  have hB0 := Lib.hid (below_drew w2)
  go_cut [7, 8] from 27 to 34 (fun up ue wx => ∃ b, up = .pointer (some ⟨b, 0, none⟩) ∧ ue = .int .i64 0 ∧ Hid (∃ n' vm vf ms' fs', Blk wx b 34 #[.int .i64 n', vm, vf] ∧ Els ElZ wx vm ms' ∧ Els ElI wx vf fs' ∧ (fun n' ms' fs' => n' = st ∧ fs' = fs ∧ BfRes l ms ms') n' ms' fs') ∧ Hid (Below w2.heap.size w2 wx))
  case first =>
    go_region_held3 (fun V => V.cell? ⟨b8, 0, none⟩ = some (.int .i64 C) ∧ V.cell? ⟨b8, 1, none⟩ = some (.slice A1 n1 p1) ∧ V.cell? ⟨b9, 0, none⟩ = some (.int .i64 st) ∧ V.cell? ⟨b9, 1, none⟩ = some (.slice Am nm cm) ∧ V.cell? ⟨b9, 2, none⟩ = some (.slice Af nf cf))
      (first | exact hkeep.out _ (‹Hid (Below w2.heap.size w2 _)›).out | exact hkeep.out _ (bthen (‹Hid (Below w2.heap.size w2 _)›).out (below1 _ _)) | exact hkeep.out _ (below_st3 (‹Hid (Below w2.heap.size w2 _)›).out bk.out.2 _ _ _))
      (first
      | (go_at_call 12; refine (hsy.out _ (by (first | exact (‹Hid (Below w2.heap.size w2 _)›).out | exact bthen (‹Hid (Below w2.heap.size w2 _)›).out (below1 _ _)))).mono ?_; rintro e w4 ⟨v4, rfl, ho4, hb4⟩; obtain ⟨A4, n4, p4, rfl, _⟩ := OwnE.shape ho4; (try (have bk := Lib.hid (And.intro (Blk.below (Blk.drewN (Blk.new w2 34 #[.int .i64 0, .slice none 0 0, .slice none 0 0]) 1) hb4 (Blk.drewN (Blk.new w2 34 #[.int .i64 0, .slice none 0 0, .slice none 0 0]) 1).lt) (Nat.le_refl w2.heap.size)))); (try (have bk := Lib.hid (And.intro (Blk.below (Blk.new _ 34 #[.int .i64 0, .slice none 0 0, .slice none 0 0]) hb4 (by simp)) (Below.size (‹Hid (Below w2.heap.size w2 _)›).out)))); (try (replace bk := Lib.hid (And.intro (Blk.below bk.out.1 hb4 (Blk.lt bk.out.1)) bk.out.2))); have hB4 := Lib.hid (show Below w2.heap.size w2 w4 from bthen (by (first | exact (‹Hid (Below w2.heap.size w2 _)›).out | exact bthen (‹Hid (Below w2.heap.size w2 _)›).out (below1 _ _))) hb4); have hr4 := Lib.hid ho4.els; clear ho4; replace hb4 := Lib.hid hb4)
      | (go_at_call 13; refine (hac.out _ (by (first | exact (‹Hid (Below w2.heap.size w2 _)›).out | exact bthen (‹Hid (Below w2.heap.size w2 _)›).out (below1 _ _)))).mono ?_; rintro e w5 ⟨vm5, vf5, rfl, hm5, hf5, hb5⟩; replace hr4 := Lib.hid (hr4.out.then (by first | exact hb5 | exact bthen (below1 _ _) hb5)); (try (have bk := Lib.hid (And.intro (Blk.below (Blk.drewN (Blk.new w2 34 #[.int .i64 0, .slice none 0 0, .slice none 0 0]) 1) hb5 (Blk.drewN (Blk.new w2 34 #[.int .i64 0, .slice none 0 0, .slice none 0 0]) 1).lt) (Nat.le_refl w2.heap.size)))); (try (have bk := Lib.hid (And.intro (Blk.below (Blk.new _ 34 #[.int .i64 0, .slice none 0 0, .slice none 0 0]) hb5 (by simp)) (Below.size (‹Hid (Below w2.heap.size w2 _)›).out)))); (try (replace bk := Lib.hid (And.intro (Blk.below bk.out.1 hb5 (Blk.lt bk.out.1)) bk.out.2))); have hB5 := Lib.hid (show Below w2.heap.size w2 w5 from bthen (by (first | exact (‹Hid (Below w2.heap.size w2 _)›).out | exact bthen (‹Hid (Below w2.heap.size w2 _)›).out (below1 _ _))) hb5); replace hm5 := Lib.hid hm5.els; replace hf5 := Lib.hid hf5.els; replace hb5 := Lib.hid hb5)
      | (go_at_call 11; refine (hbf.out _ _ vm5 vf5 (by first | exact hr4.out | exact hr4.out.then (below1 _ _)) (by first | exact hm5.out | exact hm5.out.then (below1 _ _)) (by first | exact hf5.out | exact hf5.out.then (below1 _ _))).mono ?_; rintro e w6 ⟨n6, vm6, vf6, ms6, fs6, rfl, hm6, hf6, hx6, hb6⟩; replace hx6 := Lib.hid (show (fun n' ms' fs' => n' = st ∧ fs' = fs ∧ BfRes l ms ms') n6 ms6 fs6 from hx6 trivial); obtain ⟨Am6, nm6, cm6, rfl, hnm6⟩ := OwnE.shape hm6; obtain ⟨Af6, nf6, cf6, rfl, hnf6⟩ := OwnE.shape hf6; (try (have bk := Lib.hid (And.intro (Blk.below (Blk.drewN (Blk.new w2 34 #[.int .i64 0, .slice none 0 0, .slice none 0 0]) 1) hb6 (Blk.drewN (Blk.new w2 34 #[.int .i64 0, .slice none 0 0, .slice none 0 0]) 1).lt) (Nat.le_refl w2.heap.size)))); (try (have bk := Lib.hid (And.intro (Blk.below (Blk.new _ 34 #[.int .i64 0, .slice none 0 0, .slice none 0 0]) hb6 (by simp)) (Below.size (‹Hid (Below w2.heap.size w2 _)›).out)))); (try (replace bk := Lib.hid (And.intro (Blk.below bk.out.1 hb6 (Blk.lt bk.out.1)) bk.out.2))); have hB6 := Lib.hid (show Below w2.heap.size w2 w6 from bthen (by (first | exact (‹Hid (Below w2.heap.size w2 _)›).out | exact bthen (‹Hid (Below w2.heap.size w2 _)›).out (below1 _ _))) hb6); (try (have g0 := bk.out.1.cell 0; have g1 := bk.out.1.cell 1; have g2 := bk.out.1.cell 2; have g3 := bk.out.1.free 0; have g4 := bk.out.1.free 1; have g5 := bk.out.1.free 2; simp at g0 g1 g2)); replace hm6 := Lib.hid hm6; replace hf6 := Lib.hid hf6; replace hb6 := Lib.hid hb6))
    all_goals
      go_wp2
      go_meet
      first
      | exact ⟨_, rfl, rfl, ⟨n6, _, _, ms6, fs6, Blk.new _ _ _, hm6.out.els.then (below1 _ _), hf6.out.els.then (below1 _ _), hx6.out⟩, bthen hB6.out (below1 _ _)⟩
      | (have hz := set3 bk.out.1 (.int .i64 n6) (.slice Am6 nm6 cm6) (.slice Af6 nf6 cf6)
         exact ⟨_, rfl, rfl, ⟨n6, _, _, ms6, fs6, hz.1, (hm6.out.of_block fun g hg => hz.2.block g (hm6.out.lt g hg).2 (by have := hm6.out.ne_blk bk.out.1 (by decide); intro hm; rw [List.mem_singleton] at hm; subst hm; exact this hg)).els, (hf6.out.of_block fun g hg => hz.2.block g (hf6.out.lt g hg).2 (by have := hf6.out.ne_blk bk.out.1 (by decide); intro hm; rw [List.mem_singleton] at hm; subst hm; exact this hg)).els, hx6.out⟩, hB6.out.trans (hz.2.below hB6.out.size (by first | (simp; done) | simpa using bk.out.2))⟩)
  case rest =>
  obtain ⟨bb, rfl, rfl, hbb, hBc⟩ := hcut
  clear hsy hac hbf hkeep hB0
  obtain ⟨nb, vmb, vfb, msb, fsb, kb, hmb, hfb, hPb⟩ := hbb.out
  clear hbb
  obtain ⟨Z1, hZ1⟩ : ∃ Z, Z = wc := ⟨_, rfl⟩
  subst hZ1
  replace k8 := Lib.hid (k8.out.below hBc.out k8.out.lt)
  replace k9 := Lib.hid (k9.out.below hBc.out k9.out.lt)
  replace hrl := Lib.hid (hrl.out.then hBc.out)
  replace hml := Lib.hid (hml.out.then hBc.out)
  replace hfl := Lib.hid (hfl.out.then hBc.out)
  replace hBw := Lib.hid (bthen hBw.out hBc.out)
  clear hBc
  obtain ⟨en, ef, hPb⟩ := hPb
  rw [en] at kb
  rw [ef] at hfb
  clear en ef
  replace kb := Lib.hid kb
  replace hmb := Lib.hid hmb
  replace hfb := Lib.hid hfb
  replace hPb := Lib.hid hPb
  go_upto_region 5 with (fail)
  have hsy := Lib.hid (fun V (hV : Below Z1.heap.size Z1 V) => system_any V C _ l (hrl.out.then hV) (by omega))
  have hac := Lib.hid (fun V (hV : Below Z1.heap.size Z1 V) => acceptor_any V st _ _ ms fs (hml.out.then hV) (hfl.out.then hV) (by omega) (by omega))
  have hbf := fun V v' vm' vf' (h1 : Rls V v' l) (h2 : Els ElZ V vm' ms) (h3 : Els ElI V vf' fs) => pAfter_any V C st v' vm' vf' l ms fs h2 h3 h1 hput.out
  simp only [errA_all e1.out e2.out, hal0.out] at hbf
  replace hbf := Lib.hid hbf
  have hkeep := Lib.hid (show ∀ V, Below Z1.heap.size Z1 V → V.cell? ⟨b8, 0, none⟩ = some (.int .i64 C) ∧ V.cell? ⟨b8, 1, none⟩ = some (.slice A1 n1 p1) ∧ V.cell? ⟨b9, 0, none⟩ = some (.int .i64 st) ∧ V.cell? ⟨b9, 1, none⟩ = some (.slice Am nm cm) ∧ V.cell? ⟨b9, 2, none⟩ = some (.slice Af nf cf) from fun V hV => ⟨(k8.out.below hV k8.out.lt).cell 0, (k8.out.below hV k8.out.lt).cell 1, (k9.out.below hV k9.out.lt).cell 0, (k9.out.below hV k9.out.lt).cell 1, (k9.out.below hV k9.out.lt).cell 2⟩)
  have hB0 := Lib.hid (below_drew Z1)
  go_cut [9, 10] from 35 to 42 (fun up ue wx => ∃ b, up = .pointer (some ⟨b, 0, none⟩) ∧ ue = .int .i64 0 ∧ Hid (∃ n' vm vf ms' fs', Blk wx b 34 #[.int .i64 n', vm, vf] ∧ Els ElZ wx vm ms' ∧ Els ElI wx vf fs' ∧ (fun n' ms' fs' => AfRes C st l ms fs n' ms' fs') n' ms' fs') ∧ Hid (Below Z1.heap.size Z1 wx))
  case first =>
    go_region_held3 (fun V => V.cell? ⟨b8, 0, none⟩ = some (.int .i64 C) ∧ V.cell? ⟨b8, 1, none⟩ = some (.slice A1 n1 p1) ∧ V.cell? ⟨b9, 0, none⟩ = some (.int .i64 st) ∧ V.cell? ⟨b9, 1, none⟩ = some (.slice Am nm cm) ∧ V.cell? ⟨b9, 2, none⟩ = some (.slice Af nf cf))
      (first | exact hkeep.out _ (‹Hid (Below Z1.heap.size Z1 _)›).out | exact hkeep.out _ (bthen (‹Hid (Below Z1.heap.size Z1 _)›).out (below1 _ _)) | exact hkeep.out _ (below_st3 (‹Hid (Below Z1.heap.size Z1 _)›).out bk.out.2 _ _ _))
      (first
      | (go_at_call 12; refine (hsy.out _ (by (first | exact (‹Hid (Below Z1.heap.size Z1 _)›).out | exact bthen (‹Hid (Below Z1.heap.size Z1 _)›).out (below1 _ _)))).mono ?_; rintro e w4 ⟨v4, rfl, ho4, hb4⟩; obtain ⟨A4, n4, p4, rfl, _⟩ := OwnE.shape ho4; (try (have bk := Lib.hid (And.intro (Blk.below (Blk.drewN (Blk.new Z1 34 #[.int .i64 0, .slice none 0 0, .slice none 0 0]) 1) hb4 (Blk.drewN (Blk.new Z1 34 #[.int .i64 0, .slice none 0 0, .slice none 0 0]) 1).lt) (Nat.le_refl Z1.heap.size)))); (try (have bk := Lib.hid (And.intro (Blk.below (Blk.new _ 34 #[.int .i64 0, .slice none 0 0, .slice none 0 0]) hb4 (by simp)) (Below.size (‹Hid (Below Z1.heap.size Z1 _)›).out)))); (try (replace bk := Lib.hid (And.intro (Blk.below bk.out.1 hb4 (Blk.lt bk.out.1)) bk.out.2))); have hB4 := Lib.hid (show Below Z1.heap.size Z1 w4 from bthen (by (first | exact (‹Hid (Below Z1.heap.size Z1 _)›).out | exact bthen (‹Hid (Below Z1.heap.size Z1 _)›).out (below1 _ _))) hb4); have hr4 := Lib.hid ho4.els; clear ho4; replace hb4 := Lib.hid hb4)
      | (go_at_call 13; refine (hac.out _ (by (first | exact (‹Hid (Below Z1.heap.size Z1 _)›).out | exact bthen (‹Hid (Below Z1.heap.size Z1 _)›).out (below1 _ _)))).mono ?_; rintro e w5 ⟨vm5, vf5, rfl, hm5, hf5, hb5⟩; replace hr4 := Lib.hid (hr4.out.then (by first | exact hb5 | exact bthen (below1 _ _) hb5)); (try (have bk := Lib.hid (And.intro (Blk.below (Blk.drewN (Blk.new Z1 34 #[.int .i64 0, .slice none 0 0, .slice none 0 0]) 1) hb5 (Blk.drewN (Blk.new Z1 34 #[.int .i64 0, .slice none 0 0, .slice none 0 0]) 1).lt) (Nat.le_refl Z1.heap.size)))); (try (have bk := Lib.hid (And.intro (Blk.below (Blk.new _ 34 #[.int .i64 0, .slice none 0 0, .slice none 0 0]) hb5 (by simp)) (Below.size (‹Hid (Below Z1.heap.size Z1 _)›).out)))); (try (replace bk := Lib.hid (And.intro (Blk.below bk.out.1 hb5 (Blk.lt bk.out.1)) bk.out.2))); have hB5 := Lib.hid (show Below Z1.heap.size Z1 w5 from bthen (by (first | exact (‹Hid (Below Z1.heap.size Z1 _)›).out | exact bthen (‹Hid (Below Z1.heap.size Z1 _)›).out (below1 _ _))) hb5); replace hm5 := Lib.hid hm5.els; replace hf5 := Lib.hid hf5.els; replace hb5 := Lib.hid hb5)
      | (go_at_call 14; refine (hbf.out _ _ vm5 vf5 (by first | exact hr4.out | exact hr4.out.then (below1 _ _)) (by first | exact hm5.out | exact hm5.out.then (below1 _ _)) (by first | exact hf5.out | exact hf5.out.then (below1 _ _))).mono ?_; rintro e w6 ⟨n6, vm6, vf6, ms6, fs6, rfl, hm6, hf6, hx6, hb6⟩; replace hx6 := Lib.hid (show (fun n' ms' fs' => AfRes C st l ms fs n' ms' fs') n6 ms6 fs6 from hx6 trivial); obtain ⟨Am6, nm6, cm6, rfl, hnm6⟩ := OwnE.shape hm6; obtain ⟨Af6, nf6, cf6, rfl, hnf6⟩ := OwnE.shape hf6; (try (have bk := Lib.hid (And.intro (Blk.below (Blk.drewN (Blk.new Z1 34 #[.int .i64 0, .slice none 0 0, .slice none 0 0]) 1) hb6 (Blk.drewN (Blk.new Z1 34 #[.int .i64 0, .slice none 0 0, .slice none 0 0]) 1).lt) (Nat.le_refl Z1.heap.size)))); (try (have bk := Lib.hid (And.intro (Blk.below (Blk.new _ 34 #[.int .i64 0, .slice none 0 0, .slice none 0 0]) hb6 (by simp)) (Below.size (‹Hid (Below Z1.heap.size Z1 _)›).out)))); (try (replace bk := Lib.hid (And.intro (Blk.below bk.out.1 hb6 (Blk.lt bk.out.1)) bk.out.2))); have hB6 := Lib.hid (show Below Z1.heap.size Z1 w6 from bthen (by (first | exact (‹Hid (Below Z1.heap.size Z1 _)›).out | exact bthen (‹Hid (Below Z1.heap.size Z1 _)›).out (below1 _ _))) hb6); (try (have g0 := bk.out.1.cell 0; have g1 := bk.out.1.cell 1; have g2 := bk.out.1.cell 2; have g3 := bk.out.1.free 0; have g4 := bk.out.1.free 1; have g5 := bk.out.1.free 2; simp at g0 g1 g2)); replace hm6 := Lib.hid hm6; replace hf6 := Lib.hid hf6; replace hb6 := Lib.hid hb6))
    all_goals
      go_wp2
      go_meet
      first
      | exact ⟨_, rfl, rfl, ⟨n6, _, _, ms6, fs6, Blk.new _ _ _, hm6.out.els.then (below1 _ _), hf6.out.els.then (below1 _ _), hx6.out⟩, bthen hB6.out (below1 _ _)⟩
      | (have hz := set3 bk.out.1 (.int .i64 n6) (.slice Am6 nm6 cm6) (.slice Af6 nf6 cf6)
         exact ⟨_, rfl, rfl, ⟨n6, _, _, ms6, fs6, hz.1, (hm6.out.of_block fun g hg => hz.2.block g (hm6.out.lt g hg).2 (by have := hm6.out.ne_blk bk.out.1 (by decide); intro hm; rw [List.mem_singleton] at hm; subst hm; exact this hg)).els, (hf6.out.of_block fun g hg => hz.2.block g (hf6.out.lt g hg).2 (by have := hf6.out.ne_blk bk.out.1 (by decide); intro hm; rw [List.mem_singleton] at hm; subst hm; exact this hg)).els, hx6.out⟩, hB6.out.trans (hz.2.below hB6.out.size (by first | (simp; done) | simpa using bk.out.2))⟩)
  case rest =>
  obtain ⟨bc, rfl, rfl, hbc, hBc⟩ := hcut
  clear hsy hac hbf hkeep hB0
  obtain ⟨nc, vmc, vfc, msc, fsc, kc, hmc, hfc, hPc⟩ := hbc.out
  clear hbc
  obtain ⟨Z2, hZ2⟩ : ∃ Z, Z = wc := ⟨_, rfl⟩
  subst hZ2
  replace k8 := Lib.hid (k8.out.below hBc.out k8.out.lt)
  replace k9 := Lib.hid (k9.out.below hBc.out k9.out.lt)
  replace hrl := Lib.hid (hrl.out.then hBc.out)
  replace hml := Lib.hid (hml.out.then hBc.out)
  replace hfl := Lib.hid (hfl.out.then hBc.out)
  replace kb := Lib.hid (kb.out.below hBc.out kb.out.lt)
  replace hmb := Lib.hid (hmb.out.then hBc.out)
  replace hfb := Lib.hid (hfb.out.then hBc.out)
  replace hBw := Lib.hid (bthen hBw.out hBc.out)
  clear hBc
  replace kc := Lib.hid kc
  replace hmc := Lib.hid hmc
  replace hfc := Lib.hid hfc
  replace hPc := Lib.hid hPc
  go_upto_region 8 with (fail)
  have hst0 : 0 ≤ C ∧ C ≤ st := ⟨by have := (sysB_iff.1 e1.out).1; omega, ((givenB_iff2 (by have := (sysB_iff.1 e1.out).1; omega)).1 e2.out).1⟩
  obtain ⟨hC0, hCst⟩ := hst0
  obtain ⟨CN, rfl⟩ : ∃ m : Nat, C = m := ⟨C.toNat, by omega⟩
  obtain ⟨sN, rfl⟩ : ∃ m : Nat, st = m := ⟨st.toNat, by omega⟩
  obtain ⟨cN, rfl⟩ : ∃ m : Nat, nc = m := ⟨nc.toNat, by obtain ⟨_, h1, _⟩ := hPc.out; omega⟩
  have hMb := Lib.hid (before_ok e1.out e2.out hPb.out)
  have hMc := Lib.hid (after_made e1.out e2.out hPc.out)
  have htb := Lib.hid (fun g : Gr Z2 => taken_any g.w1 sN _ _ msb fs (hmb.out.then g.h) (hfb.out.then g.h))
  have htc := Lib.hid (fun g : Gr Z2 => taken_any g.w1 cN _ _ msc fsc (hmc.out.then g.h) (hfc.out.then g.h))
  rw [List.take_of_length_le (show msb.length ≤ 200000 from by have := hMb.out.few; omega), List.take_of_length_le (show fs.length ≤ 201 from by omega)] at htb
  rw [List.take_of_length_le (show msc.length ≤ 200000 from by have := hMc.out.few; omega), List.take_of_length_le (show fsc.length ≤ 201 from by have := hMc.out.fin; omega)] at htc
  obtain ⟨Ab, xb, yb, rfl, hnb⟩ := Els.shape hmb.out
  obtain ⟨Af2, xf, yf, rfl, _⟩ := Els.shape hfb.out
  obtain ⟨Ac, xc, yc, rfl, hnc⟩ := Els.shape hmc.out
  obtain ⟨Ag, xg, yg, rfl, _⟩ := Els.shape hfc.out
  have b0 : ∀ g : Gr Z2, g.w1.cell? ⟨bb, 0, none⟩ = some (.int .i64 sN) := fun g => g.cell (kb.out.cell 0)
  have b1 : ∀ g : Gr Z2, g.w1.cell? ⟨bb, 1, none⟩ = some (.slice Ab xb yb) := fun g => g.cell (kb.out.cell 1)
  have b2 : ∀ g : Gr Z2, g.w1.cell? ⟨bb, 2, none⟩ = some (.slice Af2 xf yf) := fun g => g.cell (kb.out.cell 2)
  have d0 : ∀ g : Gr Z2, g.w1.cell? ⟨bc, 0, none⟩ = some (.int .i64 cN) := fun g => g.cell (kc.out.cell 0)
  have d1 : ∀ g : Gr Z2, g.w1.cell? ⟨bc, 1, none⟩ = some (.slice Ac xc yc) := fun g => g.cell (kc.out.cell 1)
  have d2 : ∀ g : Gr Z2, g.w1.cell? ⟨bc, 2, none⟩ = some (.slice Ag xg yg) := fun g => g.cell (kc.out.cell 2)
  refine wp_region_rels 6 [false, true, false, true, true, true] [] (fun kx h => if kx = 1 then acH h else if kx = 3 then acH h else if kx = 4 then .pointer (some ⟨h.k, 0, none⟩) else .pointer (some ⟨h.k, 0, none⟩))
    (fun kx h w => if kx = 1 then AcR Z2.heap.size (fun n' ms' fs' => n' = sN ∧ ms' = msb ∧ fs' = fs) h w else if kx = 3 then AcR Z2.heap.size (fun n' ms' fs' => n' = cN ∧ ms' = msc ∧ fs' = fsc) h w else if kx = 4 then Z2.heap.size ≤ h.k ∧ Blk w h.k 28 #[.int .i64 0, .slice none 0 0, .slice none 0 0] else if kx = 5 then Z2.heap.size ≤ h.k ∧ Blk w h.k 28 #[.int .i64 0, .slice none 0 0, .slice none 0 0] else True) [false, false, false, false, true, true] (by kernel_rfl) (by kernel_rfl) ?_
  simp only [List.take_succ_cons, List.take_zero, List.drop_succ_cons, List.drop_zero]
  refine walkS_reads 1 _ _ _ _ (by kernel_rfl) (by kernel_rfl) (by simp) ?_
  simp only [List.take_succ_cons, List.take_zero, List.drop_succ_cons, List.drop_zero]
  repeat (go_big_quiet_step (fail))
  refine wpQuiet_nil ?_
  refine walkS_eff rfl (by kernel_rfl) (fun g hd => ?_) (fun h1 => ?_)
  · go_simp
    exact ⟨rfl, (htb.out g).mono (fun e w' ⟨vm', vf', h1, h2, h3, h4⟩ => by
      obtain ⟨q, e1, e2⟩ := ac_eff (P := fun n' ms' fs' => n' = sN ∧ ms' = msb ∧ fs' = fs) g.h.size h2 h3 ⟨rfl, rfl, rfl⟩
      exact ⟨q, by rw [h1, ← e1], h4, e2, fun e => by cases e⟩)⟩
  go_frame
  refine walkS_reads 1 _ _ _ _ (by kernel_rfl) (by kernel_rfl) (by simp) ?_
  simp only [List.take_succ_cons, List.take_zero, List.drop_succ_cons, List.drop_zero]
  repeat (go_big_quiet_step (fail))
  refine wpQuiet_nil ?_
  refine walkS_eff rfl (by kernel_rfl) (fun g hd => ?_) (fun h3 => ?_)
  · go_simp
    exact ⟨rfl, (htc.out g).mono (fun e w' ⟨vm', vf', h1, h2, h3, h4⟩ => by
      obtain ⟨q, e1, e2⟩ := ac_eff (P := fun n' ms' fs' => n' = cN ∧ ms' = msc ∧ fs' = fsc) g.h.size h2 h3 ⟨rfl, rfl, rfl⟩
      exact ⟨q, by rw [h1, ← e1], h4, e2, fun e => by cases e⟩)⟩
  go_frame
  refine walkS_eff rfl (by kernel_rfl) (fun g hd => ?_) (fun h4 => ?_)
  · go_simp
    exact ⟨⟨none, 0, 0, g.w1.heap.size, 0, false⟩, rfl, below1 _ _, ⟨g.h.size, Blk.new _ _ _⟩, fun _ => ⟨Nat.le_refl _, by simp⟩⟩
  go_frame
  refine walkS_eff rfl (by kernel_rfl) (fun g hd => ?_) (fun h5 => ?_)
  · go_simp
    exact ⟨⟨none, 0, 0, g.w1.heap.size, 0, false⟩, rfl, below1 _ _, ⟨g.h.size, Blk.new _ _ _⟩, fun _ => ⟨Nat.le_refl _, by simp⟩⟩
  go_frame
  refine walkS_nil ?_
  rintro _ ⟨gY, rfl⟩ hK hS
  obtain ⟨nB, vmB, vfB, msB, fsB, eB, ho1, hf1, qB, em1, ef1⟩ := since_ac (show Since Z2 (AcR Z2.heap.size (fun n' ms' fs' => n' = sN ∧ ms' = msb ∧ fs' = fs)) h1 gY.w1 from by simpa using (hK 1 h1 rfl).1)
  obtain ⟨nC, vmC, vfC, msC, fsC, eC, ho2, hf2, qC, em2, ef2⟩ := since_ac (show Since Z2 (AcR Z2.heap.size (fun n' ms' fs' => n' = cN ∧ ms' = msc ∧ fs' = fsc)) h3 gY.w1 from by simpa using (hK 3 h3 rfl).1)
  obtain ⟨m10, k10⟩ := since_blk (t := 28) (cs := #[.int .i64 0, .slice none 0 0, .slice none 0 0]) (by simpa using (hK 4 h4 rfl).1)
  obtain ⟨m11, k11⟩ := since_blk (t := 28) (cs := #[.int .i64 0, .slice none 0 0, .slice none 0 0]) (by simpa using (hK 5 h5 rfl).1)
  have hne := hS 4 5 h4 h5 (by decide) rfl rfl rfl rfl
  clear hK hS htb htc b0 b1 b2 d0 d1 d2
  rw [qB] at eB
  rw [qC] at eC
  rw [em1] at ho1
  rw [ef1] at hf1
  rw [em2] at ho2
  rw [ef2] at hf2
  clear qB qC em1 em2 ef1 ef2
  obtain ⟨Y, hBY⟩ := gY
  obtain ⟨Ad, xd, yd, rfl, hnd⟩ := OwnE.shape ho1
  obtain ⟨Ah, xh, yh, rfl, _⟩ := OwnE.shape hf1
  obtain ⟨Ae, xe, ye, rfl, hne2⟩ := OwnE.shape ho2
  obtain ⟨Ai, xi, yi, rfl, _⟩ := OwnE.shape hf2
  obtain ⟨_, _, _, b10, _, _⟩ := h4
  obtain ⟨_, _, _, b11, _, _⟩ := h5
  dsimp only at *
  rw [eB, eC]
  clear eB eC
  have y0 := k10.cell 0
  have y1 := k10.cell 1
  have y2 := k10.cell 2
  have y3 := k11.cell 0
  have y4 := k11.cell 1
  have y5 := k11.cell 2
  have f0 := k10.free 0
  have f1 := k10.free 1
  have f2 := k10.free 2
  have f3 := k11.free 0
  have f4 := k11.free 1
  have f5 := k11.free 2
  simp at y0 y1 y2 y3 y4 y5
  have hst := Lib.hid (law_aa k10 k11 hne (.int .i64 sN) (.slice Ad xd yd) (.slice Ah xh yh) (.int .i64 cN) (.slice Ae xe ye) (.slice Ai xi yi))
  have hno1 := Lib.hid (And.intro (ho1.ne_blk k10 (by decide)) (ho1.ne_blk k11 (by decide)))
  have hno2 := Lib.hid (And.intro (hf1.ne_blk k10 (by decide)) (hf1.ne_blk k11 (by decide)))
  have hno3 := Lib.hid (And.intro (ho2.ne_blk k10 (by decide)) (ho2.ne_blk k11 (by decide)))
  have hno4 := Lib.hid (And.intro (hf2.ne_blk k10 (by decide)) (hf2.ne_blk k11 (by decide)))
  replace ho1 := Lib.hid ho1
  replace ho2 := Lib.hid ho2
  replace hf1 := Lib.hid hf1
  replace hf2 := Lib.hid hf2
  replace hBY := Lib.hid hBY
  have hlt10 := k10.lt
  have hlt11 := k11.lt
  clear k10 k11
  go_upto_region 9 with (fail)
  obtain ⟨Y2, hY2⟩ : ∃ Y2, (((((Y.setCell ⟨b10, 0, none⟩ (.int .i64 sN)).setCell ⟨b10, 1, none⟩ (.slice Ad xd yd)).setCell ⟨b10, 2, none⟩ (.slice Ah xh yh)).setCell ⟨b11, 0, none⟩ (.int .i64 cN)).setCell ⟨b11, 1, none⟩ (.slice Ae xe ye)).setCell ⟨b11, 2, none⟩ (.slice Ai xi yi) = Y2 := ⟨_, rfl⟩
  rw [hY2] at hst ⊢
  obtain ⟨k10, k11, hbx⟩ := hst.out
  have hxo : ∀ {v : Value}, v.ownBlock ≠ some b10 ∧ v.ownBlock ≠ some b11 → ∀ g, v.ownBlock = some g → g ∉ [b10, b11] := fun hv g hg hm => by
    simp only [List.mem_cons, List.not_mem_nil, or_false] at hm
    rcases hm with rfl | rfl
    · exact hv.1 hg
    · exact hv.2 hg
  have hm1 := Lib.hid (ho1.out.of_block fun g hg => hbx.block g (ho1.out.lt g hg).2 (hxo hno1.out g hg)).els
  have hf1' := Lib.hid (hf1.out.of_block fun g hg => hbx.block g (hf1.out.lt g hg).2 (hxo hno2.out g hg)).els
  have hm2 := Lib.hid (ho2.out.of_block fun g hg => hbx.block g (ho2.out.lt g hg).2 (hxo hno3.out g hg)).els
  have hf2' := Lib.hid (hf2.out.of_block fun g hg => hbx.block g (hf2.out.lt g hg).2 (hxo hno4.out g hg)).els
  have hBc : Hid (Below Z2.heap.size Z2 Y2) := Lib.hid (hBY.out.trans (hbx.below hBY.out.size (by simp; omega)))
  clear hY2 hst y0 y1 y2 y3 y4 y5 f0 f1 f2 f3 f4 f5 hbx hBY ho1 ho2 hf1 hf2 hlt10 hlt11 hno1 hno2 hno3 hno4 hxo m10 m11 hne
  replace k10 := Lib.hid k10
  replace k11 := Lib.hid k11
  obtain ⟨Z3, hZ3⟩ : ∃ Z, Z = Y2 := ⟨_, rfl⟩
  subst hZ3
  replace k8 := Lib.hid (k8.out.below hBc.out k8.out.lt)
  replace k9 := Lib.hid (k9.out.below hBc.out k9.out.lt)
  replace hrl := Lib.hid (hrl.out.then hBc.out)
  replace hml := Lib.hid (hml.out.then hBc.out)
  replace hfl := Lib.hid (hfl.out.then hBc.out)
  replace kb := Lib.hid (kb.out.below hBc.out kb.out.lt)
  replace kc := Lib.hid (kc.out.below hBc.out kc.out.lt)
  replace hBw := Lib.hid (bthen hBw.out hBc.out)
  clear hBc
  have exd : xd = xb := by have := hnd.out; have := hnb.out; omega
  have exe : xe = xc := by have := hne2.out; have := hnc.out; omega
  subst exd
  subst exe
  have hi1 := Lib.hid (fun V (hV : Below Z3.heap.size Z3 V) => IsAcceptor_any V CN sN 200 n1 p1 A1 _ _ msb fs (hm1.out.then hV) (hf1'.out.then hV))
  have hi2 := Lib.hid (fun V (hV : Below Z3.heap.size Z3 V) => IsAcceptor_any V CN cN 200 n1 p1 A1 _ _ msc fsc (hm2.out.then hV) (hf2'.out.then hV))
  rw [hMb.out.acc] at hi1
  rw [hMc.out.acc] at hi2
  have a0 : Z3.cell? ⟨b8, 0, none⟩ = some (.int .i64 CN) := k8.out.cell 0
  have a1 : Z3.cell? ⟨b8, 1, none⟩ = some (.slice A1 n1 p1) := k8.out.cell 1
  have a2 : Z3.cell? ⟨b10, 0, none⟩ = some (.int .i64 sN) := k10.out.cell 0
  have a3 : Z3.cell? ⟨b10, 1, none⟩ = some (.slice Ad xd yd) := k10.out.cell 1
  have a4 : Z3.cell? ⟨b10, 2, none⟩ = some (.slice Ah xh yh) := k10.out.cell 2
  have a5 : Z3.cell? ⟨b11, 0, none⟩ = some (.int .i64 cN) := k11.out.cell 0
  have a6 : Z3.cell? ⟨b11, 1, none⟩ = some (.slice Ae xe ye) := k11.out.cell 1
  have a7 : Z3.cell? ⟨b11, 2, none⟩ = some (.slice Ai xi yi) := k11.out.cell 2
  have a8 : Z3.cell? ⟨bb, 1, none⟩ = some (.slice Ab xd yb) := kb.out.cell 1
  have a9 : Z3.cell? ⟨bc, 1, none⟩ = some (.slice Ac xe yc) := kc.out.cell 1
  go_upto_region 11 with (first
    | (go_at_call 16; with_reducible refine (hi1.out _ (Below.refl _ _)).mono ?_; clear hi1; rintro e w1 ⟨rfl, hb1⟩; replace a0 := cell_below a0 hb1; replace a1 := cell_below a1 hb1; replace a3 := cell_below a3 hb1; replace a5 := cell_below a5 hb1; replace a6 := cell_below a6 hb1; replace a7 := cell_below a7 hb1; replace a8 := cell_below a8 hb1; replace a9 := cell_below a9 hb1; clear a2 a4; replace hb1 := Lib.hid hb1)
    | (go_at_call 16; refine (hi2.out _ hb1.out).mono ?_; clear hi2; rintro e w2 ⟨rfl, hb2⟩; replace a3 := cell_below a3 hb2; replace a6 := cell_below a6 hb2; replace a8 := cell_below a8 hb2; replace a9 := cell_below a9 hb2; clear a0 a1 a5 a7; replace hb2 := Lib.hid hb2))
  have hBc : Hid (Below Z3.heap.size Z3 w2) := Lib.hid (bthen hb1.out hb2.out)
  clear hb1 hb2 a3 a6 a8 a9 kb kc
  obtain ⟨Z4, hZ4⟩ : ∃ Z, Z = w2 := ⟨_, rfl⟩
  subst hZ4
  replace k8 := Lib.hid (k8.out.below hBc.out k8.out.lt)
  replace k9 := Lib.hid (k9.out.below hBc.out k9.out.lt)
  replace hrl := Lib.hid (hrl.out.then hBc.out)
  replace hml := Lib.hid (hml.out.then hBc.out)
  replace hfl := Lib.hid (hfl.out.then hBc.out)
  replace k10 := Lib.hid (k10.out.below hBc.out k10.out.lt)
  replace k11 := Lib.hid (k11.out.below hBc.out k11.out.lt)
  replace hm1 := Lib.hid (hm1.out.then hBc.out)
  replace hf1' := Lib.hid (hf1'.out.then hBc.out)
  replace hm2 := Lib.hid (hm2.out.then hBc.out)
  replace hf2' := Lib.hid (hf2'.out.then hBc.out)
  replace hBw := Lib.hid (bthen hBw.out hBc.out)
  clear hBc
  have hNm := given_non (Int.natCast_nonneg CN) e2.out
  have hFn := given_fin (Int.natCast_nonneg CN) e2.out
  have hgm := given_in (Int.natCast_nonneg CN) e2.out
  have hsC := ((givenB_iff2 (Int.natCast_nonneg CN)).1 e2.out)
  have hs1 := (sysB_iff.1 e1.out).1
  have hs5 := (sysB_iff.1 e1.out).2.1
  have hsN1 : 1 ≤ sN := by omega
  have hsN2 : sN ≤ 12 := by have := hsC.2.1; omega
  have hCsN : CN ≤ sN := by omega
  have hcN : sN ≤ cN ∧ cN ≤ 42 := by obtain ⟨_, h1, _⟩ := hPc.out; omega
  obtain ⟨NN, hNN⟩ : ∃ N, sN + CN * 5 = N := ⟨_, rfl⟩
  have hNN2 : NN ≤ 100 := by omega
  have hmv1 : ∀ m ∈ ms.map toMv, m.1 < sN ∧ m.2.1 < 5 ∧ m.2.2 < sN := fun m hm => by
    obtain ⟨m, hm', rfl⟩ := List.mem_map.1 hm
    have := hgm m hm'
    simp only [toMv]
    omega
  have hfv1 : ∀ f ∈ fs.map Int.toNat, f < sN := fun f hf => by
    obtain ⟨f, hf', rfl⟩ := List.mem_map.1 hf
    have := hFn f hf'
    omega
  have hmv2 : ∀ m ∈ msb.map toMv, m.1 < sN ∧ m.2.1 < 5 ∧ m.2.2 < sN := fun m hm => by
    obtain ⟨m, hm', rfl⟩ := List.mem_map.1 hm
    have := hMb.out.rng m hm'
    have := hMb.out.non m hm'
    simp only [toMv]
    omega
  have hmv3 : ∀ m ∈ msc.map toMv, m.1 < cN ∧ m.2.1 < 5 ∧ m.2.2 < cN := fun m hm => by
    obtain ⟨m, hm', rfl⟩ := List.mem_map.1 hm
    have := hMc.out.rng m hm'
    have := hMc.out.non m hm'
    simp only [toMv]
    omega
  have hfv3 : ∀ f ∈ fsc.map Int.toNat, f < cN := fun f hf => by
    obtain ⟨f, hf', rfl⟩ := List.mem_map.1 hf
    have := hMc.out.frng f hf'
    omega
  have hofB := Lib.hid (fun g : Gr Z4 => of_eff (lo := Z4.heap.size) (ms := msb.map toMv) (fs := fs.map Int.toNat) g.h.size hsN1 (by omega) (els_mv (hm1.out.then g.h) hMb.out.non) hmv2 (els_nat (hf1'.out.then g.h) (fun f hf => (hFn f hf).1)) hfv1)
  have hofC := Lib.hid (fun g : Gr Z4 => of_eff (lo := Z4.heap.size) (ms := msc.map toMv) (fs := fsc.map Int.toNat) g.h.size (by omega) (by omega) (els_mv (hm2.out.then g.h) hMc.out.non) hmv3 (els_nat (hf2'.out.then g.h) (fun f hf => (hMc.out.frng f hf).1)) hfv3)
  have hbeR := Lib.hid (fun g : Gr Z4 => be_eff (C := CN) (ms := ms) (fs := fs) (hrl.out.then g.h) e1.out e2.out hCsN (by omega) hsN1 (els_mv (hml.out.then g.h) hNm) hmv1 (els_nat (hfl.out.then g.h) (fun f hf => (hFn f hf).1)) hfv1 hNm)
  have hafR := Lib.hid (fun g : Gr Z4 => af_eff (C := CN) (ms := ms) (fs := fs) (hrl.out.then g.h) e1.out hCsN hsN2 hNN (els_mv (hml.out.then g.h) hNm) hmv1 (els_nat (hfl.out.then g.h) (fun f hf => (hFn f hf).1)) hfv1 hNm)
  have haB := Lib.hid (fun X (h : BeP l ms sN X) (p : Nat) => before_alike (x := only1 p) (F := ofF (fs.map Int.toNat)) (k := 4) e1.out e2.out hPb.out h.1 h.2.1 h.2.2)
  have haC := Lib.hid (fun X (h : AfP l ms sN NN X) (p : Nat) (hp : p < CN) => after_alike (k := 4) e1.out e2.out hPc.out hNN h.1 h.2 hp)
  have hawk := Lib.hid (fun g : Gr Z4 => awake_any g.w1)
  have hN1 : CN ≤ cN := by omega
  have hN2 : CN ≤ NN := by omega
  clear hNm hFn hgm hsC hs1 hs5 hmv1 hfv1 hmv2 hmv3 hfv3 hcN hC0 hCst
  replace hNN := Lib.hid hNN
  have qk80 : ∀ g : Gr Z4, g.w1.cell? ⟨b8, 0, none⟩ = some (.int .i64 CN) := fun g => g.cell (k8.out.cell 0)
  have qk81 : ∀ g : Gr Z4, g.w1.cell? ⟨b8, 1, none⟩ = some (.slice A1 n1 p1) := fun g => g.cell (k8.out.cell 1)
  have qk90 : ∀ g : Gr Z4, g.w1.cell? ⟨b9, 0, none⟩ = some (.int .i64 sN) := fun g => g.cell (k9.out.cell 0)
  have qk91 : ∀ g : Gr Z4, g.w1.cell? ⟨b9, 1, none⟩ = some (.slice Am nm cm) := fun g => g.cell (k9.out.cell 1)
  have qk92 : ∀ g : Gr Z4, g.w1.cell? ⟨b9, 2, none⟩ = some (.slice Af nf cf) := fun g => g.cell (k9.out.cell 2)
  have qk100 : ∀ g : Gr Z4, g.w1.cell? ⟨b10, 0, none⟩ = some (.int .i64 sN) := fun g => g.cell (k10.out.cell 0)
  have qk101 : ∀ g : Gr Z4, g.w1.cell? ⟨b10, 1, none⟩ = some (.slice Ad xd yd) := fun g => g.cell (k10.out.cell 1)
  have qk102 : ∀ g : Gr Z4, g.w1.cell? ⟨b10, 2, none⟩ = some (.slice Ah xh yh) := fun g => g.cell (k10.out.cell 2)
  have qk110 : ∀ g : Gr Z4, g.w1.cell? ⟨b11, 0, none⟩ = some (.int .i64 cN) := fun g => g.cell (k11.out.cell 0)
  have qk111 : ∀ g : Gr Z4, g.w1.cell? ⟨b11, 1, none⟩ = some (.slice Ae xe ye) := fun g => g.cell (k11.out.cell 1)
  have qk112 : ∀ g : Gr Z4, g.w1.cell? ⟨b11, 2, none⟩ = some (.slice Ai xi yi) := fun g => g.cell (k11.out.cell 2)
  refine wp_region_rels 19 [false, false, true, false, false, true, true, false, false, false, true, false, false, true, true, false, false, true, false] [[], [], [], [], [], [], [2, 5], [], [], [], [], [], [], [], [10, 13]] (fun kx h => if kx = 2 then .agg #[.slice h.A h.n h.cap, .slice (some ⟨h.k, 0, none⟩) sN sN] else if kx = 5 then .agg #[.slice h.A h.n h.cap, .slice (some ⟨h.k, 0, none⟩) sN sN] else if kx = 6 then .bool true else if kx = 10 then .agg #[.slice h.A h.n h.cap, .slice (some ⟨h.k, 0, none⟩) cN cN] else if kx = 13 then .agg #[.slice h.A h.n h.cap, .slice (some ⟨h.k, 0, none⟩) NN NN] else if kx = 14 then .bool true else .bool true)
    (fun kx h w => if kx = 2 then TMx sN (ofF (fs.map Int.toNat)) (fun X => X = ofX (msb.map toMv)) h w else if kx = 5 then TMx sN (ofF (fs.map Int.toNat)) (fun X => BeP l ms sN X) h w else if kx = 10 then TMx cN (ofF (fsc.map Int.toNat)) (fun X => X = ofX (msc.map toMv)) h w else if kx = 13 then TMx NN (ofF (fs.map Int.toNat)) (fun X => AfP l ms sN NN X) h w else True) [] (by kernel_rfl) (by kernel_rfl) ?_
  simp only [List.take_succ_cons, List.take_zero, List.drop_succ_cons, List.drop_zero]
  refine walkS_reads 2 _ _ _ _ (by kernel_rfl) (by kernel_rfl) (by simp) ?_
  simp only [List.take_succ_cons, List.take_zero, List.drop_succ_cons, List.drop_zero]
  repeat (go_big_quiet_step (fail))
  refine wpQuiet_nil ?_
  refine walkS_eff rfl (by kernel_rfl) (fun g hd => ?_) (fun h2 => ?_)
  · go_simp
    exact ⟨rfl, (hofB.out g).mono (fun e w' ⟨q, h1, h2, h3⟩ => ⟨q, h1, h3, h2, fun e => by cases e⟩)⟩
  go_frame
  simp only [Nat.reduceAdd, Nat.reduceEqDiff, reduceIte]
  refine walkS_reads 2 _ _ _ _ (by kernel_rfl) (by kernel_rfl) (by simp) ?_
  simp only [List.take_succ_cons, List.take_zero, List.drop_succ_cons, List.drop_zero]
  repeat (go_big_quiet_step (fail))
  refine wpQuiet_nil ?_
  refine walkS_eff rfl (by kernel_rfl) (fun g hd => ?_) (fun h5 => ?_)
  · go_simp
    exact ⟨rfl, (hbeR.out g).mono (fun e w' ⟨q, h1, h2, h3⟩ => ⟨q, h1, h3, h2, fun e => by cases e⟩)⟩
  go_frame
  simp only [Nat.reduceAdd, Nat.reduceEqDiff, reduceIte]
  refine walkS_eff rfl (by kernel_rfl) (fun g hd => ?_) (fun h6 => ?_)
  · go_simp
    obtain ⟨X, ⟨bX, oX, eX1, eX2, hTX⟩, hPX⟩ := since_tm (show Since Z4 (TMx sN (ofF (fs.map Int.toNat)) (fun X => X = ofX (msb.map toMv))) h2 g.w1 from by simpa using hd 2 (by simp) h2 rfl)
    obtain ⟨X', ⟨bX', oX', eY1, eY2, hTY⟩, hPY⟩ := since_tm (show Since Z4 (TMx sN (ofF (fs.map Int.toNat)) (fun X => BeP l ms sN X)) h5 g.w1 from by simpa using hd 5 (by simp) h5 rfl)
    obtain ⟨A9, n9, c9, k9', _, _⟩ := h2
    obtain ⟨A0, n0', c0', k0', _, _⟩ := h5
    dsimp only at *
    subst eX1 eX2 eY1 eY2 hPX
    exact ⟨rfl, (Alike_any g.w1 CN _ k9' bX oX c9 _ k0' bX' oX' c0' 4 n1 p1 A1 _ X' (ofF (fs.map Int.toNat)) (ofF (fs.map Int.toNat)) hTX hTY (by omega) (by omega) (by omega)).mono (fun e w' ⟨bv, r1, r2, r3⟩ => by
      obtain rfl : bv = true := r2.2 (fun p hp => haB.out _ hPY p)
      exact ⟨default, r1, r3, trivial, fun e => by cases e⟩)⟩
  go_frame
  simp only [Nat.reduceAdd, Nat.reduceEqDiff, reduceIte]
  refine walkS_reads 3 _ _ _ _ (by kernel_rfl) (by kernel_rfl) (by simp) ?_
  simp only [List.take_succ_cons, List.take_zero, List.drop_succ_cons, List.drop_zero]
  repeat (go_big_quiet_step (fail))
  refine wpQuiet_nil ?_
  refine walkS_eff rfl (by kernel_rfl) (fun g hd => ?_) (fun h10 => ?_)
  · go_simp
    exact ⟨rfl, (hofC.out g).mono (fun e w' ⟨q, h1, h2, h3⟩ => ⟨q, h1, h3, h2, fun e => by cases e⟩)⟩
  go_frame
  simp only [Nat.reduceAdd, Nat.reduceEqDiff, reduceIte]
  refine walkS_reads 2 _ _ _ _ (by kernel_rfl) (by kernel_rfl) (by simp) ?_
  simp only [List.take_succ_cons, List.take_zero, List.drop_succ_cons, List.drop_zero]
  repeat (go_big_quiet_step (fail))
  refine wpQuiet_nil ?_
  refine walkS_eff rfl (by kernel_rfl) (fun g hd => ?_) (fun h13 => ?_)
  · go_simp
    exact ⟨rfl, (hafR.out g).mono (fun e w' ⟨q, h1, h2, h3⟩ => ⟨q, h1, h3, h2, fun e => by cases e⟩)⟩
  go_frame
  simp only [Nat.reduceAdd, Nat.reduceEqDiff, reduceIte]
  refine walkS_eff rfl (by kernel_rfl) (fun g hd => ?_) (fun h14 => ?_)
  · go_simp
    obtain ⟨X, ⟨bX, oX, eX1, eX2, hTX⟩, hPX⟩ := since_tm (show Since Z4 (TMx cN (ofF (fsc.map Int.toNat)) (fun X => X = ofX (msc.map toMv))) h10 g.w1 from by simpa using hd 10 (by simp) h10 rfl)
    obtain ⟨X', ⟨bX', oX', eY1, eY2, hTY⟩, hPY⟩ := since_tm (show Since Z4 (TMx NN (ofF (fs.map Int.toNat)) (fun X => AfP l ms sN NN X)) h13 g.w1 from by simpa using hd 13 (by simp) h13 rfl)
    obtain ⟨A9, n9, c9, k9', _, _⟩ := h10
    obtain ⟨A0, n0', c0', k0', _, _⟩ := h13
    dsimp only at *
    subst eX1 eX2 eY1 eY2 hPX
    exact ⟨rfl, (Alike_any g.w1 CN _ k9' bX oX c9 _ k0' bX' oX' c0' 4 n1 p1 A1 _ X' (ofF (fsc.map Int.toNat)) (ofF (fs.map Int.toNat)) hTX hTY (by omega) (by omega) (by omega)).mono (fun e w' ⟨bv, r1, r2, r3⟩ => by
      obtain rfl : bv = true := r2.2 (fun p hp => haC.out _ hPY p hp)
      exact ⟨default, r1, r3, trivial, fun e => by cases e⟩)⟩
  go_frame
  simp only [Nat.reduceAdd, Nat.reduceEqDiff, reduceIte]
  refine walkS_reads 2 _ _ _ _ (by kernel_rfl) (by kernel_rfl) (by simp) ?_
  simp only [List.take_succ_cons, List.take_zero, List.drop_succ_cons, List.drop_zero]
  repeat (go_big_quiet_step (fail))
  refine wpQuiet_nil ?_
  refine walkS_eff rfl (by kernel_rfl) (fun g hd => ?_) (fun h17 => ?_)
  · go_simp
    exact ⟨rfl, (hawk.out g).mono (fun e w' ⟨h1, h3⟩ => ⟨default, h1, h3, trivial, fun e => by cases e⟩)⟩
  go_frame
  simp only [Nat.reduceAdd, Nat.reduceEqDiff, reduceIte]
  refine walkS_reads 1 _ _ _ _ (by kernel_rfl) (by kernel_rfl) (by simp) ?_
  simp only [List.take_succ_cons, List.take_zero, List.drop_succ_cons, List.drop_zero]
  repeat (go_big_quiet_step (fail))
  refine wpQuiet_nil ?_
  refine walkS_nil ?_
  rintro _ ⟨gY, rfl⟩ hK hS
  obtain ⟨Y9, hY9⟩ := gY
  dsimp only at *
  have hfin := Lib.hid (bthen hBw.out hY9)
  clear hK hS hY9
  go_wp2
  go_ret
  exact ⟨rfl, hfin.out⟩
end Go.Proofs.YtaapnflhjbdmlaaGreatDoor
