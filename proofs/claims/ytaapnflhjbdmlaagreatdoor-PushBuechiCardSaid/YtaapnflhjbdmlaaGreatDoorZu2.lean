/- The specification's Accepts; the law's only. No condition. -/
import Derived.Test.YtaapnflhjbdmlaaGreatDoorZu1
namespace Go.Proofs.YtaapnflhjbdmlaaGreatDoor
open Go.RowKit Go.Shelf
attribute [local go_sem] Oper.semAt_some

set_option maxRecDepth 8000 in
set_option maxHeartbeats 4000000 in
theorem AcceptsR_any (w : World) (n x gF : Nat) (vC : Value) (X : Nat → Nat → Nat → Int) (F : Nat → Bool) (s : ByteArray) (hn : 1 ≤ n) (hn4 : n ≤ 400) (hX : Cua w vC n X) (hF : Bl w gF n F) (hxn : x < n) (hw : Word (cs s)) (hs20 : s.size ≤ 20)
    (hXr : ∀ p c q, p < n → c < 6 → q < n → 0 ≤ X p c q ∧ X p c q ≤ 1073741824) (hE : ∀ p q, p < n → q < n → X p 5 q = 1073741824) :
    Calls Tryz.prog 26 #[agA vC gF n, cv ⟨x, s⟩] w fun e w' => e = .returned (.bool (decide (bestN n F (costs n X (cs s) (only1 x)) < 1073741824))) ∧ Below w.heap.size w w' := by
  obtain ⟨b, off, cap, rfl⟩ := hX.shape
  obtain ⟨W, hW⟩ : ∃ W, (w.alloc (.cells #[.slice (some ⟨b, off, none⟩) n cap, .slice (some ⟨gF, 0, none⟩) n n] 49)).alloc (.cells #[.int .i64 x, .string s] 53) = W := ⟨_, rfl⟩
  have hBW : Below w.heap.size w W := by rw [← hW]; exact bthen (below1 _ _) (below1 _ _)
  have kA := show Blk W w.heap.size 49 #[.slice (some ⟨b, off, none⟩) n cap, .slice (some ⟨gF, 0, none⟩) n n] by rw [← hW]; exact (Blk.new w 49 _).alloc _
  have kB := show Blk W (w.heap.size + 1) 53 #[.int .i64 x, .string s] by rw [← hW]; have := Blk.new (w.alloc (.cells #[.slice (some ⟨b, off, none⟩) n cap, .slice (some ⟨gF, 0, none⟩) n n] 49)) 53 #[.int .i64 x, .string s]; rw [alloc_size] at this; exact this
  have a0 := kA.cell 0
  have a1 := kA.cell 1
  have a2 := kB.cell 0
  have a3 := kB.cell 1
  simp at a0 a1 a2 a3
  have hc := Lib.hid (Cost_any W n x gF _ X F s hn hn4 (hX.below hBW) (Blk.below hF hBW (Blk.lt hF)) hxn hw hs20 hXr hE)
  generalize bestN n F (costs n X (cs s) (only1 x)) = K at *
  replace hBW := Lib.hid hBW
  clear kA kB hX hF hw hXr hE
  go_enter Tryz.func26, Tryz.ntmps26
  go_wp2_with (go_at_call 48; refine hc.out.mono ?_; rintro e w9 ⟨rfl, hb9⟩; replace hb9 := Lib.hid hb9)
  go_ret
  exact ⟨rfl, bthen hBW.out hb9.out⟩
theorem ofX_eps {ms : List Mv} (h : ∀ m ∈ ms, m.2.1 < 5) (p q : Nat) : ofX ms p 5 q = 1073741824 := by
  unfold ofX
  rw [if_neg (fun hm => by have := h _ hm; simp at this)]
/-- the moves of one configuration, as integers -/
theorem els_chI {w : World} {v : Value} {C x : Nat} {t : List Int} (h : Els ElM w v (chM C x t)) : Els ElZ w v (chI C x t) := h.recast (fun m => ((m.1 : Int), (m.2.1 : Int), (m.2.2 : Int))) rfl fun _ _ => rfl

set_option maxRecDepth 8000 in
set_option maxHeartbeats 8000000 in
theorem only_any (w : World) (C x n cap nS : Nat) (A : Option Addr) (s : ByteArray) (hC : C ≤ 5) (hx : x ≤ 5) (hs20 : s.size ≤ 20) (hw : Word (cs s)) (hnS : C + s.size = nS) :
    Calls Tryz.prog 23 #[sv C (.slice A n cap), cv ⟨x, s⟩] w fun e w' =>
      ∃ vm vf, e = .returned (.tuple #[acV nS vm vf, .bool (givenB C nS (chI C x (cs s)) [(atN C x s.size : Int)])]) ∧ Els ElZ w' vm (chI C x (cs s)) ∧ Els ElI w' vf [(atN C x s.size : Int)] ∧ Below w.heap.size w w' := by
  obtain ⟨W, hW⟩ : ∃ W, ((w.alloc (.cells #[.int .i64 C, .slice A n cap] 24)).alloc (.cells #[.int .i64 x, .string s] 53)).alloc (.cells #[.int .i64 0, .slice none 0 0, .slice none 0 0] 34) = W := ⟨_, rfl⟩
  have hBW : Below w.heap.size w W := by rw [← hW]; exact bthen (below1 _ _) (bthen (below1 _ _) (below1 _ _))
  have kS : Blk W w.heap.size 24 #[.int .i64 C, .slice A n cap] := by rw [← hW]; exact ((Blk.new w 24 _).alloc _).alloc _
  have kB : Blk W (w.heap.size + 1) 53 #[.int .i64 x, .string s] := by rw [← hW]; have := Blk.new (w.alloc (.cells #[.int .i64 C, .slice A n cap] 24)) 53 #[.int .i64 x, .string s]; rw [alloc_size] at this; exact this.alloc _
  have kR : Blk W (w.heap.size + 1 + 1) 34 #[.int .i64 0, .slice none 0 0, .slice none 0 0] := by rw [← hW]; have := Blk.new ((w.alloc (.cells #[.int .i64 C, .slice A n cap] 24)).alloc (.cells #[.int .i64 x, .string s] 53)) 34 #[.int .i64 0, .slice none 0 0, .slice none 0 0]; rw [alloc_size, alloc_size] at this; exact this
  have a0 := kS.cell 0
  have a1 := kS.cell 1
  have a2 := kB.cell 0
  have a3 := kB.cell 1
  simp at a0 a1 a2 a3
  have ho := Lib.hid ((Only_any W C x n cap nS A s hC hx hs20 hw hnS).mono (R' := fun e w' => ∃ vm gf, e = .returned (.agg #[.int .i64 nS, vm, .slice (some ⟨gf, 0, none⟩) 1 1]) ∧ Els ElZ w' vm (chI C x (cs s)) ∧ Els ElI w' (.slice (some ⟨gf, 0, none⟩) 1 1) [(atN C x s.size : Int)] ∧ Below W.heap.size W w')
    fun e w' ⟨vm, gf, h1, h2, h3, h4⟩ => ⟨vm, gf, h1, els_chI h2, els_one (E := ElI) h3 rfl, h4⟩)
  have hlt : (chI C x (cs s)).length ≤ 20 := by unfold chI; rw [List.length_map, chM_len, cs_length]; exact hs20
  have hl1 : ([(atN C x s.size : Int)]).length ≤ 1 := by simp
  generalize chI C x (cs s) = ms at *
  generalize [(atN C x s.size : Int)] = fs at *
  generalize hgb : givenB C nS ms fs = gb at *
  replace hgb := Lib.hid hgb
  replace hBW := Lib.hid hBW
  replace kS := Lib.hid kS
  replace kR := Lib.hid kR
  clear kB
  go_enter Tryz.func23, Tryz.ntmps23
  go_upto_region 2 with (go_at_call 45; refine ho.out.mono ?_; clear ho; rintro e w1 ⟨vm, gf, rfl, hm, hg, hb1⟩; obtain ⟨Am, nm, cm, rfl, _⟩ := Els.shape hm; replace hm := Lib.hid hm; replace hg := Lib.hid hg; replace hb1 := Lib.hid hb1)
  clear a0 a1 a2 a3
  obtain ⟨V, hV⟩ : ∃ V, w1.alloc (.cells #[.int .i64 nS, .slice Am nm cm, .slice (some ⟨gf, 0, none⟩) 1 1] 28) = V := ⟨_, rfl⟩
  obtain ⟨bo, hbo⟩ : ∃ b, w1.heap.size = b := ⟨_, rfl⟩
  have hb1V : Below w1.heap.size w1 V := by rw [← hV]; exact below1 _ _
  have kO := Lib.hid (show Blk V bo 28 #[.int .i64 nS, .slice Am nm cm, .slice (some ⟨gf, 0, none⟩) 1 1] by rw [← hV, ← hbo]; exact Blk.new _ _ _)
  have hbV := Lib.hid (bthen hb1.out hb1V)
  have hmV := Lib.hid (hm.out.then hb1V)
  have hgV := Lib.hid (hg.out.then hb1V)
  have kSV := Lib.hid (kS.out.below hbV.out kS.out.lt)
  have kRV := Lib.hid (kR.out.below hbV.out kR.out.lt)
  rw [hV, hbo]
  clear hV hbo hb1V hm hg kS kR hb1
  have a0 : ∀ g : Gr V, g.w1.cell? ⟨w.heap.size, 0, none⟩ = some (.int .i64 C) := fun g => g.cell (kSV.out.cell 0)
  have a1 : ∀ g : Gr V, g.w1.cell? ⟨w.heap.size, 1, none⟩ = some (.slice A n cap) := fun g => g.cell (kSV.out.cell 1)
  have a2 : ∀ g : Gr V, g.w1.cell? ⟨bo, 0, none⟩ = some (.int .i64 nS) := fun g => g.cell (kO.out.cell 0)
  have a3 : ∀ g : Gr V, g.w1.cell? ⟨bo, 1, none⟩ = some (.slice Am nm cm) := fun g => g.cell (kO.out.cell 1)
  have a4 : ∀ g : Gr V, g.w1.cell? ⟨bo, 2, none⟩ = some (.slice (some ⟨gf, 0, none⟩) 1 1) := fun g => g.cell (kO.out.cell 2)
  have hac := Lib.hid (fun g : Gr V => acceptor_any g.w1 nS _ _ ms fs (hmV.out.then g.h) (hgV.out.then g.h) (by omega) (by omega))
  have hgv := Lib.hid (fun g : Gr V => Given_any g.w1 C nS n cap A _ _ ms fs (hmV.out.then g.h) (hgV.out.then g.h))
  rw [hgb.out] at hgv
  refine wp_region_rels 5 [false, true, false, false, true] [] (fun kx h => if kx = 1 then acH h else .bool gb)
    (fun kx h w => if kx = 1 then AcR V.heap.size (fun n' ms' fs' => n' = nS ∧ ms' = ms ∧ fs' = fs) h w else True) [] (by kernel_rfl) (by kernel_rfl) ?_
  simp only [List.take_succ_cons, List.take_zero, List.drop_succ_cons, List.drop_zero]
  refine walkS_reads 1 _ _ _ _ (by kernel_rfl) (by kernel_rfl) (by simp) ?_
  simp only [List.take_succ_cons, List.take_zero, List.drop_succ_cons, List.drop_zero]
  repeat (go_big_quiet_step (fail))
  refine wpQuiet_nil ?_
  refine walkS_eff rfl (by kernel_rfl) (fun g hd => ?_) (fun h1 => ?_)
  · go_simp
    exact ⟨rfl, (hac.out g).mono (fun e w' ⟨vm', vf', h1, h2, h3, h4⟩ => by
      obtain ⟨q, e1, e2⟩ := ac_eff (P := fun n' ms' fs' => n' = (nS : Int) ∧ ms' = ms ∧ fs' = fs) g.h.size h2 h3 ⟨rfl, rfl, rfl⟩
      exact ⟨q, by rw [h1, ← e1], h4, e2, fun e => by cases e⟩)⟩
  go_frame
  refine walkS_reads 2 _ _ _ _ (by kernel_rfl) (by kernel_rfl) (by simp) ?_
  simp only [List.take_succ_cons, List.take_zero, List.drop_succ_cons, List.drop_zero]
  repeat (go_big_quiet_step (fail))
  refine wpQuiet_nil ?_
  refine walkS_eff rfl (by kernel_rfl) (fun g hd => ?_) (fun h4 => ?_)
  · go_simp
    exact ⟨rfl, (hgv.out g).mono (fun e w' ⟨h1, h3⟩ => ⟨default, h1, h3, trivial, fun e => by cases e⟩)⟩
  go_frame
  refine walkS_nil ?_
  rintro _ ⟨gY, rfl⟩ hK hS
  obtain ⟨n', vm2, vf2, ms2, fs2, e3, hm2, hf2, es, em, ef⟩ := since_ac (show Since V (AcR V.heap.size (fun n' ms' fs' => n' = (nS : Int) ∧ ms' = ms ∧ fs' = fs)) h1 gY.w1 from by simpa using (hK 1 h1 rfl).1)
  rw [es] at e3
  rw [em] at hm2
  rw [ef] at hf2
  clear es em ef hK hS hac hgv a0 a1 a2 a3 a4
  obtain ⟨Y, hBY⟩ := gY
  obtain ⟨A2, n2, c2, rfl, _⟩ := OwnE.shape hm2
  obtain ⟨A3, n3, c3, rfl, _⟩ := OwnE.shape hf2
  dsimp only at *
  rw [e3]
  clear e3
  have kRY := kRV.out.below hBY kRV.out.lt
  have y0 := kRY.cell 0
  have y1 := kRY.cell 1
  have y2 := kRY.cell 2
  have f0 := kRY.free 0
  have f1 := kRY.free 1
  have f2 := kRY.free 2
  simp at y0 y1 y2
  obtain ⟨kE, hxE⟩ := set3 kRY (.int .i64 nS) (.slice A2 n2 c2) (.slice A3 n3 c3)
  have e0 := kE.cell 0
  have e1 := kE.cell 1
  have e2 := kE.cell 2
  simp at e0 e1 e2
  have hfin := Lib.hid (show Els ElZ (((Y.setCell ⟨w.heap.size + 1 + 1, 0, none⟩ (.int .i64 nS)).setCell ⟨w.heap.size + 1 + 1, 1, none⟩ (.slice A2 n2 c2)).setCell ⟨w.heap.size + 1 + 1, 2, none⟩ (.slice A3 n3 c3)) (.slice A2 n2 c2) ms ∧ Els ElI (((Y.setCell ⟨w.heap.size + 1 + 1, 0, none⟩ (.int .i64 nS)).setCell ⟨w.heap.size + 1 + 1, 1, none⟩ (.slice A2 n2 c2)).setCell ⟨w.heap.size + 1 + 1, 2, none⟩ (.slice A3 n3 c3)) (.slice A3 n3 c3) fs ∧
      Below w.heap.size w (((Y.setCell ⟨w.heap.size + 1 + 1, 0, none⟩ (.int .i64 nS)).setCell ⟨w.heap.size + 1 + 1, 1, none⟩ (.slice A2 n2 c2)).setCell ⟨w.heap.size + 1 + 1, 2, none⟩ (.slice A3 n3 c3)) from
    ⟨(hm2.of_block fun g hg => hxE.block g (hm2.lt g hg).2 (by have := hm2.ne_blk kRY (by decide); intro hm; rw [List.mem_singleton] at hm; subst hm; exact this hg)).els,
     (hf2.of_block fun g hg => hxE.block g (hf2.lt g hg).2 (by have := hf2.ne_blk kRY (by decide); intro hm; rw [List.mem_singleton] at hm; subst hm; exact this hg)).els,
     (bthen hBW.out (bthen hbV.out hBY)).trans (hxE.below (bthen hBW.out (bthen hbV.out hBY)).size (by simp; omega))⟩)
  clear kE hxE kRY hm2 hf2
  replace hBY := Lib.hid hBY
  go_wp2
  exact bodyPost_ret (v := .tuple #[acV nS (.slice A2 n2 c2) (.slice A3 n3 c3), .bool gb]) (by simp [results, Tryz.results23, go_sem, e0, e1, e2]) rfl ⟨_, _, rfl, hfin.out⟩
end Go.Proofs.YtaapnflhjbdmlaaGreatDoor
