/- Run's inner function: the walk. No condition. -/
import Derived.Test.YtaapnflhjbdmlaaDoorK2
namespace Go.Proofs.YtaapnflhjbdmlaaDoor
open Go.RowKit Go.Shelf
attribute [local go_sem] Oper.semAt_some

/-- what follow does -/
def FolPost (W0 : World) (Bm Bs : Nat) (l : List RuleB) (B : Int → Int → Int → Prop) (k : Key) (w : World) (v : Value) (out : List Int) (st : Int) (e : Ending) (w' : World) : Prop :=
  e = .returned (.tuple #[]) ∧ ∃ (v' : Value) (rs : List Nat), FolSt W0 Bm Bs w' v' (out ++ rs.map (fun (i : Nat) => (i : Int))) ∧ D (l.map RuleB.plain) B k.1 k.2.1 k.2.2 rs ∧ (rs.length : Int) ≤ st ∧ FolKeep W0.heap.size w w' v v'

theorem FolSt.below {W0 : World} {Bm Bs : Nat} {w w' : World} {v : Value} {out : List Int} (h : FolSt W0 Bm Bs w v out) (hb : Below w.heap.size w w') : FolSt W0 Bm Bs w' v out :=
  ⟨bthen h.bel hb, h.var.below hb h.var.lt, h.own.then hb, h.fol.below hb h.fol.lt⟩
theorem field96r (w : World) (s r m : Int) : (Instr.field 96 (.agg #[.int .i64 s, .int .i64 r, .int .i64 m]) 1).run Tryd.prog w = .ok (.int .i64 r) w := by kernel_rfl
theorem cell0 {w : World} {W0 : World} (h : Below W0.heap.size W0 w) {p : Addr} {c : Value} (hc : W0.cell? p = some c) : w.cell? p = some c := cell_below hc h


theorem fol_mid {W0 W1 wx w2 : World} {Bm Bs B1 : Nat} {v v2 : Value} {out : List Int} {x : Int} {o : Obj} (hst1 : FolSt W0 Bm Bs W1 v out) (hz : W1.heap.size = B1 + 1 + 1) (hv : ∀ g, v.ownBlock = some g → g < B1) (_ : W0.heap.size + 1 < B1) (hx : W1.alloc o = wx)
    (ho : OwnE ElI 3 (W0.heap.size + 2) w2 v2 (out ++ [x])) (hb : Below (W0.heap.size + 2) wx w2) (hg : wx.grownBy w2 v.ownBlock) (hl : lies wx v v2) :
    w2.cell? ⟨W0.heap.size, 0, none⟩ = some v ∧ w2.frozen? ⟨W0.heap.size, 0, none⟩ = false ∧ ∃ W3, w2.setCell ⟨W0.heap.size, 0, none⟩ v2 = W3 ∧ FolSt W0 Bm Bs W3 v2 (out ++ [x]) ∧ FolKeep W0.heap.size W1 W3 v v2 ∧ (∀ g, v2.ownBlock = some g → g < W3.heap.size ∧ g ≠ B1 ∧ g ≠ B1 + 1) ∧ B1 + 1 < W3.heap.size ∧ (∀ g, v.ownBlock = some g → g ≠ B1 ∧ g ≠ B1 + 1) := by
  have hzx : wx.heap.size = B1 + 1 + 1 + 1 := by rw [← hx, alloc_size, hz]
  have hBx : Below W1.heap.size W1 wx := by rw [← hx]; exact below1 _ _
  have hx1 := hst1.below hBx
  have k2 : Blk w2 W0.heap.size 48 #[v] := hx1.var.below hb (by omega)
  have k3 := hx1.fol.below hb (by omega)
  refine ⟨k2.cell 0, k2.free 0, _, rfl, ⟨?_, ?_, ?_, ?_⟩, ?_, ?_, ?_, ?_⟩
  · exact (hx1.bel.trans (hb.mono (by omega))).setCell (by simp) _
  · have := k2.set 0 v2
    simpa using this
  · exact ho.far (by show W0.heap.size < _; omega) _
  · exact k3.far (by show W0.heap.size + 1 ≠ W0.heap.size; omega) _
  · refine (((FolKeep.refl _ _ _).below hBx).trans (FolKeep.append hg hl)).trans ⟨by simp, fun k hk h1 h2 => Below.heap_setCell _ _ _ _ h1, .inl rfl⟩
  · intro g h
    refine ⟨by simpa using (ho.lt g h).2, ?_⟩
    rcases hl with h2 | h2
    · rw [h2] at h; have := hv g h; omega
    · rw [h2] at h; cases h; omega
  · have := hb.size
    have e : (w2.setCell ⟨W0.heap.size, 0, none⟩ v2).heap.size = w2.heap.size := by simp
    omega
  · intro g h
    have := hv g h
    omega
theorem rls_cells {W0 w : World} {n cap b off : Nat} {l : List RuleB} (h : Rls W0 (.slice (some ⟨b, off, none⟩) n cap) l) (hb : Below W0.heap.size W0 w) {i : Nat} (hi : i < l.length) {q : RuleB} (hq : rAt l i = q) :
    w.cell? ⟨b, off + i * 4, none⟩ = some (.int .i64 q.fr) ∧ w.cell? ⟨b, off + i * 4 + 1, none⟩ = some (.int .u8 q.top) ∧ w.cell? ⟨b, off + i * 4 + 2, none⟩ = some (.int .i64 q.to) ∧ w.cell? ⟨b, off + i * 4 + 3, none⟩ = some (.string q.put) := by
  subst hq
  obtain ⟨b', off', e, h2⟩ := Rls.at (Els.then h hb) hi
  cases e
  exact h2
theorem rls_at {W0 w : World} {A : Option Addr} {n cap : Nat} {l : List RuleB} (h : Rls W0 (.slice A n cap) l) (hb : Below W0.heap.size W0 w) {i : Nat} (hi : i < l.length) : i < n ∧ ∃ b off, A = some ⟨b, off, none⟩ ∧
    w.cell? ⟨b, off + i * 4, none⟩ = some (.int .i64 (rAt l i).fr) ∧ w.cell? ⟨b, off + i * 4 + 1, none⟩ = some (.int .u8 (rAt l i).top) ∧ w.cell? ⟨b, off + i * 4 + 2, none⟩ = some (.int .i64 (rAt l i).to) ∧ w.cell? ⟨b, off + i * 4 + 3, none⟩ = some (.string (rAt l i).put) := by
  have h2 := Rls.at (Els.then h hb) hi
  exact ⟨by rw [(Els.len h).1]; exact hi, h2⟩

set_option maxHeartbeats 4000000 in
theorem follow_all (W0 : World) (Bm Bs b : Nat) (L : List (Key × Cost)) (A : Option Addr) (n cap : Nat) (l : List RuleB) (B : Int → Int → Int → Prop) (he : FolEnv W0 Bm Bs b L A n cap l) (hI : Inv (l.map RuleB.plain) B (cget L)) :
    ∀ (N : Nat) (k1 k2 k3 : Int) (c : Cost) (w : World) (v : Value) (out : List Int), cget L (k1, k2, k3) = some c → c.steps < N → N ≤ 1001 → FolSt W0 Bm Bs w v out → out.length + c.steps ≤ 2000 →
      Calls Tryd.prog 36 #[mv (k1, k2, k3), .pointer (some ⟨Bm, 0, none⟩), .pointer (some ⟨W0.heap.size, 0, none⟩), .pointer (some ⟨Bs, 0, none⟩), .pointer (some ⟨W0.heap.size + 1, 0, none⟩)] w (FolPost W0 Bm Bs l B (k1, k2, k3) w v out c.steps) := by
  intro N
  induction N with
  | zero =>
    intro k1 k2 k3 c w v out hk hcN
    have hcost := hI.cost _ _ hk
    omega
  | succ N ih =>
    intro k1 k2 k3 c w v out hk hcN hN hst hlen
    have hw := fwhy hI hk (by omega)
    have hcost := hI.cost _ _ hk
    replace ih := Lib.hid ih
    obtain ⟨s, r, m⟩ := c
    dsimp only at hcN hlen hcost
    have hBm := lt_of_cell he.m
    have hBs := lt_of_cell he.s
    have hb := AMap.lt he.map
    dsimp only at hBm hBs
    obtain ⟨W, hW⟩ : ∃ W, (w.alloc (.cells #[.int .i64 k1, .int .u8 k2, .int .i64 k3] 94)) = W := ⟨_, rfl⟩
    have hB1 : Below w.heap.size w W := by rw [← hW]; exact below1 _ _
    have hzW : W.heap.size = w.heap.size + 1 := by rw [← hW, alloc_size]
    have kK : Blk W w.heap.size 94 #[.int .i64 k1, .int .u8 k2, .int .i64 k3] := by rw [← hW]; exact Blk.new _ _ _
    have hz0 : W0.heap.size + 1 < w.heap.size := hst.fol.lt
    have hmW : MMap W b L := AMap.below (AMap.below he.map hst.bel hb) hB1 (by omega)
    have c0 : W.cell? ⟨Bm, 0, none⟩ = some (.map (some b)) := cell_below (cell0 hst.bel he.m) hB1
    have j0 : W.cell? ⟨w.heap.size, 0, none⟩ = some (.int .i64 k1) := kK.cell 0
    have j1 : W.cell? ⟨w.heap.size, 1, none⟩ = some (.int .u8 k2) := kK.cell 1
    have j2 : W.cell? ⟨w.heap.size, 2, none⟩ = some (.int .i64 k3) := kK.cell 2
    obtain ⟨W1, hW1⟩ : ∃ W1, W.alloc (.cells #[.int .i64 s, .int .i64 r, .int .i64 m] 96) = W1 := ⟨_, rfl⟩
    have hB2 : Below w.heap.size w W1 := by rw [← hW1]; exact bthen hB1 (below1 _ _)
    have hzW1 : W1.heap.size = w.heap.size + 1 + 1 := by rw [← hW1, alloc_size, hzW]
    have kC : Blk W1 (w.heap.size + 1) 96 #[.int .i64 s, .int .i64 r, .int .i64 m] := by rw [← hW1, ← hzW]; exact Blk.new _ _ _
    have kK1 : Blk W1 w.heap.size 94 #[.int .i64 k1, .int .u8 k2, .int .i64 k3] := by rw [← hW1]; exact kK.alloc _
    have hst1 : FolSt W0 Bm Bs W1 v out := hst.below hB2
    have hkeep1 : FolKeep W0.heap.size w W1 v v := (FolKeep.refl _ _ _).below hB2
    have e1 : W1.cell? ⟨w.heap.size + 1, 1, none⟩ = some (.int .i64 r) := kC.cell 1
    have hkL : (aget (cval L) (k1, k2, k3)).getD (costV ⟨0, 0, 0⟩) = costV ⟨s, r, m⟩ := by rw [aget_cval, hk]; rfl
    have hvo : ∀ g, v.ownBlock = some g → g < w.heap.size := fun g h => (hst.own.lt g h).2
    have hDw := hI.why _ _ hk
    obtain ⟨Av, nv, cv', rfl, hnv⟩ := OwnE.shape hst1.own
    have e2 : W1.cell? ⟨W0.heap.size, 0, none⟩ = some (.slice Av nv cv') := hst1.var.cell 0
    replace hst1 := Lib.hid hst1
    replace hkeep1 := Lib.hid hkeep1
    replace hkL := Lib.hid hkL
    replace hmW := Lib.hid hmW
    replace hvo := Lib.hid hvo
    replace kC := Lib.hid kC
    replace kK1 := Lib.hid kK1
    clear hk hst kK
    cases hw with
    | base hr =>
      dsimp only at hr
      subst hr
      have hD : s = 0 ∧ B k1 k2 k3 := by
        rcases hDw with ⟨_, h1, h2⟩ | ⟨i, _, _, h1, _⟩
        · exact ⟨h2, h1⟩
        · dsimp only at h1; omega
      have hres : FolPost W0 Bm Bs l B (k1, k2, k3) w (.slice Av nv cv') out s (.returned (.tuple #[])) W1 := ⟨rfl, _, [], by simpa using hst1.out, .base hD.2, by simp; omega, hkeep1.out⟩
      replace hres := Lib.hid hres
      clear hD hst1 hkeep1 kK1 kC hI he ih hDw
      go_enter Tryd.func36, Tryd.ntmps36
      go_wp2_with (at_lookup; refine wpList_lookup_a _ rfl (.tmp 8) (.tmp 9) 70 rfl 94 96 key94 Tryd.underlying70 (zero96 _) rfl hmW.out (k1, k2, k3) rfl _ hkL.out ?_)
      go_end0
      exact hres.out
    | pop i hi hr hf ht hp hq h1 =>
      dsimp only at hq
      dsimp only at hr
      subst hr
      have hnotneg : ¬ (i : Int) < 0 := by omega
      have hd := Lib.hid (FWhy.d (B := B) (k := (k1, k2, k3)) hi hf ht)
      obtain ⟨hin, br, offr, rfl, hcells⟩ := rls_at (w := W1) he.rls hst1.out.bel hi
      replace hcells := Lib.hid hcells
      have hrlsz : br < W0.heap.size := by
        obtain ⟨_, b', off', e, h0, _⟩ := rls_at (w := W0) he.rls (Below.refl _ _) hi
        cases e
        exact lt_of_cell h0
      have hs1 : W1.cell? ⟨Bs, 1, none⟩ = some (.slice (some ⟨br, offr, none⟩) n cap) := cell0 hst1.out.bel he.s
      replace he := Lib.hid he
      replace hI := Lib.hid hI
      generalize hrr : rAt l i = q at *
      replace hrr := Lib.hid hrr
      obtain ⟨fr, tp, to, p⟩ := q
      dsimp only at hcells hp
      clear hf ht hDw
      obtain ⟨wx, hwx⟩ : ∃ wx, W1.alloc (.cells #[.int .i64 (i : Int)] 3) = wx := ⟨_, rfl⟩
      have hEl := Lib.hid (show Els ElI wx (.slice (some ⟨w.heap.size + 1 + 1, 0, none⟩) 1 1) [(i : Int)] by rw [← hwx, ← hzW1]; exact els_one (E := ElI) (Blk.new W1 3 #[.int .i64 (i : Int)]) rfl)
      have hOx := Lib.hid (show OwnE ElI 3 (W0.heap.size + 2) wx (.slice Av nv cv') out by rw [← hwx]; exact hst1.out.own.then (below1 _ _))
      have hzx := Lib.hid (show W0.heap.size + 2 ≤ wx.heap.size by rw [← hwx, alloc_size]; omega)
      replace hq := Lib.hid hq
      have g1 : ((p.size : Int) == 1) = false := by rw [hp]; rfl
      have g2 : ((p.size : Int) == 2) = false := by rw [hp]; rfl
      replace hp := Lib.hid hp
      go_enter Tryd.func36, Tryd.ntmps36
      go_wp2_with (first
        | (at_lookup; refine wpList_lookup_a _ rfl (.tmp 8) (.tmp 9) 70 rfl 94 96 key94 Tryd.underlying70 (zero96 _) rfl hmW.out (k1, k2, k3) rfl _ hkL.out ?_)
        | (at_builtin; refine wpList_append_els (E := ElI) _ rfl (.tmp 14) (.tmp 17) 48 rfl (W0.heap.size + 2) Tryd.underlying48 info3 rfl rfl (by decide) _ out rfl hOx.out _ rfl [(i : Int)] hEl.out (by simp; omega) hzx.out ?_; intro v2 w2 ho2 hb2 hg2 hl2; obtain ⟨m1, m2, W3, hW3, hst3, hkeep3, hne3, hz3, hne1⟩ := fol_mid hst1.out hzW1 hvo.out hz0 hwx ho2 hb2 hg2 hl2; clear ho2 hb2 hg2 hl2; obtain ⟨A2, n2, cap2, rfl, hn2⟩ := OwnE.shape hst3.own; have q1 := hkeep3.cell e1 (by simp; omega) (fun e => (hne1 _ e).2 rfl); have q2 := cell0 hst3.bel he.out.s; obtain ⟨x0, x1, x2, x3⟩ := rls_cells (w := W3) he.out.rls hst3.bel hi hrr.out; replace hst3 := Lib.hid hst3; replace hkeep3 := Lib.hid hkeep3; replace hne3 := Lib.hid hne3; replace hne1 := Lib.hid hne1))
      go_end0
      have hB4 := below1 W3 (.cells #[.int .i64 fr, .int .u8 tp, .int .i64 to, .string p] 63)
      exact ⟨rfl, _, [i], by simpa using hst3.out.below hB4, hd.out.1 hp.out hq.out, by simp; omega, (hkeep1.out.trans hkeep3.out).below hB4⟩
    | one i hi hr hf ht hp c1 h1 hs =>
      dsimp only at hr
      subst hr
      have hnotneg : ¬ (i : Int) < 0 := by omega
      have hd := Lib.hid (FWhy.d (B := B) (k := (k1, k2, k3)) hi hf ht)
      obtain ⟨hin, br, offr, rfl, hcells⟩ := rls_at (w := W1) he.rls hst1.out.bel hi
      replace hcells := Lib.hid hcells
      have hrlsz : br < W0.heap.size := by
        obtain ⟨_, b', off', e, h0, _⟩ := rls_at (w := W0) he.rls (Below.refl _ _) hi
        cases e
        exact lt_of_cell h0
      have hs1 : W1.cell? ⟨Bs, 1, none⟩ = some (.slice (some ⟨br, offr, none⟩) n cap) := cell0 hst1.out.bel he.s
      replace he := Lib.hid he
      replace hI := Lib.hid hI
      generalize hrr : rAt l i = q at *
      replace hrr := Lib.hid hrr
      obtain ⟨fr, tp, to, p⟩ := q
      dsimp only at hcells hp
      clear hf ht hDw
      obtain ⟨wx, hwx⟩ : ∃ wx, W1.alloc (.cells #[.int .i64 (i : Int)] 3) = wx := ⟨_, rfl⟩
      have hEl := Lib.hid (show Els ElI wx (.slice (some ⟨w.heap.size + 1 + 1, 0, none⟩) 1 1) [(i : Int)] by rw [← hwx, ← hzW1]; exact els_one (E := ElI) (Blk.new W1 3 #[.int .i64 (i : Int)]) rfl)
      have hOx := Lib.hid (show OwnE ElI 3 (W0.heap.size + 2) wx (.slice Av nv cv') out by rw [← hwx]; exact hst1.out.own.then (below1 _ _))
      have hzx := Lib.hid (show W0.heap.size + 2 ≤ wx.heap.size by rw [← hwx, alloc_size]; omega)
      have g1 : ((p.size : Int) == 1) = true := by rw [hp]; rfl
      have g2 : ((p.size : Int) == 2) = false := by rw [hp]; rfl
      have hz0p : 0 < p.size := by omega
      have hch := (ch_eq hz0p).symm
      replace hp := Lib.hid hp
      go_enter Tryd.func36, Tryd.ntmps36
      go_wp2_with (first
        | (at_lookup; refine wpList_lookup_a _ rfl (.tmp 8) (.tmp 9) 70 rfl 94 96 key94 Tryd.underlying70 (zero96 _) rfl hmW.out (k1, k2, k3) rfl _ hkL.out ?_)
        | (at_builtin; refine wpList_append_els (E := ElI) _ rfl (.tmp 14) (.tmp 17) 48 rfl (W0.heap.size + 2) Tryd.underlying48 info3 rfl rfl (by decide) _ out rfl hOx.out _ rfl [(i : Int)] hEl.out (by simp; omega) hzx.out ?_; intro v2 w2 ho2 hb2 hg2 hl2; obtain ⟨m1, m2, W3, hW3, hst3, hkeep3, hne3, hz3, hne1⟩ := fol_mid hst1.out hzW1 hvo.out hz0 hwx ho2 hb2 hg2 hl2; clear ho2 hb2 hg2 hl2; obtain ⟨A2, n2, cap2, rfl, hn2⟩ := OwnE.shape hst3.own; have q1 := hkeep3.cell e1 (by simp; omega) (fun e => (hne1 _ e).2 rfl); have q2 := cell0 hst3.bel he.out.s; obtain ⟨x0, x1, x2, x3⟩ := rls_cells (w := W3) he.out.rls hst3.bel hi hrr.out; replace hst3 := Lib.hid hst3; replace hkeep3 := Lib.hid hkeep3; replace hne3 := Lib.hid hne3; replace hne1 := Lib.hid hne1))
      obtain ⟨W4, hW4⟩ : ∃ W4, W3.alloc (.cells #[.int .i64 fr, .int .u8 tp, .int .i64 to, .string p] 63) = W4 := ⟨_, rfl⟩
      have hB4 : Below W3.heap.size W3 W4 := by rw [← hW4]; exact below1 _ _
      have kR : Blk W4 W3.heap.size 63 #[.int .i64 fr, .int .u8 tp, .int .i64 to, .string p] := by rw [← hW4]; exact Blk.new _ _ _
      rw [hW4]
      clear hW4 x0 x1 x2 x3 q1 q2 m1 m2
      have hst4 := hst3.out.below hB4
      have hkeep4 := hkeep3.out.below hB4
      have kK4 := hkeep4.blk kK1.out (by omega) (fun e => (hne1.out _ e).1 rfl)
      have kC4 := hkeep4.blk kC.out (by omega) (fun e => (hne1.out _ e).2 rfl)
      have g3 : ∀ g : Gr W4, g.w1.cell? ⟨W0.heap.size + 1, 0, none⟩ = some (folV Bm W0.heap.size Bs (W0.heap.size + 1)) := fun g => g.cell (hst4.fol.cell 0)
      have g4 : ∀ g : Gr W4, g.w1.cell? ⟨W3.heap.size, 2, none⟩ = some (.int .i64 to) := fun g => g.cell (kR.cell 2)
      have g5 : ∀ g : Gr W4, g.w1.cell? ⟨W3.heap.size, 3, none⟩ = some (.string p) := fun g => g.cell (kR.cell 3)
      have g6 : ∀ g : Gr W4, g.w1.cell? ⟨w.heap.size, 2, none⟩ = some (.int .i64 k3) := fun g => g.cell (kK4.cell 2)
      have g7 : ∀ g : Gr W4, g.w1.cell? ⟨w.heap.size + 1, 2, none⟩ = some (.int .i64 m) := fun g => g.cell (kC4.cell 2)
      replace kK4 := Lib.hid kK4
      replace kC4 := Lib.hid kC4
      replace kR := Lib.hid kR
      replace hst4 := Lib.hid hst4
      replace hkeep4 := Lib.hid hkeep4
      refine wp_region_growtail 10 (by kernel_rfl) (by kernel_rfl) ?_
      simp only [List.take_succ_cons, List.take_zero, List.drop_succ_cons, List.drop_zero]
      repeat (go_big_quiet_step (fail))
      refine wpQuiet_nil ?_
      rintro _ ⟨g, rfl⟩
      clear g3 g4 g5 g6 g7
      have hc1z := hI.out.cost _ _ h1
      have hcall := Lib.hid (ih.out _ _ _ c1 g.w1 _ _ h1 (by omega) (by omega) (hst4.out.below g.h) (by simp; omega))
      go_wp2_with (go_at_call 36; refine hcall.out.mono ?_; rintro e w5 ⟨rfl, v5, rs, hst5, hd5, hl5, hkeep5⟩; replace hst5 := Lib.hid hst5; replace hd5 := Lib.hid hd5; replace hl5 := Lib.hid hl5; replace hkeep5 := Lib.hid hkeep5)
      go_end0
      refine ⟨rfl, v5, i :: rs, ?_, hd.out.2.1 hp.out rs hd5.out, ?_, hkeep1.out.trans ((hkeep4.out.below g.h).trans hkeep5.out)⟩
      · simpa using hst5.out
      · have := hl5.out
        simp only [List.length_cons]
        omega
    | two i hi hr hf ht hp c1 c2 h1 h2 hs =>
      dsimp only at hr
      subst hr
      have hnotneg : ¬ (i : Int) < 0 := by omega
      have hd := Lib.hid (FWhy.d (B := B) (k := (k1, k2, k3)) hi hf ht)
      obtain ⟨hin, br, offr, rfl, hcells⟩ := rls_at (w := W1) he.rls hst1.out.bel hi
      replace hcells := Lib.hid hcells
      have hrlsz : br < W0.heap.size := by
        obtain ⟨_, b', off', e, h0, _⟩ := rls_at (w := W0) he.rls (Below.refl _ _) hi
        cases e
        exact lt_of_cell h0
      have hs1 : W1.cell? ⟨Bs, 1, none⟩ = some (.slice (some ⟨br, offr, none⟩) n cap) := cell0 hst1.out.bel he.s
      replace he := Lib.hid he
      replace hI := Lib.hid hI
      generalize hrr : rAt l i = q at *
      replace hrr := Lib.hid hrr
      obtain ⟨fr, tp, to, p⟩ := q
      dsimp only at hcells hp
      clear hf ht hDw
      obtain ⟨wx, hwx⟩ : ∃ wx, W1.alloc (.cells #[.int .i64 (i : Int)] 3) = wx := ⟨_, rfl⟩
      have hEl := Lib.hid (show Els ElI wx (.slice (some ⟨w.heap.size + 1 + 1, 0, none⟩) 1 1) [(i : Int)] by rw [← hwx, ← hzW1]; exact els_one (E := ElI) (Blk.new W1 3 #[.int .i64 (i : Int)]) rfl)
      have hOx := Lib.hid (show OwnE ElI 3 (W0.heap.size + 2) wx (.slice Av nv cv') out by rw [← hwx]; exact hst1.out.own.then (below1 _ _))
      have hzx := Lib.hid (show W0.heap.size + 2 ≤ wx.heap.size by rw [← hwx, alloc_size]; omega)
      have g1 : ((p.size : Int) == 1) = false := by rw [hp]; rfl
      have g2 : ((p.size : Int) == 2) = true := by rw [hp]; rfl
      have hz0p : 0 < p.size := by omega
      have hch := (ch_eq hz0p).symm
      have hz1p : 1 < p.size := by omega
      have hch1 := (ch_eq hz1p).symm
      replace hp := Lib.hid hp
      go_enter Tryd.func36, Tryd.ntmps36
      go_wp2_with (first
        | (at_lookup; refine wpList_lookup_a _ rfl (.tmp 8) (.tmp 9) 70 rfl 94 96 key94 Tryd.underlying70 (zero96 _) rfl hmW.out (k1, k2, k3) rfl _ hkL.out ?_)
        | (at_builtin; refine wpList_append_els (E := ElI) _ rfl (.tmp 14) (.tmp 17) 48 rfl (W0.heap.size + 2) Tryd.underlying48 info3 rfl rfl (by decide) _ out rfl hOx.out _ rfl [(i : Int)] hEl.out (by simp; omega) hzx.out ?_; intro v2 w2 ho2 hb2 hg2 hl2; obtain ⟨m1, m2, W3, hW3, hst3, hkeep3, hne3, hz3, hne1⟩ := fol_mid hst1.out hzW1 hvo.out hz0 hwx ho2 hb2 hg2 hl2; clear ho2 hb2 hg2 hl2; obtain ⟨A2, n2, cap2, rfl, hn2⟩ := OwnE.shape hst3.own; have q1 := hkeep3.cell e1 (by simp; omega) (fun e => (hne1 _ e).2 rfl); have q2 := cell0 hst3.bel he.out.s; obtain ⟨x0, x1, x2, x3⟩ := rls_cells (w := W3) he.out.rls hst3.bel hi hrr.out; replace hst3 := Lib.hid hst3; replace hkeep3 := Lib.hid hkeep3; replace hne3 := Lib.hid hne3; replace hne1 := Lib.hid hne1))
      obtain ⟨W4, hW4⟩ : ∃ W4, W3.alloc (.cells #[.int .i64 fr, .int .u8 tp, .int .i64 to, .string p] 63) = W4 := ⟨_, rfl⟩
      have hB4 : Below W3.heap.size W3 W4 := by rw [← hW4]; exact below1 _ _
      have kR : Blk W4 W3.heap.size 63 #[.int .i64 fr, .int .u8 tp, .int .i64 to, .string p] := by rw [← hW4]; exact Blk.new _ _ _
      rw [hW4]
      clear hW4 x0 x1 x2 x3 q1 q2 m1 m2
      have hst4 := hst3.out.below hB4
      have hkeep4 := hkeep3.out.below hB4
      have kK4 := hkeep4.blk kK1.out (by omega) (fun e => (hne1.out _ e).1 rfl)
      have kC4 := hkeep4.blk kC.out (by omega) (fun e => (hne1.out _ e).2 rfl)
      have g3 : ∀ g : Gr W4, g.w1.cell? ⟨W0.heap.size + 1, 0, none⟩ = some (folV Bm W0.heap.size Bs (W0.heap.size + 1)) := fun g => g.cell (hst4.fol.cell 0)
      have g4 : ∀ g : Gr W4, g.w1.cell? ⟨W3.heap.size, 2, none⟩ = some (.int .i64 to) := fun g => g.cell (kR.cell 2)
      have g5 : ∀ g : Gr W4, g.w1.cell? ⟨W3.heap.size, 3, none⟩ = some (.string p) := fun g => g.cell (kR.cell 3)
      have g6 : ∀ g : Gr W4, g.w1.cell? ⟨w.heap.size, 2, none⟩ = some (.int .i64 k3) := fun g => g.cell (kK4.cell 2)
      have g7 : ∀ g : Gr W4, g.w1.cell? ⟨w.heap.size + 1, 2, none⟩ = some (.int .i64 m) := fun g => g.cell (kC4.cell 2)
      replace kK4 := Lib.hid kK4
      replace kC4 := Lib.hid kC4
      replace kR := Lib.hid kR
      replace hst4 := Lib.hid hst4
      replace hkeep4 := Lib.hid hkeep4
      refine wp_region_growtail 10 (by kernel_rfl) (by kernel_rfl) ?_
      simp only [List.take_succ_cons, List.take_zero, List.drop_succ_cons, List.drop_zero]
      repeat (go_big_quiet_step (fail))
      refine wpQuiet_nil ?_
      rintro _ ⟨g, rfl⟩
      clear g3 g4 g5 g6 g7
      have hc2z := hI.out.cost _ _ h2
      have hc1z := hI.out.cost _ _ h1
      have hcall := Lib.hid (ih.out _ _ _ c1 g.w1 _ _ h1 (by omega) (by omega) (hst4.out.below g.h) (by simp; omega))

      go_wp2_with (go_at_call 36; refine hcall.out.mono ?_; rintro e w5 ⟨rfl, v5, rs, hst5, hd5, hl5, hkeep5⟩; replace hst5 := Lib.hid hst5; replace hd5 := Lib.hid hd5; replace hl5 := Lib.hid hl5; replace hkeep5 := Lib.hid hkeep5)
      have kK5 := hkeep5.out.blk (kK4.out.below g.h kK4.out.lt) (by omega) (fun e => (hne3.out _ e).2.1 rfl)
      have kC5 := hkeep5.out.blk (kC4.out.below g.h kC4.out.lt) (by omega) (fun e => (hne3.out _ e).2.2 rfl)
      have kR5 := hkeep5.out.blk (kR.out.below g.h kR.out.lt) (by omega) (fun e => absurd (hne3.out _ e).1 (by omega))
      have g3 : ∀ g : Gr w5, g.w1.cell? ⟨W0.heap.size + 1, 0, none⟩ = some (folV Bm W0.heap.size Bs (W0.heap.size + 1)) := fun g => g.cell (hst5.out.fol.cell 0)
      have g5 : ∀ g : Gr w5, g.w1.cell? ⟨W3.heap.size, 3, none⟩ = some (.string p) := fun g => g.cell (kR5.cell 3)
      have g6 : ∀ g : Gr w5, g.w1.cell? ⟨w.heap.size, 2, none⟩ = some (.int .i64 k3) := fun g => g.cell (kK5.cell 2)
      have g7 : ∀ g : Gr w5, g.w1.cell? ⟨w.heap.size + 1, 2, none⟩ = some (.int .i64 m) := fun g => g.cell (kC5.cell 2)
      clear kK5 kC5 kR5
      have hkk := Lib.hid (hkeep1.out.trans ((hkeep4.out.below g.h).trans hkeep5.out))
      clear hcall
      refine wp_region_growtail 10 (by kernel_rfl) (by kernel_rfl) ?_
      simp only [List.take_succ_cons, List.take_zero, List.drop_succ_cons, List.drop_zero]
      repeat (go_big_quiet_step (fail))
      refine wpQuiet_nil ?_
      rintro _ ⟨g9, rfl⟩
      clear g3 g5 g6 g7
      have hl5' := hl5.out
      have hcall := Lib.hid (ih.out _ _ _ c2 g9.w1 _ _ h2 (by omega) (by omega) (hst5.out.below g9.h) (by simp; omega))
      go_wp2_with (go_at_call 36; refine hcall.out.mono ?_; rintro e w6 ⟨rfl, v6, rs6, hst6, hd6, hl6, hkeep6⟩; replace hst6 := Lib.hid hst6; replace hd6 := Lib.hid hd6; replace hl6 := Lib.hid hl6; replace hkeep6 := Lib.hid hkeep6)
      go_end0
      refine ⟨rfl, v6, i :: (rs ++ rs6), ?_, hd.out.2.2 hp.out m rs rs6 hd5.out hd6.out, ?_, (hkk.out.below g9.h).trans hkeep6.out⟩
      · simpa using hst6.out
      · have := hl6.out
        simp only [List.length_cons, List.length_append]
        omega
end Go.Proofs.YtaapnflhjbdmlaaDoor
