/- slices.SortFunc at moves: a permutation, in order. No condition. moves.acceptor: the acceptor with a table's moves, in order. No condition. -/
import Derived.Test.YtaapnflhjbdmlaaGreatDoorZU
import Derived.Test.YtaapnflhjbdmlaaGreatDoorZ7
import Derived.Shelf.SlSortCmp.WholeK
import Derived.Shelf.SlSortCmp.NoneTotal
namespace Go.Proofs.YtaapnflhjbdmlaaGreatDoor
section
open Go.RowKit Go.Shelf
attribute [local go_sem] Oper.semAt_some

theorem lexLt_iff {a b : Mi} : lexLt a b = true ↔ a.1 < b.1 ∨ a.1 = b.1 ∧ (a.2.1 < b.2.1 ∨ a.2.1 = b.2.1 ∧ a.2.2 < b.2.2) := by
  unfold lexLt
  simp only [Bool.or_eq_true, Bool.and_eq_true, decide_eq_true_eq]
theorem cfM_neg {a b : Mi} : cfM a b < 0 ↔ lexLt a b = true := by
  unfold cfM
  cases h1 : lexLt a b with
  | true => simp
  | false => cases h2 : lexLt b a <;> simp
theorem swoM : Go.Sort.SWO (ltOf cfM) := by
  have e : ∀ x y, ltOf cfM x y = lexLt x y := fun x y => by
    unfold ltOf
    cases h : lexLt x y with
    | true => simpa using cfM_neg.2 h
    | false =>
      have : ¬ cfM x y < 0 := fun h2 => by rw [cfM_neg.1 h2] at h; cases h
      simpa using this
  refine ⟨fun x => ?_, fun x y z h1 h2 => ?_, fun x y z h1 h2 => ?_⟩
  · rw [e, Bool.eq_false_iff]; intro h; have := lexLt_iff.1 h; omega
  · rw [e] at *; have a := lexLt_iff.1 h1; have b := lexLt_iff.1 h2; exact lexLt_iff.2 (by omega)
  · rw [e, Bool.eq_false_iff] at *
    intro h
    have h3 := lexLt_iff.1 h
    have a : ¬ (x.1 < y.1 ∨ x.1 = y.1 ∧ (x.2.1 < y.2.1 ∨ x.2.1 = y.2.1 ∧ x.2.2 < y.2.2)) := fun h => h1 (lexLt_iff.2 h)
    have b : ¬ (y.1 < z.1 ∨ y.1 = z.1 ∧ (y.2.1 < z.2.1 ∨ y.2.1 = z.2.1 ∧ y.2.2 < z.2.2)) := fun h => h2 (lexLt_iff.2 h)
    omega

set_option maxHeartbeats 4000000 in
theorem clo61_any (W : World) (x y : Mi) : Calls Tryz.prog 61 #[mvV x, mvV y] W fun e w' => e = .returned (.int .i64 (cfM x y)) ∧ ∃ q os', w' = Go.Sort.grow (W.drewN q) os' := by
  obtain ⟨X, hX⟩ : ∃ X, (W.alloc (.cells #[.int .i64 x.1, .int .i64 x.2.1, .int .i64 x.2.2] 78)).alloc (.cells #[.int .i64 y.1, .int .i64 y.2.1, .int .i64 y.2.2] 78) = X := ⟨_, rfl⟩
  have k2 := show Blk X W.heap.size 78 #[.int .i64 x.1, .int .i64 x.2.1, .int .i64 x.2.2] by rw [← hX]; exact (Blk.new W 78 _).alloc _
  have k3 := show Blk X (W.heap.size + 1) 78 #[.int .i64 y.1, .int .i64 y.2.1, .int .i64 y.2.2] by rw [← hX]; have := Blk.new (W.alloc (.cells #[.int .i64 x.1, .int .i64 x.2.1, .int .i64 x.2.2] 78)) 78 #[.int .i64 y.1, .int .i64 y.2.1, .int .i64 y.2.2]; rw [alloc_size] at this; exact this
  have hc := fun n => Lib.hid (Compare_same (X.drewN n) W.heap.size (W.heap.size + 1) x y (fun j hj => mv_cell (k2.drewN n) hj) (fun j hj => mv_cell (k3.drewN n) hj))
  have hgr : ∀ n, X.drewN n = Go.Sort.grow (W.drewN n) (#[Obj.cells #[.int .i64 x.1, .int .i64 x.2.1, .int .i64 x.2.2] 78] ++ #[Obj.cells #[.int .i64 y.1, .int .i64 y.2.1, .int .i64 y.2.2] 78]) := fun n => by
    rw [← hX, Go.Sort.alloc_eq_grow, Go.Sort.alloc_eq_grow, Go.Sort.grow_grow]
    rfl
  replace hgr := Lib.hid hgr
  generalize cfM x y = r at *
  clear k2 k3
  go_enter Tryz.func61, Tryz.ntmps61
  go_wp2
  go_quiet ((go_at_call 62; exact Calls.quiet_of_same (hc _).out))
  go_wp2
  go_ret
  exact ⟨rfl, _, _, hgr.out _⟩

open Go.Sort in
/-- the cells of a row of moves -/
theorem flatM (d : Array Mi) : (flatK ElZ.enc 3 d).toList = flatE ElZ d.toList := by
  have hl : (flatK ElZ.enc 3 d).toList.length = (flatE ElZ d.toList).length := by
    rw [flatE_length]
    simp [ElZ]
  refine List.ext_getElem hl fun t h1 h2 => ?_
  have ht : t < d.size * 3 := by simpa using h1
  have hi : t / 3 < d.size := by omega
  have hj : t % 3 < 3 := Nat.mod_lt _ (by decide)
  have e1 := get_flatK ElZ.enc 3 d t ht
  rw [getElem!_pos _ t (by simpa using ht), getElem!_pos d (t / 3) hi] at e1
  have hlen : (ElZ.enc d[t / 3]).length = 3 := rfl
  rw [getElem!_pos _ (t % 3) (by rw [hlen]; exact hj)] at e1
  have e2 := flatE_get ElZ d.toList (t / 3) (by simpa using hi) (t % 3) ((ElZ.enc d[t / 3])[t % 3]'(by rw [hlen]; exact hj)) (by
    rw [Array.getElem_toList]
    exact List.getElem?_eq_getElem _)
  have e3 : t / 3 * ElZ.k + t % 3 = t := by show t / 3 * 3 + t % 3 = t; omega
  rw [e3, List.getElem?_eq_getElem h2] at e2
  rw [Array.getElem_toList, e1]
  exact (Option.some.inj e2).symm

open Go.Sort in
theorem sortM_any (w : World) (v : Value) (ms : List Mi) (lo : Nat) (h : OwnE ElZ 78 lo w v ms) (hlen : ms.length ≤ 1000000) :
    Calls Tryz.prog 60 #[v, .func (.func 61) #[] #[]] w fun e w' => e = .returned (.tuple #[]) ∧ ∃ ms' : List Mi, ms'.Perm ms ∧ ms'.Pairwise (fun a b => lexLt b a = false) ∧ OwnE ElZ 78 lo w' v ms' ∧ BX v.ownBlock.toList w w' := by
  letI : Inhabited Mi := ⟨(0, 0, 0)⟩
  obtain ⟨hfl, h2 | ⟨g, cap, cur, hv, hlo, hg, hnc, hcm, hcs, hct⟩⟩ := h
  · obtain ⟨rfl, h0⟩ := h2
    have hz : ms = [] := List.eq_nil_of_length_eq_zero h0
    subst hz
    refine (show Calls Tryz.prog 60 #[.slice none 0 0, .func (.func 61) #[] #[]] w _ from AnyF.slices_SortFunc_none Tryz.sortM none 0 _ w).mono ?_
    rintro e w' ⟨rfl, rfl⟩
    exact ⟨rfl, [], List.Perm.refl _, List.Pairwise.nil, OwnE.nil _ _ _, rfl, rfl, rfl, Nat.le_refl _, fun _ _ _ => rfl⟩
  subst hv
  have hgw : g < w.heap.size := (Array.getElem?_eq_some_iff.1 hg).1
  have hds : ms.toArray.size = ms.length := by simp
  have hcs3 : cur.size = cap * 3 := hcs
  have hH : HoldsK ElZ.enc 3 w g 0 ms.toArray := by
    intro j hj
    have hj' : j < ms.length * 3 := by simpa using hj
    refine ⟨?_, by simp [World.frozen?, hg]⟩
    have hcell : w.cell? ⟨g, 0 + j, none⟩ = cur[j]? := by rw [Nat.zero_add]; exact cell_of_row w g j cur 78 (0, 0) hg
    rw [hcell]
    have h1 : cur.toList.take (ms.length * 3) = (flatK ElZ.enc 3 ms.toArray).toList := by rw [flatM]; exact hct
    have h2 : (cur.toList.take (ms.length * 3))[j]? = (flatK ElZ.enc 3 ms.toArray).toList[j]? := by rw [h1]
    rw [List.getElem?_take_of_lt hj', Array.getElem?_toList, Array.getElem?_toList] at h2
    rw [h2, Array.getElem?_eq_getElem (by simpa using hj'), getElem!_pos _ j (by simpa using hj')]
    rfl
  have eg : ∀ args w, (callFunc 61 args).run Tryz.prog w = .ok (.enter 61 args) w := enters_of Tryz.func61 (by kernel_rfl) rfl
  have hcon := AnyQ.slices_SortFunc Tryz.sortM 3 Tryz.isAgg78 Tryz.sizeOf78 ElZ.enc (fun _ => rfl) (fun x v hv => ElZ.one x v hv) cfM swoM 61 #[] g 0 cap ms.toArray w eg (fun _ _ _ _ x y => clo61_any _ x y) hH hgw (by rw [hds]; omega)
  rw [hds] at hcon
  refine Calls.mono (show Calls Tryz.prog 60 #[.slice (some ⟨g, 0, none⟩) ms.length cap, .func (.func 61) #[] #[]] w _ from hcon) ?_
  rintro e w' ⟨rfl, d', n, os, hp, hs, rfl⟩
  have hs' : d'.size = ms.length := by rw [hp.1, hds]
  have hpp : d'.toList.Perm ms := by
    have := hp.2.2
    have e1 : d'.extract 0 ms.length = d' := by rw [← hs']; exact Array.extract_size
    have e2 : ms.toArray.extract 0 ms.length = ms.toArray := by rw [← hds]; exact Array.extract_size
    rw [e1, e2] at this
    simpa using this
  refine ⟨rfl, d'.toList, hpp, ?_, ?_, ?_⟩
  · rw [List.pairwise_iff_getElem]
    intro i j hi hj hij
    have hi' : i < d'.size := by simpa using hi
    have hj' : j < d'.size := by simpa using hj
    have h3 := hs i j (Nat.zero_le _) hij (by omega)
    rw [getElem!_pos d' i hi', getElem!_pos d' j hj'] at h3
    rw [Array.getElem_toList, Array.getElem_toList, Bool.eq_false_iff]
    intro h4
    unfold ltOf at h3
    have := cfM_neg.2 h4
    simp [this] at h3
  · have hheap : (sortWorldK ElZ.enc 3 w g 0 n d' os).heap[g]? = some (.cells (putCells id 0 (flatK ElZ.enc 3 d') cur) 78 (0, 0)) := by
      unfold sortWorldK putRowK
      rw [heap_grow_old _ _ (by simp [putRow, mapBlock, Go.Sort.ahead]; exact hgw)]
      unfold putRow mapBlock Go.Sort.ahead
      show (w.heap.modify g _)[g]? = _
      rw [Array.getElem?_modify, if_pos rfl, hg]
      rfl
    refine ⟨by rw [flatE_length], .inr ⟨g, cap, _, by simp [hs'], hlo, hheap, by simp [hs']; exact hnc, hcm, by simp [putCells]; exact hcs, ?_⟩⟩
    rw [← flatM]
    apply List.ext_getElem
    · simp [putCells, hs', hcs3, ElZ]; omega
    · intro j h1 h2
      have hj : j < d'.size * 3 := by simpa using h2
      simp only [List.getElem_take, Array.getElem_toList, putCells, Array.getElem_mapIdx]
      rw [if_pos ⟨Nat.zero_le _, by simpa using hj⟩, Nat.sub_zero, getElem!_pos _ j (by simpa using hj)]
      rfl
  · refine ⟨rfl, rfl, rfl, ?_, fun i hi hne => ?_⟩
    · simp [sortWorldK, putRowK, grow, putRow, mapBlock, Go.Sort.ahead]
    · unfold sortWorldK putRowK
      rw [heap_grow_old _ _ (by simp [putRow, mapBlock, Go.Sort.ahead]; exact hi)]
      unfold putRow mapBlock Go.Sort.ahead
      have : i ≠ g := by
        rintro rfl
        exact hne (by simp [Value.ownBlock])
      simp [Array.getElem?_modify, Ne.symm this]
end
section
open Go.RowKit Go.Shelf
attribute [local go_sem] Oper.semAt_some

theorem flatI (l : List Int) : flatE ElI l = l.map (Value.int .i64) := by
  induction l with
  | nil => rfl
  | cons x l ih => show _ :: flatE ElI l = _; rw [ih]; rfl
theorem clone_els (w : World) (v : Value) (l : List Int) (h : Els ElI w v l) (hl : l.length ≤ 900000) :
    Calls Tryz.prog 59 #[v] w fun e w' => ∃ v', e = .returned v' ∧ OwnE ElI 3 w.heap.size w' v' l ∧ Below w.heap.size w w' := by
  obtain ⟨A, cap, rfl, h1, h2, h3, h4⟩ := h
  cases A with
  | none =>
    have h0 : l = [] := List.eq_nil_of_length_eq_zero (by have := h3 rfl; omega)
    subst h0
    refine (Tryz.slices_Clone_int_nil _ _ w).mono ?_
    rintro e w' ⟨rfl, rfl⟩
    exact ⟨_, rfl, OwnE.nil _ _ _, Below.refl _ _⟩
  | some a =>
    rcases Nat.eq_zero_or_pos l.length with h0 | h0
    · have h00 : l = [] := List.eq_nil_of_length_eq_zero h0
      subst h00
      refine (Tryz.slices_Clone_int_zero a cap w).mono ?_
      rintro e w' ⟨v', rfl, ho, _, hb⟩
      exact ⟨_, rfl, ho, hb⟩
    · obtain ⟨b, off, he, _⟩ := h4 0 h0
      cases he
      refine (Tryz.slices_Clone_int b off l.length cap l w (Nat.le_refl _) (by omega) ?_).mono ?_
      · intro j hj
        obtain ⟨b', off', he', hc⟩ := h4 j hj
        cases he'
        have := hc 0 (.int .i64 l[j]) rfl
        rw [List.getD_eq_getElem?_getD, List.getElem?_eq_getElem hj]
        simpa [ElI] using this
      · rintro e w' ⟨v', rfl, ho, _, hb⟩
        refine ⟨_, rfl, ?_, hb⟩
        rw [List.take_length, ← flatI] at ho
        exact ho

/-- a key as a move -/
def mvK (k : Key) : Mi := (k.1, k.2.1 - 97, k.2.2)

set_option maxRecDepth 8000 in
set_option maxHeartbeats 4000000 in
theorem macc_any (w : World) (b : Nat) (L : List (Key × Cost)) (n : Int) (vf : Value) (fs : List Int) (h : MMap w b L) (hf : Els ElI w vf fs) (hlen : L.length ≤ 900000) (hfl : fs.length ≤ 900000) (hk : ∀ k ∈ L.map (·.1), 97 ≤ k.2.1 ∧ k.2.1 ≤ 101) :
    Calls Tryz.prog 37 #[.map (some b), .int .i64 n, vf] w fun e w' => ∃ vm' vf' ms, e = .returned (acV n vm' vf') ∧ OwnE ElZ 78 w.heap.size w' vm' ms ∧ OwnE ElI 3 w.heap.size w' vf' fs ∧ ms.Perm ((L.map (·.1)).map mvK) ∧ ms.Pairwise (fun a b => lexLt b a = false) ∧ Below w.heap.size w w' := by
  have hbl := h.lt
  obtain ⟨Af, nf, capf, rfl, hnf⟩ := Els.shape hf
  obtain ⟨W0, hW0⟩ : ∃ W0, w.alloc (.cells #[.int .i64 0, .slice none 0 0, .slice none 0 0] 34) = W0 := ⟨_, rfl⟩
  have hB0 : Below w.heap.size w W0 := by rw [← hW0]; exact below1 _ _
  have k0 : Blk W0 w.heap.size 34 #[.int .i64 0, .slice none 0 0, .slice none 0 0] := by rw [← hW0]; exact Blk.new w 34 _
  have hcl := Lib.hid (clone_els W0 _ fs (hf.then hB0) hfl)
  have hm0 := Lib.hid (show MMap W0 b L from h.of_block (hB0.block b hbl))
  replace hB0 := Lib.hid hB0
  replace k0 := Lib.hid k0
  replace hk := Lib.hid hk
  replace hbl := Lib.hid hbl
  replace hlen := Lib.hid hlen
  clear h hf
  go_enter Tryz.func37, Tryz.ntmps37
  go_upto_region 2 with (go_at_call 59; refine hcl.out.mono ?_; rintro e w1 ⟨v1, rfl, ho1, hb1⟩; obtain ⟨A1, n1, cap1, rfl, hn1⟩ := OwnE.shape ho1; have ho1 := Lib.hid ho1; have hb1 := Lib.hid hb1)
  clear hcl hW0
  obtain ⟨W, hW⟩ : ∃ W, w1.alloc (.cells #[.int .i64 n, .slice none 0 0, .slice A1 n1 cap1] 34) = W := ⟨_, rfl⟩
  have hBW : Below w1.heap.size w1 W := by rw [← hW]; exact below1 _ _
  have kO : Blk W w1.heap.size 34 #[.int .i64 n, .slice none 0 0, .slice A1 n1 cap1] := by rw [← hW]; exact Blk.new _ _ _
  have hB1 := Lib.hid (bthen (bthen hB0.out hb1.out) hBW)
  have k1 := Lib.hid ((k0.out.below hb1.out k0.out.lt).below hBW (k0.out.below hb1.out k0.out.lt).lt)
  have hm1 := Lib.hid (show MMap W b L from (hm0.out.of_block (hb1.out.block b hm0.out.lt)).of_block (hBW.block b (by have := hb1.out.size; have := hm0.out.lt; omega)))
  have ho2 := Lib.hid (ho1.out.then hBW)
  have hof := Lib.hid (show ∀ g, (Value.slice A1 n1 cap1).ownBlock = some g → g < w1.heap.size from fun g hg => (ho1.out.lt g hg).2)
  have k0lt := Lib.hid (show w.heap.size < W0.heap.size from k0.out.lt)
  have hbr : w.heap.size < w1.heap.size := by have := k0.out.lt; have := hb1.out.size; omega
  obtain ⟨Bo, hBo⟩ : ∃ Bo, w1.heap.size = Bo := ⟨_, rfl⟩
  rw [hW]
  rw [hBo] at hof kO hbr ⊢
  have hsW : W.heap.size = Bo + 1 := by rw [← hW, alloc_size, hBo]
  replace kO := Lib.hid kO
  clear hW hBW hm0 hB0 ho1 k0 hBo hb1 hn1
  go_wp2_with (at_range; refine wpList_range_a _ rfl (.tmp 13) 81 rfl 104 106 Tryz.underlying81 rfl hm1.out ?_; intro w2 hit hg2 hs2; replace hit := Lib.hid hit; replace hg2 := Lib.hid hg2; replace hs2 := Lib.hid hs2)
  have hBx := Lib.hid (show BX [Bo] W w2 from BX.of_below (below_of_grown hg2.out (Nat.le_refl _) (by intro k e; cases e)))
  have kO2 := Lib.hid (show Blk w2 Bo 34 #[.int .i64 n, .slice none 0 0, .slice A1 n1 cap1] from (hg2.out.block Bo kO.out.lt (by simp)).trans kO.out)
  obtain ⟨rI, hrI⟩ : ∃ rI, W.heap.size = rI := ⟨_, rfl⟩
  rw [hrI] at hit ⊢
  clear kO
  go_frame
  go_loopw [16] (fun _ wr => ∃ (left : List (Key × Value)) (K : List Key) (Am : Option Addr) (nm cm : Nat), Hid (AIter mv wr b rI (cval L) left) ∧ Hid (Blk wr Bo 34 #[.int .i64 n, .slice Am nm cm, .slice A1 n1 cap1]) ∧ Hid (OwnE ElZ 78 (rI + 1) wr (.slice Am nm cm) (K.map mvK)) ∧
      Hid ((K ++ left.map (·.1)).Perm (L.map (·.1))) ∧ Hid (BX [Bo] W wr) ∧ Hid (rI < wr.heap.size)) (fun _ wr => iterLeft b rI wr)
  case atStart =>
    refine ⟨cval L, [], none, 0, 0, hit.out, kO2.out, OwnE.nil _ _ _, ?_, hBx.out, ?_⟩
    · show (([] : List Key) ++ (cval L).map (·.1)).Perm (L.map (·.1))
      rw [List.nil_append, cval_keys]
    · have := hit.out.lt.2; exact this
  case round =>
    obtain ⟨left, K, Am, nm, cm, hI, hkO, hoM, hpm, hBX, hrs⟩ := hrel
    have hcnt := Lib.hid hI.out.count
    have hrI3 : Bo < rI := by omega
    go_wp2_with (at_next; refine wpList_next_a _ rfl (.tmp 14) rfl rfl hI.out ?_ ?_)
    · intro h0
      subst h0
      have hpm2 := Lib.hid (show K.Perm (L.map (·.1)) from by have := hpm.out; simpa using this)
      have hkl := Lib.hid (show (K.map mvK).length ≤ 900000 from by have e1 := hpm2.out.length_eq; have e2 := hlen.out; rw [List.length_map] at e1 ⊢; omega)
      have c1 : wr.cell? ⟨Bo, 1, none⟩ = some (.slice Am nm cm) := hkO.out.cell 1
      have hst := Lib.hid (sortM_any wr _ _ _ hoM.out (by have := hkl.out; omega))
      go_upto_region 7 with (go_at_call 60; refine hst.out.mono ?_; rintro e w3 ⟨rfl, ms, hms1, hms2, ho3, hb3⟩; replace hms1 := Lib.hid hms1; replace hms2 := Lib.hid hms2; replace ho3 := Lib.hid ho3; replace hb3 := Lib.hid hb3)
      have hnb : ∀ x, x ∈ (Value.slice Am nm cm).ownBlock.toList → rI < x := fun x hx => by
        have := (hoM.out.lt x (by simpa using hx)).1
        omega
      have hrI2 : Bo < rI := by omega
      have q3 : Blk w3 Bo 34 #[.int .i64 n, .slice Am nm cm, .slice A1 n1 cap1] := hkO.out.bx hb3.out (fun hx => by have := hnb _ hx; omega)
      have q1 := (k1.out.bx hBX.out (by simp; omega)).bx hb3.out (fun hx => by have := hnb _ hx; omega)
      have hw3 := Lib.hid (show Below w.heap.size w w3 from (hB1.out.trans (hBX.out.below hB1.out.size (by simp; omega))).trans (hb3.out.below (by have := k1.out.lt; have := hrs.out; omega) (fun x hx => by have := hnb x hx; omega)))
      have hf3 := Lib.hid (show OwnE ElI 3 W0.heap.size w3 (.slice A1 n1 cap1) fs from (ho2.out.of_block fun g hg => hBX.out.block g (by have := hof.out g hg; omega) (by have := hof.out g hg; simp; omega)).of_block fun g hg => hb3.out.block g (by have := hof.out g hg; have := hrs.out; omega) (fun hx => by have := hof.out g hg; have := hnb _ hx; omega))
      have r0 : w3.cell? ⟨Bo, 0, none⟩ = some (.int .i64 n) := q3.cell 0
      have r1 : w3.cell? ⟨Bo, 1, none⟩ = some (.slice Am nm cm) := q3.cell 1
      have r2 : w3.cell? ⟨Bo, 2, none⟩ = some (.slice A1 n1 cap1) := q3.cell 2
      have u0 : w3.cell? ⟨w.heap.size, 0, none⟩ = some (.int .i64 0) := q1.cell 0
      have u1 : w3.cell? ⟨w.heap.size, 1, none⟩ = some (.slice none 0 0) := q1.cell 1
      have u2 : w3.cell? ⟨w.heap.size, 2, none⟩ = some (.slice none 0 0) := q1.cell 2
      have x0 := q1.free 0
      have x1 := q1.free 1
      have x2 := q1.free 2
      have B2 := ((q1.set 0 (.int .i64 n)).set 1 (.slice Am nm cm)).set 2 (.slice A1 n1 cap1)
      have e0 := B2.cell 0
      have e1 := B2.cell 1
      have e2 := B2.cell 2
      simp at e0 e1 e2
      have hfin := Lib.hid (show ∀ WE, BX [w.heap.size] w3 WE → OwnE ElZ 78 w.heap.size WE (.slice Am nm cm) ms ∧ OwnE ElI 3 w.heap.size WE (.slice A1 n1 cap1) fs ∧ Below w.heap.size w WE from fun WE hE =>
        ⟨(ho3.out.of_block fun g hg => hE.block g (ho3.out.lt g hg).2 (by have := (ho3.out.lt g hg).1; simp; omega)).lo_le (by omega), (hf3.out.of_block fun g hg => hE.block g (hf3.out.lt g hg).2 (by have := (hf3.out.lt g hg).1; have := hg; have := k0lt.out; simp; omega)).lo_le (by have := k0lt.out; omega), hw3.out.trans (hE.below hw3.out.size (by simp))⟩)
      replace hfin := Lib.hid (hfin.out (((w3.setCell ⟨w.heap.size, 0, none⟩ (.int .i64 n)).setCell ⟨w.heap.size, 1, none⟩ (.slice Am nm cm)).setCell ⟨w.heap.size, 2, none⟩ (.slice A1 n1 cap1)) ((((BX.refl _ w3).set (by simp) _).set (by simp) _).set (by simp) _))
      replace hms1 := Lib.hid (show ms.Perm ((L.map (·.1)).map mvK) from hms1.out.trans (hpm2.out.map mvK))
      clear B2 q1 q3 c1 hrI2 hnb hst hcnt
      go_wp2
      exact bodyPost_ret (v := acV n (.slice Am nm cm) (.slice A1 n1 cap1)) (by simp [results, Tryz.results37, go_sem, e0, e1, e2]) rfl ⟨_, _, _, rfl, hfin.out.1, hfin.out.2.1, hms1.out, hms2.out, hfin.out.2.2⟩
    · intro pre p a q v post w' hleft hI2 hg2 hs2 hent
      obtain ⟨o1, ho1⟩ : ∃ o1 : Obj, o1 = .cells #[.int .i64 p, .int .u8 a, .int .i64 q] 104 := ⟨_, rfl⟩
      obtain ⟨o2, ho2⟩ : ∃ o2 : Obj, o2 = .cells #[.int .i64 p, .int .i64 (a - 97), .int .i64 q] 78 := ⟨_, rfl⟩
      have hBo : Bo < w'.heap.size := by have := hkO.out.lt; omega
      have hkO1 : Blk w' Bo 34 #[.int .i64 n, .slice Am nm cm, .slice A1 n1 cap1] := (hg2.block Bo hkO.out.lt (by simp; omega)).trans hkO.out
      have hkO2 := Lib.hid ((hkO1.alloc o1).alloc o2)
      have c1 : (w'.alloc o1).cell? ⟨Bo, 1, none⟩ = some (.slice Am nm cm) := (hkO1.alloc o1).cell 1
      have kk := Blk.new w' 104 #[.int .i64 p, .int .u8 a, .int .i64 q]
      rw [← ho1] at kk
      have c2 : (w'.alloc o1).cell? ⟨w'.heap.size, 0, none⟩ = some (.int .i64 p) := kk.cell 0
      have c3 : (w'.alloc o1).cell? ⟨w'.heap.size, 1, none⟩ = some (.int .u8 a) := kk.cell 1
      have c4 : (w'.alloc o1).cell? ⟨w'.heap.size, 2, none⟩ = some (.int .i64 q) := kk.cell 2
      have kn : Blk ((w'.alloc o1).alloc o2) (w'.heap.size + 1) 78 #[.int .i64 p, .int .i64 (a - 97), .int .i64 q] := by rw [ho2]; have := Blk.new (w'.alloc o1) 78 #[.int .i64 p, .int .i64 (a - 97), .int .i64 q]; rwa [alloc_size] at this
      have hBA : Below w'.heap.size w' ((w'.alloc o1).alloc o2) := bthen (below1 _ _) (below1 _ _)
      have hka : 97 ≤ a ∧ a ≤ 101 := hk.out (p, a, q) (hpm.out.subset (by rw [hleft]; simp))
      obtain ⟨hka1, hka2⟩ := hka
      have hoM2 := Lib.hid ((hoM.out.of_block fun g hg => hg2.block g (hoM.out.lt g hg).2 (by have := (hoM.out.lt g hg).1; simp; omega)).then hBA)
      have hsz2 : ((w'.alloc o1).alloc o2).heap.size = w'.heap.size + 1 + 1 := by rw [alloc_size, alloc_size]
      replace hleft := Lib.hid hleft
      replace kn := Lib.hid kn
      replace hI2 := Lib.hid hI2
      replace hg2 := Lib.hid hg2
      replace hs2 := Lib.hid hs2
      replace hBA := Lib.hid hBA
      clear kk hkO1
      rw [ho1] at c1 c2 c3 c4
      unfold mv at hent
      go_wp2_with (at_builtin; refine wpList_append_els (E := ElZ) _ rfl (.tmp 20) (.tmp 32) 25 rfl (rI + 1) Tryz.underlying25 info78 rfl rfl (by decide) (.slice Am nm cm) (K.map mvK) rfl (by rw [← ho1, ← ho2]; exact hoM2.out) (.slice (some ⟨w'.heap.size + 1, 0, none⟩) 1 1) rfl [(p, a - 97, q)] (els_one (E := ElZ) (t := 78) (cs := #[.int .i64 p, .int .i64 (a - 97), .int .i64 q]) (by rw [← ho1, ← ho2]; exact kn.out) rfl) ?hl ?hs ?_; rotate_left 2; intro v2 w3 ho3 hb3 hg4 hl4; obtain ⟨A2, n2, c2, rfl, hn2⟩ := OwnE.shape ho3; rw [← ho1, ← ho2] at hb3 hg4; have kO3 := hkO2.out.below hb3 (show Bo < rI + 1 by omega); have e31 : w3.cell? ⟨Bo, 1, none⟩ = some (.slice Am nm cm) := kO3.cell 1; have f31 := kO3.free 1; replace kO3 := Lib.hid kO3; replace ho3 := Lib.hid ho3; replace hb3 := Lib.hid hb3; replace hg4 := Lib.hid hg4; clear hl4)
      case hl => have := hpm.out.length_eq; have := hlen.out; rw [List.length_append] at *; simp at *; omega
      case hs => have := hrs.out; have := hs2.out; omega
      have hK2 := kO3.out.set 1 (.slice A2 n2 c2)
      have hrl : rI + 1 ≤ w'.heap.size := by have := hrs.out; have := hs2.out; omega
      have hB3 : Below (rI + 1) w' w3 := (hBA.out.mono hrl).trans hb3.out
      obtain ⟨W5, hW5⟩ : ∃ W5, w3.setCell ⟨Bo, 1, none⟩ (.slice A2 n2 c2) = W5 := ⟨_, rfl⟩
      have hx5 : BX [Bo] w3 W5 := by rw [← hW5]; exact (BX.refl _ w3).set (by simp) _
      have hK2 : Blk W5 Bo 34 #[.int .i64 n, .slice A2 n2 c2, .slice A1 n1 cap1] := by rw [← hW5]; simpa using kO3.out.set 1 (.slice A2 n2 c2)
      have hbB : b < Bo := by have := hbl.out; omega
      have hI4 : AIter mv W5 b rI (cval L) (pre ++ post) := hI2.out.of_block ((hx5.block b (by have := hB3.size; omega) (by simp; omega)).trans (hB3.block b (by omega))) ((hx5.block rI (by have := hB3.size; omega) (by simp; omega)).trans (hB3.block rI (by omega)))
      have hoM4 : OwnE ElZ 78 (rI + 1) W5 (.slice A2 n2 c2) ((K ++ [(p, a, q)]).map mvK) := by
        rw [List.map_append]
        exact ho3.out.of_block fun g hg => hx5.block g (ho3.out.lt g hg).2 (by have := (ho3.out.lt g hg).1; simp; omega)
      have hbx4 : BX [Bo] W W5 := by
        have b1 := hBX.out
        have g1 := hg2.out
        have z1 := b1.size
        have z2 := g1.size
        have z3 := hB3.size
        exact ⟨hx5.os.trans (hB3.os.trans (g1.os.trans b1.os)), hx5.tape.trans (hB3.tape.trans (g1.tape.trans b1.tape)), hx5.output.trans (hB3.output.trans (g1.output.trans b1.output)), by have := hx5.size; omega, fun k hk hx =>
          ((hx5.block k (by omega) hx).trans (hB3.block k (by omega))).trans ((g1.block k (by omega) (by simp; omega)).trans (b1.block k hk hx))⟩
      rw [hW5]
      refine ⟨⟨pre ++ post, K ++ [(p, a, q)], A2, n2, c2, hI4, hK2, hoM4, ?_, hbx4, ?_⟩, ?_⟩
      · have h1 := hpm.out
        rw [hleft.out] at h1
        refine List.Perm.trans ?_ h1
        show ((K ++ [(p, a, q)]) ++ (pre ++ post).map (·.1)).Perm (K ++ (pre ++ ((p, a, q), v) :: post).map (·.1))
        rw [List.append_assoc, List.map_append, List.map_append, List.map_cons]
        have hx : ∀ (A B : List Key) (k : Key), ([k] ++ (A ++ B)).Perm (A ++ k :: B) := fun A B k => (List.perm_middle (a := k) (l₁ := A) (l₂ := B)).symm
        exact List.Perm.append_left K (hx _ _ _)
      · have := hx5.size; have := hB3.size; unfold Hid; omega
      · rw [hI4.count]
        have h1 := hcnt.out
        rw [h1, hleft.out]
        simp only [List.length_append, List.length_cons]
        omega
end
end Go.Proofs.YtaapnflhjbdmlaaGreatDoor
