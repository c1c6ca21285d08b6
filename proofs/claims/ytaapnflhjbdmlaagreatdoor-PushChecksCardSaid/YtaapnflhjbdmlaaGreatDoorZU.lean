/- Acceptors are copied: made, acceptor, taken. No condition. Acceptors are checked: the reference's less, IsAcceptor, Given. No condition. Acceptors are checked: the reference's Given; cmp.Compare and slices.Compare at moves. No condition. Acceptors are checked: push's isAcceptor. No condition. checkAll with one acceptor; CheckAcceptor. No condition. given: the moves of an acceptor as a map. No condition. -/
import Derived.Test.YtaapnflhjbdmlaaGreatDoorSA
namespace Go.Proofs.YtaapnflhjbdmlaaGreatDoor
section
open Go.RowKit Go.Shelf
attribute [local go_sem] Oper.semAt_some

/-- a move as it is given -/
abbrev Mi := Int × Int × Int
def ElZ : El Mi := ⟨3, fun x => [.int .i64 x.1, .int .i64 x.2.1, .int .i64 x.2.2], fun _ => rfl, fun x u hu => by
  simp only [List.mem_cons, List.mem_nil_iff, or_false] at hu
  rcases hu with rfl | rfl | rfl <;> rfl, by decide⟩
abbrev acV (st : Int) (vm vf : Value) : Value := .agg #[.int .i64 st, vm, vf]
theorem info78 : (Tryz.prog.info? 78).map (fun i => (i.zero, i.size, i.bytes)) = some (some (.agg #[.int .i64 0, .int .i64 0, .int .i64 0]), 3, 24) := by kernel_rfl
theorem one_slice {A : Option Addr} {n cap : Nat} : (Value.slice A n cap).oneCell' = true := rfl
theorem acc_fin {wr : World} {B2 : Nat} {_z0 : Value} (_b4 : Blk wr B2 28 #[.int .i64 0, .slice none 0 0, .slice none 0 0]) (_u _v _y : Value) : True := trivial

set_option maxRecDepth 8000 in
set_option maxHeartbeats 4000000 in
theorem made_any (w : World) (st : Int) (vm vf : Value) (ms : List Mi) (fs : List Int) (hm : Els ElZ w vm ms) (hf : Els ElI w vf fs) :
    Calls Tryz.prog 7 #[acV st vm vf] w fun e w' => ∃ vm' vf', e = .returned (acV st vm' vf') ∧ OwnE ElZ 78 w.heap.size w' vm' (ms.take 101) ∧ OwnE ElI 3 w.heap.size w' vf' (fs.take 20) ∧ Below w.heap.size w w' := by
  obtain ⟨Am, nm, capm, rfl, hnm⟩ := Els.shape hm
  obtain ⟨Af, nf, capf, rfl, hnf⟩ := Els.shape hf
  obtain ⟨hnm2, hcm, hmm⟩ := Els.len hm
  obtain ⟨hnf2, hcf, hmf⟩ := Els.len hf
  unfold maxLen at hmm hmf
  obtain ⟨W, hW⟩ : ∃ W, ((w.alloc (.cells #[.int .i64 st, .slice Am nm capm, .slice Af nf capf] 28)).alloc (.cells #[.int .i64 0, .slice none 0 0, .slice none 0 0] 28)).alloc (.cells #[.int .i64 st, .slice none 0 0, .slice none 0 0] 28) = W := ⟨_, rfl⟩
  have hBW : Below w.heap.size w W := by rw [← hW]; exact bthen (below1 _ _) (bthen (below1 _ _) (below1 _ _))
  have k1 : Blk W w.heap.size 28 #[.int .i64 st, .slice Am nm capm, .slice Af nf capf] := by rw [← hW]; exact ((Blk.new w 28 _).alloc _).alloc _
  have k2 : Blk W (w.heap.size + 1) 28 #[.int .i64 0, .slice none 0 0, .slice none 0 0] := by rw [← hW]; have := Blk.new (w.alloc (.cells #[.int .i64 st, .slice Am nm capm, .slice Af nf capf] 28)) 28 #[.int .i64 0, .slice none 0 0, .slice none 0 0]; rw [alloc_size] at this; exact this.alloc _
  have k3 : Blk W (w.heap.size + 1 + 1) 28 #[.int .i64 st, .slice none 0 0, .slice none 0 0] := by rw [← hW]; have := Blk.new ((w.alloc (.cells #[.int .i64 st, .slice Am nm capm, .slice Af nf capf] 28)).alloc (.cells #[.int .i64 0, .slice none 0 0, .slice none 0 0] 28)) 28 #[.int .i64 st, .slice none 0 0, .slice none 0 0]; rw [alloc_size, alloc_size] at this; exact this
  have s0 : ((w.alloc (.cells #[.int .i64 st, .slice Am nm capm, .slice Af nf capf] 28)).alloc (.cells #[.int .i64 0, .slice none 0 0, .slice none 0 0] 28)).cell? ⟨w.heap.size, 0, none⟩ = some (.int .i64 st) := ((Blk.new w 28 _).alloc _).cell 0
  have s1 : W.cell? ⟨w.heap.size + 1 + 1, 1, none⟩ = some (.slice none 0 0) := k3.cell 1
  have s2 : W.cell? ⟨w.heap.size + 1 + 1, 2, none⟩ = some (.slice none 0 0) := k3.cell 2
  have hWs : w.heap.size + 3 ≤ W.heap.size := k3.lt
  obtain ⟨km, hkm⟩ : ∃ kk : Nat, min nm 101 = kk := ⟨_, rfl⟩
  obtain ⟨kf, hkf⟩ : ∃ kk : Nat, min nf 20 = kk := ⟨_, rfl⟩
  have hkmI : min (nm : Int) 101 = (km : Int) := by omega
  have hkfI : min (nf : Int) 20 = (kf : Int) := by omega
  have hkm1 : km ≤ nm := by omega
  have hkf1 : kf ≤ nf := by omega
  have hkm2 : km ≤ capm := by omega
  have hkf2 : kf ≤ capf := by omega
  have hkm3 : km ≤ 101 := by omega
  have hkf3 : kf ≤ 20 := by omega
  have hem : ms.take 101 = ms.take km := by
    rw [← hkm, hnm2]
    rcases Nat.le_total ms.length 101 with h | h
    · rw [List.take_of_length_le h, Nat.min_eq_left h, List.take_of_length_le (Nat.le_refl _)]
    · rw [Nat.min_eq_right h]
  have hef : fs.take 20 = fs.take kf := by
    rw [← hkf, hnf2]
    rcases Nat.le_total fs.length 20 with h | h
    · rw [List.take_of_length_le h, Nat.min_eq_left h, List.take_of_length_le (Nat.le_refl _)]
    · rw [Nat.min_eq_right h]
  rw [hem, hef]
  have hm2 := Lib.hid (Els.take hm km (by omega))
  have hf2 := Lib.hid (Els.take hf kf (by omega))
  have hlm : (ms.take km).length ≤ 900000 := by rw [List.length_take]; omega
  have hlf : (fs.take kf).length ≤ 900000 := by rw [List.length_take]; omega
  generalize ms.take km = msx at *
  generalize fs.take kf = fsx at *
  clear hem hef hkm hkf
  replace hnm2 := Lib.hid hnm2
  replace hnf2 := Lib.hid hnf2
  replace hBW := Lib.hid hBW
  replace k1 := Lib.hid k1
  replace k2 := Lib.hid k2
  replace k3 := Lib.hid k3
  replace hW := Lib.hid hW
  clear hm hf
  go_enter Tryz.func7, Tryz.ntmps7
  go_upto_region 2 with (fail)
  rw [hW.out]
  go_cut [4, 5] from 9 to 12 (fun u4 u5 wx => u4 = .slice none 0 0 ∧ u5 = .slice none 0 0 ∧ Hid (Below W.heap.size W wx))
  case first =>
    go_quiet (fail)
    go_wp2
    go_meet
    exact ⟨rfl, rfl, below_drewN (Below.refl _ _) _⟩
  case rest =>
    obtain ⟨rfl, rfl, hBc⟩ := hcut
    have hwc := Lib.hid (bthen hBW.out hBc.out)
    have q1 := k1.out.below hBc.out k1.out.lt
    have q3 := k3.out.below hBc.out k3.out.lt
    have c1 : wc.cell? ⟨w.heap.size, 1, none⟩ = some (.slice Am nm capm) := q1.cell 1
    clear s0 s1 s2
    have hcs := hBc.out.size
    go_upto_region 4 with (at_builtin; refine wpList_append_els (E := ElZ) _ rfl (.tmp 13) (.tmp 20) 25 rfl W.heap.size Tryz.underlying25 info78 rfl rfl (by decide) _ [] rfl (OwnE.nil _ _ _) _ rfl msx (hm2.out.then hwc.out) (by simp; omega) (by omega) ?_; intro v2 w2 ho2 hb2 hg2 hl2; obtain ⟨A2, n2, cp2, rfl, hn2⟩ := OwnE.shape ho2; have hbw := show Below wc.heap.size wc w2 from below_of_grown hg2 (Nat.le_refl _) (fun k hk => by cases hk); have e31 : w2.cell? ⟨w.heap.size + 1 + 1, 1, none⟩ = some (.slice none 0 0) := (Blk.below q3 hbw q3.lt).cell 1; have f31 := (Blk.below q3 hbw q3.lt).free 1; have ho2 := Lib.hid ho2; have hbw := Lib.hid hbw; clear hg2 hl2 hb2)
    have h3n := Blk.below q3 hbw.out q3.lt
    have h1n := Blk.below q1 hbw.out q1.lt
    have h2n := (k2.out.below hBc.out k2.out.lt).below hbw.out (k2.out.below hBc.out k2.out.lt).lt
    rw [List.nil_append] at ho2
    obtain ⟨W4, hW4⟩ : ∃ W4, w2.setCell ⟨w.heap.size + 1 + 1, 1, none⟩ (.slice A2 n2 cp2) = W4 := ⟨_, rfl⟩
    have hx4 : BX [w.heap.size + 1 + 1] w2 W4 := by rw [← hW4]; exact (BX.refl _ w2).set (by simp) _
    have g3 := show Blk W4 (w.heap.size + 1 + 1) 28 #[.int .i64 st, .slice A2 n2 cp2, .slice none 0 0] by rw [← hW4]; simpa using h3n.set 1 (.slice A2 n2 cp2)
    have g1 := h1n.bx hx4 (by simp only [List.mem_cons, List.not_mem_nil, or_false]; omega)
    have g2 := Lib.hid (h2n.bx hx4 (by simp only [List.mem_cons, List.not_mem_nil, or_false]; omega))
    have hoZ := Lib.hid (show OwnE ElZ 78 W.heap.size W4 (.slice A2 n2 cp2) msx by rw [← hW4]; exact ho2.out.far (by show w.heap.size + 1 + 1 < W.heap.size; omega) _)
    have hw4 := Lib.hid (show Below w.heap.size w W4 from (bthen hwc.out hbw.out).trans (hx4.below (bthen hwc.out hbw.out).size (by simp; omega)))
    have hs4 : W.heap.size ≤ W4.heap.size := by rw [← hW4]; have := hbw.out.size; simp; omega
    rw [hW4]
    have c2 : W4.cell? ⟨w.heap.size, 2, none⟩ = some (.slice Af nf capf) := g1.cell 2
    clear hW4 hx4 h3n h1n h2n q1 q3 c1 e31 f31
    go_upto_region 5 with (at_builtin; refine wpList_append_els (E := ElI) _ rfl (.tmp 23) (.tmp 30) 26 rfl W.heap.size Tryz.underlying26 info3 rfl rfl (by decide) _ [] rfl (OwnE.nil _ _ _) _ rfl fsx (hf2.out.then hw4.out) (by simp; omega) (by omega) ?_; intro v5 w5 ho5 hb5 hg5 hl5; obtain ⟨A5, n5, cp5, rfl, hn5⟩ := OwnE.shape ho5; have hbw5 := show Below W4.heap.size W4 w5 from below_of_grown hg5 (Nat.le_refl _) (fun k hk => by cases hk); have e32 : w5.cell? ⟨w.heap.size + 1 + 1, 2, none⟩ = some (.slice none 0 0) := (Blk.below g3 hbw5 g3.lt).cell 2; have f32 := (Blk.below g3 hbw5 g3.lt).free 2; have ho5 := Lib.hid ho5; have hbw5 := Lib.hid hbw5; clear hg5 hl5 hb5)
    have h3n := Blk.below g3 hbw5.out g3.lt
    have h2n := g2.out.below hbw5.out g2.out.lt
    rw [List.nil_append] at ho5
    obtain ⟨W6, hW6⟩ : ∃ W6, w5.setCell ⟨w.heap.size + 1 + 1, 2, none⟩ (.slice A5 n5 cp5) = W6 := ⟨_, rfl⟩
    have hx6 : BX [w.heap.size + 1 + 1] w5 W6 := by rw [← hW6]; exact (BX.refl _ w5).set (by simp) _
    have i3 := show Blk W6 (w.heap.size + 1 + 1) 28 #[.int .i64 st, .slice A2 n2 cp2, .slice A5 n5 cp5] by rw [← hW6]; simpa using h3n.set 2 (.slice A5 n5 cp5)
    have i2 := h2n.bx hx6 (by simp only [List.mem_cons, List.not_mem_nil, or_false]; omega)
    have hoZ6 := Lib.hid (show OwnE ElZ 78 W.heap.size W6 (.slice A2 n2 cp2) msx by rw [← hW6]; exact (hoZ.out.then hbw5.out).far (by show w.heap.size + 1 + 1 < W.heap.size; omega) _)
    have hoI6 := Lib.hid (show OwnE ElI 3 W.heap.size W6 (.slice A5 n5 cp5) fsx by rw [← hW6]; exact ho5.out.far (by show w.heap.size + 1 + 1 < W.heap.size; omega) _)
    have hw6 := Lib.hid (show Below w.heap.size w W6 from (bthen hw4.out hbw5.out).trans (hx6.below (bthen hw4.out hbw5.out).size (by simp; omega)))
    rw [hW6]
    have r0 : W6.cell? ⟨w.heap.size + 1 + 1, 0, none⟩ = some (.int .i64 st) := i3.cell 0
    have r1 : W6.cell? ⟨w.heap.size + 1 + 1, 1, none⟩ = some (.slice A2 n2 cp2) := i3.cell 1
    have r2 : W6.cell? ⟨w.heap.size + 1 + 1, 2, none⟩ = some (.slice A5 n5 cp5) := i3.cell 2
    have u0 : W6.cell? ⟨w.heap.size + 1, 0, none⟩ = some (.int .i64 0) := i2.cell 0
    have u1 : W6.cell? ⟨w.heap.size + 1, 1, none⟩ = some (.slice none 0 0) := i2.cell 1
    have u2 : W6.cell? ⟨w.heap.size + 1, 2, none⟩ = some (.slice none 0 0) := i2.cell 2
    have x0 := i2.free 0
    have x1 := i2.free 1
    have x2 := i2.free 2
    have B2 := ((i2.set 0 (.int .i64 st)).set 1 (.slice A2 n2 cp2)).set 2 (.slice A5 n5 cp5)
    have e0 := B2.cell 0
    have e1 := B2.cell 1
    have e2 := B2.cell 2
    simp at e0 e1 e2
    have hfin := Lib.hid (show ∀ WE, BX [w.heap.size + 1] W6 WE → OwnE ElZ 78 w.heap.size WE (.slice A2 n2 cp2) msx ∧ OwnE ElI 3 w.heap.size WE (.slice A5 n5 cp5) fsx ∧ Below w.heap.size w WE from fun WE hE =>
      ⟨(hoZ6.out.of_block fun g hg => hE.block g (hoZ6.out.lt g hg).2 (by have := (hoZ6.out.lt g hg).1; simp; omega)).lo_le (by omega), (hoI6.out.of_block fun g hg => hE.block g (hoI6.out.lt g hg).2 (by have := (hoI6.out.lt g hg).1; simp; omega)).lo_le (by omega), hw6.out.trans (hE.below hw6.out.size (by simp))⟩)
    replace hfin := Lib.hid (hfin.out (((W6.setCell ⟨w.heap.size + 1, 0, none⟩ (.int .i64 st)).setCell ⟨w.heap.size + 1, 1, none⟩ (.slice A2 n2 cp2)).setCell ⟨w.heap.size + 1, 2, none⟩ (.slice A5 n5 cp5)) ((((BX.refl _ W6).set (by simp) _).set (by simp) _).set (by simp) _))
    clear hW6 hx6 h3n h2n g3 g2 i3 i2 c2 e32 f32 B2 g1
    go_wp2
    exact bodyPost_ret (v := acV st (.slice A2 n2 cp2) (.slice A5 n5 cp5)) (by simp [results, Tryz.results7, go_sem, e0, e1, e2]) rfl ⟨_, _, rfl, hfin.out⟩

set_option maxRecDepth 8000 in
set_option maxHeartbeats 4000000 in
theorem acceptor_any (w : World) (st : Int) (vm vf : Value) (ms : List Mi) (fs : List Int) (hm : Els ElZ w vm ms) (hf : Els ElI w vf fs) (hml : ms.length ≤ 900000) (hfl : fs.length ≤ 900000) :
    Calls Tryz.prog 13 #[acV st vm vf] w fun e w' => ∃ vm' vf', e = .returned (acV st vm' vf') ∧ OwnE ElZ 78 w.heap.size w' vm' ms ∧ OwnE ElI 3 w.heap.size w' vf' fs ∧ Below w.heap.size w w' := by
  obtain ⟨Am, nm, capm, rfl, hnm⟩ := Els.shape hm
  obtain ⟨Af, nf, capf, rfl, hnf⟩ := Els.shape hf
  obtain ⟨hnm2, hcm, hmm⟩ := Els.len hm
  obtain ⟨hnf2, hcf, hmf⟩ := Els.len hf
  unfold maxLen at hmm hmf
  obtain ⟨W, hW⟩ : ∃ W, ((w.alloc (.cells #[.int .i64 st, .slice Am nm capm, .slice Af nf capf] 28)).alloc (.cells #[.int .i64 0, .slice none 0 0, .slice none 0 0] 34)).alloc (.cells #[.int .i64 st, .slice none 0 0, .slice none 0 0] 34) = W := ⟨_, rfl⟩
  have hBW : Below w.heap.size w W := by rw [← hW]; exact bthen (below1 _ _) (bthen (below1 _ _) (below1 _ _))
  have k1 : Blk W w.heap.size 28 #[.int .i64 st, .slice Am nm capm, .slice Af nf capf] := by rw [← hW]; exact ((Blk.new w 28 _).alloc _).alloc _
  have k2 : Blk W (w.heap.size + 1) 34 #[.int .i64 0, .slice none 0 0, .slice none 0 0] := by rw [← hW]; have := Blk.new (w.alloc (.cells #[.int .i64 st, .slice Am nm capm, .slice Af nf capf] 28)) 34 #[.int .i64 0, .slice none 0 0, .slice none 0 0]; rw [alloc_size] at this; exact this.alloc _
  have k3 : Blk W (w.heap.size + 1 + 1) 34 #[.int .i64 st, .slice none 0 0, .slice none 0 0] := by rw [← hW]; have := Blk.new ((w.alloc (.cells #[.int .i64 st, .slice Am nm capm, .slice Af nf capf] 28)).alloc (.cells #[.int .i64 0, .slice none 0 0, .slice none 0 0] 34)) 34 #[.int .i64 st, .slice none 0 0, .slice none 0 0]; rw [alloc_size, alloc_size] at this; exact this
  have s0 : ((w.alloc (.cells #[.int .i64 st, .slice Am nm capm, .slice Af nf capf] 28)).alloc (.cells #[.int .i64 0, .slice none 0 0, .slice none 0 0] 34)).cell? ⟨w.heap.size, 0, none⟩ = some (.int .i64 st) := ((Blk.new w 28 _).alloc _).cell 0
  have s1 : W.cell? ⟨w.heap.size + 1 + 1, 1, none⟩ = some (.slice none 0 0) := k3.cell 1
  have s2 : W.cell? ⟨w.heap.size + 1 + 1, 2, none⟩ = some (.slice none 0 0) := k3.cell 2
  have hWs : w.heap.size + 3 ≤ W.heap.size := k3.lt
  have hm2 := Lib.hid hm
  have hf2 := Lib.hid hf
  have hlm := hml
  have hlf := hfl
  replace hnm2 := Lib.hid hnm2
  replace hnf2 := Lib.hid hnf2
  replace hBW := Lib.hid hBW
  replace k1 := Lib.hid k1
  replace k2 := Lib.hid k2
  replace k3 := Lib.hid k3
  replace hW := Lib.hid hW
  clear hm hf
  go_enter Tryz.func13, Tryz.ntmps13
  go_upto_region 2 with (fail)
  rw [hW.out]
  go_cut [4, 5] from 9 to 12 (fun u4 u5 wx => u4 = .slice none 0 0 ∧ u5 = .slice none 0 0 ∧ Hid (Below W.heap.size W wx))
  case first =>
    go_quiet (fail)
    go_wp2
    go_meet
    exact ⟨rfl, rfl, below_drewN (Below.refl _ _) _⟩
  case rest =>
    obtain ⟨rfl, rfl, hBc⟩ := hcut
    have hwc := Lib.hid (bthen hBW.out hBc.out)
    have q1 := k1.out.below hBc.out k1.out.lt
    have q3 := k3.out.below hBc.out k3.out.lt
    have c1 : wc.cell? ⟨w.heap.size, 1, none⟩ = some (.slice Am nm capm) := q1.cell 1
    clear s0 s1 s2
    have hcs := hBc.out.size
    go_upto_region 4 with (at_builtin; refine wpList_append_els (E := ElZ) _ rfl (.tmp 13) (.tmp 15) 25 rfl W.heap.size Tryz.underlying25 info78 rfl rfl (by decide) _ [] rfl (OwnE.nil _ _ _) _ rfl ms (hm2.out.then hwc.out) (by simp; omega) (by omega) ?_; intro v2 w2 ho2 hb2 hg2 hl2; obtain ⟨A2, n2, cp2, rfl, hn2⟩ := OwnE.shape ho2; have hbw := show Below wc.heap.size wc w2 from below_of_grown hg2 (Nat.le_refl _) (fun k hk => by cases hk); have e31 : w2.cell? ⟨w.heap.size + 1 + 1, 1, none⟩ = some (.slice none 0 0) := (Blk.below q3 hbw q3.lt).cell 1; have f31 := (Blk.below q3 hbw q3.lt).free 1; have ho2 := Lib.hid ho2; have hbw := Lib.hid hbw; clear hg2 hl2 hb2)
    have h3n := Blk.below q3 hbw.out q3.lt
    have h1n := Blk.below q1 hbw.out q1.lt
    have h2n := (k2.out.below hBc.out k2.out.lt).below hbw.out (k2.out.below hBc.out k2.out.lt).lt
    rw [List.nil_append] at ho2
    obtain ⟨W4, hW4⟩ : ∃ W4, w2.setCell ⟨w.heap.size + 1 + 1, 1, none⟩ (.slice A2 n2 cp2) = W4 := ⟨_, rfl⟩
    have hx4 : BX [w.heap.size + 1 + 1] w2 W4 := by rw [← hW4]; exact (BX.refl _ w2).set (by simp) _
    have g3 := show Blk W4 (w.heap.size + 1 + 1) 34 #[.int .i64 st, .slice A2 n2 cp2, .slice none 0 0] by rw [← hW4]; simpa using h3n.set 1 (.slice A2 n2 cp2)
    have g1 := h1n.bx hx4 (by simp only [List.mem_cons, List.not_mem_nil, or_false]; omega)
    have g2 := Lib.hid (h2n.bx hx4 (by simp only [List.mem_cons, List.not_mem_nil, or_false]; omega))
    have hoZ := Lib.hid (show OwnE ElZ 78 W.heap.size W4 (.slice A2 n2 cp2) ms by rw [← hW4]; exact ho2.out.far (by show w.heap.size + 1 + 1 < W.heap.size; omega) _)
    have hw4 := Lib.hid (show Below w.heap.size w W4 from (bthen hwc.out hbw.out).trans (hx4.below (bthen hwc.out hbw.out).size (by simp; omega)))
    have hs4 : W.heap.size ≤ W4.heap.size := by rw [← hW4]; have := hbw.out.size; simp; omega
    rw [hW4]
    have c2 : W4.cell? ⟨w.heap.size, 2, none⟩ = some (.slice Af nf capf) := g1.cell 2
    clear hW4 hx4 h3n h1n h2n q1 q3 c1 e31 f31
    go_upto_region 5 with (at_builtin; refine wpList_append_els (E := ElI) _ rfl (.tmp 18) (.tmp 20) 26 rfl W.heap.size Tryz.underlying26 info3 rfl rfl (by decide) _ [] rfl (OwnE.nil _ _ _) _ rfl fs (hf2.out.then hw4.out) (by simp; omega) (by omega) ?_; intro v5 w5 ho5 hb5 hg5 hl5; obtain ⟨A5, n5, cp5, rfl, hn5⟩ := OwnE.shape ho5; have hbw5 := show Below W4.heap.size W4 w5 from below_of_grown hg5 (Nat.le_refl _) (fun k hk => by cases hk); have e32 : w5.cell? ⟨w.heap.size + 1 + 1, 2, none⟩ = some (.slice none 0 0) := (Blk.below g3 hbw5 g3.lt).cell 2; have f32 := (Blk.below g3 hbw5 g3.lt).free 2; have ho5 := Lib.hid ho5; have hbw5 := Lib.hid hbw5; clear hg5 hl5 hb5)
    have h3n := Blk.below g3 hbw5.out g3.lt
    have h2n := g2.out.below hbw5.out g2.out.lt
    rw [List.nil_append] at ho5
    obtain ⟨W6, hW6⟩ : ∃ W6, w5.setCell ⟨w.heap.size + 1 + 1, 2, none⟩ (.slice A5 n5 cp5) = W6 := ⟨_, rfl⟩
    have hx6 : BX [w.heap.size + 1 + 1] w5 W6 := by rw [← hW6]; exact (BX.refl _ w5).set (by simp) _
    have i3 := show Blk W6 (w.heap.size + 1 + 1) 34 #[.int .i64 st, .slice A2 n2 cp2, .slice A5 n5 cp5] by rw [← hW6]; simpa using h3n.set 2 (.slice A5 n5 cp5)
    have i2 := h2n.bx hx6 (by simp only [List.mem_cons, List.not_mem_nil, or_false]; omega)
    have hoZ6 := Lib.hid (show OwnE ElZ 78 W.heap.size W6 (.slice A2 n2 cp2) ms by rw [← hW6]; exact (hoZ.out.then hbw5.out).far (by show w.heap.size + 1 + 1 < W.heap.size; omega) _)
    have hoI6 := Lib.hid (show OwnE ElI 3 W.heap.size W6 (.slice A5 n5 cp5) fs by rw [← hW6]; exact ho5.out.far (by show w.heap.size + 1 + 1 < W.heap.size; omega) _)
    have hw6 := Lib.hid (show Below w.heap.size w W6 from (bthen hw4.out hbw5.out).trans (hx6.below (bthen hw4.out hbw5.out).size (by simp; omega)))
    rw [hW6]
    have r0 : W6.cell? ⟨w.heap.size + 1 + 1, 0, none⟩ = some (.int .i64 st) := i3.cell 0
    have r1 : W6.cell? ⟨w.heap.size + 1 + 1, 1, none⟩ = some (.slice A2 n2 cp2) := i3.cell 1
    have r2 : W6.cell? ⟨w.heap.size + 1 + 1, 2, none⟩ = some (.slice A5 n5 cp5) := i3.cell 2
    have u0 : W6.cell? ⟨w.heap.size + 1, 0, none⟩ = some (.int .i64 0) := i2.cell 0
    have u1 : W6.cell? ⟨w.heap.size + 1, 1, none⟩ = some (.slice none 0 0) := i2.cell 1
    have u2 : W6.cell? ⟨w.heap.size + 1, 2, none⟩ = some (.slice none 0 0) := i2.cell 2
    have x0 := i2.free 0
    have x1 := i2.free 1
    have x2 := i2.free 2
    have B2 := ((i2.set 0 (.int .i64 st)).set 1 (.slice A2 n2 cp2)).set 2 (.slice A5 n5 cp5)
    have e0 := B2.cell 0
    have e1 := B2.cell 1
    have e2 := B2.cell 2
    simp at e0 e1 e2
    have hfin := Lib.hid (show ∀ WE, BX [w.heap.size + 1] W6 WE → OwnE ElZ 78 w.heap.size WE (.slice A2 n2 cp2) ms ∧ OwnE ElI 3 w.heap.size WE (.slice A5 n5 cp5) fs ∧ Below w.heap.size w WE from fun WE hE =>
      ⟨(hoZ6.out.of_block fun g hg => hE.block g (hoZ6.out.lt g hg).2 (by have := (hoZ6.out.lt g hg).1; simp; omega)).lo_le (by omega), (hoI6.out.of_block fun g hg => hE.block g (hoI6.out.lt g hg).2 (by have := (hoI6.out.lt g hg).1; simp; omega)).lo_le (by omega), hw6.out.trans (hE.below hw6.out.size (by simp))⟩)
    replace hfin := Lib.hid (hfin.out (((W6.setCell ⟨w.heap.size + 1, 0, none⟩ (.int .i64 st)).setCell ⟨w.heap.size + 1, 1, none⟩ (.slice A2 n2 cp2)).setCell ⟨w.heap.size + 1, 2, none⟩ (.slice A5 n5 cp5)) ((((BX.refl _ W6).set (by simp) _).set (by simp) _).set (by simp) _))
    clear hW6 hx6 h3n h2n g3 g2 i3 i2 c2 e32 f32 B2 g1
    go_wp2
    exact bodyPost_ret (v := acV st (.slice A2 n2 cp2) (.slice A5 n5 cp5)) (by simp [results, Tryz.results13, go_sem, e0, e1, e2]) rfl ⟨_, _, rfl, hfin.out⟩

set_option maxRecDepth 8000 in
set_option maxHeartbeats 4000000 in
theorem taken_any (w : World) (st : Int) (vm vf : Value) (ms : List Mi) (fs : List Int) (hm : Els ElZ w vm ms) (hf : Els ElI w vf fs) :
    Calls Tryz.prog 15 #[acV st vm vf] w fun e w' => ∃ vm' vf', e = .returned (acV st vm' vf') ∧ OwnE ElZ 78 w.heap.size w' vm' (ms.take 200000) ∧ OwnE ElI 3 w.heap.size w' vf' (fs.take 201) ∧ Below w.heap.size w w' := by
  obtain ⟨Am, nm, capm, rfl, hnm⟩ := Els.shape hm
  obtain ⟨Af, nf, capf, rfl, hnf⟩ := Els.shape hf
  obtain ⟨hnm2, hcm, hmm⟩ := Els.len hm
  obtain ⟨hnf2, hcf, hmf⟩ := Els.len hf
  unfold maxLen at hmm hmf
  obtain ⟨W, hW⟩ : ∃ W, ((w.alloc (.cells #[.int .i64 st, .slice Am nm capm, .slice Af nf capf] 34)).alloc (.cells #[.int .i64 0, .slice none 0 0, .slice none 0 0] 28)).alloc (.cells #[.int .i64 st, .slice none 0 0, .slice none 0 0] 28) = W := ⟨_, rfl⟩
  have hBW : Below w.heap.size w W := by rw [← hW]; exact bthen (below1 _ _) (bthen (below1 _ _) (below1 _ _))
  have k1 : Blk W w.heap.size 34 #[.int .i64 st, .slice Am nm capm, .slice Af nf capf] := by rw [← hW]; exact ((Blk.new w 34 _).alloc _).alloc _
  have k2 : Blk W (w.heap.size + 1) 28 #[.int .i64 0, .slice none 0 0, .slice none 0 0] := by rw [← hW]; have := Blk.new (w.alloc (.cells #[.int .i64 st, .slice Am nm capm, .slice Af nf capf] 34)) 28 #[.int .i64 0, .slice none 0 0, .slice none 0 0]; rw [alloc_size] at this; exact this.alloc _
  have k3 : Blk W (w.heap.size + 1 + 1) 28 #[.int .i64 st, .slice none 0 0, .slice none 0 0] := by rw [← hW]; have := Blk.new ((w.alloc (.cells #[.int .i64 st, .slice Am nm capm, .slice Af nf capf] 34)).alloc (.cells #[.int .i64 0, .slice none 0 0, .slice none 0 0] 28)) 28 #[.int .i64 st, .slice none 0 0, .slice none 0 0]; rw [alloc_size, alloc_size] at this; exact this
  have s0 : ((w.alloc (.cells #[.int .i64 st, .slice Am nm capm, .slice Af nf capf] 34)).alloc (.cells #[.int .i64 0, .slice none 0 0, .slice none 0 0] 28)).cell? ⟨w.heap.size, 0, none⟩ = some (.int .i64 st) := ((Blk.new w 34 _).alloc _).cell 0
  have s1 : W.cell? ⟨w.heap.size + 1 + 1, 1, none⟩ = some (.slice none 0 0) := k3.cell 1
  have s2 : W.cell? ⟨w.heap.size + 1 + 1, 2, none⟩ = some (.slice none 0 0) := k3.cell 2
  have hWs : w.heap.size + 3 ≤ W.heap.size := k3.lt
  obtain ⟨km, hkm⟩ : ∃ kk : Nat, min nm 200000 = kk := ⟨_, rfl⟩
  obtain ⟨kf, hkf⟩ : ∃ kk : Nat, min nf 201 = kk := ⟨_, rfl⟩
  have hkmI : min (nm : Int) 200000 = (km : Int) := by omega
  have hkfI : min (nf : Int) 201 = (kf : Int) := by omega
  have hkm1 : km ≤ nm := by omega
  have hkf1 : kf ≤ nf := by omega
  have hkm2 : km ≤ capm := by omega
  have hkf2 : kf ≤ capf := by omega
  have hkm3 : km ≤ 200000 := by omega
  have hkf3 : kf ≤ 201 := by omega
  have hem : ms.take 200000 = ms.take km := by
    rw [← hkm, hnm2]
    rcases Nat.le_total ms.length 200000 with h | h
    · rw [List.take_of_length_le h, Nat.min_eq_left h, List.take_of_length_le (Nat.le_refl _)]
    · rw [Nat.min_eq_right h]
  have hef : fs.take 201 = fs.take kf := by
    rw [← hkf, hnf2]
    rcases Nat.le_total fs.length 201 with h | h
    · rw [List.take_of_length_le h, Nat.min_eq_left h, List.take_of_length_le (Nat.le_refl _)]
    · rw [Nat.min_eq_right h]
  rw [hem, hef]
  have hm2 := Lib.hid (Els.take hm km (by omega))
  have hf2 := Lib.hid (Els.take hf kf (by omega))
  have hlm : (ms.take km).length ≤ 900000 := by rw [List.length_take]; omega
  have hlf : (fs.take kf).length ≤ 900000 := by rw [List.length_take]; omega
  generalize ms.take km = msx at *
  generalize fs.take kf = fsx at *
  clear hem hef hkm hkf
  replace hnm2 := Lib.hid hnm2
  replace hnf2 := Lib.hid hnf2
  replace hBW := Lib.hid hBW
  replace k1 := Lib.hid k1
  replace k2 := Lib.hid k2
  replace k3 := Lib.hid k3
  replace hW := Lib.hid hW
  clear hm hf
  go_enter Tryz.func15, Tryz.ntmps15
  go_upto_region 2 with (fail)
  rw [hW.out]
  go_cut [4, 5] from 9 to 12 (fun u4 u5 wx => u4 = .slice none 0 0 ∧ u5 = .slice none 0 0 ∧ Hid (Below W.heap.size W wx))
  case first =>
    go_quiet (fail)
    go_wp2
    go_meet
    exact ⟨rfl, rfl, below_drewN (Below.refl _ _) _⟩
  case rest =>
    obtain ⟨rfl, rfl, hBc⟩ := hcut
    have hwc := Lib.hid (bthen hBW.out hBc.out)
    have q1 := k1.out.below hBc.out k1.out.lt
    have q3 := k3.out.below hBc.out k3.out.lt
    have c1 : wc.cell? ⟨w.heap.size, 1, none⟩ = some (.slice Am nm capm) := q1.cell 1
    clear s0 s1 s2
    have hcs := hBc.out.size
    go_upto_region 4 with (at_builtin; refine wpList_append_els (E := ElZ) _ rfl (.tmp 13) (.tmp 20) 25 rfl W.heap.size Tryz.underlying25 info78 rfl rfl (by decide) _ [] rfl (OwnE.nil _ _ _) _ rfl msx (hm2.out.then hwc.out) (by simp; omega) (by omega) ?_; intro v2 w2 ho2 hb2 hg2 hl2; obtain ⟨A2, n2, cp2, rfl, hn2⟩ := OwnE.shape ho2; have hbw := show Below wc.heap.size wc w2 from below_of_grown hg2 (Nat.le_refl _) (fun k hk => by cases hk); have e31 : w2.cell? ⟨w.heap.size + 1 + 1, 1, none⟩ = some (.slice none 0 0) := (Blk.below q3 hbw q3.lt).cell 1; have f31 := (Blk.below q3 hbw q3.lt).free 1; have ho2 := Lib.hid ho2; have hbw := Lib.hid hbw; clear hg2 hl2 hb2)
    have h3n := Blk.below q3 hbw.out q3.lt
    have h1n := Blk.below q1 hbw.out q1.lt
    have h2n := (k2.out.below hBc.out k2.out.lt).below hbw.out (k2.out.below hBc.out k2.out.lt).lt
    rw [List.nil_append] at ho2
    obtain ⟨W4, hW4⟩ : ∃ W4, w2.setCell ⟨w.heap.size + 1 + 1, 1, none⟩ (.slice A2 n2 cp2) = W4 := ⟨_, rfl⟩
    have hx4 : BX [w.heap.size + 1 + 1] w2 W4 := by rw [← hW4]; exact (BX.refl _ w2).set (by simp) _
    have g3 := show Blk W4 (w.heap.size + 1 + 1) 28 #[.int .i64 st, .slice A2 n2 cp2, .slice none 0 0] by rw [← hW4]; simpa using h3n.set 1 (.slice A2 n2 cp2)
    have g1 := h1n.bx hx4 (by simp only [List.mem_cons, List.not_mem_nil, or_false]; omega)
    have g2 := Lib.hid (h2n.bx hx4 (by simp only [List.mem_cons, List.not_mem_nil, or_false]; omega))
    have hoZ := Lib.hid (show OwnE ElZ 78 W.heap.size W4 (.slice A2 n2 cp2) msx by rw [← hW4]; exact ho2.out.far (by show w.heap.size + 1 + 1 < W.heap.size; omega) _)
    have hw4 := Lib.hid (show Below w.heap.size w W4 from (bthen hwc.out hbw.out).trans (hx4.below (bthen hwc.out hbw.out).size (by simp; omega)))
    have hs4 : W.heap.size ≤ W4.heap.size := by rw [← hW4]; have := hbw.out.size; simp; omega
    rw [hW4]
    have c2 : W4.cell? ⟨w.heap.size, 2, none⟩ = some (.slice Af nf capf) := g1.cell 2
    clear hW4 hx4 h3n h1n h2n q1 q3 c1 e31 f31
    go_upto_region 5 with (at_builtin; refine wpList_append_els (E := ElI) _ rfl (.tmp 23) (.tmp 30) 26 rfl W.heap.size Tryz.underlying26 info3 rfl rfl (by decide) _ [] rfl (OwnE.nil _ _ _) _ rfl fsx (hf2.out.then hw4.out) (by simp; omega) (by omega) ?_; intro v5 w5 ho5 hb5 hg5 hl5; obtain ⟨A5, n5, cp5, rfl, hn5⟩ := OwnE.shape ho5; have hbw5 := show Below W4.heap.size W4 w5 from below_of_grown hg5 (Nat.le_refl _) (fun k hk => by cases hk); have e32 : w5.cell? ⟨w.heap.size + 1 + 1, 2, none⟩ = some (.slice none 0 0) := (Blk.below g3 hbw5 g3.lt).cell 2; have f32 := (Blk.below g3 hbw5 g3.lt).free 2; have ho5 := Lib.hid ho5; have hbw5 := Lib.hid hbw5; clear hg5 hl5 hb5)
    have h3n := Blk.below g3 hbw5.out g3.lt
    have h2n := g2.out.below hbw5.out g2.out.lt
    rw [List.nil_append] at ho5
    obtain ⟨W6, hW6⟩ : ∃ W6, w5.setCell ⟨w.heap.size + 1 + 1, 2, none⟩ (.slice A5 n5 cp5) = W6 := ⟨_, rfl⟩
    have hx6 : BX [w.heap.size + 1 + 1] w5 W6 := by rw [← hW6]; exact (BX.refl _ w5).set (by simp) _
    have i3 := show Blk W6 (w.heap.size + 1 + 1) 28 #[.int .i64 st, .slice A2 n2 cp2, .slice A5 n5 cp5] by rw [← hW6]; simpa using h3n.set 2 (.slice A5 n5 cp5)
    have i2 := h2n.bx hx6 (by simp only [List.mem_cons, List.not_mem_nil, or_false]; omega)
    have hoZ6 := Lib.hid (show OwnE ElZ 78 W.heap.size W6 (.slice A2 n2 cp2) msx by rw [← hW6]; exact (hoZ.out.then hbw5.out).far (by show w.heap.size + 1 + 1 < W.heap.size; omega) _)
    have hoI6 := Lib.hid (show OwnE ElI 3 W.heap.size W6 (.slice A5 n5 cp5) fsx by rw [← hW6]; exact ho5.out.far (by show w.heap.size + 1 + 1 < W.heap.size; omega) _)
    have hw6 := Lib.hid (show Below w.heap.size w W6 from (bthen hw4.out hbw5.out).trans (hx6.below (bthen hw4.out hbw5.out).size (by simp; omega)))
    rw [hW6]
    have r0 : W6.cell? ⟨w.heap.size + 1 + 1, 0, none⟩ = some (.int .i64 st) := i3.cell 0
    have r1 : W6.cell? ⟨w.heap.size + 1 + 1, 1, none⟩ = some (.slice A2 n2 cp2) := i3.cell 1
    have r2 : W6.cell? ⟨w.heap.size + 1 + 1, 2, none⟩ = some (.slice A5 n5 cp5) := i3.cell 2
    have u0 : W6.cell? ⟨w.heap.size + 1, 0, none⟩ = some (.int .i64 0) := i2.cell 0
    have u1 : W6.cell? ⟨w.heap.size + 1, 1, none⟩ = some (.slice none 0 0) := i2.cell 1
    have u2 : W6.cell? ⟨w.heap.size + 1, 2, none⟩ = some (.slice none 0 0) := i2.cell 2
    have x0 := i2.free 0
    have x1 := i2.free 1
    have x2 := i2.free 2
    have B2 := ((i2.set 0 (.int .i64 st)).set 1 (.slice A2 n2 cp2)).set 2 (.slice A5 n5 cp5)
    have e0 := B2.cell 0
    have e1 := B2.cell 1
    have e2 := B2.cell 2
    simp at e0 e1 e2
    have hfin := Lib.hid (show ∀ WE, BX [w.heap.size + 1] W6 WE → OwnE ElZ 78 w.heap.size WE (.slice A2 n2 cp2) msx ∧ OwnE ElI 3 w.heap.size WE (.slice A5 n5 cp5) fsx ∧ Below w.heap.size w WE from fun WE hE =>
      ⟨(hoZ6.out.of_block fun g hg => hE.block g (hoZ6.out.lt g hg).2 (by have := (hoZ6.out.lt g hg).1; simp; omega)).lo_le (by omega), (hoI6.out.of_block fun g hg => hE.block g (hoI6.out.lt g hg).2 (by have := (hoI6.out.lt g hg).1; simp; omega)).lo_le (by omega), hw6.out.trans (hE.below hw6.out.size (by simp))⟩)
    replace hfin := Lib.hid (hfin.out (((W6.setCell ⟨w.heap.size + 1, 0, none⟩ (.int .i64 st)).setCell ⟨w.heap.size + 1, 1, none⟩ (.slice A2 n2 cp2)).setCell ⟨w.heap.size + 1, 2, none⟩ (.slice A5 n5 cp5)) ((((BX.refl _ W6).set (by simp) _).set (by simp) _).set (by simp) _))
    clear hW6 hx6 h3n h2n g3 g2 i3 i2 c2 e32 f32 B2 g1
    go_wp2
    exact bodyPost_ret (v := acV st (.slice A2 n2 cp2) (.slice A5 n5 cp5)) (by simp [results, Tryz.results15, go_sem, e0, e1, e2]) rfl ⟨_, _, rfl, hfin.out⟩
end
section
open Go.RowKit Go.Shelf
attribute [local go_sem] Oper.semAt_some

def at3 (m : Mi) (j : Nat) : Int := if j = 0 then m.1 else if j = 1 then m.2.1 else m.2.2
def lexLt (a b : Mi) : Bool := decide (a.1 < b.1) || (decide (a.1 = b.1) && (decide (a.2.1 < b.2.1) || (decide (a.2.1 = b.2.1) && decide (a.2.2 < b.2.2))))
theorem lex_at {a b : Mi} {i : Nat} (hi : i < 3) (h : ∀ j, j < i → at3 a j = at3 b j) (hn : at3 a i ≠ at3 b i) : lexLt a b = decide (at3 a i < at3 b i) := by
  have : i = 0 ∨ i = 1 ∨ i = 2 := by omega
  obtain ⟨a0, a1, a2⟩ := a
  obtain ⟨b0, b1, b2⟩ := b
  unfold lexLt
  rcases this with rfl | rfl | rfl
  · simp [at3] at hn ⊢; intro h; exact absurd h hn
  · have h0 := h 0 (by omega)
    simp [at3] at hn h0 ⊢
    subst h0
    simp; intro h; exact absurd h hn
  · have h0 := h 0 (by omega)
    have h1 := h 1 (by omega)
    simp [at3] at hn h0 h1 ⊢
    subst h0; subst h1
    simp
theorem lex_all {a b : Mi} (h : ∀ j, j < 3 → at3 a j = at3 b j) : lexLt a b = false := by
  obtain ⟨a0, a1, a2⟩ := a
  obtain ⟨b0, b1, b2⟩ := b
  have h0 := h 0 (by omega)
  have h1 := h 1 (by omega)
  have h2 := h 2 (by omega)
  simp [at3] at h0 h1 h2
  subst h0; subst h1; subst h2
  simp [lexLt]
abbrev mvV (m : Mi) : Value := .agg #[.int .i64 m.1, .int .i64 m.2.1, .int .i64 m.2.2]
theorem mv_cell {w : World} {g : Nat} {m : Mi} (h : Blk w g 78 #[.int .i64 m.1, .int .i64 m.2.1, .int .i64 m.2.2]) {j : Nat} (hj : j < 3) : w.cell? ⟨g, j, none⟩ = some (.int .i64 (at3 m j)) := by
  rw [h.cell j]
  have : j = 0 ∨ j = 1 ∨ j = 2 := by omega
  rcases this with rfl | rfl | rfl <;> rfl

set_option maxRecDepth 8000 in
set_option maxHeartbeats 4000000 in
theorem less_R (w : World) (a b : Mi) : Calls Tryz.prog 39 #[mvV a, mvV b] w fun e w' => e = .returned (.bool (lexLt a b)) ∧ Below w.heap.size w w' := by
  obtain ⟨W, hW⟩ : ∃ W, (w.alloc (.cells #[.int .i64 a.1, .int .i64 a.2.1, .int .i64 a.2.2] 78)).alloc (.cells #[.int .i64 b.1, .int .i64 b.2.1, .int .i64 b.2.2] 78) = W := ⟨_, rfl⟩
  have hBW := Lib.hid (show Below w.heap.size w W by rw [← hW]; exact bthen (below1 _ _) (below1 _ _))
  have k2 := Lib.hid (show Blk W w.heap.size 78 #[.int .i64 a.1, .int .i64 a.2.1, .int .i64 a.2.2] by rw [← hW]; exact (Blk.new w 78 _).alloc _)
  have k3 := Lib.hid (show Blk W (w.heap.size + 1) 78 #[.int .i64 b.1, .int .i64 b.2.1, .int .i64 b.2.2] by rw [← hW]; have := Blk.new (w.alloc (.cells #[.int .i64 a.1, .int .i64 a.2.1, .int .i64 a.2.2] 78)) 78 #[.int .i64 b.1, .int .i64 b.2.1, .int .i64 b.2.2]; rw [alloc_size] at this; exact this)
  go_enter Tryz.func39, Tryz.ntmps39
  go_wp2
  go_loopw [5] (fun c5 wr => ∃ i : Nat, i ≤ 3 ∧ c5 = .int .i64 (i : Int) ∧ Hid (∀ j, j < i → at3 a j = at3 b j) ∧ Hid (Below W.heap.size W wr)) (fun c5 _ => 3 - (intOf c5).toNat)
  case atStart => exact ⟨0, by omega, rfl, fun j hj => by omega, Below.refl _ _⟩
  case round =>
    obtain ⟨i, hi, rfl, heq, hb⟩ := hrel
    by_cases hlt : i < 3
    case neg =>
      have hge : ¬ (i : Int) < 3 := by omega
      have hans := Lib.hid (lex_all fun j hj => heq.out j (by omega))
      go_wp2
      go_ret
      exact ⟨(by rw [hans.out]; rfl), bthen hBW.out hb.out⟩
    have hltI : (i : Int) < 3 := by omega
    have c0 := mv_cell (k2.out.below hb.out k2.out.lt) hlt
    have c1 := mv_cell (k3.out.below hb.out k3.out.lt) hlt
    by_cases hne : at3 a i = at3 b i
    · have hn := Lib.hid (show ∀ j, j < i + 1 → at3 a j = at3 b j from fun j hj => by
        by_cases h : j = i
        · rw [h]; exact hne
        · exact heq.out j (by omega))
      rw [hne] at c0
      clear hne
      generalize at3 b i = xb at *
      go_wp2
      go_quiet (fail)
      go_wp2
      go_roundw
      case rel => exact ⟨i + 1, by omega, by go_num, hn.out, below_drewN hb.out _⟩
      case measure => simp [intOf]; omega
    · have hans := Lib.hid (lex_at hlt heq.out hne)
      generalize at3 a i = xa at *
      generalize at3 b i = xb at *
      go_wp2
      go_quiet (fail)
      go_wp2
      go_quiet (fail)
      go_wp2
      go_ret
      exact ⟨(by rw [hans.out]; rfl), bthen hBW.out (below_drewN (below_drewN hb.out _) _)⟩

/-- a move is in range -/
def mvIn (st lo : Int) (m : Mi) : Bool := !decide (m.1 < 0) && !decide (st ≤ m.1) && !decide (m.2.1 < 0) && !decide (5 ≤ m.2.1) && !decide (m.2.2 < lo) && !decide (st ≤ m.2.2)
def mvAt (st lo : Int) (ms : List Mi) (i : Nat) : Bool := mvIn st lo (ms.getD i (0, 0, 0)) && (decide (i = 0) || lexLt (ms.getD (i - 1) (0, 0, 0)) (ms.getD i (0, 0, 0)))
def fnAt (st : Int) (fs : List Int) (i : Nat) : Bool := !decide (fs.getD i 0 < 0) && !decide (st ≤ fs.getD i 0) && (decide (i = 0) || !decide (fs.getD i 0 ≤ fs.getD (i - 1) 0))
/-- this is an acceptor -/
def accB (C st most lo : Int) (ms : List Mi) (fs : List Int) : Bool := !decide (st < C) && !decide (most < st) && (List.range ms.length).all (mvAt st lo ms) && (List.range fs.length).all (fnAt st fs)
theorem accB_iff {C st most lo : Int} {ms : List Mi} {fs : List Int} : accB C st most lo ms fs = true ↔ C ≤ st ∧ st ≤ most ∧ (∀ i, i < ms.length → mvAt st lo ms i = true) ∧ ∀ i, i < fs.length → fnAt st fs i = true := by
  unfold accB
  simp only [Bool.and_eq_true, Bool.not_eq_true', decide_eq_false_iff_not, List.all_eq_true, List.mem_range]
  constructor
  · rintro ⟨⟨⟨a, b⟩, c⟩, d⟩; exact ⟨by omega, by omega, c, d⟩
  · rintro ⟨a, b, c, d⟩; exact ⟨⟨⟨by omega, by omega⟩, c⟩, d⟩
theorem accB_bad {C st most lo : Int} {ms : List Mi} {fs : List Int} (h : st < C ∨ most < st ∨ (∃ i, i < ms.length ∧ mvAt st lo ms i = false) ∨ ∃ i, i < fs.length ∧ fnAt st fs i = false) : accB C st most lo ms fs = false := by
  rw [Bool.eq_false_iff]
  intro h2
  obtain ⟨a, b, c, d⟩ := accB_iff.1 h2
  rcases h with h | h | ⟨i, h, h3⟩ | ⟨i, h, h3⟩
  · omega
  · omega
  · rw [c i h] at h3; cases h3
  · rw [d i h] at h3; cases h3

set_option maxRecDepth 8000 in
set_option maxHeartbeats 8000000 in
theorem IsAcceptor_any (w : World) (C st most : Int) (n cap : Nat) (A : Option Addr) (vm vf : Value) (ms : List Mi) (fs : List Int) (hm : Els ElZ w vm ms) (hf : Els ElI w vf fs) :
    Calls Tryz.prog 16 #[sv C (.slice A n cap), acV st vm vf, .int .i64 most] w fun e w' => e = .returned (.bool (accB C st most 0 ms fs)) ∧ Below w.heap.size w w' := by
  obtain ⟨Am, nm, capm, rfl, hnm⟩ := Els.shape hm
  obtain ⟨Af, nf, capf, rfl, hnf⟩ := Els.shape hf
  have hlm := Els.len hm
  have hlf := Els.len hf
  unfold maxLen at hlm hlf
  have hnmI : (nm : Int) ≤ 9223372036854775807 := by omega
  have hnfI : (nf : Int) ≤ 9223372036854775807 := by omega
  clear hlm hlf
  obtain ⟨W, hW⟩ : ∃ W, (w.alloc (.cells #[.int .i64 C, .slice A n cap] 24)).alloc (.cells #[.int .i64 st, .slice Am nm capm, .slice Af nf capf] 28) = W := ⟨_, rfl⟩
  have hBW := show Below w.heap.size w W by rw [← hW]; exact bthen (below1 _ _) (below1 _ _)
  have k3 := show Blk W w.heap.size 24 #[.int .i64 C, .slice A n cap] by rw [← hW]; exact (Blk.new w 24 _).alloc _
  have k4 := show Blk W (w.heap.size + 1) 28 #[.int .i64 st, .slice Am nm capm, .slice Af nf capf] by rw [← hW]; have := Blk.new (w.alloc (.cells #[.int .i64 C, .slice A n cap] 24)) 28 #[.int .i64 st, .slice Am nm capm, .slice Af nf capf]; rw [alloc_size] at this; exact this
  have p0 : W.cell? ⟨w.heap.size, 0, none⟩ = some (.int .i64 C) := k3.cell 0
  have p1 : W.cell? ⟨w.heap.size + 1, 0, none⟩ = some (.int .i64 st) := k4.cell 0
  replace hm := Lib.hid (hm.then hBW)
  replace hf := Lib.hid (hf.then hBW)
  replace hBW := Lib.hid hBW
  replace k3 := Lib.hid k3
  replace k4 := Lib.hid k4
  have hbad := Lib.hid (accB_bad (C := C) (st := st) (most := most) (lo := 0) (ms := ms) (fs := fs))
  by_cases h1 : st < C
  · have hr := Lib.hid (hbad.out (.inl h1))
    go_enter Tryz.func16, Tryz.ntmps16
    go_wp2
    go_ret
    exact ⟨(by rw [hr.out]; rfl), hBW.out⟩
  by_cases h2 : most < st
  · have hr := Lib.hid (hbad.out (.inr (.inl h2)))
    go_enter Tryz.func16, Tryz.ntmps16
    go_wp2
    go_ret
    exact ⟨(by rw [hr.out]; rfl), hBW.out⟩
  go_enter Tryz.func16, Tryz.ntmps16
  go_wp2
  clear p0
  go_loopw [7] (fun c7 wr => ∃ i : Nat, i ≤ nm ∧ c7 = .int .i64 (i : Int) ∧ Hid (∀ j, j < i → mvAt st 0 ms j = true) ∧ Hid (Below W.heap.size W wr)) (fun c7 _ => nm - (intOf c7).toNat)
  case atStart => exact ⟨0, by omega, rfl, fun j hj => by omega, Below.refl _ _⟩
  case round =>
    obtain ⟨i, hi, rfl, hok, hb⟩ := hrel
    have a1 : wr.cell? ⟨w.heap.size + 1, 1, none⟩ = some (.slice Am nm capm) := (k4.out.below hb.out k4.out.lt).cell 1
    have a2 : wr.cell? ⟨w.heap.size + 1, 2, none⟩ = some (.slice Af nf capf) := (k4.out.below hb.out k4.out.lt).cell 2
    by_cases hlt : i < nm
    case neg =>
      have hge : ¬ (i : Int) < nm := by omega
      have hmv := Lib.hid (show ∀ j, j < ms.length → mvAt st 0 ms j = true from fun j hj => hok.out j (by have := hnm.out; omega))
      clear hok hlt hi
      go_wp2
      clear a1 a2 hge
      obtain ⟨V, hV⟩ : ∃ V, V = wr := ⟨_, rfl⟩
      subst hV
      go_loopw [9] (fun c9 wz => ∃ j : Nat, j ≤ nf ∧ c9 = .int .i64 (j : Int) ∧ Hid (∀ k, k < j → fnAt st fs k = true) ∧ Hid (Below V.heap.size V wz)) (fun c9 _ => nf - (intOf c9).toNat)
      case atStart => exact ⟨0, by omega, rfl, fun j hj => by omega, Below.refl _ _⟩
      case round =>
        obtain ⟨j, hj, rfl, hfo, hbz⟩ := hrel
        have hbw := bthen hb.out hbz.out
        have b0 : wr.cell? ⟨w.heap.size + 1, 0, none⟩ = some (.int .i64 st) := (k4.out.below hbw k4.out.lt).cell 0
        have b2 : wr.cell? ⟨w.heap.size + 1, 2, none⟩ = some (.slice Af nf capf) := (k4.out.below hbw k4.out.lt).cell 2
        have hbR := Lib.hid (bthen hBW.out hbw)
        by_cases hltj : j < nf
        case neg =>
          have hge : ¬ (j : Int) < nf := by omega
          have hans := Lib.hid (show accB C st most 0 ms fs = true from accB_iff.2 ⟨by omega, by omega, hmv.out, fun k hk => hfo.out k (by have := hnf.out; omega)⟩)
          go_wp2
          go_ret
          exact ⟨(by rw [hans.out]; rfl), hbR.out⟩
        have hltJ : (j : Int) < nf := by omega
        have hjl : j < fs.length := by have := hnf.out; omega
        obtain ⟨bF, oF, rfl, hat⟩ := (hf.out.then hbw).cell (by omega)
        have z0 := hat j hjl 0 (.int .i64 fs[j]) rfl
        change wr.cell? ⟨bF, oF + j * 1, none⟩ = _ at z0
        rw [Nat.mul_one] at z0
        have hfd : fs.getD j 0 = fs[j] := by rw [List.getD_eq_getElem?_getD, List.getElem?_eq_getElem hjl, Option.getD_some]
        have hfb := Lib.hid (fun h => hbad.out (.inr (.inr (.inr ⟨j, hjl, h⟩))))
        have hfn := Lib.hid (show fnAt st fs j = (!decide (fs[j] < 0) && !decide (st ≤ fs[j]) && (decide (j = 0) || !decide (fs[j] ≤ fs.getD (j - 1) 0))) from by unfold fnAt; rw [hfd])
        have hnx := Lib.hid (show fnAt st fs j = true → ∀ k, k < j + 1 → fnAt st fs k = true from fun h k hk => by
          by_cases e : k = j
          · rw [e]; exact h
          · exact hfo.out k (by omega))
        have hprev := Lib.hid (show ∀ p, j = p + 1 → wr.cell? ⟨bF, oF + p, none⟩ = some (.int .i64 (fs.getD (j - 1) 0)) from fun p hp => by
          have hpl : p < fs.length := by omega
          have := hat p hpl 0 (.int .i64 fs[p]) rfl
          change wr.cell? ⟨bF, oF + p * 1, none⟩ = _ at this
          rw [Nat.mul_one] at this
          rw [this, hp, Nat.add_sub_cancel, List.getD_eq_getElem?_getD, List.getElem?_eq_getElem hpl, Option.getD_some])
        generalize fs[j] = f at *
        generalize fs.getD (j - 1) 0 = fp at *
        clear hat hfd hbw
        by_cases e1 : f < 0
        · have hr := Lib.hid (hfb.out (by rw [hfn.out]; simp [e1]))
          go_wp2
          go_ret
          exact ⟨(by rw [hr.out]; rfl), hbR.out⟩
        by_cases e2 : st ≤ f
        · have hr := Lib.hid (hfb.out (by rw [hfn.out]; simp [e2]))
          go_wp2
          go_ret
          exact ⟨(by rw [hr.out]; rfl), hbR.out⟩
        by_cases e3 : j = 0
        · have hr := Lib.hid (hnx.out (by rw [hfn.out]; simp [e1, e2, e3]))
          have hj0 : ¬ (0 : Int) < (j : Int) := by omega
          replace e3 := Lib.hid e3
          go_wp2
          go_roundw
          case rel => exact ⟨j + 1, by omega, by go_num, hr.out, hbz.out⟩
          case measure => simp [intOf]; omega
        obtain ⟨p, hp⟩ : ∃ p, j = p + 1 := ⟨j - 1, by omega⟩
        have z1 := hprev.out p hp
        have hj0 : (0 : Int) < (j : Int) := by omega
        have hpI : (j : Int) - 1 = (p : Int) := by omega
        have hpn : (p : Int) < nf := by omega
        have hpN : p < nf := by omega
        replace hp := Lib.hid hp
        by_cases e4 : f ≤ fp
        · have hr := Lib.hid (hfb.out (by rw [hfn.out]; simp [e4]; intro _ _; exact e3))
          go_wp2
          go_ret
          exact ⟨(by rw [hr.out]; rfl), hbR.out⟩
        · have hr := Lib.hid (hnx.out (by rw [hfn.out]; simp [e1, e2, e4]))
          go_wp2
          go_roundw
          case rel => exact ⟨j + 1, by omega, by go_num, hr.out, hbz.out⟩
          case measure => simp [intOf]; omega
    have hltI : (i : Int) < nm := by omega
    have hil : i < ms.length := by have := hnm.out; omega
    obtain ⟨bM, oM, rfl, hat⟩ := (hm.out.then hb.out).cell (by omega)
    have z0 := hat i hil 0 (.int .i64 ms[i].1) rfl
    have z1 := hat i hil 1 (.int .i64 ms[i].2.1) rfl
    have z2 := hat i hil 2 (.int .i64 ms[i].2.2) rfl
    change wr.cell? ⟨bM, oM + i * 3, none⟩ = _ at z0
    change wr.cell? ⟨bM, oM + i * 3 + 1, none⟩ = _ at z1
    change wr.cell? ⟨bM, oM + i * 3 + 2, none⟩ = _ at z2
    have hmd : ms.getD i (0, 0, 0) = ms[i] := by rw [List.getD_eq_getElem?_getD, List.getElem?_eq_getElem hil, Option.getD_some]
    have hmb := Lib.hid (fun h => hbad.out (.inr (.inr (.inl ⟨i, hil, h⟩))))
    have hmn := Lib.hid (show mvAt st 0 ms i = (mvIn st 0 ms[i] && (decide (i = 0) || lexLt (ms.getD (i - 1) (0, 0, 0)) ms[i])) from by unfold mvAt; rw [hmd])
    have hnx := Lib.hid (show mvAt st 0 ms i = true → ∀ k, k < i + 1 → mvAt st 0 ms k = true from fun h k hk => by
      by_cases e : k = i
      · rw [e]; exact h
      · exact hok.out k (by omega))
    have hprev := Lib.hid (show ∀ p, i = p + 1 → wr.cell? ⟨bM, oM + p * 3, none⟩ = some (.int .i64 (ms.getD (i - 1) (0, 0, 0)).1) ∧ wr.cell? ⟨bM, oM + p * 3 + 1, none⟩ = some (.int .i64 (ms.getD (i - 1) (0, 0, 0)).2.1) ∧ wr.cell? ⟨bM, oM + p * 3 + 2, none⟩ = some (.int .i64 (ms.getD (i - 1) (0, 0, 0)).2.2) from fun p hp => by
      have hpl : p < ms.length := by omega
      have e : ms.getD (i - 1) (0, 0, 0) = ms[p] := by rw [hp, Nat.add_sub_cancel, List.getD_eq_getElem?_getD, List.getElem?_eq_getElem hpl, Option.getD_some]
      rw [e]
      exact ⟨hat p hpl 0 (.int .i64 ms[p].1) rfl, hat p hpl 1 (.int .i64 ms[p].2.1) rfl, hat p hpl 2 (.int .i64 ms[p].2.2) rfl⟩)
    generalize ms[i] = mv at *
    generalize ms.getD (i - 1) (0, 0, 0) = mp at *
    obtain ⟨m0, m1, m2⟩ := mv
    obtain ⟨q0, q1, q2⟩ := mp
    dsimp only at z0 z1 z2 hprev
    clear hat hmd
    unfold mvIn at hmn
    dsimp only at hmn
    go_upto_region 7 with (fail)
    clear z0 z1 z2
    obtain ⟨W2, hW2⟩ : ∃ W2, wr.alloc (.cells #[.int .i64 m0, .int .i64 m1, .int .i64 m2] 78) = W2 := ⟨_, rfl⟩
    obtain ⟨bu, hbu⟩ : ∃ bu, wr.heap.size = bu := ⟨_, rfl⟩
    have hb2 : Below wr.heap.size wr W2 := by rw [← hW2]; exact below1 _ _
    have kR := show Blk W2 bu 78 #[.int .i64 m0, .int .i64 m1, .int .i64 m2] by rw [← hW2, ← hbu]; exact Blk.new _ _ _
    have hbz := Lib.hid (bthen hb.out hb2)
    have k4z := k4.out.below hbz.out k4.out.lt
    have c0 : ∀ g : Gr W2, g.w1.cell? ⟨bu, 0, none⟩ = some (.int .i64 m0) := fun g => g.cell (kR.cell 0)
    have c1 : ∀ g : Gr W2, g.w1.cell? ⟨bu, 1, none⟩ = some (.int .i64 m1) := fun g => g.cell (kR.cell 1)
    have c2 : ∀ g : Gr W2, g.w1.cell? ⟨bu, 2, none⟩ = some (.int .i64 m2) := fun g => g.cell (kR.cell 2)
    have d0 : ∀ g : Gr W2, g.w1.cell? ⟨w.heap.size + 1, 0, none⟩ = some (.int .i64 st) := fun g => g.cell (k4z.cell 0)
    have d1 : ∀ g : Gr W2, g.w1.cell? ⟨w.heap.size + 1, 1, none⟩ = some (.slice (some ⟨bM, oM, none⟩) nm capm) := fun g => g.cell (k4z.cell 1)
    have hprev2 := Lib.hid (fun p hp => And.intro (cell_below (hprev.out p hp).1 hb2) (And.intro (cell_below (hprev.out p hp).2.1 hb2) (cell_below (hprev.out p hp).2.2 hb2)))
    rw [hW2, hbu]
    clear hW2 hbu hb2 hprev kR a1 a2 k4z
    have hls := Lib.hid (fun g : Gr W2 => grow_of (less_R g.w1 (q0, q1, q2) (m0, m1, m2)))
    have hcapm : nm ≤ capm := (Els.len hm.out).2.1
    by_cases e0 : m0 < 0
    · have hr := Lib.hid (hmb.out (by rw [hmn.out]; simp [e0]))
      refine wp_region_grow (by kernel_rfl) (by kernel_rfl) ?_
      repeat (go_big_quiet_step (first | (go_at_call 39; with_reducible exact hls.out _)))
      refine wpQuiet_nil ?_
      rintro _ ⟨g, rfl⟩
      have hbg := Lib.hid (bthen (bthen hBW.out hbz.out) g.h)
      go_wp2
      go_ret
      exact ⟨(by rw [hr.out]; rfl), hbg.out⟩
    by_cases e1 : st ≤ m0
    · have hr := Lib.hid (hmb.out (by rw [hmn.out]; simp [e1]))
      refine wp_region_grow (by kernel_rfl) (by kernel_rfl) ?_
      repeat (go_big_quiet_step (first | (go_at_call 39; with_reducible exact hls.out _)))
      refine wpQuiet_nil ?_
      rintro _ ⟨g, rfl⟩
      have hbg := Lib.hid (bthen (bthen hBW.out hbz.out) g.h)
      go_wp2
      go_ret
      exact ⟨(by rw [hr.out]; rfl), hbg.out⟩
    by_cases e2 : m1 < 0
    · have hr := Lib.hid (hmb.out (by rw [hmn.out]; simp [e2]))
      refine wp_region_grow (by kernel_rfl) (by kernel_rfl) ?_
      repeat (go_big_quiet_step (first | (go_at_call 39; with_reducible exact hls.out _)))
      refine wpQuiet_nil ?_
      rintro _ ⟨g, rfl⟩
      have hbg := Lib.hid (bthen (bthen hBW.out hbz.out) g.h)
      go_wp2
      go_ret
      exact ⟨(by rw [hr.out]; rfl), hbg.out⟩
    by_cases e3 : 5 ≤ m1
    · have hr := Lib.hid (hmb.out (by rw [hmn.out]; simp [e3]))
      refine wp_region_grow (by kernel_rfl) (by kernel_rfl) ?_
      repeat (go_big_quiet_step (first | (go_at_call 39; with_reducible exact hls.out _)))
      refine wpQuiet_nil ?_
      rintro _ ⟨g, rfl⟩
      have hbg := Lib.hid (bthen (bthen hBW.out hbz.out) g.h)
      go_wp2
      go_ret
      exact ⟨(by rw [hr.out]; rfl), hbg.out⟩
    by_cases e4 : m2 < 0
    · have hr := Lib.hid (hmb.out (by rw [hmn.out]; simp [e4]))
      refine wp_region_grow (by kernel_rfl) (by kernel_rfl) ?_
      repeat (go_big_quiet_step (first | (go_at_call 39; with_reducible exact hls.out _)))
      refine wpQuiet_nil ?_
      rintro _ ⟨g, rfl⟩
      have hbg := Lib.hid (bthen (bthen hBW.out hbz.out) g.h)
      go_wp2
      go_ret
      exact ⟨(by rw [hr.out]; rfl), hbg.out⟩
    by_cases e5 : st ≤ m2
    · have hr := Lib.hid (hmb.out (by rw [hmn.out]; simp [e5]))
      refine wp_region_grow (by kernel_rfl) (by kernel_rfl) ?_
      repeat (go_big_quiet_step (first | (go_at_call 39; with_reducible exact hls.out _)))
      refine wpQuiet_nil ?_
      rintro _ ⟨g, rfl⟩
      have hbg := Lib.hid (bthen (bthen hBW.out hbz.out) g.h)
      go_wp2
      go_ret
      exact ⟨(by rw [hr.out]; rfl), hbg.out⟩
    have hin : (!decide (m0 < 0) && !decide (st ≤ m0) && !decide (m1 < 0) && !decide (5 ≤ m1) && !decide (m2 < 0) && !decide (st ≤ m2)) = true := by simp [e0, e1, e2, e3, e4, e5]
    rw [hin, Bool.true_and] at hmn
    clear hin
    by_cases e6 : i = 0
    · have hr := Lib.hid (hnx.out (by rw [hmn.out]; simp [e6]))
      have hj0 : ¬ (0 : Int) < (i : Int) := by omega
      have hj1 : decide ((0 : Int) < (i : Int)) = false := by simpa using hj0
      have hj2 : ¬ 0 < i := by omega
      have hj3 : decide (0 < i) = false := by simpa using hj2
      replace e6 := Lib.hid e6
      refine wp_region_grow (by kernel_rfl) (by kernel_rfl) ?_
      repeat (go_big_quiet_step (first | (go_at_call 39; with_reducible exact hls.out _)))
      refine wpQuiet_nil ?_
      rintro _ ⟨g, rfl⟩
      have hbg := Lib.hid (bthen hbz.out g.h)
      go_wp2
      go_roundw
      case rel => exact ⟨i + 1, by omega, by go_num, hr.out, hbg.out⟩
      case measure => simp [intOf]; omega
    obtain ⟨p, hp⟩ : ∃ p, i = p + 1 := ⟨i - 1, by omega⟩
    obtain ⟨y0, y1, y2⟩ := hprev2.out p hp
    have x0 : ∀ g : Gr W2, g.w1.cell? ⟨bM, oM + p * 3, none⟩ = some (.int .i64 q0) := fun g => g.cell y0
    have x1 : ∀ g : Gr W2, g.w1.cell? ⟨bM, oM + p * 3 + 1, none⟩ = some (.int .i64 q1) := fun g => g.cell y1
    have x2 : ∀ g : Gr W2, g.w1.cell? ⟨bM, oM + p * 3 + 2, none⟩ = some (.int .i64 q2) := fun g => g.cell y2
    clear y0 y1 y2
    have hj0 : (0 : Int) < (i : Int) := by omega
    have hjN : 0 < i := by omega
    have hpI : (i : Int) - 1 = (p : Int) := by omega
    have hpn : (p : Int) < nm := by omega
    have hpN : p < nm := by omega
    replace hp := Lib.hid hp
    cases e7 : lexLt (q0, q1, q2) (m0, m1, m2)
    · rw [e7] at hls hmn
      have hr := Lib.hid (hmb.out (by rw [hmn.out]; simpa using e6))
      replace e7 := Lib.hid e7
      refine wp_region_grow (by kernel_rfl) (by kernel_rfl) ?_
      repeat (go_big_quiet_step (first | (go_at_call 39; with_reducible exact hls.out _)))
      refine wpQuiet_nil ?_
      rintro _ ⟨g, rfl⟩
      have hbg := Lib.hid (bthen (bthen hBW.out hbz.out) g.h)
      go_wp2
      go_ret
      exact ⟨(by rw [hr.out]; rfl), hbg.out⟩
    · rw [e7] at hls hmn
      have hr := Lib.hid (hnx.out (by rw [hmn.out]; simp))
      replace e7 := Lib.hid e7
      refine wp_region_grow (by kernel_rfl) (by kernel_rfl) ?_
      repeat (go_big_quiet_step (first | (go_at_call 39; with_reducible exact hls.out _)))
      refine wpQuiet_nil ?_
      rintro _ ⟨g, rfl⟩
      have hbg := Lib.hid (bthen hbz.out g.h)
      go_wp2
      go_roundw
      case rel => exact ⟨i + 1, by omega, by go_num, hr.out, hbg.out⟩
      case measure => simp [intOf]; omega
end
section
open Go.RowKit Go.Shelf
attribute [local go_sem] Oper.semAt_some

/-- this acceptor may be given -/
def givenB (C st : Int) (ms : List Mi) (fs : List Int) : Bool := accB C st 12 0 ms fs && decide (ms.length ≤ 100) && (List.range ms.length).all fun i => !decide ((ms.getD i (0, 0, 0)).2.2 < C)
theorem givenB_iff {C st : Int} {ms : List Mi} {fs : List Int} : givenB C st ms fs = true ↔ accB C st 12 0 ms fs = true ∧ ms.length ≤ 100 ∧ ∀ i, i < ms.length → C ≤ (ms.getD i (0, 0, 0)).2.2 := by
  unfold givenB
  simp only [Bool.and_eq_true, decide_eq_true_eq, Bool.not_eq_true', decide_eq_false_iff_not, List.all_eq_true, List.mem_range, and_assoc]
  constructor
  · rintro ⟨a, b, c⟩; exact ⟨a, b, fun i hi => by have := c i hi; omega⟩
  · rintro ⟨a, b, c⟩; exact ⟨a, b, fun i hi => by have := c i hi; omega⟩
theorem givenB_bad {C st : Int} {ms : List Mi} {fs : List Int} (h : accB C st 12 0 ms fs = false ∨ 100 < ms.length ∨ ∃ i, i < ms.length ∧ (ms.getD i (0, 0, 0)).2.2 < C) : givenB C st ms fs = false := by
  rw [Bool.eq_false_iff]
  intro h2
  obtain ⟨a, b, c⟩ := givenB_iff.1 h2
  rcases h with h | h | ⟨i, h, h3⟩
  · rw [a] at h; cases h
  · omega
  · have := c i h; omega

set_option maxRecDepth 8000 in
set_option maxHeartbeats 4000000 in
theorem Given_any (w : World) (C st : Int) (n cap : Nat) (A : Option Addr) (vm vf : Value) (ms : List Mi) (fs : List Int) (hm : Els ElZ w vm ms) (hf : Els ElI w vf fs) :
    Calls Tryz.prog 9 #[sv C (.slice A n cap), acV st vm vf] w fun e w' => e = .returned (.bool (givenB C st ms fs)) ∧ Below w.heap.size w w' := by
  obtain ⟨Am, nm, capm, rfl, hnm⟩ := Els.shape hm
  obtain ⟨Af, nf, capf, rfl, hnf⟩ := Els.shape hf
  have hlm := Els.len hm
  unfold maxLen at hlm
  have hnmI : (nm : Int) ≤ 9223372036854775807 := by omega
  clear hlm
  obtain ⟨W, hW⟩ : ∃ W, (w.alloc (.cells #[.int .i64 C, .slice A n cap] 24)).alloc (.cells #[.int .i64 st, .slice Am nm capm, .slice Af nf capf] 28) = W := ⟨_, rfl⟩
  have hBW := show Below w.heap.size w W by rw [← hW]; exact bthen (below1 _ _) (below1 _ _)
  have k2 := show Blk W w.heap.size 24 #[.int .i64 C, .slice A n cap] by rw [← hW]; exact (Blk.new w 24 _).alloc _
  have k3 := show Blk W (w.heap.size + 1) 28 #[.int .i64 st, .slice Am nm capm, .slice Af nf capf] by rw [← hW]; have := Blk.new (w.alloc (.cells #[.int .i64 C, .slice A n cap] 24)) 28 #[.int .i64 st, .slice Am nm capm, .slice Af nf capf]; rw [alloc_size] at this; exact this
  have p0 : W.cell? ⟨w.heap.size, 0, none⟩ = some (.int .i64 C) := k2.cell 0
  have p1 : W.cell? ⟨w.heap.size, 1, none⟩ = some (.slice A n cap) := k2.cell 1
  have p2 : W.cell? ⟨w.heap.size + 1, 0, none⟩ = some (.int .i64 st) := k3.cell 0
  have p3 : W.cell? ⟨w.heap.size + 1, 1, none⟩ = some (.slice Am nm capm) := k3.cell 1
  have p4 : W.cell? ⟨w.heap.size + 1, 2, none⟩ = some (.slice Af nf capf) := k3.cell 2
  have hacc := Lib.hid (IsAcceptor_any W C st 12 n cap A _ _ ms fs (hm.then hBW) (hf.then hBW))
  replace hm := Lib.hid (hm.then hBW)
  replace hBW := Lib.hid hBW
  replace k2 := Lib.hid k2
  replace k3 := Lib.hid k3
  clear hf
  have hbad := Lib.hid (givenB_bad (C := C) (st := st) (ms := ms) (fs := fs))
  go_enter Tryz.func9, Tryz.ntmps9
  cases e1 : accB C st 12 0 ms fs with
  | false =>
    rw [e1] at hacc
    have hr := Lib.hid (hbad.out (.inl e1))
    replace e1 := Lib.hid e1
    go_wp2_with (go_at_call 16; refine hacc.out.mono ?_; rintro e w1 ⟨rfl, hb1⟩; have hb1 := Lib.hid hb1)
    go_ret
    exact ⟨(by rw [hr.out]; rfl), bthen hBW.out hb1.out⟩
  | true =>
  rw [e1] at hacc
  by_cases e2 : 100 < nm
  · have hr := Lib.hid (hbad.out (.inr (.inl (by have := hnm.out; omega))))
    have e2I : (100 : Int) < nm := by omega
    replace e1 := Lib.hid e1
    go_wp2_with (go_at_call 16; refine hacc.out.mono ?_; rintro e w1 ⟨rfl, hb1⟩; replace p3 := cell_below p3 hb1; have hb1 := Lib.hid hb1)
    go_ret
    exact ⟨(by rw [hr.out]; rfl), bthen hBW.out hb1.out⟩
  have e2I : ¬ (100 : Int) < nm := by omega
  replace e1 := Lib.hid e1
  go_wp2_with (go_at_call 16; refine hacc.out.mono ?_; rintro e w1 ⟨rfl, hb1⟩; replace p3 := cell_below p3 hb1; have hb1 := Lib.hid hb1)
  clear p0 p1 p2 p3 p4 hacc
  have hb1W := Lib.hid (show Below W.heap.size W w1 from hb1.out)
  go_loopw [5] (fun c5 wr => ∃ i : Nat, i ≤ nm ∧ c5 = .int .i64 (i : Int) ∧ Hid (∀ j, j < i → C ≤ (ms.getD j (0, 0, 0)).2.2) ∧ Hid (Below W.heap.size W wr)) (fun c5 _ => nm - (intOf c5).toNat)
  case atStart => exact ⟨0, by omega, rfl, fun j hj => by omega, hb1W.out⟩
  case round =>
    obtain ⟨i, hi, rfl, hok, hb⟩ := hrel
    have a1 : wr.cell? ⟨w.heap.size + 1, 1, none⟩ = some (.slice Am nm capm) := (k3.out.below hb.out k3.out.lt).cell 1
    have a0 : wr.cell? ⟨w.heap.size, 0, none⟩ = some (.int .i64 C) := (k2.out.below hb.out k2.out.lt).cell 0
    by_cases hlt : i < nm
    case neg =>
      have hge : ¬ (i : Int) < nm := by omega
      have hans := Lib.hid (givenB_iff.2 ⟨e1.out, by have := hnm.out; omega, fun j hj => hok.out j (by have := hnm.out; omega)⟩)
      go_wp2
      go_ret
      exact ⟨(by rw [hans.out]; rfl), bthen hBW.out hb.out⟩
    have hltI : (i : Int) < nm := by omega
    have hil : i < ms.length := by have := hnm.out; omega
    obtain ⟨bM, oM, rfl, hat⟩ := (hm.out.then hb.out).cell (by omega)
    have z2 := hat i hil 2 (.int .i64 ms[i].2.2) rfl
    change wr.cell? ⟨bM, oM + i * 3 + 2, none⟩ = _ at z2
    have hmd : ms.getD i (0, 0, 0) = ms[i] := by rw [List.getD_eq_getElem?_getD, List.getElem?_eq_getElem hil, Option.getD_some]
    have hmb := Lib.hid (fun h => hbad.out (.inr (.inr ⟨i, hil, by rw [hmd]; exact h⟩)))
    have hnx := Lib.hid (show C ≤ ms[i].2.2 → ∀ k, k < i + 1 → C ≤ (ms.getD k (0, 0, 0)).2.2 from fun h k hk => by
      by_cases e : k = i
      · rw [e, hmd]; exact h
      · exact hok.out k (by omega))
    generalize ms[i] = mv at *
    obtain ⟨m0, m1, m2⟩ := mv
    dsimp only at z2 hmb hnx
    clear hat hmd
    by_cases e3 : m2 < C
    · have hr := Lib.hid (hmb.out e3)
      go_wp2
      go_quiet (fail)
      go_wp2
      go_ret
      exact ⟨(by rw [hr.out]; rfl), bthen hBW.out (below_drewN hb.out _)⟩
    · have hr := Lib.hid (hnx.out (by omega))
      go_wp2
      go_quiet (fail)
      go_wp2
      go_roundw
      case rel => exact ⟨i + 1, by omega, by go_num, hr.out, below_drewN hb.out _⟩
      case measure => simp [intOf]; omega

def cmpI (x y : Int) : Int := if x < y then -1 else if y < x then 1 else 0
theorem cmpI_lt {x y : Int} (h : x < y) : cmpI x y = -1 := by unfold cmpI; rw [if_pos h]
theorem cmpI_gt {x y : Int} (h : y < x) : cmpI x y = 1 := by unfold cmpI; rw [if_neg (by omega), if_pos h]
theorem cmpI_eq (x : Int) : cmpI x x = 0 := by unfold cmpI; rw [if_neg (by omega), if_neg (by omega)]
set_option maxHeartbeats 1000000 in
theorem cmpInt_any (w : World) (x y : Int) : Calls Tryz.prog 81 #[.int .i64 x, .int .i64 y] w fun e w' => e = .returned (.int .i64 (cmpI x y)) ∧ w = w' := by
  have hn : ∀ z : Int, Calls Tryz.prog 103 #[.int .i64 z] w fun e w' => e = .returned (.bool false) ∧ w = w' := by
    intro z
    go_enter Tryz.func103, Tryz.ntmps103
    go_wp2
    go_ret
    exact ⟨rfl, rfl⟩
  replace hn := Lib.hid hn
  go_enter Tryz.func81, Tryz.ntmps81
  rcases Int.lt_trichotomy x y with h | rfl | h
  · rw [cmpI_lt h]
    go_wp2_with (go_at_call 103; refine (hn.out _).mono ?_; rintro e w1 ⟨rfl, rfl⟩)
    go_ret
    exact ⟨rfl, rfl⟩
  · rw [cmpI_eq]
    go_wp2_with (go_at_call 103; refine (hn.out _).mono ?_; rintro e w1 ⟨rfl, rfl⟩)
    go_ret
    exact ⟨rfl, rfl⟩
  · rw [cmpI_gt h]
    have h2 : ¬ x < y := by omega
    go_wp2_with (go_at_call 103; refine (hn.out _).mono ?_; rintro e w1 ⟨rfl, rfl⟩)
    go_ret
    exact ⟨rfl, rfl⟩
/-- the order of moves -/
def cfM (a b : Mi) : Int := if lexLt a b then -1 else if lexLt b a then 1 else 0
theorem cfM_at {a b : Mi} {i : Nat} (hi : i < 3) (h : ∀ j, j < i → at3 a j = at3 b j) (hn : at3 a i ≠ at3 b i) : cfM a b = cmpI (at3 a i) (at3 b i) := by
  unfold cfM cmpI
  rw [lex_at hi h hn, lex_at hi (fun j hj => (h j hj).symm) (fun e => hn e.symm)]
  simp
theorem cfM_all {a b : Mi} (h : ∀ j, j < 3 → at3 a j = at3 b j) : cfM a b = 0 := by
  unfold cfM
  rw [lex_all h, lex_all fun j hj => (h j hj).symm]
  rfl
set_option maxRecDepth 8000 in
set_option maxHeartbeats 4000000 in
theorem Compare_same (w : World) (g1 g2 : Nat) (a b : Mi) (h1 : ∀ j, j < 3 → w.cell? ⟨g1, j, none⟩ = some (.int .i64 (at3 a j))) (h2 : ∀ j, j < 3 → w.cell? ⟨g2, j, none⟩ = some (.int .i64 (at3 b j))) :
    Calls Tryz.prog 62 #[.slice (some ⟨g1, 0, none⟩) 3 3, .slice (some ⟨g2, 0, none⟩) 3 3] w fun e w' => e = .returned (.int .i64 (cfM a b)) ∧ w' = w := by
  replace h1 := Lib.hid h1
  replace h2 := Lib.hid h2
  go_enter Tryz.func62, Tryz.ntmps62
  go_wp2
  go_loopw [11] (fun c11 wr => ∃ i : Nat, i ≤ 3 ∧ c11 = .int .i64 (i : Int) ∧ Hid (∀ j, j < i → at3 a j = at3 b j) ∧ Hid (wr = w)) (fun c11 _ => 3 - (intOf c11).toNat)
  case atStart => exact ⟨0, by omega, rfl, fun j hj => by omega, rfl⟩
  case round =>
    obtain ⟨i, hi, rfl, heq, hb⟩ := hrel
    by_cases hlt : i < 3
    case neg =>
      have hge : ¬ (i : Int) < 3 := by omega
      have hans := Lib.hid (cfM_all fun j hj => heq.out j (by omega))
      go_wp2
      go_ret
      exact ⟨(by rw [hans.out]; rfl), hb.out⟩
    have hltI : (i : Int) < 3 := by omega
    have c0 : wr.cell? ⟨g1, i, none⟩ = some (.int .i64 (at3 a i)) := by rw [hb.out]; exact h1.out i hlt
    have c1 : wr.cell? ⟨g2, i, none⟩ = some (.int .i64 (at3 b i)) := by rw [hb.out]; exact h2.out i hlt
    by_cases hne : at3 a i = at3 b i
    · have hn := Lib.hid (show ∀ j, j < i + 1 → at3 a j = at3 b j from fun j hj => by
        by_cases h : j = i
        · rw [h]; exact hne
        · exact heq.out j (by omega))
      rw [hne] at c0
      clear hne
      generalize at3 b i = xb at *
      have hc := Lib.hid (cmpInt_any wr xb xb)
      rw [cmpI_eq] at hc
      go_wp2_with (go_at_call 81; refine hc.out.mono ?_; rintro e w1 ⟨rfl, rfl⟩)
      go_roundw
      case rel => exact ⟨i + 1, by omega, by go_num, hn.out, hb.out⟩
      case measure => simp [intOf]; omega
    · have hans := Lib.hid (cfM_at hlt heq.out hne)
      generalize at3 a i = xa at *
      generalize at3 b i = xb at *
      have hc := Lib.hid (cmpInt_any wr xa xb)
      have hz : cmpI xa xb ≠ 0 := by unfold cmpI; split <;> (try split) <;> omega
      generalize cmpI xa xb = cv at *
      go_wp2_with (go_at_call 81; refine hc.out.mono ?_; rintro e w1 ⟨rfl, rfl⟩)
      go_ret
      exact ⟨(by rw [hans.out]; rfl), hb.out⟩
theorem Compare_any (w : World) (g1 g2 : Nat) (a b : Mi) (h1 : ∀ j, j < 3 → w.cell? ⟨g1, j, none⟩ = some (.int .i64 (at3 a j))) (h2 : ∀ j, j < 3 → w.cell? ⟨g2, j, none⟩ = some (.int .i64 (at3 b j))) :
    Calls Tryz.prog 62 #[.slice (some ⟨g1, 0, none⟩) 3 3, .slice (some ⟨g2, 0, none⟩) 3 3] w fun e w' => e = .returned (.int .i64 (cfM a b)) ∧ Below w.heap.size w w' :=
  (Compare_same w g1 g2 a b h1 h2).mono fun _ _ ⟨h3, h4⟩ => ⟨h3, by rw [h4]; exact Below.refl _ _⟩
end
section
open Go.RowKit Go.Shelf
attribute [local go_sem] Oper.semAt_some

theorem givenB_iff2 {C st : Int} {ms : List Mi} {fs : List Int} (hC : 0 ≤ C) : givenB C st ms fs = true ↔ C ≤ st ∧ st ≤ 12 ∧ ms.length ≤ 100 ∧ (∀ i, i < ms.length → mvAt st C ms i = true) ∧ ∀ i, i < fs.length → fnAt st fs i = true := by
  rw [givenB_iff, accB_iff]
  have key : ∀ i, mvAt st C ms i = true ↔ mvAt st 0 ms i = true ∧ C ≤ (ms.getD i (0, 0, 0)).2.2 := fun i => by
    unfold mvAt mvIn
    generalize ms.getD i (0, 0, 0) = m
    obtain ⟨m0, m1, m2⟩ := m
    simp only [Bool.and_eq_true, Bool.not_eq_true', decide_eq_false_iff_not]
    constructor
    · rintro ⟨⟨⟨h1, h2⟩, h3⟩, h4⟩; exact ⟨⟨⟨⟨h1, by omega⟩, h3⟩, h4⟩, by omega⟩
    · rintro ⟨⟨⟨⟨h1, h2⟩, h3⟩, h4⟩, h5⟩; exact ⟨⟨⟨h1, by omega⟩, h3⟩, h4⟩
  constructor
  · rintro ⟨⟨a, b, c, d⟩, e, f⟩; exact ⟨a, b, e, fun i hi => (key i).2 ⟨c i hi, f i hi⟩, d⟩
  · rintro ⟨a, b, c, d, e⟩; exact ⟨⟨a, b, fun i hi => ((key i).1 (d i hi)).1, e⟩, c, fun i hi => ((key i).1 (d i hi)).2⟩
theorem givenB_bad2 {C st : Int} {ms : List Mi} {fs : List Int} (hC : 0 ≤ C) (h : st < C ∨ 12 < st ∨ 100 < ms.length ∨ (∃ i, i < ms.length ∧ mvAt st C ms i = false) ∨ ∃ i, i < fs.length ∧ fnAt st fs i = false) : givenB C st ms fs = false := by
  rw [Bool.eq_false_iff]
  intro h2
  obtain ⟨a, b, c, d, e⟩ := (givenB_iff2 hC).1 h2
  rcases h with h | h | h | ⟨i, h, h3⟩ | ⟨i, h, h3⟩
  · omega
  · omega
  · omega
  · rw [d i h] at h3; cases h3
  · rw [e i h] at h3; cases h3
/-- the move before place i -/
def lastM (ms : List Mi) (i : Nat) : Mi := if i = 0 then (-1, -1, -1) else ms.getD (i - 1) (0, 0, 0)
def lastF (fs : List Int) (i : Nat) : Int := if i = 0 then -1 else fs.getD (i - 1) 0
theorem cfM_pos {a b : Mi} : 0 < cfM a b ↔ lexLt b a = true := by
  unfold cfM
  have hx : lexLt a b = true → lexLt b a = false := by
    obtain ⟨a0, a1, a2⟩ := a
    obtain ⟨b0, b1, b2⟩ := b
    unfold lexLt
    simp only [Bool.or_eq_true, Bool.and_eq_true, decide_eq_true_eq, Bool.or_eq_false_iff, Bool.and_eq_false_iff, decide_eq_false_iff_not]
    omega
  cases h1 : lexLt a b with
  | true => rw [hx h1]; simp
  | false => cases h2 : lexLt b a <;> simp
theorem mvAt_last {C st : Int} {ms : List Mi} {i : Nat} : mvAt st C ms i = (mvIn st C (ms.getD i (0, 0, 0)) && lexLt (lastM ms i) (ms.getD i (0, 0, 0))) := by
  unfold mvAt lastM
  by_cases h : i = 0
  · subst h
    generalize ms.getD 0 (0, 0, 0) = m
    simp only [decide_true, Bool.true_or, Bool.and_true, if_true]
    cases hm : mvIn st C m with
    | false => rfl
    | true =>
      obtain ⟨m0, m1, m2⟩ := m
      unfold mvIn at hm
      simp only [Bool.and_eq_true, Bool.not_eq_true', decide_eq_false_iff_not] at hm
      unfold lexLt
      have : (-1 : Int) < m0 := by omega
      simp [this]
  · rw [if_neg h]
    simp [h]
theorem fnAt_last {st : Int} {fs : List Int} {i : Nat} (h : ∀ k, k < i → fnAt st fs k = true) : fnAt st fs i = (!decide (fs.getD i 0 ≤ lastF fs i) && !decide (st ≤ fs.getD i 0)) := by
  unfold lastF
  by_cases h0 : i = 0
  · subst h0
    unfold fnAt
    generalize fs.getD 0 0 = f
    have : (f < 0) = (f ≤ -1) := by apply propext; omega
    simp only [this]
    simp
  · rw [if_neg h0]
    have hp := h (i - 1) (by omega)
    unfold fnAt at hp ⊢
    simp only [Bool.and_eq_true, Bool.not_eq_true', decide_eq_false_iff_not] at hp
    obtain ⟨⟨hp1, _⟩, _⟩ := hp
    generalize fs.getD i 0 = f at *
    generalize fs.getD (i - 1) 0 = g at *
    by_cases hfg : f ≤ g
    · simp [h0, hfg]
    · have : ¬ f < 0 := by omega
      simp [h0, hfg, this]

set_option maxRecDepth 8000 in
set_option maxHeartbeats 8000000 in
theorem isAcceptor_any (w : World) (C st : Int) (n cap : Nat) (A : Option Addr) (vm vf : Value) (ms : List Mi) (fs : List Int) (hC : 0 ≤ C) (hm : Els ElZ w vm ms) (hf : Els ElI w vf fs) :
    Calls Tryz.prog 71 #[sv C (.slice A n cap), acV st vm vf] w fun e w' => e = .returned (.bool (givenB C st ms fs)) ∧ Below w.heap.size w w' := by
  obtain ⟨Am, nm, capm, rfl, hnm⟩ := Els.shape hm
  obtain ⟨Af, nf, capf, rfl, hnf⟩ := Els.shape hf
  have hlm := Els.len hm
  have hlf := Els.len hf
  unfold maxLen at hlm hlf
  have hnmI : (nm : Int) ≤ 9223372036854775807 := by omega
  have hnfI : (nf : Int) ≤ 9223372036854775807 := by omega
  clear hlm hlf
  obtain ⟨W, hW⟩ : ∃ W, (w.alloc (.cells #[.int .i64 C, .slice A n cap] 40)).alloc (.cells #[.int .i64 st, .slice Am nm capm, .slice Af nf capf] 34) = W := ⟨_, rfl⟩
  have hBW := show Below w.heap.size w W by rw [← hW]; exact bthen (below1 _ _) (below1 _ _)
  have k2 := show Blk W w.heap.size 40 #[.int .i64 C, .slice A n cap] by rw [← hW]; exact (Blk.new w 40 _).alloc _
  have k3 := show Blk W (w.heap.size + 1) 34 #[.int .i64 st, .slice Am nm capm, .slice Af nf capf] by rw [← hW]; have := Blk.new (w.alloc (.cells #[.int .i64 C, .slice A n cap] 40)) 34 #[.int .i64 st, .slice Am nm capm, .slice Af nf capf]; rw [alloc_size] at this; exact this
  have p0 : W.cell? ⟨w.heap.size, 0, none⟩ = some (.int .i64 C) := k2.cell 0
  have p1 : W.cell? ⟨w.heap.size + 1, 0, none⟩ = some (.int .i64 st) := k3.cell 0
  have p2 : W.cell? ⟨w.heap.size + 1, 1, none⟩ = some (.slice Am nm capm) := k3.cell 1
  have hWs : W.heap.size = w.heap.size + 2 := by rw [← hW]; simp
  obtain ⟨X, hX⟩ : ∃ X, W.alloc (.cells #[.int .i64 (-1), .int .i64 (-1), .int .i64 (-1)] 78) = X := ⟨_, rfl⟩
  have hbX : Below W.heap.size W X := by rw [← hX]; exact below1 _ _
  have kl := Lib.hid (show Blk X W.heap.size 78 #[.int .i64 (lastM ms 0).1, .int .i64 (lastM ms 0).2.1, .int .i64 (lastM ms 0).2.2] by rw [← hX]; exact Blk.new W 78 _)
  have x2 : X.cell? ⟨w.heap.size + 1, 1, none⟩ = some (.slice Am nm capm) := cell_below p2 hbX
  replace hm := Lib.hid hm
  replace hf := Lib.hid hf
  have hBX := Lib.hid (bthen hBW hbX)
  have k2X := Lib.hid (k2.below hbX k2.lt)
  have k3X := Lib.hid (k3.below hbX k3.lt)
  replace hBW := Lib.hid hBW
  obtain ⟨Bl, hBl⟩ : ∃ Bl, W.heap.size = Bl := ⟨_, rfl⟩
  rw [hBl] at kl
  have hBlw : w.heap.size + 2 = Bl := by omega
  clear k2 k3 hbX
  have hbad := Lib.hid (givenB_bad2 (C := C) (st := st) (ms := ms) (fs := fs) hC)
  have hsame := Lib.hid hWs
  clear hWs
  replace hBlw := Lib.hid hBlw
  by_cases h1 : st < C
  · have hr := Lib.hid (hbad.out (.inl h1))
    go_enter Tryz.func71, Tryz.ntmps71
    go_wp2
    go_ret
    exact ⟨(by rw [hr.out]; rfl), hBW.out⟩
  by_cases h2 : 12 < st
  · have hr := Lib.hid (hbad.out (.inr (.inl h2)))
    go_enter Tryz.func71, Tryz.ntmps71
    go_wp2
    go_ret
    exact ⟨(by rw [hr.out]; rfl), hBW.out⟩
  by_cases h3 : (100 : Int) < nm
  · have hr := Lib.hid (hbad.out (.inr (.inr (.inl (by have := hnm.out; omega)))))
    go_enter Tryz.func71, Tryz.ntmps71
    go_wp2
    go_ret
    exact ⟨(by rw [hr.out]; rfl), hBW.out⟩
  have h3N : ¬ 100 < nm := by omega
  go_enter Tryz.func71, Tryz.ntmps71
  go_upto_region 4 with (fail)
  (try rw [hBl])
  replace hBl := Lib.hid hBl
  clear p0 p1 p2
  go_wp2
  clear x2
  go_loopw [31] (fun c31 wr => ∃ i : Nat, i ≤ nm ∧ c31 = .int .i64 (i : Int) ∧ Hid (∀ j, j < i → mvAt st C ms j = true) ∧ Hid (Blk wr Bl 78 #[.int .i64 (lastM ms i).1, .int .i64 (lastM ms i).2.1, .int .i64 (lastM ms i).2.2]) ∧ Hid (BX [Bl] X wr)) (fun c31 _ => nm - (intOf c31).toNat)
  case atStart => exact ⟨0, by omega, rfl, fun j hj => by omega, kl.out, BX.refl _ _⟩
  case round =>
    obtain ⟨i, hi, rfl, hok, hkl, hb⟩ := hrel
    have hBlw2 := hBlw.out
    have k2r := k2X.out.bx hb.out (by simp only [List.mem_cons, List.not_mem_nil, or_false]; omega)
    have k3r := k3X.out.bx hb.out (by simp only [List.mem_cons, List.not_mem_nil, or_false]; omega)
    have hwr := Lib.hid (show Below w.heap.size w wr from hBX.out.trans (hb.out.below hBX.out.size (by simp only [List.mem_cons, List.not_mem_nil, or_false]; intro y hy; omega)))
    clear hBlw2
    by_cases hlt : i < nm
    case neg =>
      have hge : ¬ (i : Int) < nm := by omega
      have hmv := Lib.hid (show ∀ j, j < ms.length → mvAt st C ms j = true from fun j hj => hok.out j (by have := hnm.out; omega))
      have a2 : wr.cell? ⟨w.heap.size + 1, 2, none⟩ = some (.slice Af nf capf) := k3r.cell 2
      replace k3r := Lib.hid k3r
      clear hok hlt hi k2r
      go_wp2
      clear a2 hge
      obtain ⟨V, hV⟩ : ∃ V, V = wr := ⟨_, rfl⟩
      subst hV
      have hfV := Lib.hid (show Els ElI V (.slice Af nf capf) fs from hf.out.then hwr.out)
      go_loopw [8, 80] (fun c8 c80 wz => ∃ j : Nat, j ≤ nf ∧ c80 = .int .i64 (j : Int) ∧ c8 = .int .i64 (lastF fs j) ∧ Hid (∀ k, k < j → fnAt st fs k = true) ∧ Hid (Below V.heap.size V wz)) (fun _ c80 _ => nf - (intOf c80).toNat)
      case atStart => exact ⟨0, by omega, rfl, rfl, fun j hj => by omega, Below.refl _ _⟩
      case round =>
        obtain ⟨j, hj, rfl, rfl, hfo, hbz⟩ := hrel
        have b0 : wr.cell? ⟨w.heap.size + 1, 0, none⟩ = some (.int .i64 st) := (k3r.out.below hbz.out k3r.out.lt).cell 0
        have hbR := Lib.hid (bthen hwr.out hbz.out)
        by_cases hltj : j < nf
        case neg =>
          have hge : ¬ (j : Int) < nf := by omega
          have hans := Lib.hid ((givenB_iff2 (st := st) (ms := ms) (fs := fs) hC).2 ⟨by omega, by omega, by have := hnm.out; omega, hmv.out, fun k hk => hfo.out k (by have := hnf.out; omega)⟩)
          go_wp2
          go_ret
          exact ⟨(by rw [hans.out]; rfl), hbR.out⟩
        have hltJ : (j : Int) < nf := by omega
        have hjl : j < fs.length := by have := hnf.out; omega
        obtain ⟨bF, oF, rfl, hat⟩ := (hfV.out.then hbz.out).cell (by omega)
        have z0 := hat j hjl 0 (.int .i64 fs[j]) rfl
        change wr.cell? ⟨bF, oF + j * 1, none⟩ = _ at z0
        rw [Nat.mul_one] at z0
        have hfd : fs.getD j 0 = fs[j] := by rw [List.getD_eq_getElem?_getD, List.getElem?_eq_getElem hjl, Option.getD_some]
        have hfb := Lib.hid (fun h => hbad.out (.inr (.inr (.inr (.inr ⟨j, hjl, h⟩)))))
        have hfn := Lib.hid (show fnAt st fs j = (!decide (fs[j] ≤ lastF fs j) && !decide (st ≤ fs[j])) from by rw [fnAt_last hfo.out, hfd])
        have hnx := Lib.hid (show fnAt st fs j = true → ∀ k, k < j + 1 → fnAt st fs k = true from fun h k hk => by
          by_cases e : k = j
          · rw [e]; exact h
          · exact hfo.out k (by omega))
        have hln : lastF fs (j + 1) = fs[j] := by unfold lastF; rw [if_neg (by omega), Nat.add_sub_cancel]; exact hfd
        replace hln := Lib.hid hln
        generalize fs[j] = f at *
        generalize lastF fs j = fp at *
        clear hat hfd
        by_cases e1 : f ≤ fp
        · have hr := Lib.hid (hfb.out (by rw [hfn.out]; simp [e1]))
          go_wp2
          go_ret
          exact ⟨(by rw [hr.out]; rfl), hbR.out⟩
        by_cases e2 : st ≤ f
        · have hr := Lib.hid (hfb.out (by rw [hfn.out]; simp [e2]))
          go_wp2
          go_ret
          exact ⟨(by rw [hr.out]; rfl), hbR.out⟩
        have hr := Lib.hid (hnx.out (by rw [hfn.out]; simp [e1, e2]))
        go_wp2
        go_roundw
        case rel => exact ⟨j + 1, by omega, by go_num, by rw [hln.out], hr.out, hbz.out⟩
        case measure => simp [intOf]; omega
    have hltI : (i : Int) < nm := by omega
    have hil : i < ms.length := by have := hnm.out; omega
    obtain ⟨bM, oM, rfl, hat⟩ := (hm.out.then hwr.out).cell (by omega)
    have z0 := hat i hil 0 (.int .i64 ms[i].1) rfl
    have z1 := hat i hil 1 (.int .i64 ms[i].2.1) rfl
    have z2 := hat i hil 2 (.int .i64 ms[i].2.2) rfl
    change wr.cell? ⟨bM, oM + i * 3, none⟩ = _ at z0
    change wr.cell? ⟨bM, oM + i * 3 + 1, none⟩ = _ at z1
    change wr.cell? ⟨bM, oM + i * 3 + 2, none⟩ = _ at z2
    have hmd : ms.getD i (0, 0, 0) = ms[i] := by rw [List.getD_eq_getElem?_getD, List.getElem?_eq_getElem hil, Option.getD_some]
    have hmb := Lib.hid (fun h => hbad.out (.inr (.inr (.inr (.inl ⟨i, hil, h⟩)))))
    have hmn := Lib.hid (show mvAt st C ms i = (mvIn st C ms[i] && lexLt (lastM ms i) ms[i]) from by rw [mvAt_last, hmd])
    have hnx := Lib.hid (show mvAt st C ms i = true → ∀ k, k < i + 1 → mvAt st C ms k = true from fun h k hk => by
      by_cases e : k = i
      · rw [e]; exact h
      · exact hok.out k (by omega))
    have hln : lastM ms (i + 1) = ms[i] := by unfold lastM; rw [if_neg (by omega), Nat.add_sub_cancel]; exact hmd
    replace hln := Lib.hid hln
    generalize ms[i] = mv at *
    obtain ⟨lm, hlmE⟩ : ∃ lm, lastM ms i = lm := ⟨_, rfl⟩
    rw [hlmE] at hkl hmn
    clear hat hmd hlmE
    replace k2r := Lib.hid k2r
    replace k3r := Lib.hid k3r
    go_upto_region 7 with (fail)
    clear z0 z1 z2
    obtain ⟨W2, hW2⟩ : ∃ W2, wr.alloc (.cells #[.int .i64 mv.1, .int .i64 mv.2.1, .int .i64 mv.2.2] 78) = W2 := ⟨_, rfl⟩
    obtain ⟨bu, hbu⟩ : ∃ bu, wr.heap.size = bu := ⟨_, rfl⟩
    have hb2 : Below wr.heap.size wr W2 := by rw [← hW2]; exact below1 _ _
    have kR := Lib.hid (show Blk W2 bu 78 #[.int .i64 mv.1, .int .i64 mv.2.1, .int .i64 mv.2.2] by rw [← hW2, ← hbu]; exact Blk.new _ _ _)
    have kL := Lib.hid (hkl.out.below hb2 hkl.out.lt)
    have hne : Bl ≠ bu := by have := hkl.out.lt; omega
    have hwr2 := Lib.hid (bthen hwr.out hb2)
    have hx2 := Lib.hid (hb.out.trans (BX.of_below hb2))
    have k2z := k2r.out.below hb2 k2r.out.lt
    have k3z := k3r.out.below hb2 k3r.out.lt
    have c0 : ∀ g : Gr W2, g.w1.cell? ⟨bu, 0, none⟩ = some (.int .i64 mv.1) := fun g => g.cell (kR.out.cell 0)
    have c1 : ∀ g : Gr W2, g.w1.cell? ⟨bu, 1, none⟩ = some (.int .i64 mv.2.1) := fun g => g.cell (kR.out.cell 1)
    have c2 : ∀ g : Gr W2, g.w1.cell? ⟨bu, 2, none⟩ = some (.int .i64 mv.2.2) := fun g => g.cell (kR.out.cell 2)
    have d0 : ∀ g : Gr W2, g.w1.cell? ⟨w.heap.size + 1, 0, none⟩ = some (.int .i64 st) := fun g => g.cell (k3z.cell 0)
    have d1 : ∀ g : Gr W2, g.w1.cell? ⟨w.heap.size, 0, none⟩ = some (.int .i64 C) := fun g => g.cell (k2z.cell 0)
    have hcp := Lib.hid (fun g : Gr W2 => grow_of (Compare_any g.w1 bu Bl mv lm (fun j hj => g.cell (mv_cell kR.out hj)) (fun j hj => g.cell (mv_cell kL.out hj))))
    rw [hW2, hbu]
    clear hW2 hbu hb2 k2z k3z hkl hb hwr k2r k3r
    obtain ⟨cv, hcv⟩ : ∃ cv, cfM mv lm = cv := ⟨_, rfl⟩
    rw [hcv] at hcp
    have hcl := Lib.hid (show 0 < cv ↔ lexLt lm mv = true from by rw [← hcv]; exact cfM_pos)
    clear hcv
    obtain ⟨m0, m1, m2⟩ := mv
    unfold mvIn at hmn
    dsimp only at hmn c0 c1 c2 hln
    by_cases e9 : cv ≤ 0
    · have hlx : lexLt lm (m0, m1, m2) = false := by
        rw [Bool.eq_false_iff]
        intro h
        have := hcl.out.2 h
        omega
      have hr := Lib.hid (hmb.out (by rw [hmn.out, hlx, Bool.and_false]))
      clear hlx
      refine wp_region_grow (by kernel_rfl) (by kernel_rfl) ?_
      repeat (go_big_quiet_step (first | (go_at_call 62; with_reducible exact hcp.out _)))
      refine wpQuiet_nil ?_
      rintro _ ⟨g, rfl⟩
      have hbg := Lib.hid (bthen hwr2.out g.h)
      go_wp2
      go_ret
      exact ⟨(by rw [hr.out]; rfl), hbg.out⟩
    have hlx : lexLt lm (m0, m1, m2) = true := hcl.out.1 (by omega)
    rw [hlx, Bool.and_true] at hmn
    clear hlx
    by_cases e0 : m0 < 0
    · have hr := Lib.hid (hmb.out (by rw [hmn.out]; simp [e0]))
      refine wp_region_grow (by kernel_rfl) (by kernel_rfl) ?_
      repeat (go_big_quiet_step (first | (go_at_call 62; with_reducible exact hcp.out _)))
      refine wpQuiet_nil ?_
      rintro _ ⟨g, rfl⟩
      have hbg := Lib.hid (bthen hwr2.out g.h)
      go_wp2
      go_ret
      exact ⟨(by rw [hr.out]; rfl), hbg.out⟩
    by_cases e1 : st ≤ m0
    · have hr := Lib.hid (hmb.out (by rw [hmn.out]; simp [e1]))
      refine wp_region_grow (by kernel_rfl) (by kernel_rfl) ?_
      repeat (go_big_quiet_step (first | (go_at_call 62; with_reducible exact hcp.out _)))
      refine wpQuiet_nil ?_
      rintro _ ⟨g, rfl⟩
      have hbg := Lib.hid (bthen hwr2.out g.h)
      go_wp2
      go_ret
      exact ⟨(by rw [hr.out]; rfl), hbg.out⟩
    by_cases e2 : m1 < 0
    · have hr := Lib.hid (hmb.out (by rw [hmn.out]; simp [e2]))
      refine wp_region_grow (by kernel_rfl) (by kernel_rfl) ?_
      repeat (go_big_quiet_step (first | (go_at_call 62; with_reducible exact hcp.out _)))
      refine wpQuiet_nil ?_
      rintro _ ⟨g, rfl⟩
      have hbg := Lib.hid (bthen hwr2.out g.h)
      go_wp2
      go_ret
      exact ⟨(by rw [hr.out]; rfl), hbg.out⟩
    by_cases e3 : 5 ≤ m1
    · have hr := Lib.hid (hmb.out (by rw [hmn.out]; simp [e3]))
      refine wp_region_grow (by kernel_rfl) (by kernel_rfl) ?_
      repeat (go_big_quiet_step (first | (go_at_call 62; with_reducible exact hcp.out _)))
      refine wpQuiet_nil ?_
      rintro _ ⟨g, rfl⟩
      have hbg := Lib.hid (bthen hwr2.out g.h)
      go_wp2
      go_ret
      exact ⟨(by rw [hr.out]; rfl), hbg.out⟩
    by_cases e4 : m2 < C
    · have hr := Lib.hid (hmb.out (by rw [hmn.out]; simp [e4]))
      refine wp_region_grow (by kernel_rfl) (by kernel_rfl) ?_
      repeat (go_big_quiet_step (first | (go_at_call 62; with_reducible exact hcp.out _)))
      refine wpQuiet_nil ?_
      rintro _ ⟨g, rfl⟩
      have hbg := Lib.hid (bthen hwr2.out g.h)
      go_wp2
      go_ret
      exact ⟨(by rw [hr.out]; rfl), hbg.out⟩
    by_cases e5 : st ≤ m2
    · have hr := Lib.hid (hmb.out (by rw [hmn.out]; simp [e5]))
      refine wp_region_grow (by kernel_rfl) (by kernel_rfl) ?_
      repeat (go_big_quiet_step (first | (go_at_call 62; with_reducible exact hcp.out _)))
      refine wpQuiet_nil ?_
      rintro _ ⟨g, rfl⟩
      have hbg := Lib.hid (bthen hwr2.out g.h)
      go_wp2
      go_ret
      exact ⟨(by rw [hr.out]; rfl), hbg.out⟩
    have hr := Lib.hid (hnx.out (by rw [hmn.out]; simp [e0, e1, e2, e3, e4, e5]))
    refine wp_region_grow (by kernel_rfl) (by kernel_rfl) ?_
    repeat (go_big_quiet_step (first | (go_at_call 62; with_reducible exact hcp.out _)))
    refine wpQuiet_nil ?_
    rintro _ ⟨g, rfl⟩
    have kRg := kR.out.below g.h kR.out.lt
    have kLg := kL.out.below g.h kL.out.lt
    have u0 : g.w1.cell? ⟨bu, 0, none⟩ = some (.int .i64 m0) := kRg.cell 0
    have u1 : g.w1.cell? ⟨bu, 1, none⟩ = some (.int .i64 m1) := kRg.cell 1
    have u2 : g.w1.cell? ⟨bu, 2, none⟩ = some (.int .i64 m2) := kRg.cell 2
    have l0 : g.w1.cell? ⟨Bl, 0, none⟩ = some (.int .i64 lm.1) := kLg.cell 0
    have l1 : g.w1.cell? ⟨Bl, 1, none⟩ = some (.int .i64 lm.2.1) := kLg.cell 1
    have l2 : g.w1.cell? ⟨Bl, 2, none⟩ = some (.int .i64 lm.2.2) := kLg.cell 2
    have f0 := kLg.free 0
    have f1 := kLg.free 1
    have f2 := kLg.free 2
    have hnewl := Lib.hid (show Blk (((g.w1.setCell ⟨Bl, 0, none⟩ (.int .i64 m0)).setCell ⟨Bl, 1, none⟩ (.int .i64 m1)).setCell ⟨Bl, 2, none⟩ (.int .i64 m2)) Bl 78 #[.int .i64 (lastM ms (i + 1)).1, .int .i64 (lastM ms (i + 1)).2.1, .int .i64 (lastM ms (i + 1)).2.2] from by
      rw [hln.out]
      simpa using ((kLg.set 0 (.int .i64 m0)).set 1 (.int .i64 m1)).set 2 (.int .i64 m2))
    have hxn := Lib.hid (show BX [Bl] X (((g.w1.setCell ⟨Bl, 0, none⟩ (.int .i64 m0)).setCell ⟨Bl, 1, none⟩ (.int .i64 m1)).setCell ⟨Bl, 2, none⟩ (.int .i64 m2)) from (((hx2.out.trans (BX.of_below g.h)).set (by simp) _).set (by simp) _).set (by simp) _)
    clear kRg kLg c0 c1 c2 d0 d1
    go_wp2
    go_roundw
    case rel => exact ⟨i + 1, by omega, by go_num, hr.out, hnewl.out, hxn.out⟩
    case measure => simp [intOf]; omega
end
section
open Go.RowKit
attribute [local go_sem] Oper.semAt_some

set_option maxHeartbeats 4000000 in
theorem clo70_any (w : World) (C st : Int) (Bs n cap : Nat) (A : Option Addr) (vm vf : Value) (ms : List Mi) (fs : List Int) (hC : 0 ≤ C) (hm : Els ElZ w vm ms) (hf : Els ElI w vf fs) (h0 : w.cell? ⟨Bs, 0, none⟩ = some (.int .i64 C)) (h1 : w.cell? ⟨Bs, 1, none⟩ = some (.slice A n cap)) :
    Calls Tryz.prog 70 #[acV st vm vf, .pointer (some ⟨Bs, 0, none⟩)] w fun e w' => e = .returned (.bool (!givenB C st ms fs)) ∧ Below w.heap.size w w' := by
  obtain ⟨Am, nm, capm, rfl, _⟩ := Els.shape hm
  obtain ⟨Af, nf, capf, rfl, _⟩ := Els.shape hf
  obtain ⟨W, hW⟩ : ∃ W, w.alloc (.cells #[.int .i64 st, .slice Am nm capm, .slice Af nf capf] 34) = W := ⟨_, rfl⟩
  have hBW := show Below w.heap.size w W by rw [← hW]; exact below1 _ _
  have k2 := show Blk W w.heap.size 34 #[.int .i64 st, .slice Am nm capm, .slice Af nf capf] by rw [← hW]; exact Blk.new w 34 _
  have p0 : W.cell? ⟨w.heap.size, 0, none⟩ = some (.int .i64 st) := k2.cell 0
  have p1 : W.cell? ⟨w.heap.size, 1, none⟩ = some (.slice Am nm capm) := k2.cell 1
  have p2 : W.cell? ⟨w.heap.size, 2, none⟩ = some (.slice Af nf capf) := k2.cell 2
  have q0 := cell_below h0 hBW
  have q1 := cell_below h1 hBW
  have hacc := Lib.hid (isAcceptor_any W C st n cap A _ _ ms fs hC (hm.then hBW) (hf.then hBW))
  generalize givenB C st ms fs = b at *
  replace hBW := Lib.hid hBW
  clear k2 hm hf h0 h1
  go_enter Tryz.func70, Tryz.ntmps70
  go_wp2_with (go_at_call 71; refine hacc.out.mono ?_; rintro e w1 ⟨rfl, hb1⟩; have hb1 := Lib.hid hb1)
  go_ret
  exact ⟨rfl, bthen hBW.out hb1.out⟩
set_option maxHeartbeats 4000000 in
theorem indexF_one (w : World) (C st : Int) (Bs Ba n cap : Nat) (A : Option Addr) (vm vf : Value) (ms : List Mi) (fs : List Int) (hC : 0 ≤ C) (hm : Els ElZ w vm ms) (hf : Els ElI w vf fs) (h0 : w.cell? ⟨Bs, 0, none⟩ = some (.int .i64 C)) (h1 : w.cell? ⟨Bs, 1, none⟩ = some (.slice A n cap)) (hk : Blk w Ba 34 #[.int .i64 st, vm, vf]) :
    Calls Tryz.prog 84 #[.slice (some ⟨Ba, 0, none⟩) 1 1, .func (.func 70) #[] #[.pointer (some ⟨Bs, 0, none⟩)]] w fun e w' => e = .returned (.int .i64 (if givenB C st ms fs then -1 else 0)) ∧ Below w.heap.size w w' := by
  have hcl := Lib.hid (fun w' (hb : Below w.heap.size w w') => clo70_any w' C st Bs n cap A vm vf ms fs hC (hm.then hb) (hf.then hb) (cell_below h0 hb) (cell_below h1 hb))
  obtain ⟨Am, nm, capm, rfl, _⟩ := Els.shape hm
  obtain ⟨Af, nf, capf, rfl, _⟩ := Els.shape hf
  have p0 : w.cell? ⟨Ba, 0, none⟩ = some (.int .i64 st) := hk.cell 0
  have p1 : w.cell? ⟨Ba, 1, none⟩ = some (.slice Am nm capm) := hk.cell 1
  have p2 : w.cell? ⟨Ba, 2, none⟩ = some (.slice Af nf capf) := hk.cell 2
  obtain ⟨b, hgb⟩ : ∃ b, givenB C st ms fs = b := ⟨_, rfl⟩
  rw [hgb] at hcl ⊢
  clear hgb hm hf h0 h1 hk
  go_enter Tryz.func84, Tryz.ntmps84
  go_wp2
  go_loopw [8] (fun c8 wr => ∃ i : Nat, i ≤ 1 ∧ c8 = .int .i64 (i : Int) ∧ Hid (i = 1 → b = true) ∧ Hid (Below w.heap.size w wr)) (fun c8 _ => 1 - (intOf c8).toNat)
  case atStart => exact ⟨0, by omega, rfl, (fun h => absurd h (by omega)), Below.refl _ _⟩
  case round =>
    obtain ⟨i, hi, rfl, hbi, hb⟩ := hrel
    by_cases hlt : i < 1
    case neg =>
      have hge : ¬ (i : Int) < 1 := by omega
      obtain rfl : b = true := hbi.out (by omega)
      go_wp2
      go_ret
      exact ⟨rfl, hb.out⟩
    obtain rfl : i = 0 := by omega
    replace p0 := cell_below p0 hb.out
    replace p1 := cell_below p1 hb.out
    replace p2 := cell_below p2 hb.out
    have hc := Lib.hid (hcl.out _ hb.out)
    cases b with
    | true =>
      go_wp2_with (go_at_call 70; refine hc.out.mono ?_; rintro e w1 ⟨rfl, hb1⟩; have hb1 := Lib.hid hb1)
      go_roundw
      case rel => exact ⟨1, by omega, (by first | rfl | simp), (fun _ => by first | exact True.intro | rfl), bthen hb.out hb1.out⟩
      case measure => simp [intOf]
    | false =>
      go_wp2_with (go_at_call 70; refine hc.out.mono ?_; rintro e w1 ⟨rfl, hb1⟩; have hb1 := Lib.hid hb1)
      go_ret
      exact ⟨rfl, bthen hb.out hb1.out⟩
set_option maxHeartbeats 4000000 in
theorem containsF_one (w : World) (C st : Int) (Bs Ba n cap : Nat) (A : Option Addr) (vm vf : Value) (ms : List Mi) (fs : List Int) (hC : 0 ≤ C) (hm : Els ElZ w vm ms) (hf : Els ElI w vf fs) (h0 : w.cell? ⟨Bs, 0, none⟩ = some (.int .i64 C)) (h1 : w.cell? ⟨Bs, 1, none⟩ = some (.slice A n cap)) (hk : Blk w Ba 34 #[.int .i64 st, vm, vf]) :
    Calls Tryz.prog 69 #[.slice (some ⟨Ba, 0, none⟩) 1 1, .func (.func 70) #[] #[.pointer (some ⟨Bs, 0, none⟩)]] w fun e w' => e = .returned (.bool (!givenB C st ms fs)) ∧ Below w.heap.size w w' := by
  have H := Lib.hid (indexF_one w C st Bs Ba n cap A vm vf ms fs hC hm hf h0 h1 hk)
  obtain ⟨b, hgb⟩ : ∃ b, givenB C st ms fs = b := ⟨_, rfl⟩
  rw [hgb] at H ⊢
  clear hgb hm hf h0 h1 hk
  go_enter Tryz.func69, Tryz.ntmps69
  cases b with
  | true =>
    go_wp2_with (go_at_call 84; refine H.out.mono ?_; rintro e w1 ⟨rfl, hb1⟩; have hb1 := Lib.hid hb1)
    go_ret
    exact ⟨rfl, hb1.out⟩
  | false =>
    go_wp2_with (go_at_call 84; refine H.out.mono ?_; rintro e w1 ⟨rfl, hb1⟩; have hb1 := Lib.hid hb1)
    go_ret
    exact ⟨rfl, hb1.out⟩

/-- what is wrong with a system, an acceptor, configurations -/
def errA (C st : Int) (l : List RuleB) (ms : List Mi) (fs : List Int) (c : List ConfB) : Int := if sysB C l = true then if givenB C st ms fs = true then if c.all (properB C) = true then 0 else 21 else 1 else 40
theorem errA_sys {C st : Int} {l : List RuleB} {ms : List Mi} {fs : List Int} {c : List ConfB} (h : sysB C l = false) : errA C st l ms fs c = 40 := by unfold errA; simp [h]
theorem errA_acc {C st : Int} {l : List RuleB} {ms : List Mi} {fs : List Int} {c : List ConfB} (h : sysB C l = true) (h2 : givenB C st ms fs = false) : errA C st l ms fs c = 1 := by unfold errA; simp [h, h2]
theorem errA_all {C st : Int} {l : List RuleB} {ms : List Mi} {fs : List Int} {c : List ConfB} (h : sysB C l = true) (h2 : givenB C st ms fs = true) : errA C st l ms fs c = allE C l c := by unfold errA allE; simp [h, h2]

set_option maxHeartbeats 4000000 in
theorem checkAllA_any (w : World) (C st : Int) (Ba : Nat) (v vs vm vf : Value) (l : List RuleB) (ms : List Mi) (fs : List Int) (c : List ConfB) (hm : Els ElZ w vm ms) (hf : Els ElI w vf fs) (hk : Blk w Ba 34 #[.int .i64 st, vm, vf]) (h : Rls w v l) (hc : Els ElC w vs c) (hs : ∀ r ∈ l, r.put.size ≤ 9223372036854775807) (hcs : ∀ x ∈ c, x.st.size ≤ 9223372036854775807) :
    Calls Tryz.prog 46 #[sv C v, .slice (some ⟨Ba, 0, none⟩) 1 1, vs] w fun e w' => e = .returned (.int .i64 (errA C st l ms fs c)) ∧ Below w.heap.size w w' := by
  obtain ⟨W, hW⟩ : ∃ W, w.alloc (.cells #[.int .i64 C, v] 40) = W := ⟨_, rfl⟩
  have hB : Below w.heap.size w W := by rw [← hW]; exact below1 _ _
  have k1 : Blk W w.heap.size 40 #[.int .i64 C, v] := by rw [← hW]; exact Blk.new w 40 _
  replace hc : Els ElC W vs c := Els.then hc hB
  have H := check_any W C v l (Els.then h hB) hs
  have hmW := Lib.hid (hm.then hB)
  have hfW := Lib.hid (hf.then hB)
  have hkW := Lib.hid (hk.below hB hk.lt)
  clear hm hf hk
  obtain ⟨A', n', cap', rfl, _⟩ := Els.shape h
  obtain ⟨A, n, cap, rfl, hn⟩ := Els.shape hc
  obtain ⟨hn2, hcap, hmax⟩ := Els.len hc
  unfold maxLen at hmax
  obtain ⟨p0, p1⟩ := k1.two
  have hcell := Lib.hid (fun h0 => Els.cell hc h0)
  replace hB := Lib.hid hB
  replace hcs := Lib.hid hcs
  clear hn2 k1 h hc hs
  unfold checkE at H
  cases e : sysB C l
  · have hr := Lib.hid (errA_sys (st := st) (ms := ms) (fs := fs) (c := c) e)
    rw [e] at H
    replace H := Lib.hid H
    replace e := Lib.hid e
    go_enter Tryz.func46, Tryz.ntmps46
    go_wp2_with (go_at_call 29; refine H.out.mono ?_; rintro e w1 ⟨rfl, hb⟩; replace hb := Lib.hid hb)
    go_ret
    exact ⟨ret_int hr.out.symm, bthen hB.out hb.out⟩
  rw [e] at H
  replace H := Lib.hid H
  have hC0 : 0 ≤ C := by have := (sysB_iff.1 e).1; omega
  have hcon := Lib.hid (fun w' (hb : Below W.heap.size W w') => containsF_one w' C st w.heap.size Ba n' cap' A' vm vf ms fs hC0 (hmW.out.then hb) (hfW.out.then hb) (cell_below p0 hb) (cell_below p1 hb) (hkW.out.below hb hkW.out.lt))
  cases e5 : givenB C st ms fs with
  | false =>
    have hr := Lib.hid (errA_acc (c := c) e e5)
    rw [e5] at hcon
    replace e := Lib.hid e
    replace e5 := Lib.hid e5
    go_enter Tryz.func46, Tryz.ntmps46
    go_wp2_with (first
      | (go_at_call 29; refine H.out.mono ?_; clear H; rintro e w1 ⟨rfl, hb⟩; have hcon := Lib.hid (hcon.out w1 hb); have hb := Lib.hid hb)
      | (go_at_call 69; refine hcon.out.mono ?_; rintro e w2 ⟨rfl, hb2⟩; have hb2 := Lib.hid hb2))
    go_ret
    exact ⟨ret_int hr.out.symm, bthen hB.out (bthen hb.out hb2.out)⟩
  | true =>
  rw [e5] at hcon
  rw [errA_all e e5]
  replace e5 := Lib.hid e5
  have hbad := Lib.hid (fun i (hi : i < c.length) h2 => allE_bad (c := c) e hi h2)
  have hgood := Lib.hid (fun h2 => allE_ok (c := c) e h2)
  replace e := Lib.hid e
  go_enter Tryz.func46, Tryz.ntmps46
  go_wp2_with (first
    | (go_at_call 29; refine H.out.mono ?_; clear H; rintro e w1 ⟨rfl, hb⟩; have hcon := Lib.hid (hcon.out w1 hb); have hb := Lib.hid hb)
    | (go_at_call 69; refine hcon.out.mono ?_; rintro e w2 ⟨rfl, hb2⟩; have hb2 := Lib.hid hb2))
  replace p0 := cell_below (cell_below p0 hb.out) hb2.out
  replace hb := Lib.hid (bthen hb.out hb2.out)
  clear hb2 hcon
  go_loopw [20] (fun i wr => ∃ k : Nat, k ≤ n ∧ i = .int .i64 k ∧ Hid (∀ i (hi : i < c.length), i < k → properB C c[i] = true) ∧ Hid (Below w2.heap.size w2 wr)) (fun i _ => n - (intOf i).toNat)
  case atStart => exact ⟨0, Nat.zero_le _, rfl, fun i _ hi => by omega, Below.refl _ _⟩
  case round =>
    obtain ⟨k, hk, rfl, hok, hBW⟩ := hrel
    by_cases hlt : k < n
    case neg =>
      obtain rfl : k = n := by omega
      have hr := Lib.hid (hgood.out (fun i hi => hok.out i hi (by rw [hn.out]; exact hi)))
      go_wp2
      go_ret
      exact ⟨ret_int hr.out.symm, bthen hB.out (bthen hb.out hBW.out)⟩
    have hkl : k < c.length := by have := hn.out; omega
    obtain ⟨b, off, rfl, hat⟩ := hcell.out (by omega)
    have q0 := cell_below (cell_below (hat k hkl 0 _ rfl) hb.out) hBW.out
    have q1 := cell_below (cell_below (hat k hkl 1 _ rfl) hb.out) hBW.out
    replace p0 := cell_below p0 hBW.out
    have a0 := fun o => cell_below p0 (below1 wr o)
    replace hbad := Lib.hid (fun h2 => hbad.out k hkl h2)
    have hsk := hcs.out c[k] (List.getElem_mem hkl)
    have hck : ∀ i (hi : i < c.length), i < k + 1 → i < k ∨ c[i] = c[k] := fun i hi hik => by
      rcases Nat.lt_or_ge i k with h | h
      · exact .inl h
      · right; congr 1; omega
    replace hck := Lib.hid hck
    clear hat
    generalize c[k] = p at *
    obtain ⟨x, s⟩ := p
    change wr.cell? ⟨b, off + k * 2 + 0, none⟩ = some (.int .i64 x) at q0
    change wr.cell? ⟨b, off + k * 2 + 1, none⟩ = some (.string s) at q1
    rw [Nat.add_zero] at q0
    dsimp only at hsk
    have hpd : properB C ⟨x, s⟩ = (ctlB C x && wordB (cs s) && decide (s.size ≤ 20)) := rfl
    unfold ctlB at hpd
    replace hpd := Lib.hid hpd
    have hB1 := Lib.hid (bthen hBW.out (below1 wr (.cells #[.int .i64 x, .string s] 60)))
    have hI := Lib.hid (isWord_any s (wr.alloc (.cells #[.int .i64 x, .string s] 60)) hsk)
    by_cases e1 : x < 0
    · have hr := Lib.hid (hbad.out (by rw [hpd.out]; simp [show ¬ 0 ≤ x by omega]))
      go_wp2
      go_ret
      exact ⟨ret_int hr.out.symm, bthen hB.out (bthen hb.out hB1.out)⟩
    by_cases e2 : C ≤ x
    · have hr := Lib.hid (hbad.out (by rw [hpd.out]; simp [show ¬ x < C by omega]))
      go_wp2
      go_ret
      exact ⟨ret_int hr.out.symm, bthen hB.out (bthen hb.out hB1.out)⟩
    by_cases e3 : 20 < s.size
    · have hr := Lib.hid (hbad.out (by rw [hpd.out]; simp [show ¬ s.size ≤ 20 by omega]))
      have e3' : (20 : Int) < s.size := by omega
      go_wp2
      go_ret
      exact ⟨ret_int hr.out.symm, bthen hB.out (bthen hb.out hB1.out)⟩
    have e3' : ¬ (20 : Int) < s.size := by omega
    cases e4 : wordB (cs s)
    · have hr := Lib.hid (hbad.out (by rw [hpd.out, e4]; simp))
      rw [e4] at hI
      replace e4 := Lib.hid e4
      go_wp2_with (go_at_call 51; refine hI.out.mono ?_; rintro e w2 ⟨rfl, hb2⟩; replace hb2 := Lib.hid hb2)
      go_ret
      exact ⟨ret_int hr.out.symm, bthen hB.out (bthen hb.out (bthen hB1.out hb2.out))⟩
    · rw [e4] at hI
      have hnew := Lib.hid (show properB C ⟨x, s⟩ = true by rw [hpd.out, e4]; simp; omega)
      replace e4 := Lib.hid e4
      go_wp2_with (go_at_call 51; refine hI.out.mono ?_; rintro e w2 ⟨rfl, hb2⟩; replace hb2 := Lib.hid hb2)
      go_roundw
      case rel => exact ⟨k + 1, by omega, by go_num, fun j hj hjk => by
        rcases hck.out j hj hjk with h | h
        · exact hok.out j hj h
        · rw [h]; exact hnew.out, bthen hB1.out hb2.out⟩
      case measure => simp [intOf]; omega

set_option maxHeartbeats 4000000 in
theorem CheckAcceptor_any (w : World) (C st : Int) (v vm vf : Value) (l : List RuleB) (ms : List Mi) (fs : List Int) (hm : Els ElZ w vm ms) (hf : Els ElI w vf fs) (h : Rls w v l) (hs : ∀ r ∈ l, r.put.size ≤ 9223372036854775807) :
    Calls Tryz.prog 30 #[sv C v, acV st vm vf] w fun e w' => e = .returned (.int .i64 (errA C st l ms fs [])) ∧ Below w.heap.size w w' := by
  obtain ⟨A, n, cap, rfl, _⟩ := Els.shape h
  obtain ⟨Am, nm, capm, rfl, _⟩ := Els.shape hm
  obtain ⟨Af, nf, capf, rfl, _⟩ := Els.shape hf
  obtain ⟨W, hW⟩ : ∃ W, (w.alloc (.cells #[.int .i64 C, .slice A n cap] 40)).alloc (.cells #[.int .i64 st, .slice Am nm capm, .slice Af nf capf] 34) = W := ⟨_, rfl⟩
  have hBW := show Below w.heap.size w W by rw [← hW]; exact bthen (below1 _ _) (below1 _ _)
  have k2 := show Blk W w.heap.size 40 #[.int .i64 C, .slice A n cap] by rw [← hW]; exact (Blk.new w 40 _).alloc _
  have k3 := show Blk W (w.heap.size + 1) 34 #[.int .i64 st, .slice Am nm capm, .slice Af nf capf] by rw [← hW]; have := Blk.new (w.alloc (.cells #[.int .i64 C, .slice A n cap] 40)) 34 #[.int .i64 st, .slice Am nm capm, .slice Af nf capf]; rw [alloc_size] at this; exact this
  have p0 : W.cell? ⟨w.heap.size, 0, none⟩ = some (.int .i64 C) := k2.cell 0
  have p1 : W.cell? ⟨w.heap.size, 1, none⟩ = some (.slice A n cap) := k2.cell 1
  have p2 : W.cell? ⟨w.heap.size + 1, 0, none⟩ = some (.int .i64 st) := k3.cell 0
  have p3 : W.cell? ⟨w.heap.size + 1, 1, none⟩ = some (.slice Am nm capm) := k3.cell 1
  have p4 : W.cell? ⟨w.heap.size + 1, 2, none⟩ = some (.slice Af nf capf) := k3.cell 2
  obtain ⟨X, hX⟩ : ∃ X, W.alloc (.cells #[.int .i64 st, .slice Am nm capm, .slice Af nf capf] 34) = X := ⟨_, rfl⟩
  have hbX : Below W.heap.size W X := by rw [← hX]; exact below1 _ _
  have kX : Blk X W.heap.size 34 #[.int .i64 st, .slice Am nm capm, .slice Af nf capf] := by rw [← hX]; exact Blk.new W 34 _
  have hBX := bthen hBW hbX
  have hca := Lib.hid (checkAllA_any X C st W.heap.size (.slice A n cap) (.slice none 0 0) _ _ l ms fs [] (hm.then hBX) (hf.then hBX) kX (Els.then h hBX) ⟨none, 0, rfl, Nat.le_refl _, Nat.zero_le _, fun _ => rfl, fun i hi => absurd hi (by simp)⟩ hs (by simp))
  replace hBX := Lib.hid hBX
  clear hm hf h k2 k3 kX hBW hbX
  go_enter Tryz.func30, Tryz.ntmps30
  go_wp2_with (go_at_call 46; refine hca.out.mono ?_; rintro e w1 ⟨rfl, hb1⟩; have hb1 := Lib.hid hb1)
  go_ret
  exact ⟨rfl, bthen hBX.out hb1.out⟩
end
section
open Go.RowKit Go.Shelf
attribute [local go_sem] Oper.semAt_some

/-- a move as a key -/
def keyM (m : Mi) : Key := (m.1, 97 + m.2.1, m.2.2)
def GivOk (Ks : List Key) (L : List (Key × Cost)) : Prop := L.length ≤ Ks.length ∧ ∀ k c, cget L k = some c ↔ c = ⟨0, -1, 0⟩ ∧ k ∈ Ks
theorem GivOk.zero : GivOk [] [] := ⟨by simp, fun k c => by simp [cget]⟩
theorem GivOk.succ {Ks : List Key} {L : List (Key × Cost)} (h : GivOk Ks L) (k0 : Key) : GivOk (Ks ++ [k0]) (cput L k0 ⟨0, -1, 0⟩) := by
  refine ⟨by rw [List.length_append]; exact Nat.le_trans (cput_len _ _ _) (by have := h.1; simp; omega), fun k c => ?_⟩
  rw [cget_cput]
  by_cases e : k = k0
  · rw [if_pos e]
    constructor
    · intro h2; exact ⟨(Option.some.inj h2).symm, by simp [e]⟩
    · rintro ⟨h2, _⟩; rw [h2]
  · rw [if_neg e, h.2]
    simp [e]
/-- the moves of an acceptor, as a relation -/
def BofI (ms : List Mi) : Int → Int → Int → Prop := fun p a q => (p, a, q) ∈ ms.map keyM
theorem GivOk.inv {ms : List Mi} {L : List (Key × Cost)} {R : List Rule} (h : GivOk (ms.map keyM) L) : Inv R (BofI ms) (cget L) := by
  have hf : (0 : Int) ≤ far := by decide
  refine ⟨fun k c hk => ?_, fun k c hk => ?_, fun k c hk => ?_, fun p a q hb => ?_⟩
  · obtain ⟨rfl, _⟩ := (h.2 k c).1 hk; exact ⟨Int.le_refl _, hf⟩
  · obtain ⟨rfl, h2⟩ := (h.2 k c).1 hk
    exact ⟨[], .base h2, .inl (by simp)⟩
  · obtain ⟨rfl, h2⟩ := (h.2 k c).1 hk
    exact .inl ⟨rfl, h2, rfl⟩
  · exact ⟨⟨0, -1, 0⟩, (h.2 _ _).2 ⟨rfl, hb⟩, rfl⟩

set_option maxRecDepth 8000 in
set_option maxHeartbeats 4000000 in
theorem given_any (w : World) (st : Int) (vm vf : Value) (ms : List Mi) (fs : List Int) (hm : Els ElZ w vm ms) (hf : Els ElI w vf fs) (hin : ∀ m ∈ ms, 0 ≤ m.2.1 ∧ m.2.1 < 5) (hlen : ms.length ≤ 100) :
    Calls Tryz.prog 35 #[acV st vm vf] w fun e w' => ∃ b L, e = .returned (.map (some b)) ∧ w.heap.size ≤ b ∧ MMap w' b L ∧ GivOk (ms.map keyM) L ∧ Below w.heap.size w w' := by
  obtain ⟨Am, nm, capm, rfl, hnm⟩ := Els.shape hm
  obtain ⟨Af, nf, capf, rfl, hnf⟩ := Els.shape hf
  obtain ⟨W0, hW0⟩ : ∃ W0, w.alloc (.cells #[.int .i64 st, .slice Am nm capm, .slice Af nf capf] 34) = W0 := ⟨_, rfl⟩
  have hB0 : Below w.heap.size w W0 := by rw [← hW0]; exact below1 _ _
  have k0 : Blk W0 w.heap.size 34 #[.int .i64 st, .slice Am nm capm, .slice Af nf capf] := by rw [← hW0]; exact Blk.new w 34 _
  obtain ⟨W, hW⟩ : ∃ W, W0.alloc (.map #[] 0) = W := ⟨_, rfl⟩
  have hB1 : Below W0.heap.size W0 W := by rw [← hW]; exact below1 _ _
  have hA : MMap W W0.heap.size [] := by rw [← hW]; exact AMap.made mv W0
  have hmk : (Instr.makeMap 81 none).run Tryz.prog W0 = .ok (.map (some W0.heap.size)) W := by rw [← hW, makeMap70]
  have k1 := k0.below hB1 k0.lt
  have c1 : W.cell? ⟨w.heap.size, 1, none⟩ = some (.slice Am nm capm) := k1.cell 1
  have hlo : w.heap.size < W0.heap.size := k0.lt
  have hBW := Lib.hid (bthen hB0 hB1)
  replace k1 := Lib.hid k1
  replace hA := Lib.hid hA
  replace hm := Lib.hid hm
  replace hin := Lib.hid hin
  obtain ⟨b, hb0⟩ : ∃ b, W0.heap.size = b := ⟨_, rfl⟩
  rw [hb0] at hA hmk hlo
  have hnm100 : (nm : Int) ≤ 100 := by have := hnm.out; omega
  clear k0 hW hB0 hB1
  go_enter Tryz.func35, Tryz.ntmps35
  go_wp2
  clear c1 hmk
  go_loopw [10] (fun c10 wr => ∃ (i : Nat) (L : List (Key × Cost)), i ≤ nm ∧ c10 = .int .i64 (i : Int) ∧ Hid (MMap wr b L) ∧ Hid (GivOk ((ms.take i).map keyM) L) ∧ Hid (Blk wr w.heap.size 34 #[.int .i64 st, .slice Am nm capm, .slice Af nf capf]) ∧ Hid (Below w.heap.size w wr)) (fun c _ => nm - (intOf c).toNat)
  case atStart => exact ⟨0, [], Nat.zero_le _, rfl, hA.out, GivOk.zero, k1.out, hBW.out⟩
  case round =>
    obtain ⟨i, L, hi, rfl, hmm, hj, hk, hB⟩ := hrel
    by_cases hlt : i < nm
    case neg =>
      have hge : ¬ (i : Int) < nm := by omega
      have htk : ms.take i = ms := List.take_of_length_le (by have := hnm.out; omega)
      rw [htk] at hj
      go_wp2
      go_ret
      exact ⟨b, rfl, by omega, L, hmm.out, hj.out, hB.out⟩
    have hltI : (i : Int) < nm := by omega
    have hil : i < ms.length := by have := hnm.out; omega
    obtain ⟨bM, oM, rfl, hat⟩ := (hm.out.then hB.out).cell (by omega)
    have z0 := hat i hil 0 (.int .i64 ms[i].1) rfl
    have z1 := hat i hil 1 (.int .i64 ms[i].2.1) rfl
    have z2 := hat i hil 2 (.int .i64 ms[i].2.2) rfl
    change wr.cell? ⟨bM, oM + i * 3, none⟩ = _ at z0
    change wr.cell? ⟨bM, oM + i * 3 + 1, none⟩ = _ at z1
    change wr.cell? ⟨bM, oM + i * 3 + 2, none⟩ = _ at z2
    obtain ⟨hi0, hi5⟩ := hin.out ms[i] (List.getElem_mem hil)
    have htk := Lib.hid (show (ms.take (i + 1)).map keyM = (ms.take i).map keyM ++ [keyM ms[i]] by rw [List.take_add_one, List.getElem?_eq_getElem hil, List.map_append]; rfl)
    clear hat
    generalize ms[i] = m at *
    obtain ⟨m0, m1, m2⟩ := m
    dsimp only at z0 z1 z2 hi0 hi5
    go_upto_region 5 with (fail)
    obtain ⟨W2, hW2⟩ : ∃ W2, wr.alloc (.cells #[.int .i64 m0, .int .i64 m1, .int .i64 m2] 78) = W2 := ⟨_, rfl⟩
    obtain ⟨bu, hbu⟩ : ∃ bu, wr.heap.size = bu := ⟨_, rfl⟩
    have hb2 : Below wr.heap.size wr W2 := by rw [← hW2]; exact below1 _ _
    have kR : Blk W2 bu 78 #[.int .i64 m0, .int .i64 m1, .int .i64 m2] := by rw [← hW2, ← hbu]; exact Blk.new _ _ _
    have u0 : W2.cell? ⟨bu, 0, none⟩ = some (.int .i64 m0) := kR.cell 0
    have u1 : W2.cell? ⟨bu, 1, none⟩ = some (.int .i64 m1) := kR.cell 1
    have u2 : W2.cell? ⟨bu, 2, none⟩ = some (.int .i64 m2) := kR.cell 2
    have hm2 := Lib.hid (show MMap W2 b L from hmm.out.of_block (hb2.block b hmm.out.lt))
    have hk2 := Lib.hid (hk.out.below hb2 hk.out.lt)
    have hB2 := Lib.hid (bthen hB.out hb2)
    rw [hW2, hbu]
    clear hW2 hbu hb2 kR z0 z1 z2
    go_wp2_with (at_mapUpdate; refine wpList_mapUpdate_a _ rfl (.tmp 14) (.tmp 24) (.tmp 25) 81 rfl 104 106 key94 Tryz.underlying81 rfl hm2.out (m0, 97 + m1, m2) rfl (costV ⟨0, -1, 0⟩) rfl ?_; intro w2 hA2 hg2 hs2; have hA2 := Lib.hid hA2; have hg2 := Lib.hid hg2; clear hs2)
    have hz := hm2.out.lt
    go_roundw
    case rel =>
      refine ⟨i + 1, cput L (m0, 97 + m1, m2) ⟨0, -1, 0⟩, by omega, by go_num, ?_, ?_, ?_, ?_⟩
      · show MMap w2 _ _
        unfold MMap
        rw [← aput_cval]
        exact hA2.out
      · show GivOk _ _
        rw [htk.out]
        exact hj.out.succ _
      · exact (hg2.out.block _ (by have := hk2.out.lt; omega) (by simp; omega)).trans hk2.out
      · exact hB2.out.trans (below_of_grown hg2.out hB2.out.size (by intro k e; cases e; omega))
    case measure => simp [intOf]; omega
end
end Go.Proofs.YtaapnflhjbdmlaaGreatDoor
