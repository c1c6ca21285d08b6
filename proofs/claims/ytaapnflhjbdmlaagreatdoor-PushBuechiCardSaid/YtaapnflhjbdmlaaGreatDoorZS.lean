/- The specification's Alike: the walk. No condition. -/
import Derived.Test.YtaapnflhjbdmlaaGreatDoorZY
import Derived.Test.YtaapnflhjbdmlaaGreatDoorSC
namespace Go.Proofs.YtaapnflhjbdmlaaGreatDoor
open Go.RowKit Go.Shelf
attribute [local go_sem] Oper.semAt_some

/-- the states at the beginning -/
def begS (n : Nat) (X : Nat → Nat → Nat → Int) (p : Nat) : Nat → Prop := silS n (fun i k => X i 5 k < 1073741824) (posS n (only1 p))
theorem rok_only1 (n p : Nat) : ROk n (only1 p) 0 := ⟨fun i _ => only1_rng p i, fun i _ h => only1_bd p i h⟩
/-- a row that began hands back -/
def BegR (n : Nat) (X : Nat → Nat → Nat → Int) (p lo : Nat) (h : Hole) (w : World) : Prop := lo ≤ h.k ∧ ∃ cur, Il w h.k n cur ∧ SilR n (fun i k => X i 5 k) (only1 p) cur
theorem since_beg {W : World} {n p lo : Nat} {X : Nat → Nat → Nat → Int} {h : Hole} {w : World} (hs : Since W (BegR n X p lo) h w) : BegR n X p lo h w :=
  since_and hs fun _w _w' ⟨h0, cur, h1, h2⟩ hb => ⟨h0, cur, Blk.below h1 hb (Blk.lt h1), h2⟩

set_option maxRecDepth 8000 in
set_option maxHeartbeats 8000000 in
theorem Alike_any (w : World) (C n gF b off cap m gG b2 off2 cap2 k n0 cap0 : Nat) (A : Option Addr) (X Y : Nat → Nat → Nat → Int) (F G : Nat → Bool) (hA : TM w n gF b off cap X F) (hB : TM w m gG b2 off2 cap2 Y G) (hCn : C ≤ n) (hCm : C ≤ m) (hk : k ≤ 1000) :
    Calls Tryz.prog 17 #[sv C (.slice A n0 cap0), agA (.slice (some ⟨b, off, none⟩) n cap) gF n, agA (.slice (some ⟨b2, off2, none⟩) m cap2) gG m, .int .i64 k] w
      (TellP (∀ p, p < C → AlikeP n (posT X) F (begS n X p) m (posT Y) G (begS m Y p) k) w) := by
  have hn4 : n ≤ 400 := hA.le.2
  have hm4 : m ≤ 400 := hB.le.2
  have hC4 : (C : Int) ≤ 400 := by omega
  obtain ⟨W, hW⟩ : ∃ W, ((w.alloc (.cells #[.int .i64 C, .slice A n0 cap0] 24)).alloc (.cells #[.slice (some ⟨b, off, none⟩) n cap, .slice (some ⟨gF, 0, none⟩) n n] 49)).alloc (.cells #[.slice (some ⟨b2, off2, none⟩) m cap2, .slice (some ⟨gG, 0, none⟩) m m] 49) = W := ⟨_, rfl⟩
  have hBW : Below w.heap.size w W := by rw [← hW]; exact bthen (below1 _ _) (bthen (below1 _ _) (below1 _ _))
  have kS := show Blk W w.heap.size 24 #[.int .i64 C, .slice A n0 cap0] by rw [← hW]; exact ((Blk.new w 24 _).alloc _).alloc _
  have kA := show Blk W (w.heap.size + 1) 49 #[.slice (some ⟨b, off, none⟩) n cap, .slice (some ⟨gF, 0, none⟩) n n] by rw [← hW]; have := Blk.new (w.alloc (.cells #[.int .i64 C, .slice A n0 cap0] 24)) 49 #[.slice (some ⟨b, off, none⟩) n cap, .slice (some ⟨gF, 0, none⟩) n n]; rw [alloc_size] at this; exact this.alloc _
  have kB := show Blk W (w.heap.size + 1 + 1) 49 #[.slice (some ⟨b2, off2, none⟩) m cap2, .slice (some ⟨gG, 0, none⟩) m m] by rw [← hW]; have := Blk.new ((w.alloc (.cells #[.int .i64 C, .slice A n0 cap0] 24)).alloc (.cells #[.slice (some ⟨b, off, none⟩) n cap, .slice (some ⟨gF, 0, none⟩) n n] 49)) 49 #[.slice (some ⟨b2, off2, none⟩) m cap2, .slice (some ⟨gG, 0, none⟩) m m]; rw [alloc_size, alloc_size] at this; exact this
  have hbA := Lib.hid (fun (V : World) (hV : Below W.heap.size W V) (p : Nat) (hp : p < C) => began_any V n p gF _ X hn4 ((hA.then hBW).then hV).cua (by omega) hA.ok)
  have hbB := Lib.hid (fun (V : World) (hV : Below W.heap.size W V) (p : Nat) (hp : p < C) => began_any V m p gG _ Y hm4 ((hB.then hBW).then hV).cua (by omega) hB.ok)
  have hal := Lib.hid (fun (V : World) (hV : Below W.heap.size W V) (p ga gb : Nat) (cua cub : Nat → Int) (hIa : Il V ga n cua) (hSa : SilR n (fun i k => X i 5 k) (only1 p) cua) (hIb : Il V gb m cub) (hSb : SilR m (fun i k => Y i 5 k) (only1 p) cub) =>
    (alike_any k V n gF b off cap m gG b2 off2 cap2 ga gb X Y F G cua cub 0 ((hA.then hBW).then hV) ((hB.then hBW).then hV) hIa hIb ((rok_only1 n p).sil hA.ok hSa) ((rok_only1 m p).sil hB.ok hSb) (by omega) (by omega)).mono
      (R' := TellP (AlikeP n (posT X) F (begS n X p) m (posT Y) G (begS m Y p) k) V) fun e w' ⟨bv, h1, h2, h3⟩ => ⟨bv, h1, h2.trans (alike_congr (fun i _ => hSa.set (fun i k hi hk => hA.ok.eps i k hi hk) (fun i _ => (only1_rng p i).1) i) (fun i _ => hSb.set (fun i k hi hk => hB.ok.eps i k hi hk) (fun i _ => (only1_rng p i).1) i) k), h3⟩)
  replace kS := Lib.hid kS
  replace kA := Lib.hid kA
  replace kB := Lib.hid kB
  replace hBW := Lib.hid hBW
  clear hA hB
  go_enter Tryz.func17, Tryz.ntmps17
  go_wp2
  go_loopw [9] (fun c9 wr => ∃ p : Nat, p ≤ C ∧ c9 = .int .i64 (p : Int) ∧ Hid (∀ q, q < p → AlikeP n (posT X) F (begS n X q) m (posT Y) G (begS m Y q) k) ∧ Hid (Below W.heap.size W wr)) (fun c9 _ => C - (intOf c9).toNat)
  case atStart => exact ⟨0, by omega, rfl, fun q hq => by omega, Below.refl _ _⟩
  case round =>
    obtain ⟨p, hp, rfl, hdone, hBr⟩ := hrel
    have s0 : wr.cell? ⟨w.heap.size, 0, none⟩ = some (.int .i64 C) := (kS.out.below hBr.out kS.out.lt).cell 0
    by_cases hlt : p < C
    case neg =>
      have hge : ¬ (p : Int) < C := by omega
      have hans := Lib.hid (show ∀ q, q < C → AlikeP n (posT X) F (begS n X q) m (posT Y) G (begS m Y q) k from fun q hq => hdone.out q (by omega))
      have hfin := Lib.hid (bthen hBW.out hBr.out)
      go_wp2
      go_ret
      exact ⟨_, rfl, ⟨fun _ => hans.out, fun _ => rfl⟩, hfin.out⟩
    have hltI : (p : Int) < C := by omega
    have kAr := kA.out.below hBr.out kA.out.lt
    have kBr := kB.out.below hBr.out kB.out.lt
    have a0 : ∀ g : Gr wr, g.w1.cell? ⟨w.heap.size + 1, 0, none⟩ = some (.slice (some ⟨b, off, none⟩) n cap) := fun g => g.cell (kAr.cell 0)
    have a1 : ∀ g : Gr wr, g.w1.cell? ⟨w.heap.size + 1, 1, none⟩ = some (.slice (some ⟨gF, 0, none⟩) n n) := fun g => g.cell (kAr.cell 1)
    have a2 : ∀ g : Gr wr, g.w1.cell? ⟨w.heap.size + 1 + 1, 0, none⟩ = some (.slice (some ⟨b2, off2, none⟩) m cap2) := fun g => g.cell (kBr.cell 0)
    have a3 : ∀ g : Gr wr, g.w1.cell? ⟨w.heap.size + 1 + 1, 1, none⟩ = some (.slice (some ⟨gG, 0, none⟩) m m) := fun g => g.cell (kBr.cell 1)
    have hca := Lib.hid (fun g : Gr wr => hbA.out g.w1 (hBr.out.trans (g.h.mono hBr.out.size)) p hlt)
    have hcb := Lib.hid (fun g : Gr wr => hbB.out g.w1 (hBr.out.trans (g.h.mono hBr.out.size)) p hlt)
    clear kAr kBr
    go_upto_region 4 with (fail)
    clear s0
    refine wp_region_rels 6 [false, false, true, false, false, true] [] (fun kx h => if kx = 2 then .slice (some ⟨h.k, 0, none⟩) n n else .slice (some ⟨h.k, 0, none⟩) m m)
      (fun kx h w => if kx = 2 then BegR n X p wr.heap.size h w else BegR m Y p wr.heap.size h w) [] (by kernel_rfl) (by kernel_rfl) ?_
    simp only [List.take_succ_cons, List.take_zero, List.drop_succ_cons, List.drop_zero]
    refine walkS_reads 2 _ _ _ _ (by kernel_rfl) (by kernel_rfl) (by simp) ?_
    simp only [List.take_succ_cons, List.take_zero, List.drop_succ_cons, List.drop_zero]
    repeat (go_big_quiet_step (fail))
    refine wpQuiet_nil ?_
    refine walkS_eff rfl (by kernel_rfl) (fun g hd => ?_) (fun h2 => ?_)
    · go_simp
      exact ⟨rfl, (hca.out g).mono (fun e w' ⟨gg, cur, h1, h2, h3, h4, h5⟩ => ⟨⟨none, 0, 0, gg, 0, false⟩, h1, h5, ⟨Nat.le_trans g.h.size h2, cur, h3, h4⟩, fun e => by cases e⟩)⟩
    go_frame
    refine walkS_reads 2 _ _ _ _ (by kernel_rfl) (by kernel_rfl) (by simp) ?_
    simp only [List.take_succ_cons, List.take_zero, List.drop_succ_cons, List.drop_zero]
    repeat (go_big_quiet_step (fail))
    refine wpQuiet_nil ?_
    refine walkS_eff rfl (by kernel_rfl) (fun g hd => ?_) (fun h5 => ?_)
    · go_simp
      exact ⟨rfl, (hcb.out g).mono (fun e w' ⟨gg, cur, h1, h2, h3, h4, h5⟩ => ⟨⟨none, 0, 0, gg, 0, false⟩, h1, h5, ⟨Nat.le_trans g.h.size h2, cur, h3, h4⟩, fun e => by cases e⟩)⟩
    go_frame
    refine walkS_nil ?_
    rintro _ ⟨gY, rfl⟩ hK hS
    obtain ⟨m2, cua, kIa, kSa⟩ := since_beg (show Since wr (BegR n X p wr.heap.size) h2 gY.w1 from by simpa using (hK 2 h2 rfl).1)
    obtain ⟨m5, cub, kIb, kSb⟩ := since_beg (show Since wr (BegR m Y p wr.heap.size) h5 gY.w1 from by simpa using (hK 5 h5 rfl).1)
    clear hK hS hca hcb a0 a1 a2 a3
    obtain ⟨_, _, _, ga, _, _⟩ := h2
    obtain ⟨_, _, _, gb, _, _⟩ := h5
    obtain ⟨Z, hBZ⟩ := gY
    dsimp only at *
    have hBz := Lib.hid (hBr.out.trans (hBZ.mono hBr.out.size))
    have hcal := Lib.hid (hal.out Z hBz.out p ga gb cua cub kIa kSa kIb kSb)
    have b0 : Z.cell? ⟨w.heap.size + 1, 0, none⟩ = some (.slice (some ⟨b, off, none⟩) n cap) := (kA.out.below hBz.out kA.out.lt).cell 0
    have b1 : Z.cell? ⟨w.heap.size + 1, 1, none⟩ = some (.slice (some ⟨gF, 0, none⟩) n n) := (kA.out.below hBz.out kA.out.lt).cell 1
    have b2' : Z.cell? ⟨w.heap.size + 1 + 1, 0, none⟩ = some (.slice (some ⟨b2, off2, none⟩) m cap2) := (kB.out.below hBz.out kB.out.lt).cell 0
    have b3 : Z.cell? ⟨w.heap.size + 1 + 1, 1, none⟩ = some (.slice (some ⟨gG, 0, none⟩) m m) := (kB.out.below hBz.out kB.out.lt).cell 1
    clear kIa kSa kIb kSb hBZ m2 m5
    go_upto_if 30 with (go_at_call 41; refine hcal.out.mono ?_; clear hcal; rintro e w9 ⟨bv, rfl, hbv, hb9⟩; have hbv := Lib.hid hbv; replace hb9 := Lib.hid hb9)
    cases bv with
    | false =>
      have hans := Lib.hid (show ¬ ∀ q, q < C → AlikeP n (posT X) F (begS n X q) m (posT Y) G (begS m Y q) k from fun h => by
        have := hbv.out.2 (h p hlt)
        cases this)
      have hfin := Lib.hid (bthen hBW.out (bthen hBz.out hb9.out))
      go_wp2
      go_ret
      exact ⟨_, rfl, ⟨(fun h => by cases h), fun h => absurd h hans.out⟩, hfin.out⟩
    | true =>
      have hnew := Lib.hid (show ∀ q, q < p + 1 → AlikeP n (posT X) F (begS n X q) m (posT Y) G (begS m Y q) k from fun q hq => by
        by_cases e : q = p
        · subst e; exact hbv.out.1 rfl
        · exact hdone.out q (by omega))
      have hBn := Lib.hid (bthen hBz.out hb9.out)
      go_wp2
      go_roundw
      case rel => exact ⟨p + 1, by omega, by go_num, hnew.out, hBn.out⟩
      case measure => simp [intOf]; omega
end Go.Proofs.YtaapnflhjbdmlaaGreatDoor
