/- saturate: the walk. No condition. -/
import Derived.Test.YtaapnflhjbdmlaaGreatDoorPQ
import Derived.Deep.LoopGhost
namespace Go.Proofs.YtaapnflhjbdmlaaGreatDoor
open Go.RowKit
attribute [local go_sem] Oper.semAt_some

theorem field96 (w : World) (s r m : Int) : (Instr.field 106 (.agg #[.int .i64 s, .int .i64 r, .int .i64 m]) 0).run Tryz.prog w = .ok (.int .i64 s) w := by kernel_rfl

set_option maxHeartbeats 8000000 in
theorem saturate_any (w : World) (C : Int) (v : Value) (l : List RuleB) (b : Nat) (L0 : List (Key × Cost)) (B : Int → Int → Int → Prop) (Qs : List Int) (hr : Rls w v l) (hsys : sysB C l = true) (hm : MMap w b L0) (hI : Inv (l.map RuleB.plain) B (cget L0))
    (hQ0 : ∀ k, (∃ c, cget L0 k = some c) → k.2.2 ∈ Qs) (hQ1 : ∀ r ∈ l, r.to ∈ Qs) (hlen : L0.length + 30 * Qs.length ≤ 900000) :
    Calls Tryz.prog 36 #[sv C v, .map (some b)] w fun e w' => e = .returned (.tuple #[]) ∧ ∃ L, SatSt (l.map RuleB.plain) B b L0 (univ l Qs) Qs w' L ∧ (∀ (i : Nat) r, (l.map RuleB.plain)[i]? = some r → ClosedAt (cget L) r) ∧ BX [b] w w' := by
  obtain ⟨A, n, cap, rfl, hn⟩ := Els.shape hr
  obtain ⟨hn2, hcap, hmax⟩ := Els.len hr
  unfold maxLen at hmax
  have hbl : b < w.heap.size := AMap.lt hm
  have hl30 : l.length ≤ 30 := (sysB_iff.1 hsys).2.2.1
  have hU : (univ l Qs).length ≤ 30 * Qs.length := by rw [univ_len]; exact Nat.mul_le_mul_right _ hl30
  have hput : ∀ i, i < l.length → (rAt l i).put.size ≤ 2 := by
    intro i hi
    have h1 := (sysB_iff.1 hsys).2.2.2 i hi
    simp only [rOk, ruleB, Bool.and_eq_true] at h1
    have h2 := h1.1.1.2
    simpa using h2
  have hAb : 0 < l.length → ∀ a, A = some a → a.block < w.heap.size ∧ a.block ≠ b := by
    intro h0 a ha
    obtain ⟨b', off, e, hc⟩ := Els.cell hr h0
    rw [e] at ha
    cases ha
    have h1 := hc 0 h0 0 _ rfl
    exact ⟨lt_of_cell h1, MMap.apart hm h1⟩
  obtain ⟨W, hW⟩ : ∃ W, ((w.alloc (.cells #[.int .i64 C, .slice A n cap] 40)).alloc (.cells #[.map (some b)] 81)).alloc (.cells #[.bool true] 4) = W := ⟨_, rfl⟩
  have hBW : Below w.heap.size w W := by rw [← hW]; exact bthen (below1 _ _) (bthen (below1 _ _) (below1 _ _))
  have kS : Blk W w.heap.size 40 #[.int .i64 C, .slice A n cap] := by rw [← hW]; exact ((Blk.new w 40 _).alloc _).alloc _
  have kM : Blk W (w.heap.size + 1) 81 #[.map (some b)] := by rw [← hW]; have := Blk.new (w.alloc (.cells #[.int .i64 C, .slice A n cap] 40)) 81 #[.map (some b)]; rw [alloc_size] at this; exact this.alloc _
  have kC : Blk W (w.heap.size + 1 + 1) 4 #[.bool true] := by rw [← hW]; have := Blk.new ((w.alloc (.cells #[.int .i64 C, .slice A n cap] 40)).alloc (.cells #[.map (some b)] 81)) 4 #[.bool true]; rw [alloc_size, alloc_size] at this; exact this
  have hst : SatSt (l.map RuleB.plain) B b L0 (univ l Qs) Qs W L0 := ⟨AMap.below hm hBW hbl, hI, hQ0, fun k hk => .inl (cget_iff.1 hk)⟩
  have hrW : Rls w (.slice A n cap) l := hr
  have hbxW : BX [b] w W := BX.of_below hBW
  replace hst := Lib.hid hst
  replace kS := Lib.hid kS
  replace kM := Lib.hid kM
  replace kC := Lib.hid kC
  replace hrW := Lib.hid hrW
  replace hbxW := Lib.hid hbxW
  replace hQ1 := Lib.hid hQ1
  replace hput := Lib.hid hput
  replace hAb := Lib.hid hAb
  replace hBW := Lib.hid hBW
  clear hn2 hm hI hQ0 hsys
  go_enter Tryz.func36, Tryz.ntmps36
  go_wp2
  clear hW
  go_loopg [4] (2 * pot (univ l Qs) L0 + 1) (fun k c4 wr => ∃ (Bc : Nat) (v0 : Bool) (L : List (Key × Cost)), c4 = .pointer (some ⟨Bc, 0, none⟩) ∧ Hid (Blk wr Bc 4 #[.bool v0]) ∧ Hid (SatSt (l.map RuleB.plain) B b L0 (univ l Qs) Qs wr L) ∧
      Hid (v0 = false → ∀ (i : Nat) r, (l.map RuleB.plain)[i]? = some r → ClosedAt (cget L) r) ∧ Hid (2 * pot (univ l Qs) L + (if v0 then 1 else 0) ≤ k) ∧ Hid (w.heap.size + 1 < Bc) ∧ Hid (BX [b] w wr) ∧
      Hid (Blk wr w.heap.size 40 #[.int .i64 C, .slice A n cap] ∧ Blk wr (w.heap.size + 1) 81 #[.map (some b)]))
  case atStart => exact ⟨_, true, L0, rfl, kC, hst, (by intro h; cases h), by unfold Hid; simp, by unfold Hid; omega, hbxW.out, ⟨kS.out, kM.out⟩⟩
  case round =>
    rename_i J0 K0 ja ka
    have pj := PLift.up ja
    clear ja
    obtain ⟨Bc, v0, L, rfl, hc, hS, hcl, hpot, hBc, hX, hk⟩ := hrel
    have hc0 := hc.out.cell 0
    have hf0 := hc.out.free 0
    simp at hc0
    cases v0 with
    | false =>
      go_wp2
      go_end0
      exact ⟨rfl, L, hS.out, by simpa using hcl.out, hX.out⟩
    | true =>
      have hBc' := hBc.out
      obtain ⟨W1, hW1⟩ : ∃ W1, wr.setCell ⟨Bc, 0, none⟩ (.bool false) = W1 := ⟨_, rfl⟩
      have hX1 : BX [b, Bc] wr W1 := by rw [← hW1]; exact (BX.refl _ _).set (by simp) _
      have kc1 : Blk W1 Bc 4 #[.bool false] := by rw [← hW1]; have := hc.out.set 0 (.bool false); simpa using this
      have hm1 : MMap W1 b L := by rw [← hW1]; exact AMap.setCell hS.out.map _ _
      have kM1 := hk.out.2.bx hX1 (by simp; omega)
      have kS1 := hk.out.1.bx hX1 (by simp; omega)
      have m1 : W1.cell? ⟨w.heap.size + 1, 0, none⟩ = some (.map (some b)) := kM1.cell 0
      have hLlen := hS.out.len
      have hsets := Lib.hid (sets_any W1 b L hm1 (by omega))
      have hall := Lib.hid (And.intro hX1 (And.intro kc1 (And.intro hm1 (And.intro kM1 kS1))))
      clear hX1 kc1 hm1 kM1 kS1 hLlen hBc'
      go_wp2_with (go_at_call 55; refine hsets.out.mono ?_; rintro e w1 ⟨b2, rfl, hb2, hst2, hB2⟩; have s1 : w1.cell? ⟨w.heap.size, 1, none⟩ = some (.slice A n cap) := cell_below (hall.out.2.2.2.2.cell 1) hB2; replace hb2 := Lib.hid hb2; replace hst2 := Lib.hid hst2; replace hB2 := Lib.hid hB2)
      clear hW1 m1 s1 hc0 hf0 hsets
      obtain ⟨hX1, kc1, hm1, kM1, kS1⟩ := hall.out
      clear hall
      have hBc' := hBc.out
      have kc2 := Lib.hid (kc1.below hB2.out kc1.lt)
      have kM2 := Lib.hid (kM1.below hB2.out kM1.lt)
      have kS2 := Lib.hid (kS1.below hB2.out kS1.lt)
      have hS2 := Lib.hid (hS.out.mem (AMap.below hm1 hB2.out (AMap.lt hm1)))
      have hz1 : Bc < W1.heap.size := kc1.lt
      have hX2 := Lib.hid (hX1.trans (BX.of_below hB2.out))
      have hr2 := Lib.hid (show Rls w1 (.slice A n cap) l from Els.bx (Els.bx hrW.out (hX.out.mono (ys := [b, Bc]) (by simp)) (fun h0 a ha => by have := hAb.out h0 a ha; simp; omega)) hX2.out (fun h0 a ha => by have := hAb.out h0 a ha; simp; omega))
      clear hX1 kc1 hm1 kM1 kS1
      go_loopg [23] n (fun k c wr2 => ∃ (i : Nat) (L' : List (Key × Cost)) (c' : Bool), i ≤ n ∧ k = n - i ∧ c = .int .i64 (i : Int) ∧ Hid (SatSt (l.map RuleB.plain) B b L0 (univ l Qs) Qs wr2 L') ∧ Hid (Blk wr2 Bc 4 #[.bool c']) ∧ Hid (Prg (univ l Qs) L L' c') ∧
        Hid (c' = false → DR L (l.map RuleB.plain) i) ∧ Hid (BX [b, Bc] w1 wr2))
      case atStart => exact ⟨0, L, false, Nat.zero_le _, rfl, rfl, hS2, kc2, Prg.refl _ _, fun _ => DR.zero _ _, BX.refl _ _⟩
      case round =>
        rename_i J1 K1 jb kb
        have pj1 := PLift.up jb
        clear jb
        obtain ⟨i, L', c', hi, rfl, rfl, hS', hc', hP, hD, hX'⟩ := hrel
        by_cases hlt : i < n
        case neg =>
          have hcc := hc'.out.cell 0
          simp at hcc
          go_wp2
          have ja := pj.down
          go_roundg (2 * pot (univ l Qs) L' + (if c' then 1 else 0))
          case rel =>
            have hX3 := hX'.out
            have hBnew := below1 wr (.cells #[.bool c'] 4)
            refine ⟨wr.heap.size, c', L', rfl, Blk.new wr 4 _, hS'.out.below hBnew, fun e => ?_, Nat.le_refl _, ?_, ((hX.out.drop (hX2.out.trans hX3) (by omega)).trans (BX.of_below hBnew)), ?_, ?_⟩
            · rw [hP.out.same e]
              intro i r hr
              have hd := hD.out e
              exact hd i (by have := (List.getElem?_eq_some_iff.1 hr).1; rw [List.length_map] at this; have := hn.out; omega) r hr
            · have := hc'.out.lt; show w.heap.size + 1 < wr.heap.size; omega
            · exact Blk.alloc (kS2.out.bx hX3 (by simp; omega)) _
            · exact Blk.alloc (kM2.out.bx hX3 (by simp; omega)) _
          case measure =>
            have h1 := hP.out.le
            have h2 := hP.out.lt
            have h3 : 2 * pot (univ l Qs) L + 1 ≤ gk := by have := hpot.out; simpa using this
            cases c'
            · simp; omega
            · have := h2 rfl; simp; omega
        have hil : i < l.length := by have := hn.out; omega
        have hX3 := hX'.out
        have hrr := Els.bx hr2.out hX3 (fun h0 a ha => by have := hAb.out h0 a ha; simp; omega)
        obtain ⟨br, off, rfl, q0, q1, q2, q3⟩ := Rls.at hrr hil
        have hps := hput.out i hil
        have hmem : rAt l i ∈ l := by rw [rAt_eq hil]; exact List.getElem_mem hil
        have hrp : (l.map RuleB.plain)[i]? = some (rAt l i).plain := by rw [List.getElem?_map, List.getElem?_eq_getElem hil, rAt_eq hil]; rfl
        generalize rAt l i = r at *
        obtain ⟨f, t, o, p⟩ := r
        dsimp only at q0 q1 q2 q3 hps
        unfold RuleB.plain at hrp
        dsimp only at hrp
        obtain ⟨W2, hW2⟩ : ∃ W2, (wr.alloc (.cells #[.int .i64 f, .int .u8 t, .int .i64 o, .string p] 79)).alloc (.cells #[.int .i64 f, .int .u8 t] 102) = W2 := ⟨_, rfl⟩
        have hBa : Below wr.heap.size wr W2 := by rw [← hW2]; exact bthen (below1 _ _) (below1 _ _)
        have kr : Blk W2 wr.heap.size 79 #[.int .i64 f, .int .u8 t, .int .i64 o, .string p] := by rw [← hW2]; exact (Blk.new wr 79 _).alloc _
        have k9 : Blk W2 (wr.heap.size + 1) 102 #[.int .i64 f, .int .u8 t] := by rw [← hW2]; have := Blk.new (wr.alloc (.cells #[.int .i64 f, .int .u8 t, .int .i64 o, .string p] 79)) 102 #[.int .i64 f, .int .u8 t]; rw [alloc_size] at this; exact this
        have hX4 : BX [b, Bc] w1 W2 := hX3.trans (BX.of_below hBa)
        have kc2' : Blk W2 Bc 4 #[.bool c'] := hc'.out.below hBa hc'.out.lt
        have hm2 : MMap W2 b L' := AMap.below hS'.out.map hBa (AMap.lt hS'.out.map)
        have mm : W2.cell? ⟨w.heap.size + 1, 0, none⟩ = some (.map (some b)) := (kM2.out.bx hX4 (by simp; omega)).cell 0
        have z0 := kr.cell 0
        have z1 := kr.cell 1
        have z2 := kr.cell 2
        have z3 := kr.cell 3
        have y0 := k9.cell 0
        have y1 := k9.cell 1
        simp at z0 z1 z2 z3 y0 y1
        have hall := Lib.hid (And.intro hBa (And.intro hX4 (And.intro kr (And.intro k9 (And.intro hrp hmem)))))
        clear hBa hX3 hX4 kr k9 hrp hmem hrr
        have h012 : p.size = 0 ∨ p.size = 1 ∨ p.size = 2 := by omega
        rcases h012 with hz0 | hz0 | hz0
        · have g0 : ((p.size : Int) == 0) = true := by rw [hz0]; rfl
          have hcon := Lib.hid (less_any W2 (w.heap.size + 1) Bc b L' f t o 1 i (-1) c' mm kc2' hm2 (fun d hd => (hS'.out.inv.cost _ d hd).2) (by omega) ⟨by omega, by omega⟩)
          have hpc := Lib.hid (cs_zero hz0)
          clear kc2' hm2
          go_wp2_with (go_at_call 58; refine hcon.out.mono ?_; rintro e w3 ⟨rfl, hm3, kc3, hB3⟩; replace hm3 := Lib.hid hm3; replace kc3 := Lib.hid kc3; replace hB3 := Lib.hid hB3)
          have jb := pj1.down
          go_roundg (n - (i + 1))
          case rel =>
            obtain ⟨hBa, hX3, kr, k9, hrp, hmem⟩ := hall.out
            have hI := Inv.less0 hS'.out.inv (i := i) (r := ⟨f, t, o, cs p⟩) hrp hpc.out
            obtain ⟨hS3, hP3⟩ := SatSt.step hS'.out hP.out hm3.out hI (by dsimp only; omega) (univ_mem hmem (hQ1.out _ hmem)) (hQ1.out _ hmem)
            refine ⟨i + 1, _, _, by omega, rfl, by go_num, hS3, kc3.out, hP3, fun e => ?_, (hX3.trans hB3.out)⟩
            rw [Bool.or_eq_false_iff] at e
            refine (hD.out e.1).succ hrp (closed0 (c := ⟨1, i, -1⟩) hpc.out rfl ?_)
            rw [← hP.out.same e.1]
            exact e.2
          case measure => omega
        · have g0 : ((p.size : Int) == 0) = false := by rw [hz0]; rfl
          have g1 : ((p.size : Int) == 1) = true := by rw [hz0]; rfl
          have hz : 0 < p.size := by omega
          have hch := (ch_eq hz).symm
          have hpc := Lib.hid (cs_one hz0)
          obtain ⟨A1, n1, cap1, ts, hlook, how, hts⟩ := hst2.out.at (o, ch p 0)
          obtain ⟨hBa, hX4, kr, k9, hrp, hmem⟩ := hall.out
          have hb2lt : W1.heap.size ≤ b2 := hb2.out
          have how2 := how.bx hX4 (by simp; omega)
          have gl : ∀ g : Gr W2, (Instr.lookup 114 (.map (some b2)) (hv (o, ch p 0)) false).run Tryz.prog g.w1 = .ok (.slice A1 n1 cap1) g.w1 := fun g => hlook g.w1 (by
            have hlt2 : b2 < w1.heap.size := by obtain ⟨f, ⟨S, hA, _⟩, _⟩ := hst2.out; exact AMap.lt hA
            rw [g.h.block b2 (Nat.lt_of_lt_of_le hlt2 hX4.size)]
            exact hX4.block b2 hlt2 (by simp; omega))
          have gz2 : ∀ g : Gr W2, g.w1.cell? ⟨wr.heap.size, 2, none⟩ = some (.int .i64 o) := fun g => g.cell z2
          have gz3 : ∀ g : Gr W2, g.w1.cell? ⟨wr.heap.size, 3, none⟩ = some (.string p) := fun g => g.cell z3
          have hall1 := Lib.hid (And.intro how2 hts)
          clear hBa hX4 kr k9 hrp hmem how how2 hts hlook
          go_wp2
          refine wp_region_grow (by kernel_rfl) (by kernel_rfl) ?_
          repeat (go_big_quiet_step (fail))
          refine wpQuiet_nil ?_
          rintro _ ⟨g, rfl⟩
          obtain ⟨G, hBG⟩ := g
          dsimp only at *
          clear gz2 gz3 gl
          obtain ⟨hBa, hX4, kr, k9, hrp, hmem⟩ := hall.out
          have krG := Lib.hid (kr.below hBG kr.lt)
          have k9G := Lib.hid (k9.below hBG k9.lt)
          have hcG := Lib.hid (kc2'.below hBG kc2'.lt)
          have hXG := Lib.hid (hX4.trans (BX.of_below hBG))
          have hSG := Lib.hid ((hS'.out.below hBa).below hBG)
          have howG := Lib.hid (hall1.out.1.then hBG)
          have hts := Lib.hid hall1.out.2
          have hrp := Lib.hid hrp
          have hmem := Lib.hid hmem
          have hrz : wr.heap.size + 1 < G.heap.size := k9G.out.lt
          have hwrB : Bc < wr.heap.size := hc'.out.lt
          have hwrb : b < wr.heap.size := AMap.lt hS'.out.map
          clear hBa hX4 kr k9 hall hall1 z0 z1 z2 z3 y0 y1 mm hm2 kc2' hBG q0 q1 q2 q3 hS' hc' hX'
          have hn1 := (howG.out.els).len
          unfold maxLen at hn1
          obtain ⟨hn1a, hn1b, hn1c⟩ := hn1
          replace hn1a := Lib.hid hn1a
          go_wp2
          go_loopg [115] n1 (fun k c wr2 => ∃ (j : Nat) (L2 : List (Key × Cost)) (c2 : Bool), j ≤ n1 ∧ k = n1 - j ∧ c = .int .i64 (j : Int) ∧ Hid (SatSt (l.map RuleB.plain) B b L0 (univ l Qs) Qs wr2 L2) ∧ Hid (Blk wr2 Bc 4 #[.bool c2]) ∧ Hid (Prg (univ l Qs) L L2 c2) ∧
            Hid (c2 = false → DR L (l.map RuleB.plain) i ∧ D1 L ⟨f, t, o, cs p⟩ (ch p 0) ts j) ∧ Hid (BX [b, Bc] G wr2))
          case atStart => exact ⟨0, L', c', Nat.zero_le _, rfl, rfl, hSG, hcG, hP, fun e => ⟨hD.out e, D1.zero _ _ _ _⟩, BX.refl _ _⟩
          case round =>
            rename_i J2 K2 jc kc
            have pj2 := PLift.up jc
            clear jc
            obtain ⟨j, L2, c2, hj, rfl, rfl, hS2', hc2, hP2, hD2, hX2'⟩ := hrel
            by_cases hlt2 : j < n1
            case neg =>
              go_wp2
              have jb := pj1.down
              go_roundg (n - (i + 1))
              case rel =>
                refine ⟨i + 1, L2, c2, by omega, rfl, by go_num, hS2', hc2, hP2, fun e => ?_, hXG.out.trans hX2'.out⟩
                obtain ⟨d1, d2⟩ := hD2.out e
                refine d1.succ hrp.out (closed1 hpc.out hts.out ?_)
                rw [← hn1a.out, show n1 = j by omega]
                exact d2
              case measure => omega
            have hjl : j < ts.length := by have := hn1a.out; omega
            obtain ⟨b3, off3, rfl, hat⟩ := Els.cell (howG.out.bx hX2'.out (by simp; omega)).els (by omega)
            have e0 : wr.cell? ⟨b3, off3 + j, none⟩ = some (.int .i64 ts[j]) := by simpa [ElI] using hat j hjl 0 _ rfl
            have htj : ts[j]? = some ts[j] := List.getElem?_eq_getElem hjl
            have hqm : ts[j] ∈ ts := List.getElem_mem hjl
            clear hat
            generalize ts[j] = q at *
            obtain ⟨c1, hc1⟩ := hP2.out.keys _ (cget_iff.2 ((hts.out q).1 hqm))
            have hqQ : q ∈ Qs := hS2'.out.ends _ ⟨c1, hc1⟩
            obtain ⟨hs0, hs1⟩ := hS2'.out.inv.cost _ _ hc1
            have hI := Lib.hid (Inv.less1 hS2'.out.inv (i := i) (r := ⟨f, t, o, cs p⟩) hrp.out hpc.out hc1)
            have hlk := hS2'.out.map.look hc1
            obtain ⟨s1, r1, m1⟩ := c1
            dsimp only at hs0 hs1
            unfold far at hs1
            have hm3 : MMap wr b L2 := hS2'.out.map
            have hltb : b < wr.heap.size := AMap.lt hm3
            have hk3 := hc2.out
            have hX5 := hXG.out.trans hX2'.out
            have kr3 := krG.out.bx hX2'.out (by simp; omega)
            have k93 := k9G.out.bx hX2'.out (by simp; omega)
            have km3 := kM2.out.bx hX5 (by simp; omega)
            have g1 : ∀ g : Gr wr, g.w1.cell? ⟨_, 0, none⟩ = some (.int .i64 f) := fun g => g.cell (k93.cell 0)
            have g2 : ∀ g : Gr wr, g.w1.cell? ⟨_, 1, none⟩ = some (.int .u8 t) := fun g => g.cell (k93.cell 1)
            have g3 : ∀ g : Gr wr, g.w1.cell? ⟨_, 2, none⟩ = some (.int .i64 o) := fun g => g.cell (kr3.cell 2)
            have g4 : ∀ g : Gr wr, g.w1.cell? ⟨_, 3, none⟩ = some (.string p) := fun g => g.cell (kr3.cell 3)
            have g5 : ∀ g : Gr wr, g.w1.cell? ⟨_, 0, none⟩ = some (.map (some b)) := fun g => g.cell (km3.cell 0)
            have g6 : ∀ g : Gr wr, (Instr.lookup 81 (.map (some b)) (mv (o, ch p 0, q)) false).run Tryz.prog g.w1 = .ok (.agg #[.int .i64 s1, .int .i64 r1, .int .i64 m1]) g.w1 := fun g => MMap.look (AMap.below hm3 g.h hltb) hc1
            have g7 : ∀ g : Gr wr, (Instr.field 106 (.agg #[.int .i64 s1, .int .i64 r1, .int .i64 m1]) 0).run Tryz.prog g.w1 = .ok (.int .i64 s1) g.w1 := fun g => field96 _ _ _ _
            have hcon := Lib.hid (fun g : Gr wr => less_any g.w1 (w.heap.size + 1) Bc b L2 f t q (1 + s1) i (-1) c2 (g.cell (km3.cell 0)) (hk3.below g.h hk3.lt) (AMap.below hm3 g.h hltb) (fun d hd => (hS2'.out.inv.cost _ d hd).2) (by omega) ⟨by omega, by omega⟩)
            clear hlk hm3 hk3 hX5 kr3 k93 km3
            go_wp2
            refine wp_region_growtail 18 (by kernel_rfl) (by kernel_rfl) ?_
            simp only [List.take_succ_cons, List.take_zero, List.drop_succ_cons, List.drop_zero]
            repeat (go_big_quiet_step (fail))
            refine wpQuiet_nil ?_
            rintro _ ⟨g, rfl⟩
            clear g1 g2 g3 g4 g5 g6 g7
            go_wp2_with (go_at_call 58; refine (hcon.out g).mono ?_; rintro e w3 ⟨rfl, hm3, kc3, hB3⟩; replace hm3 := Lib.hid hm3; replace kc3 := Lib.hid kc3; replace hB3 := Lib.hid hB3)
            have jc := pj2.down
            go_roundg (n1 - (j + 1))
            case rel =>
              obtain ⟨hS3, hP3⟩ := SatSt.step hS2'.out hP2.out hm3.out hI.out (by dsimp only; omega) (univ_mem hmem.out hqQ) hqQ
              refine ⟨j + 1, _, _, by omega, rfl, by go_num, hS3, kc3.out, hP3, fun e => ?_, hX2'.out.trans ((BX.of_below g.h).trans hB3.out)⟩
              rw [Bool.or_eq_false_iff] at e
              obtain ⟨d1, d2⟩ := hD2.out e.1
              have hs := hP2.out.same e.1
              refine ⟨d1, d2.succ (c1 := ⟨s1, r1, m1⟩) htj (by rw [← hs]; exact hc1) (c := ⟨1 + s1, i, -1⟩) rfl ?_⟩
              rw [← hs]
              exact e.2
            case measure => omega
        · have g0 : ((p.size : Int) == 0) = false := by rw [hz0]; rfl
          have g1 : ((p.size : Int) == 1) = false := by rw [hz0]; rfl
          have hz : 0 < p.size := by omega
          have hch := (ch_eq hz).symm
          have hz' : 1 < p.size := by omega
          have hch' := (ch_eq hz').symm
          have hpc := Lib.hid (cs_two hz0)
          obtain ⟨A1, n1, cap1, ts, hlook, how, hts⟩ := hst2.out.at (o, ch p 0)
          obtain ⟨hBa, hX4, kr, k9, hrp, hmem⟩ := hall.out
          have hb2lt : W1.heap.size ≤ b2 := hb2.out
          have how2 := how.bx hX4 (by simp; omega)
          have gl : ∀ g : Gr W2, (Instr.lookup 114 (.map (some b2)) (hv (o, ch p 0)) false).run Tryz.prog g.w1 = .ok (.slice A1 n1 cap1) g.w1 := fun g => hlook g.w1 (by
            have hlt2 : b2 < w1.heap.size := by obtain ⟨f, ⟨S, hA, _⟩, _⟩ := hst2.out; exact AMap.lt hA
            rw [g.h.block b2 (Nat.lt_of_lt_of_le hlt2 hX4.size)]
            exact hX4.block b2 hlt2 (by simp; omega))
          have gz2 : ∀ g : Gr W2, g.w1.cell? ⟨wr.heap.size, 2, none⟩ = some (.int .i64 o) := fun g => g.cell z2
          have gz3 : ∀ g : Gr W2, g.w1.cell? ⟨wr.heap.size, 3, none⟩ = some (.string p) := fun g => g.cell z3
          have hall1 := Lib.hid (And.intro how2 hts)
          clear hBa hX4 kr k9 hrp hmem how how2 hts hlook
          go_wp2
          refine wp_region_grow (by kernel_rfl) (by kernel_rfl) ?_
          repeat (go_big_quiet_step (fail))
          refine wpQuiet_nil ?_
          rintro _ ⟨g, rfl⟩
          obtain ⟨G, hBG⟩ := g
          dsimp only at *
          clear gz2 gz3 gl
          obtain ⟨hBa, hX4, kr, k9, hrp, hmem⟩ := hall.out
          have krG := Lib.hid (kr.below hBG kr.lt)
          have k9G := Lib.hid (k9.below hBG k9.lt)
          have hcG := Lib.hid (kc2'.below hBG kc2'.lt)
          have hXG := Lib.hid (hX4.trans (BX.of_below hBG))
          have hSG := Lib.hid ((hS'.out.below hBa).below hBG)
          have howG := Lib.hid (hall1.out.1.then hBG)
          have hts := Lib.hid hall1.out.2
          have hrp := Lib.hid hrp
          have hmem := Lib.hid hmem
          have hrz : wr.heap.size + 1 < G.heap.size := k9G.out.lt
          have hwrB : Bc < wr.heap.size := hc'.out.lt
          have hwrb : b < wr.heap.size := AMap.lt hS'.out.map
          clear hBa hX4 kr k9 hall hall1 z0 z1 z2 z3 y0 y1 mm hm2 kc2' hBG q0 q1 q2 q3 hS' hc' hX'
          have hn1 := (howG.out.els).len
          unfold maxLen at hn1
          obtain ⟨hn1a, hn1b, hn1c⟩ := hn1
          replace hn1a := Lib.hid hn1a
          have hb2lt2 := Lib.hid (show b2 < w1.heap.size by obtain ⟨f, ⟨S, hA, _⟩, _⟩ := hst2.out; exact AMap.lt hA)
          go_wp2
          go_loopg [45] n1 (fun k c wr2 => ∃ (j : Nat) (L2 : List (Key × Cost)) (c2 : Bool), j ≤ n1 ∧ k = n1 - j ∧ c = .int .i64 (j : Int) ∧ Hid (SatSt (l.map RuleB.plain) B b L0 (univ l Qs) Qs wr2 L2) ∧ Hid (Blk wr2 Bc 4 #[.bool c2]) ∧ Hid (Prg (univ l Qs) L L2 c2) ∧
            Hid (c2 = false → DR L (l.map RuleB.plain) i ∧ D2 L ⟨f, t, o, cs p⟩ (ch p 0) (ch p 1) ts j) ∧ Hid (BX [b, Bc] G wr2))
          case atStart => exact ⟨0, L', c', Nat.zero_le _, rfl, rfl, hSG, hcG, hP, fun e => ⟨hD.out e, D2.zero _ _ _ _ _⟩, BX.refl _ _⟩
          case round =>
            rename_i J2 K2 jc kc
            have pj2 := PLift.up jc
            clear jc
            obtain ⟨j, L2, c2, hj, rfl, rfl, hS2', hc2, hP2, hD2, hX2'⟩ := hrel
            by_cases hlt2 : j < n1
            case neg =>
              go_wp2
              have jb := pj1.down
              go_roundg (n - (i + 1))
              case rel =>
                refine ⟨i + 1, L2, c2, by omega, rfl, by go_num, hS2', hc2, hP2, fun e => ?_, hXG.out.trans hX2'.out⟩
                obtain ⟨d1, d2⟩ := hD2.out e
                refine d1.succ hrp.out (closed2 hpc.out hts.out ?_)
                rw [← hn1a.out, show n1 = j by omega]
                exact d2
              case measure => omega
            have hjl : j < ts.length := by have := hn1a.out; omega
            obtain ⟨b3, off3, rfl, hat⟩ := Els.cell (howG.out.bx hX2'.out (by simp; omega)).els (by omega)
            have e0 : wr.cell? ⟨b3, off3 + j, none⟩ = some (.int .i64 ts[j]) := by simpa [ElI] using hat j hjl 0 _ rfl
            have htj : ts[j]? = some ts[j] := List.getElem?_eq_getElem hjl
            have hqm : ts[j] ∈ ts := List.getElem_mem hjl
            clear hat
            generalize ts[j] = m at *
            obtain ⟨A2, n2, cap2, ts2, hlook2, how2, hts2⟩ := hst2.out.at (m, ch p 1)
            have hX5 := hXG.out.trans hX2'.out
            have how3 := how2.bx hX5 (by simp; omega)
            have hl2 := hlook2 wr (hX5.block b2 hb2lt2.out (by simp; omega))
            have kr3 := krG.out.bx hX2'.out (by simp; omega)
            have x3 : wr.cell? ⟨_, 3, none⟩ = some (.string p) := kr3.cell 3
            have hn2 := (how3.els).len
            unfold maxLen at hn2
            obtain ⟨hn2a, hn2b, hn2c⟩ := hn2
            replace hn2a := Lib.hid hn2a
            replace how3 := Lib.hid how3
            have hts2 := Lib.hid hts2
            have hmk := Lib.hid (hP2.out.keys _ (cget_iff.2 ((hts.out m).1 hqm)))
            clear hX5 how2 hlook2 kr3 hqm
            have htj := Lib.hid htj
            go_wp2
            clear hl2 x3 e0
            go_loopg [57] n2 (fun k c wr2 => ∃ (j2 : Nat) (L3 : List (Key × Cost)) (c3 : Bool), j2 ≤ n2 ∧ k = n2 - j2 ∧ c = .int .i64 (j2 : Int) ∧ Hid (SatSt (l.map RuleB.plain) B b L0 (univ l Qs) Qs wr2 L3) ∧ Hid (Blk wr2 Bc 4 #[.bool c3]) ∧ Hid (Prg (univ l Qs) L L3 c3) ∧
              Hid (c3 = false → DR L (l.map RuleB.plain) i ∧ D2 L ⟨f, t, o, cs p⟩ (ch p 0) (ch p 1) ts j ∧ D3 L ⟨f, t, o, cs p⟩ (ch p 0) (ch p 1) m ts2 j2) ∧ Hid (BX [b, Bc] wr wr2) ∧ Hid (∃ c, cget L3 (o, ch p 0, m) = some c))
            case atStart => exact ⟨0, L2, c2, Nat.zero_le _, rfl, rfl, hS2', hc2, hP2, fun e => ⟨(hD2.out e).1, (hD2.out e).2, D3.zero _ _ _ _ _ _⟩, BX.refl _ _, hmk⟩
            case round =>
              rename_i J3 K3 jd kd
              have pj3 := PLift.up jd
              clear jd
              obtain ⟨j2, L3, c3, hj2, rfl, rfl, hS3', hc3, hP3, hD3, hX3', hmk3⟩ := hrel
              by_cases hlt3 : j2 < n2
              case neg =>
                go_wp2
                have jc := pj2.down
                go_roundg (n1 - (j + 1))
                case rel =>
                  refine ⟨j + 1, L3, c3, by omega, rfl, by go_num, hS3', hc3, hP3, fun e => ?_, hX2'.out.trans hX3'.out⟩
                  obtain ⟨d1, d2, d3⟩ := hD3.out e
                  refine ⟨d1, d2.succ htj.out (ts2 := ts2) ?_ hts2.out⟩
                  rw [← hn2a.out, show n2 = j2 by omega]
                  exact d3
                case measure => omega
              have hjl2 : j2 < ts2.length := by have := hn2a.out; omega
              obtain ⟨b4, off4, rfl, hat⟩ := Els.cell (how3.out.bx hX3'.out (by simp; omega)).els (by omega)
              have e0 : wr.cell? ⟨b4, off4 + j2, none⟩ = some (.int .i64 ts2[j2]) := by simpa [ElI] using hat j2 hjl2 0 _ rfl
              have htj2 : ts2[j2]? = some ts2[j2] := List.getElem?_eq_getElem hjl2
              have hqm : ts2[j2] ∈ ts2 := List.getElem_mem hjl2
              clear hat
              generalize ts2[j2] = q at *
              obtain ⟨c1, hc1⟩ := hmk3.out
              obtain ⟨cc, hcc⟩ := hP3.out.keys _ (cget_iff.2 ((hts2.out q).1 hqm))
              have hqQ : q ∈ Qs := hS3'.out.ends _ ⟨cc, hcc⟩
              obtain ⟨hs0, hs1⟩ := hS3'.out.inv.cost _ _ hc1
              obtain ⟨ht0, ht1⟩ := hS3'.out.inv.cost _ _ hcc
              have hI := Lib.hid (Inv.less2 hS3'.out.inv (i := i) (r := ⟨f, t, o, cs p⟩) hrp.out hpc.out hc1 hcc)
              obtain ⟨s1, r1, m1⟩ := c1
              obtain ⟨s2, r2, m2⟩ := cc
              dsimp only at hs0 hs1 ht0 ht1 hcc
              unfold far at hs1 ht1
              have hm3 : MMap wr b L3 := hS3'.out.map
              have hltb : b < wr.heap.size := AMap.lt hm3
              have hk3 := hc3.out
              have hX4 := hX2'.out.trans hX3'.out
              have hX5 := hXG.out.trans hX4
              have kr3 := krG.out.bx hX4 (by simp; omega)
              have k93 := k9G.out.bx hX4 (by simp; omega)
              have km3 := kM2.out.bx hX5 (by simp; omega)
              have g1 : ∀ g : Gr wr, g.w1.cell? ⟨_, 0, none⟩ = some (.int .i64 f) := fun g => g.cell (k93.cell 0)
              have g2 : ∀ g : Gr wr, g.w1.cell? ⟨_, 1, none⟩ = some (.int .u8 t) := fun g => g.cell (k93.cell 1)
              have g3 : ∀ g : Gr wr, g.w1.cell? ⟨_, 2, none⟩ = some (.int .i64 o) := fun g => g.cell (kr3.cell 2)
              have g4 : ∀ g : Gr wr, g.w1.cell? ⟨_, 3, none⟩ = some (.string p) := fun g => g.cell (kr3.cell 3)
              have g5 : ∀ g : Gr wr, g.w1.cell? ⟨_, 0, none⟩ = some (.map (some b)) := fun g => g.cell (km3.cell 0)
              have g6 : ∀ g : Gr wr, (Instr.lookup 81 (.map (some b)) (mv (o, ch p 0, m)) false).run Tryz.prog g.w1 = .ok (.agg #[.int .i64 s1, .int .i64 r1, .int .i64 m1]) g.w1 := fun g => MMap.look (AMap.below hm3 g.h hltb) hc1
              have g8 : ∀ g : Gr wr, (Instr.lookup 81 (.map (some b)) (mv (m, ch p 1, q)) false).run Tryz.prog g.w1 = .ok (.agg #[.int .i64 s2, .int .i64 r2, .int .i64 m2]) g.w1 := fun g => MMap.look (AMap.below hm3 g.h hltb) hcc
              have g7 : ∀ g : Gr wr, (Instr.field 106 (.agg #[.int .i64 s1, .int .i64 r1, .int .i64 m1]) 0).run Tryz.prog g.w1 = .ok (.int .i64 s1) g.w1 := fun g => field96 _ _ _ _
              have g9 : ∀ g : Gr wr, (Instr.field 106 (.agg #[.int .i64 s2, .int .i64 r2, .int .i64 m2]) 0).run Tryz.prog g.w1 = .ok (.int .i64 s2) g.w1 := fun g => field96 _ _ _ _
              have hcon := Lib.hid (fun g : Gr wr => less_any g.w1 (w.heap.size + 1) Bc b L3 f t q (1 + s1 + s2) i m c3 (g.cell (km3.cell 0)) (hk3.below g.h hk3.lt) (AMap.below hm3 g.h hltb) (fun d hd => (hS3'.out.inv.cost _ d hd).2) (by omega) ⟨by omega, by omega⟩)
              clear hm3 hk3 hX5 hX4 kr3 k93 km3
              go_wp2
              refine wp_region_growtail 30 (by kernel_rfl) (by kernel_rfl) ?_
              simp only [List.take_succ_cons, List.take_zero, List.drop_succ_cons, List.drop_zero]
              repeat (go_big_quiet_step (fail))
              refine wpQuiet_nil ?_
              rintro _ ⟨g, rfl⟩
              clear g1 g2 g3 g4 g5 g6 g7 g8 g9
              go_wp2_with (go_at_call 58; refine (hcon.out g).mono ?_; rintro e w3 ⟨rfl, hm3, kc3, hB3⟩; replace hm3 := Lib.hid hm3; replace kc3 := Lib.hid kc3; replace hB3 := Lib.hid hB3)
              have jd := pj3.down
              go_roundg (n2 - (j2 + 1))
              case rel =>
                obtain ⟨hS3, hP3'⟩ := SatSt.step hS3'.out hP3.out hm3.out hI.out (by dsimp only; omega) (univ_mem hmem.out hqQ) hqQ
                refine ⟨j2 + 1, _, _, by omega, rfl, by go_num, hS3, kc3.out, hP3', fun e => ?_, hX3'.out.trans ((BX.of_below g.h).trans hB3.out), keys_lessL.1 _ ⟨_, hc1⟩⟩
                rw [Bool.or_eq_false_iff] at e
                obtain ⟨d1, d2, d3⟩ := hD3.out e.1
                have hs := hP3.out.same e.1
                refine ⟨d1, d2, d3.succ (c1 := ⟨s1, r1, m1⟩) (c2 := ⟨s2, r2, m2⟩) htj2 (by rw [← hs]; exact hc1) (by rw [← hs]; exact hcc) (c := ⟨1 + s1 + s2, i, m⟩) rfl ?_⟩
                rw [← hs]
                exact e.2
              case measure => omega
end Go.Proofs.YtaapnflhjbdmlaaGreatDoor
