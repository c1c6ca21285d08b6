/- successors: the walk. No condition. -/
import Derived.Test.YtaapnflhjbdmlaaGreatDoorZW
import Derived.Deep.LoopGhost
import Derived.Deep.CutRange
namespace Go.Proofs.YtaapnflhjbdmlaaGreatDoor
open Go.RowKit Go.Shelf
attribute [local go_sem] Oper.semAt_some

set_option maxRecDepth 8000 in
set_option maxHeartbeats 8000000 in
theorem successors_any (w : World) (C st : Int) (v vm vf : Value) (l : List RuleB) (ms : List Mi) (fs : List Int) (hm : Els ElZ w vm ms) (hf : Els ElI w vf fs) (hr : Rls w v l) (hsys : sysB C l = true) (hg : givenB C st ms fs = true) :
    Calls Tryz.prog 38 #[sv C v, acV st vm vf] w fun e w' => ∃ vm' vf' ms' fs' n, e = .returned (acV n vm' vf') ∧ OwnE ElZ 78 w.heap.size w' vm' ms' ∧ OwnE ElI 3 w.heap.size w' vf' fs' ∧ AfRes C st l ms fs n ms' fs' ∧ Below w.heap.size w w' := by
  obtain ⟨A, n, cap, rfl, hn⟩ := Els.shape hr
  obtain ⟨Am, nm, capm, rfl, hnm⟩ := Els.shape hm
  obtain ⟨Af, nf, capf, rfl, hnf⟩ := Els.shape hf
  obtain ⟨hn2, hcap, hmax⟩ := Els.len hr
  unfold maxLen at hmax
  have hl30 : l.length ≤ 30 := (sysB_iff.1 hsys).2.2.1
  have hC1 : 1 ≤ C := (sysB_iff.1 hsys).1
  have hg2 := (givenB_iff2 (by omega)).1 hg
  have hgC : C ≤ st := hg2.1
  have hst1 : 1 ≤ st := by have := hg2.1; omega
  have hst12 : st ≤ 12 := hg2.2.1
  have hput : ∀ i, i < l.length → (rAt l i).put.size ≤ 2 := by
    intro i hi
    have h1 := (sysB_iff.1 hsys).2.2.2 i hi
    simp only [rOk, ruleB, Bool.and_eq_true] at h1
    have h2 := h1.1.1.2
    simpa using h2
  have hAb : 0 < l.length → ∀ a, A = some a → a.block < w.heap.size := by
    intro h0 a ha
    obtain ⟨b', off, e, hc⟩ := Els.cell hr h0
    rw [e] at ha
    cases ha
    exact lt_of_cell (hc 0 h0 0 _ rfl)
  have hAbm : 0 < ms.length → ∀ a, Am = some a → a.block < w.heap.size := by
    intro h0 a ha
    obtain ⟨b', off, e, hc⟩ := Els.cell hm h0
    rw [e] at ha
    cases ha
    exact lt_of_cell (hc 0 h0 0 _ rfl)
  have hAbf : 0 < fs.length → ∀ a, Af = some a → a.block < w.heap.size := by
    intro h0 a ha
    obtain ⟨b', off, e, hc⟩ := Els.cell hf h0
    rw [e] at ha
    cases ha
    exact lt_of_cell (hc 0 h0 0 _ rfl)
  have hlen100 : ms.length ≤ 100 := hg2.2.2.1
  have hmv : ∀ m ∈ ms, mvIn st C m = true := fun m hm => by
    obtain ⟨i, hi, rfl⟩ := List.getElem_of_mem hm
    have h := hg2.2.2.2.1 i hi
    unfold mvAt at h
    rw [Bool.and_eq_true] at h
    have e : ms.getD i (0, 0, 0) = ms[i] := by simp [List.getD, hi]
    rw [← e]; exact h.1
  have hletters : ∀ m ∈ ms, 0 ≤ m.2.1 ∧ m.2.1 < 5 := fun m hm => by
    have h := hmv m hm
    simp only [mvIn, Bool.and_eq_true, Bool.not_eq_true', decide_eq_false_iff_not] at h
    omega
  obtain ⟨W0, hW0⟩ : ∃ W0, ((w.alloc (.cells #[.int .i64 C, .slice A n cap] 40)).alloc (.cells #[.int .i64 st, .slice Am nm capm, .slice Af nf capf] 34)).alloc (.cells #[.int .i64 0, .slice none 0 0, .slice none 0 0] 34) = W0 := ⟨_, rfl⟩
  have hB0 : Below w.heap.size w W0 := by rw [← hW0]; exact bthen (below1 _ _) (bthen (below1 _ _) (below1 _ _))
  have kS0 : Blk W0 w.heap.size 40 #[.int .i64 C, .slice A n cap] := by rw [← hW0]; exact ((Blk.new w 40 _).alloc _).alloc _
  have kA0 : Blk W0 (w.heap.size + 1) 34 #[.int .i64 st, .slice Am nm capm, .slice Af nf capf] := by rw [← hW0]; have := Blk.new (w.alloc (.cells #[.int .i64 C, .slice A n cap] 40)) 34 #[.int .i64 st, .slice Am nm capm, .slice Af nf capf]; rw [alloc_size] at this; exact this.alloc _
  have kR0 : Blk W0 (w.heap.size + 1 + 1) 34 #[.int .i64 0, .slice none 0 0, .slice none 0 0] := by rw [← hW0]; have := Blk.new ((w.alloc (.cells #[.int .i64 C, .slice A n cap] 40)).alloc (.cells #[.int .i64 st, .slice Am nm capm, .slice Af nf capf] 34)) 34 #[.int .i64 0, .slice none 0 0, .slice none 0 0]; rw [alloc_size, alloc_size] at this; exact this
  have hs0 : W0.heap.size = w.heap.size + 3 := by rw [← hW0, alloc_size, alloc_size, alloc_size]
  obtain ⟨W, hW⟩ : ∃ W, W0.alloc (.map #[] 0) = W := ⟨_, rfl⟩
  have hBW : Below W0.heap.size W0 W := by rw [← hW]; exact below1 _ _
  have hN : AMap hv W W0.heap.size (nval st []) := by rw [← hW]; exact AMap.made hv W0
  have hmk : (Instr.makeMap 129 none).run Tryz.prog W0 = .ok (.map (some W0.heap.size)) W := by rw [← hW]; kernel_rfl
  have kS := kS0.below hBW kS0.lt
  have kA := kA0.below hBW kA0.lt
  have kR := kR0.below hBW kR0.lt
  have hsW : W.heap.size = W0.heap.size + 1 := by rw [← hW, alloc_size]
  obtain ⟨bN, hbN⟩ : ∃ bN, W0.heap.size = bN := ⟨_, rfl⟩
  rw [hbN] at hN hmk hs0 hsW
  have hb3 : w.heap.size + 2 < bN := by omega
  have hbW : bN < W.heap.size := by omega
  clear hs0 hsW
  have a0 : W.cell? ⟨w.heap.size + 1, 0, none⟩ = some (.int .i64 st) := kA.cell 0
  have s1 : W.cell? ⟨w.heap.size, 1, none⟩ = some (.slice A n cap) := kS.cell 1
  have hB1 := Lib.hid (bthen hB0 hBW)
  have hr1 := Lib.hid ((hr.then hB0).then hBW)
  have hm1 := Lib.hid ((hm.then hB0).then hBW)
  have hf1 := Lib.hid ((hf.then hB0).then hBW)
  replace kS := Lib.hid kS
  replace kA := Lib.hid kA
  replace kR := Lib.hid kR
  replace hN := Lib.hid hN
  replace hput := Lib.hid hput
  replace hAb := Lib.hid hAb
  replace hAbm := Lib.hid hAbm
  replace hAbf := Lib.hid hAbf
  replace hmv := Lib.hid hmv
  replace hletters := Lib.hid hletters
  replace hsys := Lib.hid hsys
  replace hg := Lib.hid hg
  clear hB0 kS0 kA0 kR0 hBW hW hr hm hf hn2 hg2 hbN
  go_enter Tryz.func38, Tryz.ntmps38
  repeat' ((fail_if_success (with_reducible (show Code.wp _ (Code.seq (Code.region 3 _ _) _) _ _ _))); first | (fail) | go_values | go_skip | go_guarded | go_step | go_upon | go_back | (simp only [Int.not_lt, Int.not_le] at *; go_simp) | (go_values <;> (try go_simp)) | (go_ite <;> go_prune <;> (try go_simp)) | (split <;> (first | (rename_i hx; exact (hx _ rfl).elim) | go_prune)))
  clear hmk hW0
  go_cut [5, 6, 8, 9] from 28 to 57 (fun c5 c6 _ _ wx => ∃ Hs : List Head, c5 = .map (some bN) ∧ c6 = .int .i64 (st + Hs.length) ∧ Hid (AMap hv wx bN (nval st Hs)) ∧ Hid (NumOk l l.length Hs) ∧ Hid (BX [bN] W wx))
  case first =>
    go_wp2
    clear a0 s1
    go_loopw [6, 34] (fun c6 c34 wr => ∃ (i : Nat) (Hs : List Head), i ≤ n ∧ c6 = .int .i64 (st + Hs.length) ∧ c34 = .int .i64 (i : Int) ∧ Hid (AMap hv wr bN (nval st Hs)) ∧ Hid (NumOk l i Hs) ∧ Hid (BX [bN] W wr)) (fun _ c34 _ => n - (intOf c34).toNat)
    case atStart => exact ⟨0, [], Nat.zero_le _, by simp, rfl, hN.out, ⟨Nat.le_refl _, fun k hk => by omega⟩, BX.refl _ _⟩
    case round =>
      obtain ⟨i, Hs, hi, rfl, rfl, hNi, hHs, hX⟩ := hrel
      by_cases hlt : i < n
      case neg =>
        have hge : ¬ (i : Int) < n := by omega
        go_wp2
        go_meet
        exact ⟨Hs, rfl, rfl, hNi.out, (by have e : i = l.length := by { have := hn.out; omega }
                                          rw [← e]; exact hHs.out), hX.out⟩
      have hltI : (i : Int) < n := by omega
      have hil : i < l.length := by have := hn.out; omega
      have hrr := Els.bx hr1.out hX.out (fun h0 a ha => by have := hAb.out h0 a ha; simp; omega)
      obtain ⟨br, off, rfl, q0, q1, q2, q3⟩ := Rls.at hrr hil
      have hps := hput.out i hil
      have hsk := Lib.hid (hHs.out.skip (i := i))
      have hpu := Lib.hid (hHs.out.put (i := i))
      have hcnt := hHs.out.1
      generalize rAt l i = r at *
      obtain ⟨f, t, o, p⟩ := r
      dsimp only at q0 q1 q2 q3 hps hsk hpu
      obtain ⟨W2, hW2⟩ : ∃ W2, wr.alloc (.cells #[.int .i64 f, .int .u8 t, .int .i64 o, .string p] 79) = W2 := ⟨_, rfl⟩
      have hBa : Below wr.heap.size wr W2 := by rw [← hW2]; exact below1 _ _
      have kr : Blk W2 wr.heap.size 79 #[.int .i64 f, .int .u8 t, .int .i64 o, .string p] := by rw [← hW2]; exact Blk.new wr 79 _
      have z2 := kr.cell 2
      have z3 := kr.cell 3
      simp at z2 z3
      have hX2 : BX [bN] W W2 := hX.out.trans (BX.of_below hBa)
      have hN2 : AMap hv W2 bN (nval st Hs) := AMap.below hNi.out hBa (AMap.lt hNi.out)
      by_cases h2 : p.size < 2
      · have h2I : (p.size : Int) < 2 := by omega
        have hN2 := Lib.hid hN2
        have hX2 := Lib.hid hX2
        go_wp2
        go_roundw
        case rel => exact ⟨i + 1, Hs, by omega, rfl, by go_num, hN2.out, hsk.out (fun h => by omega), hX2.out⟩
        case measure => simp [intOf]; omega
      have hz2 : p.size = 2 := by omega
      have h2I : ¬ (p.size : Int) < 2 := by omega
      have hz : 0 < p.size := by omega
      have hch := (ch_eq hz).symm
      have y2 : ∀ Z, (W2.alloc Z).cell? ⟨wr.heap.size, 2, none⟩ = some (.int .i64 o) := fun Z => (kr.alloc Z).cell 2
      have y3 : ∀ Z, (W2.alloc Z).cell? ⟨wr.heap.size, 3, none⟩ = some (.string p) := fun Z => (kr.alloc Z).cell 3
      replace hN2 := Lib.hid hN2
      replace hX2 := Lib.hid hX2
      replace kr := Lib.hid kr
      go_upto_region 7 with (fail)
      go_region
      obtain ⟨W3, hW3⟩ : ∃ W3, (W2.alloc (.cells #[.int .i64 o, .int .u8 (ch p 0)] 102)).drew = W3 := ⟨_, rfl⟩
      have hB3 : Below W2.heap.size W2 W3 := by rw [← hW3]; exact below_drewN (below1 _ _) 1
      have kh : Blk W3 W2.heap.size 102 #[.int .i64 o, .int .u8 (ch p 0)] := by rw [← hW3]; exact Blk.new _ _ _
      have x0 := kh.cell 0
      have x1 := kh.cell 1
      simp at x0 x1
      have hN3 := Lib.hid (AMap.below hN2.out hB3 (AMap.lt hN2.out))
      have hX3 := Lib.hid (hX2.out.trans (BX.of_below hB3))
      replace kh := Lib.hid kh
      have hnz := Lib.hid (numZ_zero (h := (o, ch p 0)) (Hs := Hs) hst1)
      have hget := Lib.hid (numZ_get st Hs (o, ch p 0))
      rw [hW3]
      clear hW3 y2 y3 hB3 hBa
      by_cases hmem : (o, ch p 0) ∈ Hs
      · have hne : (numZ st Hs (o, ch p 0) == 0) = false := by
          rw [beq_eq_false_iff_ne]; intro e; exact (hnz.out.1 e) hmem
        have hmem := Lib.hid hmem
        go_wp2_with (at_lookup; refine wpList_lookup_a _ rfl (.tmp 48) (.tmp 49) 129 rfl 102 3 key77 Tryz.underlying129 (zero3 _) rfl hN3.out (o, ch p 0) rfl _ hget.out ?_)
        go_roundw
        case rel => exact ⟨i + 1, Hs, by omega, rfl, by go_num, hN3.out, hsk.out (fun _ => hmem.out), hX3.out⟩
        case measure => simp [intOf]; omega
      · have hne : (numZ st Hs (o, ch p 0) == 0) = true := by
          rw [beq_iff_eq]; exact hnz.out.2 hmem
        have hput := Lib.hid (aput_nval st Hs (o, ch p 0) hmem)
        have hsn : (Hs.length : Int) ≤ 30 := by omega
        go_wp2_with (first
          | (at_lookup; refine wpList_lookup_a _ rfl (.tmp 48) (.tmp 49) 129 rfl 102 3 key77 Tryz.underlying129 (zero3 _) rfl hN3.out (o, ch p 0) rfl _ hget.out ?_)
          | (at_mapUpdate; refine wpList_mapUpdate_a _ rfl (.tmp 52) (.tmp 53) (.tmp 54) 129 rfl 102 3 key77 Tryz.underlying129 rfl hN3.out (o, ch p 0) rfl (.int .i64 (st + Hs.length)) rfl ?_; intro w2 hA2 hg2 hs2; rw [hput.out] at hA2; replace hA2 := Lib.hid hA2; replace hg2 := Lib.hid hg2; clear hs2))
        refine ⟨⟨i + 1, Hs ++ [(o, ch p 0)], by omega, by rw [List.length_append]; go_num, by go_num, hA2.out, hpu.out, hX3.out.trans (BX.of_grown hg2.out (by simp))⟩, ?_⟩
        simp [intOf]; omega
  case rest =>
    obtain ⟨Hs, rfl, rfl, hNc, hHs, hXc⟩ := hcut
    have kA2 := kA.out.bx hXc.out (by simp; omega)
    have kS2 := Lib.hid (kS.out.bx hXc.out (by simp; omega))
    have kR2 := Lib.hid (kR.out.bx hXc.out (by simp; omega))
    have a0 : wc.cell? ⟨w.heap.size + 1, 0, none⟩ = some (.int .i64 st) := kA2.cell 0
    have a1 : wc.cell? ⟨w.heap.size + 1, 1, none⟩ = some (.slice Am nm capm) := kA2.cell 1
    have a2 : wc.cell? ⟨w.heap.size + 1, 2, none⟩ = some (.slice Af nf capf) := kA2.cell 2
    have hm2 := Els.bx hm1.out hXc.out (fun h0 a ha => by have := hAbm.out h0 a ha; simp; omega)
    have hf2 := Els.bx hf1.out hXc.out (fun h0 a ha => by have := hAbf.out h0 a ha; simp; omega)
    have hgv := Lib.hid (given_any wc st _ _ ms fs hm2 hf2 hletters.out hlen100)
    have hWc := hXc.out.size
    have hwc0 : w.heap.size + 2 < wc.heap.size := by omega
    have hwcN : bN < wc.heap.size := by omega
    have hN2 := Lib.hid hNc.out
    replace kA2 := Lib.hid kA2
    replace hm2 := Lib.hid hm2
    replace hf2 := Lib.hid hf2
    have hBc := Lib.hid (show Below w.heap.size w wc from hB1.out.trans (hXc.out.below hB1.out.size (by simp; omega)))
    clear hm1 hf1 hN kA kS kR hNc hWc
    go_upto_region 13 with (go_at_call 35; refine hgv.out.mono ?_; rintro e w1 ⟨b, L0, rfl, hb, hmm1, hgi1, hBg1⟩; replace hb := Lib.hid hb; replace hmm1 := Lib.hid hmm1; replace hgi1 := Lib.hid hgi1; replace hBg1 := Lib.hid hBg1)
    obtain ⟨W4, hW4⟩ : ∃ W4, w1.alloc (.cells #[.map (some b)] 81) = W4 := ⟨_, rfl⟩
    obtain ⟨W5, hW5⟩ : ∃ W5, W4.alloc (.map #[] 0) = W5 := ⟨_, rfl⟩
    have hmk2 : (Instr.makeMap 130 none).run Tryz.prog W4 = .ok (.map (some W4.heap.size)) W5 := by rw [← hW5]; kernel_rfl
    have hB4 : Below w1.heap.size w1 W4 := by rw [← hW4]; exact below1 _ _
    have hB5 : Below W4.heap.size W4 W5 := by rw [← hW5]; exact below1 _ _
    have hB45 := bthen hB4 hB5
    have kM := Lib.hid (show Blk W5 w1.heap.size 81 #[.map (some b)] by have := Blk.new w1 81 #[.map (some b)]; rw [hW4] at this; exact this.below hB5 this.lt)
    have hS5 : AMap sv2 W5 W4.heap.size (sval []) := by rw [← hW5]; exact AMap.made sv2 W4
    have hz4 : W4.heap.size = w1.heap.size + 1 := by rw [← hW4, alloc_size]
    have hz5 : W5.heap.size = w1.heap.size + 2 := by rw [← hW5, alloc_size, hz4]
    have hb1 : wc.heap.size ≤ b := hb.out
    have hb2 : b < w1.heap.size := AMap.lt hmm1.out
    obtain ⟨Bm, hBm⟩ : ∃ Bm, w1.heap.size = Bm := ⟨_, rfl⟩
    obtain ⟨bS, hbS⟩ : ∃ bS, W4.heap.size = bS := ⟨_, rfl⟩
    have hB5c := Lib.hid (show Below wc.heap.size wc W5 from bthen hBg1.out hB45)
    have hmm5 : MMap W5 b L0 := AMap.below hmm1.out hB45 hb2
    rw [hBm] at hb2 hz4 hz5 kM
    rw [hbS] at hmk2 hS5 hz4
    rw [hW4, hBm]
    have hwcB := hB5c.out
    have kA5 := Lib.hid (kA2.out.below hwcB kA2.out.lt)
    have kS5 := Lib.hid (kS2.out.below hwcB kS2.out.lt)
    have kR5 := Lib.hid (kR2.out.below hwcB kR2.out.lt)
    have hm5 := Lib.hid (hm2.out.then hwcB)
    have hf5 := Lib.hid (hf2.out.then hwcB)
    have hN5 := Lib.hid (AMap.below hN2.out hwcB (AMap.lt hN2.out))
    have hr5 := Lib.hid ((Els.bx hr1.out hXc.out (fun h0 a ha => by have := hAb.out h0 a ha; simp; omega)).then hwcB)
    have hBw5 := Lib.hid (hBc.out.trans (hwcB.mono hBc.out.size))
    -- the numbers
    obtain ⟨num, hnum⟩ : ∃ num : Int → Int → Int, num = fun p x => numZ st Hs (p, x) := ⟨_, rfl⟩
    obtain ⟨R, hR⟩ : ∃ R, l.map RuleB.plain = R := ⟨_, rfl⟩
    have hHl : Hs.length ≤ 30 := by have := hHs.out.1; omega
    have hrul := sys_rules hsys.out
    have hnumR : ∀ r ∈ R, ∀ x y, r.put = [x, y] → (r.to, x) ∈ Hs ∧ C ≤ num r.to x ∧ num r.to x < st + 30 := by
      intro r hr x y hp
      rw [← hR] at hr
      obtain ⟨r0, hr0, rfl⟩ := List.mem_map.1 hr
      obtain ⟨k, hk, rfl⟩ := List.getElem_of_mem hr0
      have hz : (l[k]).put.size = 2 := by
        have h1 : (cs l[k].put).length = 2 := by rw [show cs l[k].put = [x, y] from hp]; rfl
        simpa [cs] using h1
      have h2 := hHs.out.2 k hk (by rw [rAt_eq hk]; exact hz)
      rw [rAt_eq hk] at h2
      have h3 := cs_two hz
      rw [show cs l[k].put = [x, y] from hp] at h3
      have hx : ch l[k].put 0 = x := by injection h3 with h4; exact h4.symm
      rw [hx] at h2
      have h5 := numZ_mem (s := st) h2
      rw [hnum]
      exact ⟨h2, by have := hgC; have := h5.2.1; show C ≤ numZ st Hs _; unfold RuleB.plain; dsimp only; omega, by have := h5.2.2; show numZ st Hs _ < _; unfold RuleB.plain; dsimp only; omega⟩
    have hin : ∀ p a q, PA (BofI ms) R num p a q → 0 ≤ p ∧ p < st + 30 ∧ (a = 0 ∨ 97 ≤ a ∧ a ≤ 101) ∧ C ≤ q ∧ q < st + 30 := by
      intro p a q h
      refine PA_in (C := C) (by omega) (fun p a q hb => ?_) (fun r hr => ?_) (fun r hr x y hp => (hnumR r hr x y hp).2) (by omega) h
      · obtain ⟨m, hm, e⟩ := List.mem_map.1 hb
        have h1 := hmv.out m hm
        simp only [mvIn, Bool.and_eq_true, Bool.not_eq_true', decide_eq_false_iff_not] at h1
        unfold keyM at e
        cases e
        omega
      · rw [← hR] at hr
        obtain ⟨r0, hr0, rfl⟩ := List.mem_map.1 hr
        have h1 := hrul r0 hr0
        exact ⟨h1.2.1.1, h1.2.1.2, h1.2.2.2.2⟩
    have hUa : ∀ p a q, PA (BofI ms) R num p a q → a ≠ 0 → (p, a, q) ∈ univA (st + 30) := fun p a q h h0 => by
      have := hin p a q h
      exact univA_mem (by omega) (by omega) (by omega)
    have hUb : ∀ p q, PA (BofI ms) R num p 0 q → (p, q) ∈ univB (st + 30) := fun p q h => by
      have := hin p 0 q h
      exact univB_mem (by omega) (by omega)
    have hAf0 : AfSt (BofI ms) R num (univA (st + 30)) (univB (st + 30)) b bS W5 L0 [] := by
      refine ⟨hmm5, hS5, fun k hk => ?_, (fun p hp => by cases hp), fun p a q hb => ?_, ?_, ?_⟩
      · obtain ⟨c, hc⟩ := cget_iff.2 hk
        have h1 := ((hgi1.out.2 k c).1 hc).2
        refine ⟨.base h1, ?_⟩
        obtain ⟨m, hm, rfl⟩ := List.mem_map.1 h1
        have := hletters.out m hm
        unfold keyM; dsimp only; omega
      · exact cget_iff.1 ⟨_, (hgi1.out.2 (p, a, q) ⟨0, -1, 0⟩).2 ⟨rfl, hb⟩⟩
      · have h1 := hgi1.out.1
        have h2 := potK_le (univA (st + 30)) (L0.map (·.1))
        have h3 := univA_len (N := st + 30) (by omega)
        rw [List.length_map] at h1
        omega
      · have h2 := potK_le (univB (st + 30)) []
        have h3 := univB_len (N := st + 30) (by omega)
        simp only [List.length_nil]
        omega
    generalize hUe : univA (st + 30) = U at *
    generalize hU2e : univB (st + 30) = U2 at *
    replace hAf0 := Lib.hid hAf0
    replace hUa := Lib.hid hUa
    replace hUb := Lib.hid hUb
    replace hin := Lib.hid hin
    replace hnumR := Lib.hid hnumR
    replace hrul := Lib.hid hrul
    replace hnum := Lib.hid hnum
    replace hR := Lib.hid hR
    replace hUe := Lib.hid hUe
    replace hU2e := Lib.hid hU2e
    clear hW4 hW5 hgv hmm1 hgi1 hBg1 hmm5 hS5 hB4 hB5 hB45 kA2 kS2 kR2 hm2 hf2 hN2 hr1 hBm hbS hwcB a0 a1 a2 hBc hB1 hXc hB5c
    have hbs : b < bS := by omega
    have hbNb : bN < b := by omega
    have hsz5 : bS < W5.heap.size := by omega
    have hlt5 : w.heap.size + 2 < b := by omega
    have hbBm : b < Bm := by omega
    have hBmS : Bm < bS := by omega
    clear hz4 hz5 hb1 hb2
    repeat' ((fail_if_success (with_reducible (show Code.wp _ (Code.seq (Code.region 14 _ _) _) _ _ _))); first | (fail) | go_values | go_skip | go_guarded | go_step | go_upon | go_back | (simp only [Int.not_lt, Int.not_le] at *; go_simp) | (go_values <;> (try go_simp)) | (go_ite <;> go_prune <;> (try go_simp)) | (split <;> (first | (rename_i hx; exact (hx _ rfl).elim) | go_prune)))
    clear hmk2
    go_cut [12, 13, 14, 15, 16, 17, 19, 21, 23, 24, 25] from 61 to 174 (fun _ _ _ _ _ _ _ _ _ _ _ wx => ∃ (L : List (Key × Cost)) (S : List (Int × Int)), Hid (AfSt (BofI ms) R num U U2 b bS wx L S) ∧ Hid (AfClosed num R L S) ∧ Hid (BX [b, bS] W5 wx))
    case first =>
      go_wp2
      go_loopg [12] (2 * (potK U (L0.map (·.1)) + potK U2 []) + 1) (fun k c12 wr => ∃ (Bc : Nat) (v0 : Bool) (L : List (Key × Cost)) (S : List (Int × Int)), c12 = .pointer (some ⟨Bc, 0, none⟩) ∧ Hid (Blk wr Bc 4 #[.bool v0]) ∧ Hid (AfSt (BofI ms) R num U U2 b bS wr L S) ∧
        Hid (v0 = false → AfClosed num R L S) ∧ Hid (2 * (potK U (L.map (·.1)) + potK U2 S) + (if v0 then 1 else 0) ≤ k) ∧ Hid (W5.heap.size ≤ Bc) ∧ Hid (BX [b, bS] W5 wr))
      case atStart =>
        have hB6 := below1 W5 (.cells #[.bool true] 4)
        exact ⟨W5.heap.size, true, L0, [], rfl, Blk.new W5 4 _, hAf0.out.then hB6, (by intro h; cases h), by unfold Hid; simp, Nat.le_refl _, BX.of_below hB6⟩
      case round =>
        rename_i J0 K0 ja ka
        have pj := PLift.up ja
        clear ja
        obtain ⟨Bc, v0, L, S, rfl, hc, hA, hcl, hpot, hBc, hX⟩ := hrel
        have hc0 := hc.out.cell 0
        have hf0 := hc.out.free 0
        simp at hc0
        cases v0 with
        | false =>
          go_wp2
          go_meet
          exact ⟨L, S, hA.out, (by simpa using hcl.out : AfClosed num R L S), hX.out⟩
        | true =>
          have hBc' := hBc.out
          obtain ⟨W1, hW1⟩ : ∃ W1, wr.setCell ⟨Bc, 0, none⟩ (.bool false) = W1 := ⟨_, rfl⟩
          have hX1 : BX [b, bS, Bc] wr W1 := by rw [← hW1]; exact (BX.refl _ _).set (by simp) _
          have kc1 : Blk W1 Bc 4 #[.bool false] := by rw [← hW1]; have := hc.out.set 0 (.bool false); simpa using this
          have hA1 : AfSt (BofI ms) R num U U2 b bS W1 L S := by
            refine hA.out.of_block ?_ ?_
            · rw [← hW1]; exact Below.heap_setCell _ _ _ _ (by show b ≠ Bc; omega)
            · rw [← hW1]; exact Below.heap_setCell _ _ _ _ (by show bS ≠ Bc; omega)
          have kM1 := (kM.out.bx hX.out (by simp; omega)).bx hX1 (by simp; omega)
          have m1 : W1.cell? ⟨Bm, 0, none⟩ = some (.map (some b)) := kM1.cell 0
          have hLlen : L.length ≤ 900000 := by have := hA1.len; omega
          have hsets := Lib.hid (sets_any W1 b L hA1.map hLlen)
          have hX5 := (hX.out.mono (ys := [b, bS, Bc]) (by simp)).trans hX1
          have hz1 : Bc < W1.heap.size := kc1.lt
          replace hX1 := Lib.hid hX1
          replace kc1 := Lib.hid kc1
          replace hA1 := Lib.hid hA1
          replace kM1 := Lib.hid kM1
          replace hX5 := Lib.hid hX5
          clear hBc'
          repeat' ((fail_if_success (with_reducible (show Code.wp _ (Code.seq (Code.region 19 _ _) _) _ _ _))); first | (go_at_call 55; refine hsets.out.mono ?_; rintro e w2 ⟨b2, rfl, hb2, hst2, hB2⟩; replace hb2 := Lib.hid hb2; replace hst2 := Lib.hid hst2; replace hB2 := Lib.hid hB2) | go_values | go_skip | go_guarded | go_step | go_upon | go_back | (simp only [Int.not_lt, Int.not_le] at *; go_simp) | (go_values <;> (try go_simp)) | (go_ite <;> go_prune <;> (try go_simp)) | (split <;> (first | (rename_i hx; exact (hx _ rfl).elim) | go_prune)))
          have hB2' := hB2.out
          have hlo2 : W1.heap.size ≤ b2 := hb2.out
          have kc2 := Lib.hid (kc1.out.below hB2' kc1.out.lt)
          have kM2 := Lib.hid (kM1.out.below hB2' kM1.out.lt)
          have hA2 := Lib.hid (hA1.out.then hB2')
          have hX25 := Lib.hid (hX5.out.trans (BX.of_below hB2'))
          have hszw : W1.heap.size ≤ w2.heap.size := hB2'.size
          have hb2w : b2 < w2.heap.size := by obtain ⟨f, ⟨S2, hA, _⟩, _⟩ := hst2.out; exact AMap.lt hA
          clear hB2' hW1 hX1 kc1 hA1 kM1 hX5 hsets m1
          go_cut [15, 16, 17, 19] from 65 to 98 (fun _ _ _ _ wx => ∃ (L' : List (Key × Cost)) (c' : Bool), Hid (AfSt (BofI ms) R num U U2 b bS wx L' S) ∧ Hid (AfPr U U2 L S L' S c') ∧ Hid (Blk wx Bc 4 #[.bool c']) ∧
            Hid (∀ p q a t, (p, q) ∈ S → (q, a, t) ∈ L.map (·.1) → (p, a, t) ∈ L'.map (·.1)) ∧ Hid (BX [b, Bc] w2 wx))
          case first =>
            have hBc' := hBc.out
            obtain ⟨f, ⟨S2, hAs, hfs, hds⟩, hEf, hEl⟩ := hst2.out
            replace hAs := Lib.hid hAs
            replace hfs := Lib.hid hfs
            replace hEf := Lib.hid hEf
            replace hEl := Lib.hid hEl
            clear hds
            go_wp2_with (at_range; refine wpList_range_a _ rfl (.tmp 65) 130 rfl 131 4 Tryz.underlying130 rfl hA2.out.smap ?_; intro w3 hit hg3 hs3; replace hit := Lib.hid hit; replace hg3 := Lib.hid hg3; replace hs3 := Lib.hid hs3)
            obtain ⟨r3, hr3⟩ : ∃ r3, w2.heap.size = r3 := ⟨_, rfl⟩
            have hB3 : Below w2.heap.size w2 w3 := below_of_grown hg3.out (Nat.le_refl _) (by intro k e; cases e)
            have hA3 := Lib.hid (hA2.out.then hB3)
            have kc3 := Lib.hid (kc2.out.below hB3 kc2.out.lt)
            have hX3 := Lib.hid (show BX [b, Bc] w2 w3 from BX.of_below hB3)
            have hs3' : r3 < w3.heap.size := by rw [← hr3, hs3.out]; omega
            rw [hr3] at hit hszw hb2w ⊢
            replace hr3 := Lib.hid hr3
            clear hB3
            try go_frame
            go_loopw [68] (fun _ wr => ∃ (left : List ((Int × Int) × Value)) (L' : List (Key × Cost)) (c' : Bool), Hid (AIter sv2 wr bS r3 (sval S) left) ∧ Hid (AfSt (BofI ms) R num U U2 b bS wr L' S) ∧ Hid (AfPr U U2 L S L' S c') ∧ Hid (Blk wr Bc 4 #[.bool c']) ∧
              Hid (∀ p q a t, (p, q) ∈ S → (p, q) ∉ left.map (·.1) → (q, a, t) ∈ L.map (·.1) → (p, a, t) ∈ L'.map (·.1)) ∧ Hid (BX [b, Bc] w2 wr) ∧ Hid (r3 < wr.heap.size)) (fun _ wr => iterLeft bS r3 wr)
            case atStart => exact ⟨sval S, L, false, hit.out, hA3.out, AfPr.refl _ _ _ _, kc3.out, (fun p q a t h1 h2 => absurd (by rw [sval_keys]; exact h1) h2), hX3.out, hs3'⟩
            case round =>
              obtain ⟨left, L', c', hI, hAr, hP, hcr, hD, hXr, hsr⟩ := hrel
              have hcnt := Lib.hid hI.out.count
              go_wp2_with (at_next; refine wpList_next_a _ rfl (.tmp 66) rfl rfl hI.out ?_ ?_)
              · intro h0
                subst h0
                go_wp2
                go_meet
                exact ⟨L', c', hAr.out, hP.out, hcr.out, fun p q a t h1 h2 => hD.out p q a t h1 (by simp) h2, hXr.out⟩
              · intro pre p q v post w' hleft hI2 hg2 hs2 hent
                unfold sv2 at hent
                have hpqS : (p, q) ∈ S := sval_mem (hI.out.sub.subset (show ((p, q), v) ∈ left by rw [hleft]; simp))
                have hpq0 := hA2.out.ssnd (p, q) hpqS
                have hBa : Below w'.heap.size w' (w'.alloc (.cells #[.int .i64 p, .int .i64 q] 131)) := below1 _ _
                obtain ⟨W3, hW3⟩ : ∃ W3, w'.alloc (.cells #[.int .i64 p, .int .i64 q] 131) = W3 := ⟨_, rfl⟩
                rw [hW3] at hBa
                have kp : Blk W3 w'.heap.size 131 #[.int .i64 p, .int .i64 q] := by rw [← hW3]; exact Blk.new _ _ _
                have hr3w : r3 < w'.heap.size := by have := hsr.out; omega
                have hgB : BX [b, Bc] w2 w' := hXr.out.trans' hg2 (Nat.le_of_eq hr3.out)
                have hX3 := Lib.hid (hgB.trans (BX.of_below hBa))
                have hA3 := Lib.hid ((hAr.out.of_block (hg2.block b (AMap.lt hAr.out.map) (by simp; have := hr3.out; omega)) (hg2.block bS (AMap.lt hAr.out.smap) (by simp; have := hr3.out; omega))).then hBa)
                have kc3 := Lib.hid (show Blk W3 Bc 4 #[.bool c'] from Blk.below (w := w') ((hg2.block Bc hcr.out.lt (by simp; have := hr3.out; omega)).trans hcr.out) hBa (by have := hcr.out.lt; have := hg2.size; omega))
                have hI3 := Lib.hid (hI2.below hBa hI2.lt.1 hI2.lt.2)
                have hAs3 := Lib.hid (show AMap hv W3 b2 S2 from AMap.of_block hAs.out (hX3.out.block b2 (by rw [hr3.out]; exact hb2w) (by simp; omega)))
                have hz3 : w'.heap.size < W3.heap.size := kp.lt
                replace kp := Lib.hid kp
                have hleft0 := trivial
                replace hleft := Lib.hid hleft
                replace hpq0 := Lib.hid hpq0
                replace hpqS := Lib.hid hpqS
                obtain ⟨B15, hB15⟩ : ∃ B15, w'.heap.size = B15 := ⟨_, rfl⟩
                rw [hB15] at kp hr3w hz3
                have hW3' := hW3
                replace hs2 := Lib.hid hs2
                replace hg2 := Lib.hid hg2
                replace hI2 := Lib.hid hI2
                go_wp2_with (at_range; refine wpList_range_a _ rfl (.tmp 71) 114 rfl 102 26 Tryz.underlying114 rfl hAs3.out ?_; intro w4 hit4 hg4 hs4; replace hit4 := Lib.hid hit4; replace hg4 := Lib.hid hg4; replace hs4 := Lib.hid hs4)
                obtain ⟨r4, hr4⟩ : ∃ r4, W3.heap.size = r4 := ⟨_, rfl⟩
                have hB4 : Below W3.heap.size W3 w4 := below_of_grown hg4.out (Nat.le_refl _) (by intro k e; cases e)
                have hA4 := Lib.hid (hA3.out.then hB4)
                have kc4 := Lib.hid (kc3.out.below hB4 kc3.out.lt)
                have hX4 := Lib.hid (show BX [b, Bc] W3 w4 from BX.of_below hB4)
                have hs4' : r4 < w4.heap.size := by rw [← hr4, hs4.out]; omega
                rw [hr4] at hit4 hz3 ⊢
                replace hr4 := Lib.hid hr4
                have hbc3 : Bc < r4 := by have := kc3.out.lt; have := hr4.out; omega
                clear hB4 hgB hBa hW3 hW3' hI hleft0
                try go_frame
                go_loopw [74] (fun _ wr => ∃ (left4 : List (Head × Value)) (L4 : List (Key × Cost)) (c4 : Bool), Hid (AIter hv wr b2 r4 S2 left4) ∧ Hid (AfSt (BofI ms) R num U U2 b bS wr L4 S) ∧ Hid (AfPr U U2 L S L4 S c4) ∧ Hid (Blk wr Bc 4 #[.bool c4]) ∧
                  Hid (∀ k, k ∈ L'.map (·.1) → k ∈ L4.map (·.1)) ∧ Hid (∀ h u, (h, u) ∈ S2 → (h, u) ∉ left4 → h.1 = q → ∀ t ∈ f h, (p, h.2, t) ∈ L4.map (·.1)) ∧ Hid (BX [b, Bc] W3 wr) ∧ Hid (r4 < wr.heap.size)) (fun _ wr => iterLeft b2 r4 wr)
                case atStart => exact ⟨S2, L', c', hit4.out, hA4.out, hP.out, kc4.out, fun _ h => h, fun h u h1 h2 => absurd h1 h2, hX4.out, hs4'⟩
                case round =>
                  obtain ⟨left4, L4, c4, hI4, hAr4, hP4, hcr4, hM4, hD4, hXr4, hsr4⟩ := hrel
                  have hcnt4 := Lib.hid hI4.out.count
                  go_wp2_with (at_next; refine wpList_next_a _ rfl (.tmp 72) rfl rfl hI4.out ?_ ?_)
                  · intro h0
                    subst h0
                    have hI3' := Lib.hid (hI3.out.of_block (hXr4.out.block bS hI3.out.lt.1 (by simp; omega)) (hXr4.out.block r3 hI3.out.lt.2 (by simp; omega)))
                    go_wp2
                    go_roundw
                    case rel =>
                      refine ⟨pre ++ post, L4, c4, hI3'.out, hAr4.out, hP4.out, hcr4.out, ?_, hX3.out.trans hXr4.out, ?_⟩
                      · intro p' q' a t h1 h2 h3
                        exact silent_done hleft.out hD.out hM4.out hD4.out hAs.out.nodup hfs.out hEf.out h1 h2 h3
                      · have := hsr4.out; unfold Hid; omega
                    case measure =>
                      rw [hI3'.out.count]
                      have h1 := hcnt.out
                      rw [h1, hleft.out]
                      simp only [List.length_append, List.length_cons]
                      omega
                  · intro pre4 s a v5 post4 w5 hleft4 hI5 hg5 hs5 hent5
                    have hmem5 : ((s, a), v5) ∈ S2 := hI4.out.sub.subset (by rw [hleft4]; simp)
                    have hag5 := aget_of_mem hAs.out.nodup hmem5
                    have how5 : OwnE ElI 3 W1.heap.size w2 v5 (f (s, a)) := by
                      rcases hfs.out (s, a) with ⟨_, h2⟩ | ⟨u, h1, _, h3⟩
                      · rw [h2] at hag5; cases hag5
                      · rw [h1] at hag5; cases hag5; exact h3
                    obtain ⟨A5, n5, cap5, rfl, hn5⟩ := OwnE.shape how5
                    have hr4w : r4 < w5.heap.size := by have := hsr4.out; omega
                    have hXg5 : BX [b, Bc] W3 w5 := hXr4.out.trans' hg5 (Nat.le_of_eq hr4.out)
                    obtain ⟨W6, hW6⟩ : ∃ W6, w5.alloc (.cells #[.int .i64 s, .int .u8 a] 102) = W6 := ⟨_, rfl⟩
                    have hB6 : Below w5.heap.size w5 W6 := by rw [← hW6]; exact below1 _ _
                    have hX6 := Lib.hid (hXg5.trans (BX.of_below hB6))
                    have hA6 := Lib.hid ((hAr4.out.of_block (hg5.block b (AMap.lt hAr4.out.map) (by simp; omega)) (hg5.block bS (AMap.lt hAr4.out.smap) (by simp; omega))).then hB6)
                    have kc6 := Lib.hid (show Blk W6 Bc 4 #[.bool c4] from Blk.below (w := w5) ((hg5.block Bc hcr4.out.lt (by simp; omega)).trans hcr4.out) hB6 (by omega))
                    have hI6 := Lib.hid (hI5.below hB6 hI5.lt.1 hI5.lt.2)
                    have k6 : Blk W6 w5.heap.size 102 #[.int .i64 s, .int .u8 a] := by rw [← hW6]; exact Blk.new _ _ _
                    have kp6 := kp.out.bx hX6.out (by simp; omega)
                    have y0 := k6.cell 0
                    have y1 := k6.cell 1
                    have x0 := kp6.cell 0
                    have x1 := kp6.cell 1
                    simp at y0 y1 x0 x1
                    have hz6 : w5.heap.size < W6.heap.size := k6.lt
                    have how6 := Lib.hid (how5.bx (hX3.out.trans hX6.out) (by simp; omega))
                    replace k6 := Lib.hid k6
                    replace kp6 := Lib.hid kp6
                    replace hmem5 := Lib.hid hmem5
                    replace hleft4 := Lib.hid hleft4
                    replace hI5 := Lib.hid hI5
                    replace hg5 := Lib.hid hg5
                    replace hs5 := Lib.hid hs5
                    obtain ⟨B16, hB16⟩ : ∃ B16, w5.heap.size = B16 := ⟨_, rfl⟩
                    rw [hB16] at y0 y1 hz6 k6 hr4w
                    clear hag5 how5 hXg5 hB6
                    by_cases hsq : s = q
                    · subst hsq
                      obtain ⟨ts, hts⟩ : ∃ ts, f (s, a) = ts := ⟨_, rfl⟩
                      rw [hts] at how6 hn5
                      have hn5I : (n5 : Int) ≤ 9223372036854775807 := by
                        have := (how6.out.els).len
                        unfold maxLen at this
                        omega
                      replace hts := Lib.hid hts
                      go_wp2
                      clear y0 y1 x0 x1
                      go_loopw [85] (fun c85 wr => ∃ (j : Nat) (L5 : List (Key × Cost)) (c5 : Bool), j ≤ n5 ∧ c85 = .int .i64 (j : Int) ∧ Hid (AfSt (BofI ms) R num U U2 b bS wr L5 S) ∧ Hid (AfPr U U2 L S L5 S c5) ∧ Hid (Blk wr Bc 4 #[.bool c5]) ∧
                        Hid (∀ k, k ∈ L4.map (·.1) → k ∈ L5.map (·.1)) ∧ Hid (∀ i (h : i < ts.length), i < j → (p, a, ts[i]) ∈ L5.map (·.1)) ∧ Hid (BX [b, Bc] W6 wr)) (fun c85 _ => n5 - (intOf c85).toNat)
                      case atStart => exact ⟨0, L4, c4, Nat.zero_le _, rfl, hA6.out, hP4.out, kc6.out, fun _ h => h, fun i h h2 => by omega, BX.refl _ _⟩
                      case round =>
                        obtain ⟨j, L5, c5, hj, rfl, hAr5, hP5, hcr5, hM5, hD5, hXr5⟩ := hrel
                        by_cases hlt : j < n5
                        case neg =>
                          have hge : ¬ (j : Int) < n5 := by omega
                          have hI7 := Lib.hid (hI6.out.of_block (hXr5.out.block b2 hI6.out.lt.1 (by simp; omega)) (hXr5.out.block r4 hI6.out.lt.2 (by simp; omega)))
                          go_wp2
                          go_roundw
                          case rel =>
                            refine ⟨pre4 ++ post4, L5, c5, hI7.out, hAr5.out, hP5.out, hcr5.out, fun k hk => hM5.out k (hM4.out k hk), ?_, hX6.out.trans hXr5.out, ?_⟩
                            · intro h u h1 h2 h3 t ht
                              rcases left_split hleft4.out h2 with h4 | h4
                              · cases h4
                                rw [hts.out] at ht
                                obtain ⟨i, hi, rfl⟩ := List.getElem_of_mem ht
                                exact hD5.out i hi (by have := hn5.out; omega)
                              · exact hM5.out _ (hD4.out h u h1 h4 h3 t ht)
                            · have := hXr5.out.size; unfold Hid; omega
                          case measure =>
                            rw [hI7.out.count]
                            have h1 := hcnt4.out
                            rw [h1, hleft4.out]
                            simp only [List.length_append, List.length_cons]
                            omega
                        have hltI : (j : Int) < n5 := by omega
                        have hjl : j < ts.length := by have := hn5.out; omega
                        obtain ⟨b7, off7, rfl, hat⟩ := Els.cell (how6.out.bx hXr5.out (by simp; omega)).els (by omega)
                        have e0 : wr.cell? ⟨b7, off7 + j, none⟩ = some (.int .i64 ts[j]) := by simpa [ElI] using hat j hjl 0 _ rfl
                        have hqm : ts[j] ∈ ts := List.getElem_mem hjl
                        have hstep := Lib.hid (show ∀ t, ts[j] = t → ∀ L6 : List (Key × Cost), (p, a, t) ∈ L6.map (·.1) → (∀ k, k ∈ L5.map (·.1) → k ∈ L6.map (·.1)) → ∀ i (h : i < ts.length), i < j + 1 → (p, a, ts[i]) ∈ L6.map (·.1) from fun t ht L6 h1 h2 i hi hij => by
                          by_cases e : i = j
                          · subst e; rw [ht]; exact h1
                          · exact h2 _ (hD5.out i hi (by omega)))
                        clear hat
                        generalize hte : ts[j] = t at *
                        have hLt : (s, a, t) ∈ L.map (·.1) := (hEf.out (s, a) t).1 (by rw [hts.out]; exact hqm)
                        have hPt := hA2.out.snd _ hLt
                        have hPp := Lib.hid (show PA (BofI ms) R num p a t from .sil hpq0.out hPt.1 hPt.2)
                        have ha0 := Lib.hid (show a ≠ 0 from hPt.2)
                        have hkp7 := (kp6.out.bx hXr5.out (by simp; omega))
                        have hk67 := (k6.out.bx hXr5.out (by simp; omega))
                        have x0 := hkp7.cell 0
                        have y1 := hk67.cell 1
                        simp at x0 y1
                        have kM7 := (kM2.out.bx (hX3.out.trans (hX6.out.trans hXr5.out)) (by simp; omega))
                        have hcon := Lib.hid (add_any wr Bm Bc b L5 p a t c5 (kM7.cell 0) hcr5.out hAr5.out.map (by omega) ⟨by omega, by omega⟩)
                        replace hte := Lib.hid hte
                        replace hPt := Lib.hid hPt
                        clear hkp7 hk67 kM7
                        go_wp2_with (go_at_call 63; refine hcon.out.mono ?_; rintro e w7 ⟨rfl, hm7, kc7, hB7⟩; replace hm7 := Lib.hid hm7; replace kc7 := Lib.hid kc7; replace hB7 := Lib.hid hB7)
                        go_roundw
                        case rel =>
                          obtain ⟨hS7, hP7⟩ := hAr5.out.add hP5.out (p, a, t) hPp.out ha0.out (hUa.out _ _ _ hPp.out ha0.out) hm7.out (hB7.out.block bS (AMap.lt hAr5.out.smap) (by simp; omega))
                          exact ⟨j + 1, _, _, by omega, by go_num, hS7, hP7, kc7.out, fun k hk => addL_keys.2 (.inr (hM5.out k hk)), hstep.out t rfl _ (addL_keys.2 (.inl rfl)) (fun k hk => addL_keys.2 (.inr hk)), hXr5.out.trans hB7.out⟩
                        case measure => simp [intOf]; omega
                    · go_wp2
                      go_roundw
                      case rel =>
                        refine ⟨pre4 ++ post4, L4, c4, hI6.out, hA6.out, hP4.out, kc6.out, hM4.out, ?_, hX6.out, by unfold Hid; omega⟩
                        intro h u h1 h2 h3 t ht
                        rcases left_split hleft4.out h2 with h4 | h4
                        · cases h4; exact absurd h3 hsq
                        · exact hD4.out h u h1 h4 h3 t ht
                      case measure =>
                        rw [hI6.out.count]
                        have h1 := hcnt4.out
                        rw [h1, hleft4.out]
                        simp only [List.length_append, List.length_cons]
                        omega
          case rest =>
            obtain ⟨L', c', hA', hP', hc', hD', hX'⟩ := hcut
            have hBc' := hBc.out
            obtain ⟨f, ⟨S2, hAs, hfs, hds⟩, hEf, hEl⟩ := hst2.out
            replace hAs := Lib.hid hAs
            replace hfs := Lib.hid hfs
            replace hEf := Lib.hid hEf
            have hA2s := Lib.hid hA2.out.snd
            clear hds hEl hA2 kc2
            have hX5c := hX25.out.trans (hX'.out.mono (ys := [b, bS, Bc]) (by simp))
            have kSc := kS5.out.bx hX5c (by simp; omega)
            have s1 : wc.cell? ⟨w.heap.size, 1, none⟩ = some (.slice A n cap) := kSc.cell 1
            have hr6 := Lib.hid (Els.bx hr5.out hX25.out (fun h0 a ha => by have := hAb.out h0 a ha; simp; omega))
            replace hX' := Lib.hid (hX'.out.mono (ys := [b, bS, Bc]) (by simp))
            clear kSc hX5c
            go_wp2
            clear s1
            go_loopw [102] (fun c102 wr => ∃ (i : Nat) (L6 : List (Key × Cost)) (S6 : List (Int × Int)) (c6 : Bool), i ≤ n ∧ c102 = .int .i64 (i : Int) ∧ Hid (AfSt (BofI ms) R num U U2 b bS wr L6 S6) ∧ Hid (AfPr U U2 L S L6 S6 c6) ∧ Hid (Blk wr Bc 4 #[.bool c6]) ∧
              Hid (∀ k, k ∈ L'.map (·.1) → k ∈ L6.map (·.1)) ∧ Hid (∀ k, k < i → ∀ t, ((rAt l k).fr, (rAt l k).top, t) ∈ L.map (·.1) → AfWant num L6 S6 (rAt l k).plain t) ∧ Hid (BX [b, bS, Bc] w2 wr)) (fun c102 _ => n - (intOf c102).toNat)
            case atStart => exact ⟨0, L', S, c', Nat.zero_le _, rfl, hA'.out, hP'.out, hc'.out, fun _ h => h, fun k hk => by omega, hX'.out⟩
            case round =>
              obtain ⟨i, L6, S6, c6, hi, rfl, hA6, hP6, hc6, hM6, hD6, hX6⟩ := hrel
              by_cases hlt : i < n
              case neg =>
                have hge : ¬ (i : Int) < n := by omega
                have hcc := hc6.out.cell 0
                simp at hcc
                go_wp2
                have ja := pj.down
                go_roundg (2 * (potK U (L6.map (·.1)) + potK U2 S6) + (if c6 then 1 else 0))
                case rel =>
                  have hX3 := hX6.out
                  have hBnew := below1 wr (.cells #[.bool c6] 4)
                  refine ⟨wr.heap.size, c6, L6, S6, rfl, Blk.new wr 4 _, hA6.out.then hBnew, fun e => ?_, Nat.le_refl _, ?_, ?_⟩
                  · obtain ⟨rfl, rfl⟩ := hP6.out.same e
                    refine ⟨fun p q a t h1 h2 => hM6.out _ (hD'.out p q a t h1 h2), fun r hr t ht => ?_⟩
                    rw [← hR.out] at hr
                    obtain ⟨r0, hr0, rfl⟩ := List.mem_map.1 hr
                    obtain ⟨k, hk, rfl⟩ := List.getElem_of_mem hr0
                    have := hD6.out k (by have := hn.out; omega) t (by rw [rAt_eq hk]; exact ht)
                    rw [rAt_eq hk] at this
                    exact this
                  · have := hc6.out.lt; have := hX6.out.size; unfold Hid; omega
                  · exact (hX25.out.trans hX3).dropB hBc'|>.trans (BX.of_below hBnew)
                case measure =>
                  have h1 := hP6.out.le
                  have h2 := hP6.out.lt
                  have h3 : 2 * (potK U (L.map (·.1)) + potK U2 S) + 1 ≤ gk := by have := hpot.out; simpa using this
                  cases c6
                  · simp; omega
                  · have := h2 rfl; simp; omega
              have hltI : (i : Int) < n := by omega
              have hil : i < l.length := by have := hn.out; omega
              obtain ⟨br, off, rfl, q0, q1, q2, q3⟩ := Rls.at (Els.bx hr6.out hX6.out (fun h0 a ha => by have := hAb.out h0 a ha; simp; omega)) hil
              have hps := hput.out i hil
              have hmemR : (rAt l i).plain ∈ R := by rw [← hR.out, rAt_eq hil]; exact List.mem_map.2 ⟨_, List.getElem_mem hil, rfl⟩
              have hrl := hrul.out (rAt l i) (by rw [rAt_eq hil]; exact List.getElem_mem hil)
              have hnext := Lib.hid (show ∀ (L7 : List (Key × Cost)) (S7 : List (Int × Int)), (∀ k, k ∈ L6.map (·.1) → k ∈ L7.map (·.1)) → (∀ p, p ∈ S6 → p ∈ S7) → (∀ t, ((rAt l i).fr, (rAt l i).top, t) ∈ L.map (·.1) → AfWant num L7 S7 (rAt l i).plain t) →
                  ∀ k, k < i + 1 → ∀ t, ((rAt l k).fr, (rAt l k).top, t) ∈ L.map (·.1) → AfWant num L7 S7 (rAt l k).plain t from fun L7 S7 h1 h2 h3 k hk t ht => by
                by_cases e : k = i
                · subst e; exact h3 t ht
                · exact (hD6.out k (by omega) t ht).mono h1 h2)
              have hnr := hnumR.out (rAt l i).plain hmemR
              generalize rAt l i = r at *
              obtain ⟨fr, tp, o, p⟩ := r
              unfold RuleB.plain at hmemR hnext hnr
              dsimp only at q0 q1 q2 q3 hps hmemR hrl hnext hnr
              obtain ⟨W7, hW7⟩ : ∃ W7, wr.alloc (.cells #[.int .i64 fr, .int .u8 tp, .int .i64 o, .string p] 79) = W7 := ⟨_, rfl⟩
              have hBa : Below wr.heap.size wr W7 := by rw [← hW7]; exact below1 _ _
              have kr : Blk W7 wr.heap.size 79 #[.int .i64 fr, .int .u8 tp, .int .i64 o, .string p] := by rw [← hW7]; exact Blk.new wr 79 _
              have z0 := kr.cell 0
              have z1 := kr.cell 1
              simp at z0 z1
              have hX7 := Lib.hid (hX6.out.trans (BX.of_below hBa))
              have hA7 := Lib.hid (hA6.out.then hBa)
              have kc7 := Lib.hid (hc6.out.below hBa hc6.out.lt)
              have hAs7 := Lib.hid (show AMap hv W7 b2 S2 from AMap.of_block hAs.out (hX7.out.block b2 hb2w (by simp; omega)))
              have how := SInv.held hfs.out (fr, tp)
              obtain ⟨A1, n1, cap1, e1, hn1⟩ := OwnE.shape how
              have how7 := Lib.hid (how.bx hX7.out (by simp; omega))
              rw [e1] at how7
              obtain ⟨ts, hts⟩ : ∃ ts, f (fr, tp) = ts := ⟨_, rfl⟩
              rw [hts] at how7 hn1
              have htm := Lib.hid (show ∀ t, t ∈ ts ↔ (fr, tp, t) ∈ L.map (·.1) from fun t => by rw [← hts]; exact hEf.out (fr, tp) t)
              have hn1I : (n1 : Int) ≤ 9223372036854775807 := by
                have := (how7.out.els).len
                unfold maxLen at this
                omega
              replace e1 := Lib.hid e1
              replace kr := Lib.hid kr
              replace hmemR := Lib.hid hmemR
              replace hrl := Lib.hid hrl
              replace hnr := Lib.hid hnr
              obtain ⟨B21, hB21⟩ : ∃ B21, wr.heap.size = B21 := ⟨_, rfl⟩
              have hB21lt : B21 < W7.heap.size := by rw [← hB21]; exact kr.out.lt
              have hBcB : Bc < B21 := by have := hc6.out.lt; omega
              have hbSB : bS < B21 := by omega
              rw [hB21] at kr z0 z1
              clear how hts hBa
              go_wp2_with (at_lookup; refine wpList_lookup_a _ rfl (.tmp 106) (.tmp 111) 114 rfl 102 26 key77 Tryz.underlying114 (zero48 _) rfl hAs7.out (fr, tp) rfl _ e1.out ?_)
              clear z0 z1 q0 q1 q2 q3
              go_loopw [114] (fun c114 wr => ∃ (j : Nat) (L8 : List (Key × Cost)) (S8 : List (Int × Int)) (c8 : Bool), j ≤ n1 ∧ c114 = .int .i64 (j : Int) ∧ Hid (AfSt (BofI ms) R num U U2 b bS wr L8 S8) ∧ Hid (AfPr U U2 L S L8 S8 c8) ∧ Hid (Blk wr Bc 4 #[.bool c8]) ∧
                Hid ((∀ k, k ∈ L6.map (·.1) → k ∈ L8.map (·.1)) ∧ ∀ p, p ∈ S6 → p ∈ S8) ∧ Hid (∀ i (h : i < ts.length), i < j → AfWant num L8 S8 ⟨fr, tp, o, cs p⟩ ts[i]) ∧ Hid (BX [b, bS, Bc] W7 wr)) (fun c114 _ => n1 - (intOf c114).toNat)
              case atStart => exact ⟨0, L6, S6, c6, Nat.zero_le _, rfl, hA7.out, hP6.out, kc7.out, ⟨fun _ h => h, fun _ h => h⟩, fun i h h2 => by omega, BX.refl _ _⟩
              case round =>
                obtain ⟨j, L8, S8, c8, hj, rfl, hA8, hP8, hc8, hM8, hD8, hX8⟩ := hrel
                by_cases hlt8 : j < n1
                case neg =>
                  have hge : ¬ (j : Int) < n1 := by omega
                  go_wp2
                  go_roundw
                  case rel =>
                    refine ⟨i + 1, L8, S8, c8, by omega, by go_num, hA8.out, hP8.out, hc8.out, fun k hk => hM8.out.1 k (hM6.out k hk), ?_, hX7.out.trans hX8.out⟩
                    refine hnext.out L8 S8 hM8.out.1 hM8.out.2 fun t ht => ?_
                    obtain ⟨k, hk, rfl⟩ := List.getElem_of_mem ((htm.out t).2 ht)
                    exact hD8.out k hk (by have := hn1.out; omega)
                  case measure => simp [intOf]; omega
                have hlt8I : (j : Int) < n1 := by omega
                have hjl : j < ts.length := by have := hn1.out; omega
                obtain ⟨b7, off7, rfl, hat⟩ := Els.cell (how7.out.bx hX8.out (by simp; omega)).els (by omega)
                have e0 : wr.cell? ⟨b7, off7 + j, none⟩ = some (.int .i64 ts[j]) := by simpa [ElI] using hat j hjl 0 _ rfl
                have hLt := (htm.out ts[j]).1 (List.getElem_mem hjl)
                have hstep := Lib.hid (show ∀ t, ts[j] = t → ∀ (L9 : List (Key × Cost)) (S9 : List (Int × Int)), AfWant num L9 S9 ⟨fr, tp, o, cs p⟩ t → (∀ k, k ∈ L8.map (·.1) → k ∈ L9.map (·.1)) → (∀ p, p ∈ S8 → p ∈ S9) → ∀ i (h : i < ts.length), i < j + 1 → AfWant num L9 S9 ⟨fr, tp, o, cs p⟩ ts[i] from fun t ht L9 S9 h1 h2 h3 i hi hij => by
                  by_cases e : i = j
                  · subst e; rw [ht]; exact h1
                  · exact (hD8.out i hi (by omega)).mono h2 h3)
                clear hat
                generalize ts[j] = t at *
                have hPt := Lib.hid (hA2s.out _ hLt).1
                have hXw := hX7.out.trans hX8.out
                have kr8 := kr.out.bx hX8.out (by simp; omega)
                have z2 := kr8.cell 2
                have z3 := kr8.cell 3
                simp at z2 z3
                have kM8 := kM2.out.bx hXw (by simp; omega)
                have hc8l := hc8.out.lt
                have hb8l : b < wr.heap.size := AMap.lt hA8.out.map
                have hz7 := hX8.out.size
                replace hLt := Lib.hid hLt
                have h012 : p.size = 0 ∨ p.size = 1 ∨ p.size = 2 := by omega
                rcases h012 with hz0 | hz0 | hz0
                · have g0 : ((p.size : Int) == 0) = true := by rw [hz0]; rfl
                  have hpc := cs_zero hz0
                  rw [hpc] at hstep hmemR
                  have hPn := Lib.hid (show PA (BofI ms) R num o 0 t from .zero hmemR.out rfl hPt.out)
                  obtain ⟨W9, hW9⟩ : ∃ W9, wr.alloc (.cells #[.int .i64 o, .int .i64 t] 131) = W9 := ⟨_, rfl⟩
                  have hB9 : Below wr.heap.size wr W9 := by rw [← hW9]; exact below1 _ _
                  have k9 : Blk W9 wr.heap.size 131 #[.int .i64 o, .int .i64 t] := by rw [← hW9]; exact Blk.new wr 131 _
                  have y0 := k9.cell 0
                  have y1 := k9.cell 1
                  simp at y0 y1
                  have hA9 := Lib.hid (hA8.out.then hB9)
                  have kc9 := Lib.hid (hc8.out.below hB9 hc8l)
                  have hX9 := Lib.hid (hX8.out.trans (BX.of_below hB9))
                  have hput := Lib.hid (aput_sval S8 (o, t))
                  clear hXw kr8 kM8 hB9 k9
                  by_cases hm : (o, t) ∈ S8
                  · have hget := Lib.hid (show (aget (sval S8) (o, t)).getD (.bool false) = .bool true by rw [aget_sval, if_pos hm]; rfl)
                    replace hm := Lib.hid hm
                    go_wp2_with (at_lookup; refine wpList_lookup_a _ rfl (.tmp 154) (.tmp 155) 130 rfl 131 4 key131 Tryz.underlying130 (zero4 _) rfl hA9.out.smap (o, t) rfl _ hget.out ?_)
                    go_roundw
                    case rel => exact ⟨j + 1, L8, S8, c8, by omega, by go_num, hA9.out, hP8.out, kc9.out, hM8.out, by rw [hpc]; exact hstep.out t rfl _ _ (want_zero hm.out) (fun _ h => h) (fun _ h => h), hX9.out⟩
                    case measure => simp [intOf]; omega
                  · have hget := Lib.hid (show (aget (sval S8) (o, t)).getD (.bool false) = .bool false by rw [aget_sval, if_neg hm]; rfl)
                    replace hm := Lib.hid hm
                    go_wp2_with (first
                      | (at_lookup; refine wpList_lookup_a _ rfl (.tmp 154) (.tmp 155) 130 rfl 131 4 key131 Tryz.underlying130 (zero4 _) rfl hA9.out.smap (o, t) rfl _ hget.out ?_)
                      | (at_mapUpdate; refine wpList_mapUpdate_a _ rfl (.tmp 158) (.tmp 159) (.const (.bool true)) 130 rfl 131 4 key131 Tryz.underlying130 rfl hA9.out.smap (o, t) rfl (.bool true) rfl ?_; intro w9 hA2' hg9 hs9; rw [hput.out] at hA2'; have kc10 : Blk w9 Bc 4 #[.bool c8] := (hg9.block _ kc9.out.lt (by simp; omega)).trans kc9.out; have cc := kc10.cell 0; have cf := kc10.free 0; simp at cc; replace kc10 := Lib.hid kc10; replace hA2' := Lib.hid hA2'; replace hg9 := Lib.hid hg9; clear hs9))
                    go_roundw
                    case rel =>
                      have hbb : (w9.setCell ⟨Bc, 0, none⟩ (.bool true)).heap[b]? = W9.heap[b]? := (Below.heap_setCell _ _ _ _ (by show b ≠ Bc; omega)).trans (hg9.out.block b (AMap.lt hA9.out.map) (by simp; omega))
                      obtain ⟨hS9, hP9⟩ := hA9.out.addS hP8.out (o, t) hPn.out (hUb.out _ _ hPn.out) hm.out (AMap.setCell hA2'.out ⟨Bc, 0, none⟩ (.bool true)) hbb
                      refine ⟨j + 1, L8, _, true, by omega, by go_num, hS9, hP9, ?_, ⟨hM8.out.1, fun p hp => addS_mem.2 (.inr (hM8.out.2 p hp))⟩, ?_, hX9.out.trans ((BX.of_grown hg9.out (by simp)).set (by simp) _)⟩
                      · show Blk _ _ _ _
                        have := kc10.out.set 0 (.bool true)
                        simpa using this
                      · rw [hpc]
                        exact hstep.out t rfl _ _ (want_zero (addS_mem.2 (.inl rfl))) (fun _ h => h) (fun _ h => addS_mem.2 (.inr h))
                    case measure => simp [intOf]; omega
                · have g0 : ((p.size : Int) == 0) = false := by rw [hz0]; rfl
                  have g1 : ((p.size : Int) == 1) = true := by rw [hz0]; rfl
                  have hz : 0 < p.size := by omega
                  have hch := (ch_eq hz).symm
                  have hpc := cs_one hz0
                  have hl1 := hrl.out.2.2.2.2 (ch p 0) (by rw [hpc]; simp)
                  rw [hpc] at hstep hmemR
                  have hPn := Lib.hid (show PA (BofI ms) R num o (ch p 0) t from .one hmemR.out rfl hPt.out)
                  have e2 : ∀ g : Gr wr, g.w1.cell? ⟨B21, 2, none⟩ = some (.int .i64 o) := fun g => g.cell z2
                  have e3 : ∀ g : Gr wr, g.w1.cell? ⟨B21, 3, none⟩ = some (.string p) := fun g => g.cell z3
                  have hk3 := hc8.out
                  have hm3 := hA8.out.map
                  have hcon := Lib.hid (fun g : Gr wr => add_any g.w1 Bm Bc b L8 o (ch p 0) t c8 (g.cell (kM8.cell 0)) (hk3.below g.h hk3.lt) (AMap.below hm3 g.h hb8l) (by omega) ⟨by omega, by omega⟩)
                  have hAg := Lib.hid (fun g : Gr wr => hA8.out.then g.h)
                  clear hk3 hm3 kM8 hXw kr8
                  go_upto_region 47 with (fail)
                  refine wp_region_growtail 9 (by kernel_rfl) (by kernel_rfl) ?_
                  simp only [List.take_succ_cons, List.take_zero, List.drop_succ_cons, List.drop_zero]
                  repeat (go_big_quiet_step (fail))
                  refine wpQuiet_nil ?_
                  rintro _ ⟨g, rfl⟩
                  clear e2 e3
                  go_wp2_with (go_at_call 63; refine (hcon.out g).mono ?_; rintro e w9 ⟨rfl, hm9, kc9, hB9⟩; replace hm9 := Lib.hid hm9; replace kc9 := Lib.hid kc9; replace hB9 := Lib.hid hB9)
                  go_roundw
                  case rel =>
                    obtain ⟨hS9, hP9⟩ := (hAg.out g).add hP8.out (o, ch p 0, t) hPn.out (by show ch p 0 ≠ 0; omega) (hUa.out _ _ _ hPn.out (by omega)) hm9.out (hB9.out.block bS (AMap.lt (hAg.out g).smap) (by simp; omega))
                    refine ⟨j + 1, _, S8, _, by omega, by go_num, hS9, hP9, kc9.out, ⟨fun k hk => addL_keys.2 (.inr (hM8.out.1 k hk)), hM8.out.2⟩, ?_, hX8.out.trans ((BX.of_below g.h).trans (hB9.out.mono (by simp)))⟩
                    rw [hpc]
                    exact hstep.out t rfl _ _ (want_one (addL_keys.2 (.inl rfl))) (fun _ h => addL_keys.2 (.inr h)) (fun _ h => h)
                  case measure => simp [intOf]; omega
                · have g0 : ((p.size : Int) == 0) = false := by rw [hz0]; rfl
                  have g1 : ((p.size : Int) == 1) = false := by rw [hz0]; rfl
                  have hz : 0 < p.size := by omega
                  have hch := (ch_eq hz).symm
                  have hz' : 1 < p.size := by omega
                  have hch' := (ch_eq hz').symm
                  have hpc := cs_two hz0
                  have hl1 := hrl.out.2.2.2.2 (ch p 0) (by rw [hpc]; simp)
                  have hl2 := hrl.out.2.2.2.2 (ch p 1) (by rw [hpc]; simp)
                  rw [hpc] at hstep hmemR hnr
                  have hPn := Lib.hid (show PA (BofI ms) R num o (ch p 0) (num o (ch p 0)) from .two1 hmemR.out rfl hPt.out)
                  have hPn2 := Lib.hid (show PA (BofI ms) R num (num o (ch p 0)) (ch p 1) t from .two2 hmemR.out rfl hPt.out)
                  obtain ⟨mid, hmid⟩ : ∃ mid, num o (ch p 0) = mid := ⟨_, rfl⟩
                  have hmz : numZ st Hs (o, ch p 0) = mid := by rw [← hmid, hnum.out]
                  rw [hmid] at hPn hPn2
                  have hNr := AMap.of_block hN5.out ((hXw.block bN (by omega) (by simp; omega)).trans (hX25.out.block bN (by omega) (by simp; omega)))
                  have e2 : ∀ g : Gr wr, g.w1.cell? ⟨B21, 2, none⟩ = some (.int .i64 o) := fun g => g.cell z2
                  have e3 : ∀ g : Gr wr, g.w1.cell? ⟨B21, 3, none⟩ = some (.string p) := fun g => g.cell z3
                  have e4 : ∀ g : Gr wr, (Instr.lookup 129 (.map (some bN)) (hv (o, ch p 0)) false).run Tryz.prog g.w1 = .ok (.int .i64 mid) g.w1 := fun g => by
                    have := nval_look (AMap.below hNr g.h (AMap.lt hNr)) (o, ch p 0)
                    rw [hmz] at this
                    exact this
                  replace hmid := Lib.hid hmid
                  replace hmz := Lib.hid hmz
                  have kM8' := Lib.hid kM8
                  have kr8' := Lib.hid kr8
                  clear hXw hNr kM8 kr8
                  go_upto_region 38 with (fail)
                  refine wp_region_grow (by kernel_rfl) (by kernel_rfl) ?_
                  repeat (go_big_quiet_step (fail))
                  refine wpQuiet_nil ?_
                  rintro _ ⟨g, rfl⟩
                  obtain ⟨G, hBG⟩ := g
                  dsimp only at *
                  clear e2 e3 e4
                  have z2G := cell_below z2 hBG
                  have z3G := cell_below z3 hBG
                  have hAG := Lib.hid (hA8.out.then hBG)
                  have kMG := Lib.hid (Blk.below kM8'.out hBG kM8'.out.lt)
                  have kcG := Lib.hid (hc8.out.below hBG hc8l)
                  have krG := Lib.hid (Blk.below kr8'.out hBG kr8'.out.lt)
                  have hXG := Lib.hid (hX8.out.trans (BX.of_below hBG))
                  have hGz := hBG.size
                  have e2 : ∀ g : Gr G, g.w1.cell? ⟨B21, 2, none⟩ = some (.int .i64 o) := fun g => g.cell z2G
                  have e3 : ∀ g : Gr G, g.w1.cell? ⟨B21, 3, none⟩ = some (.string p) := fun g => g.cell z3G
                  have hk3 := kcG.out
                  have hm3 := hAG.out.map
                  have hcon := Lib.hid (fun g : Gr G => add_any g.w1 Bm Bc b L8 o (ch p 0) mid c8 (g.cell (kMG.out.cell 0)) (hk3.below g.h hk3.lt) (AMap.below hm3 g.h (AMap.lt hm3)) (by omega) ⟨by omega, by omega⟩)
                  have hAg := Lib.hid (fun g : Gr G => hAG.out.then g.h)
                  clear hk3 hm3 z2 z3 z2G z3G hBG e0
                  go_upto_region 39 with (fail)
                  refine wp_region_growtail 9 (by kernel_rfl) (by kernel_rfl) ?_
                  simp only [List.take_succ_cons, List.take_zero, List.drop_succ_cons, List.drop_zero]
                  repeat (go_big_quiet_step (fail))
                  refine wpQuiet_nil ?_
                  rintro _ ⟨g, rfl⟩
                  clear e2 e3
                  go_upto_region 40 with (go_at_call 63; refine (hcon.out g).mono ?_; rintro e w9 ⟨rfl, hm9, kc9, hB9⟩; replace hm9 := Lib.hid hm9; replace kc9 := Lib.hid kc9; replace hB9 := Lib.hid hB9)
                  obtain ⟨hS9, hP9⟩ := (hAg.out g).add hP8.out (o, ch p 0, mid) hPn.out (by show ch p 0 ≠ 0; omega) (hUa.out _ _ _ hPn.out (by omega)) hm9.out (hB9.out.block bS (AMap.lt (hAg.out g).smap) (by simp; omega))
                  have hX9 := Lib.hid (hXG.out.trans ((BX.of_below g.h).trans (hB9.out.mono (ys := [b, bS, Bc]) (by simp))))
                  have hgz := g.h.size
                  have kr9 := ((krG.out.below g.h krG.out.lt).bx hB9.out (by simp; omega))
                  have kM9 := ((kMG.out.below g.h kMG.out.lt).bx hB9.out (by simp; omega))
                  have z3 := kr9.cell 3
                  simp at z3
                  replace kr9 := Lib.hid kr9
                  replace hS9 := Lib.hid hS9
                  replace hP9 := Lib.hid hP9
                  obtain ⟨L9, hL9⟩ : ∃ L9, addL L8 (o, ch p 0, mid) = L9 := ⟨_, rfl⟩
                  have hk9 := Lib.hid (show (o, ch p 0, mid) ∈ L9.map (·.1) ∧ ∀ k, k ∈ L8.map (·.1) → k ∈ L9.map (·.1) by rw [← hL9]; exact ⟨addL_keys.2 (.inl rfl), fun k hk => addL_keys.2 (.inr hk)⟩)
                  obtain ⟨c9, hc9⟩ : ∃ c9, (c8 || !(cget L8 (o, ch p 0, mid)).isSome) = c9 := ⟨_, rfl⟩
                  rw [hL9] at hS9 hP9 hm9
                  rw [hc9] at hP9 kc9
                  have hcon2 := Lib.hid (add_any w9 Bm Bc b L9 mid (ch p 1) t c9 (kM9.cell 0) kc9.out hm9.out (by omega) ⟨by omega, by omega⟩)
                  clear hL9 hc9 kM9 hcon hAg
                  go_wp2_with (go_at_call 63; refine hcon2.out.mono ?_; rintro e w10 ⟨rfl, hm10, kc10, hB10⟩; replace hm10 := Lib.hid hm10; replace kc10 := Lib.hid kc10; replace hB10 := Lib.hid hB10)
                  go_roundw
                  case rel =>
                    obtain ⟨hS10, hP10⟩ := hS9.out.add hP9.out (mid, ch p 1, t) hPn2.out (by show ch p 1 ≠ 0; omega) (hUa.out _ _ _ hPn2.out (by omega)) hm10.out (hB10.out.block bS (AMap.lt hS9.out.smap) (by simp; omega))
                    refine ⟨j + 1, _, S8, _, by omega, by go_num, hS10, hP10, kc10.out, ⟨fun k hk => addL_keys.2 (.inr (hk9.out.2 k (hM8.out.1 k hk))), hM8.out.2⟩, ?_, hX9.out.trans (hB10.out.mono (by simp))⟩
                    rw [hpc]
                    exact hstep.out t rfl _ _ (want_two (by rw [hmid.out]; exact addL_keys.2 (.inr hk9.out.1)) (by rw [hmid.out]; exact addL_keys.2 (.inl rfl))) (fun k h => addL_keys.2 (.inr (hk9.out.2 k h))) (fun _ h => h)
                  case measure => simp [intOf]; omega
    case rest =>
      obtain ⟨L, S, hAw, hCw, hXw⟩ := hcut
      have hAll := Lib.hid (show ∀ p a q, PA (BofI ms) R num p a q ↔ (a = 0 ∧ (p, q) ∈ S) ∨ (a ≠ 0 ∧ (p, a, q) ∈ L.map (·.1)) from fun p a q => by
        constructor
        · intro h
          have h1 := PA_closed (fun p a q hb => ⟨hAw.out.bas p a q hb, by
            obtain ⟨m, hm, e⟩ := List.mem_map.1 hb
            have := hletters.out m hm
            unfold keyM at e; cases e; omega⟩) hCw.out.1 hCw.out.2 (fun r hr => by
            rw [← hR.out] at hr
            obtain ⟨r0, hr0, rfl⟩ := List.mem_map.1 hr
            have h2 := hrul.out r0 hr0
            exact ⟨by show r0.top ≠ 0; omega, fun x hx => by have := h2.2.2.2.2 x hx; omega⟩) h
          by_cases e : a = 0
          · exact .inl ⟨e, h1.1 e⟩
          · exact .inr ⟨e, h1.2 e⟩
        · rintro (⟨rfl, h⟩ | ⟨h, h2⟩)
          · exact hAw.out.ssnd (p, q) h
          · exact (hAw.out.snd _ h2).1)
      have hfl := fin_len (by omega) hg.out
      have hSl := hAw.out.slen
      have hLl : L.length ≤ 900000 := by have := hAw.out.len; omega
      have hSl' : S.length ≤ 900000 := by omega
      have hSu : S.length ≤ 20000 := sub_len hAw.out.smap (fun p hp => hUb.out p.1 p.2 (hAw.out.ssnd p hp)) (by rw [← hU2e.out]; exact univB_len (by omega))
      have hwB := hXw.out.size
      have kAw := kA5.out.bx hXw.out (by simp; omega)
      have kRw := Lib.hid (kR5.out.bx hXw.out (by simp; omega))
      have kMw := Lib.hid (kM.out.bx hXw.out (by simp; omega))
      have hfw := Els.bx hf5.out hXw.out (fun h0 a ha => by have := hAbf.out h0 a ha; simp; omega)
      have hBw := Lib.hid (show Below w.heap.size w wc from hBw5.out.trans (hXw.out.below hBw5.out.size (by simp; omega)))
      have a2 : wc.cell? ⟨w.heap.size + 1, 2, none⟩ = some (.slice Af nf capf) := kAw.cell 2
      have hcl := Lib.hid (clone_els wc _ fs hfw (by omega))
      replace hfw := Lib.hid hfw
      replace kAw := Lib.hid kAw
      have hbS : bS < wc.heap.size := AMap.lt hAw.out.smap
      clear hSl
      repeat' ((fail_if_success (with_reducible (show Code.wp _ (Code.seq (Code.region 53 _ _) _) _ _ _))); first | (go_at_call 59; refine hcl.out.mono ?_; rintro e w1 ⟨v1, rfl, ho1, hb1⟩; obtain ⟨A1, n1, cap1, rfl, hn1⟩ := OwnE.shape ho1; replace ho1 := Lib.hid ho1; replace hb1 := Lib.hid hb1) | go_values | go_skip | go_guarded | go_step | go_upon | go_back | (simp only [Int.not_lt, Int.not_le] at *; go_simp) | (go_values <;> (try go_simp)) | (go_ite <;> go_prune <;> (try go_simp)) | (split <;> (first | (rename_i hx; exact (hx _ rfl).elim) | go_prune)))
      clear a2 hcl hn1
      have hS1 := Lib.hid (AMap.below hAw.out.smap hb1.out hbS)
      have hsz1 := hb1.out.size
      go_wp2_with (at_range; refine wpList_range_a _ rfl (.tmp 178) 130 rfl 131 4 Tryz.underlying130 rfl hS1.out ?_; intro w2 hit hg2 hs2; replace hit := Lib.hid hit; replace hg2 := Lib.hid hg2; replace hs2 := Lib.hid hs2)
      obtain ⟨r8, hr8⟩ : ∃ r8, w1.heap.size = r8 := ⟨_, rfl⟩
      have hB2 : Below w1.heap.size w1 w2 := below_of_grown hg2.out (Nat.le_refl _) (by intro k e; cases e)
      have ho2 := Lib.hid (ho1.out.then hB2)
      have hbc2 := Lib.hid (bthen hb1.out hB2)
      have hs2' : r8 < w2.heap.size := by rw [← hr8, hs2.out]; omega
      rw [hr8] at hit hsz1 ⊢
      replace hr8 := Lib.hid hr8
      clear hB2
      try go_frame
      go_loopw [26, 181] (fun c26 _ wr => ∃ (left : List ((Int × Int) × Value)) (A' : Option Addr) (n' c' : Nat) (fs2 : List Int), c26 = .slice A' n' c' ∧ Hid (AIter sv2 wr bS r8 (sval S) left) ∧ Hid (OwnE ElI 3 wc.heap.size wr (.slice A' n' c') fs2) ∧
        Hid (∀ x, x ∈ fs2 ↔ x ∈ fs ∨ ∃ q, (x, q) ∈ S ∧ (x, q) ∉ left.map (·.1) ∧ q ∈ fs) ∧ Hid (fs2.length + left.length ≤ fs.length + S.length) ∧ Hid (Below wc.heap.size wc wr) ∧ Hid (r8 < wr.heap.size)) (fun _ _ wr => iterLeft bS r8 wr)
      case atStart =>
        refine ⟨sval S, A1, n1, cap1, fs, rfl, hit.out, ho2.out, fun x => ?_, ?_, hbc2.out, hs2'⟩
        · constructor
          · exact .inl
          · rintro (h | ⟨q, h1, h2, _⟩)
            · exact h
            · rw [sval_keys] at h2; exact absurd h1 h2
        · unfold Hid sval; rw [List.length_map]; omega
      case round =>
        obtain ⟨left, A', n', c', fs2, rfl, hI, ho, hmem, hlen, hB, hsr⟩ := hrel
        have hcnt := Lib.hid hI.out.count
        go_wp2_with (at_next; refine wpList_next_a _ rfl (.tmp 179) rfl rfl hI.out ?_ ?_)
        · intro h0
          subst h0
          have hfs2l : fs2.length ≤ 30000 := by have := hlen.out; simp at this; omega
          have hso := Lib.hid (sortI_any wr _ fs2 _ ho.out (by omega))
          have hB' := hB.out
          have kRr := kRw.out.below hB' kRw.out.lt
          have kMr := kMw.out.below hB' kMw.out.lt
          have hmr := AMap.below hAw.out.map hB' (AMap.lt hAw.out.map)
          have hobl : ∀ x ∈ (Value.slice A' n' c').ownBlock.toList, wc.heap.size ≤ x := fun x hx => (ho.out.lt x (by simpa using hx)).1
          have hblt : b < wc.heap.size := AMap.lt hAw.out.map
          have hBmlt : Bm < wc.heap.size := kMw.out.lt
          have hRlt : w.heap.size + 2 < wc.heap.size := kRw.out.lt
          replace hobl := Lib.hid hobl
          replace kRr := Lib.hid kRr
          replace kMr := Lib.hid kMr
          replace hmr := Lib.hid hmr
          clear hB'
          go_upto_region 59 with (go_at_call 65; refine hso.out.mono ?_; rintro e w5 ⟨rfl, ho5, hb5⟩; replace ho5 := Lib.hid ho5; replace hb5 := Lib.hid hb5)
          obtain ⟨fs', hfs'⟩ : ∃ fs', Lib.compact (fs2.mergeSort fun x y => decide (x ≤ y)) = fs' := ⟨_, rfl⟩
          have hsc := sort_compact fs2
          rw [hfs'] at hsc
          have hco := Lib.hid (compI_same ho5.out (by rw [List.length_mergeSort]; omega))
          have hx5 := hB.out.trans (hb5.out.below hB.out.size hobl.out)
          have kM5 := kMw.out.below hx5 hBmlt
          have m5 : w5.cell? ⟨Bm, 0, none⟩ = some (.map (some b)) := kM5.cell 0
          replace hx5 := Lib.hid hx5
          rw [hfs'] at hco
          replace hsc := Lib.hid hsc
          replace hfs' := Lib.hid hfs'
          have hfs'l : fs'.length ≤ 900000 := by
            rw [← hfs'.out]
            have := Lib.compact_length_le (fs2.mergeSort fun x y => decide (x ≤ y))
            rw [List.length_mergeSort] at this
            omega
          have hkeys := Lib.hid (show ∀ k ∈ L.map (·.1), 97 ≤ k.2.1 ∧ k.2.1 ≤ 101 from fun k hk => by
            have h1 := hAw.out.snd k hk
            have h2 := hin.out _ _ _ h1.1
            have := h1.2
            omega)
          clear kM5
          go_region_with (first
            | (go_at_call 66; refine Calls.mono (hco.out _ ?_) ?_; exact ⟨rfl, rfl, rfl, rfl⟩; rintro e w6 ⟨v6, rfl, hE6, hb6⟩; have hx6 := hx5.out.trans (hb6.below hx5.out.size hobl.out); have kM6 := kMw.out.below hx6 hBmlt; have m6 : w6.cell? ⟨Bm, 0, none⟩ = some (.map (some b)) := kM6.cell 0; have hma := Lib.hid (macc_same (n := st + Hs.length) (AMap.below hAw.out.map hx6 hblt) hE6 hLl hfs'l hkeys.out); obtain ⟨A6, n6, c6, rfl, hn6⟩ := Els.shape hE6; replace hE6 := Lib.hid hE6; replace hb6 := Lib.hid hb6; replace hx6 := Lib.hid hx6; clear kM6)
            | (go_at_call 37; refine Calls.mono (hma.out _ ?_) ?_; exact ⟨rfl, rfl, rfl, rfl⟩; rintro e w7 ⟨vm7, vf7, ms7, rfl, hEm, hEf, hp7, hs7, hb7⟩; have hx7 := hx6.out.trans (hb7.mono hx6.out.size); obtain ⟨Am7, nm7, cm7, rfl, hnm7⟩ := OwnE.shape hEm; obtain ⟨Af7, nf7, cf7, rfl, hnf7⟩ := OwnE.shape hEf; have q7 := kRw.out.below hx7 hRlt; have u0 : w7.cell? ⟨w.heap.size + 1 + 1, 0, none⟩ = some (.int .i64 0) := q7.cell 0; have u1 : w7.cell? ⟨w.heap.size + 1 + 1, 1, none⟩ = some (.slice none 0 0) := q7.cell 1; have u2 : w7.cell? ⟨w.heap.size + 1 + 1, 2, none⟩ = some (.slice none 0 0) := q7.cell 2; have x0 := q7.free 0; have x1 := q7.free 1; have x2 := q7.free 2; replace q7 := Lib.hid q7; replace hEm := Lib.hid hEm; replace hEf := Lib.hid hEf; replace hp7 := Lib.hid hp7; replace hs7 := Lib.hid hs7; replace hb7 := Lib.hid hb7; replace hx7 := Lib.hid hx7))
          all_goals
            have B2 := ((q7.out.set 0 (.int .i64 (st + Hs.length))).set 1 (.slice Am7 nm7 cm7)).set 2 (.slice Af7 nf7 cf7)
            have e0 := B2.cell 0
            have e1 := B2.cell 1
            have e2 := B2.cell 2
            simp at e0 e1 e2
            have hR6 : w.heap.size + 2 < w6.heap.size := by have := hx6.out.size; omega
            have hfin := Lib.hid (show ∀ WE, BX [w.heap.size + 1 + 1] w7 WE → OwnE ElZ 78 w.heap.size WE (.slice Am7 nm7 cm7) ms7 ∧ OwnE ElI 3 w.heap.size WE (.slice Af7 nf7 cf7) fs' ∧ Below w.heap.size w WE from fun WE hE =>
              ⟨(hEm.out.of_block fun g hg => hE.block g (hEm.out.lt g hg).2 (by have := (hEm.out.lt g hg).1; simp; omega)).lo_le (by omega), (hEf.out.of_block fun g hg => hE.block g (hEf.out.lt g hg).2 (by have := (hEf.out.lt g hg).1; simp; omega)).lo_le (by omega), (hBw.out.trans (hx7.out.mono (by omega))).trans (hE.below (by have := hx7.out.size; omega) (by simp; omega))⟩)
            replace hfin := Lib.hid (hfin.out (((w7.setCell ⟨w.heap.size + 1 + 1, 0, none⟩ (.int .i64 (st + Hs.length))).setCell ⟨w.heap.size + 1 + 1, 1, none⟩ (.slice Am7 nm7 cm7)).setCell ⟨w.heap.size + 1 + 1, 2, none⟩ (.slice Af7 nf7 cf7)) ((((BX.refl _ w7).set (by simp) _).set (by simp) _).set (by simp) _))
            clear B2
            go_wp2
            refine bodyPost_ret (v := acV (st + Hs.length) (.slice Am7 nm7 cm7) (.slice Af7 nf7 cf7)) (by simp [results, Tryz.results38, go_sem, e0, e1, e2]) rfl ⟨_, _, _, _, _, rfl, hfin.out.1, hfin.out.2.1, ?_, hfin.out.2.2⟩
            exact afres_of hst1 hR.out hnum.out hHs.out hnumR.out hAll.out hkeys.out hmem.out hsc.out hAw.out.map hp7.out hs7.out hl30
        · intro pre p q v post w' hleft hI2 hg2 hs2 hent
          unfold sv2 at hent
          have hpqS := Lib.hid (show (p, q) ∈ S from sval_mem (hI.out.sub.subset (show ((p, q), v) ∈ left by rw [hleft]; simp)))
          have hne1 := ho.out.ne_iter hI.out
          obtain ⟨W3, hW3⟩ : ∃ W3, w'.alloc (.cells #[.int .i64 p, .int .i64 q] 131) = W3 := ⟨_, rfl⟩
          have hB3 : Below w'.heap.size w' W3 := by rw [← hW3]; exact below1 _ _
          have k3 : Blk W3 w'.heap.size 131 #[.int .i64 p, .int .i64 q] := by rw [← hW3]; exact Blk.new _ _ _
          have x0 := k3.cell 0
          have x1 := k3.cell 1
          simp at x0 x1
          have hBg : Below wc.heap.size wc w' := hB.out.trans (below_of_grown hg2 hB.out.size (by intro k e; cases e; omega))
          have hBW3 := Lib.hid (bthen hBg hB3)
          have ho3 := Lib.hid ((ho.out.of_block fun g hg => hg2.block g (ho.out.lt g hg).2 (fun e => hne1 (by rw [hg]; exact e))).then hB3)
          have hI3 := Lib.hid (hI2.below hB3 hI2.lt.1 hI2.lt.2)
          have hf3 := hfw.out.then hBW3.out
          have kA3 := kAw.out.below hBW3.out kAw.out.lt
          have a2 : W3.cell? ⟨w.heap.size + 1, 2, none⟩ = some (.slice Af nf capf) := kA3.cell 2
          have hcon := Lib.hid (contI_any W3 _ fs q hf3 (by omega))
          have hz3 : w'.heap.size + 1 = W3.heap.size := by rw [← hW3, alloc_size]
          have hszr := hs2
          replace hs2 := Lib.hid hs2
          replace hg2 := Lib.hid hg2
          replace hI2 := Lib.hid hI2
          replace hleft := Lib.hid hleft
          replace hz3 := Lib.hid hz3
          have hrl : r8 < W3.heap.size := by have := hsr.out; have := hz3.out; omega
          have hwl : wc.heap.size ≤ W3.heap.size := hBW3.out.size
          obtain ⟨B27, hB27⟩ : ∃ B27, w'.heap.size = B27 := ⟨_, rfl⟩
          rw [hB27] at x0 x1 k3
          replace k3 := Lib.hid k3
          clear hszr kA3 hf3 hB3 hne1 hBg
          have hcnt3 := Lib.hid (show iterLeft bS r8 wr = (pre ++ post).length + 1 by rw [hcnt.out, hleft.out]; simp; omega)
          have hlen3 := Lib.hid (show fs2.length + (pre ++ post).length + 1 ≤ fs.length + S.length by have := hlen.out; rw [hleft.out] at this; simp at this ⊢; omega)
          have hmem3 := Lib.hid (fun fs3 : List Int => fin_step (fs3 := fs3) hleft.out hmem.out hpqS.out ((hI.out.sub.map (·.1)).nodup hI.out.map.nodup))
          have hfs2l : fs2.length ≤ 30000 := by have := hlen.out; omega
          cases hct : fs.contains q with
          | false =>
            rw [hct] at hcon
            go_wp2_with (go_at_call 64; refine hcon.out.mono ?_; rintro e w5 ⟨rfl, rfl⟩)
            go_roundw
            case rel =>
              refine ⟨pre ++ post, A', n', c', fs2, rfl, hI3.out, ho3.out, hmem3.out fs2 (.inl ⟨by simpa using hct, rfl⟩), ?_, hBW3.out, hrl⟩
              have := hlen3.out
              unfold Hid
              omega
            case measure =>
              rw [hI3.out.count, hcnt3.out]
              omega
          | true =>
            rw [hct] at hcon
            obtain ⟨o2, ho2⟩ : ∃ o2 : Obj, o2 = .cells #[.int .i64 p] 3 := ⟨_, rfl⟩
            have kn : Blk (W3.alloc o2) W3.heap.size 3 #[.int .i64 p] := by rw [ho2]; exact Blk.new _ _ _
            replace kn := Lib.hid kn
            have ho4 := Lib.hid (ho3.out.then (below1 W3 o2))
            have hI4 := Lib.hid (hI3.out.below (below1 W3 o2) hI3.out.lt.1 hI3.out.lt.2)
            have hB4 := Lib.hid (bthen hBW3.out (below1 W3 o2))
            go_wp2_with (first
              | (go_at_call 64; refine hcon.out.mono ?_; rintro e w5 ⟨rfl, rfl⟩)
              | (at_builtin; refine wpList_append_els (E := ElI) _ rfl (.tmp 189) (.tmp 192) 26 rfl wc.heap.size Tryz.underlying26 info3 rfl rfl (by decide) (.slice A' n' c') fs2 rfl (by rw [← ho2]; exact ho4.out) (.slice (some ⟨w5.heap.size, 0, none⟩) 1 1) rfl [p] (els_one (E := ElI) (t := 3) (cs := #[.int .i64 p]) (by rw [← ho2]; exact kn.out) rfl) ?hl ?hs ?_; rotate_left 2; intro v6 w6 ho6 hb6 hg6 hl6; obtain ⟨A6, n6, c6, rfl, hn6⟩ := OwnE.shape ho6; rw [← ho2] at hb6 hg6; replace ho6 := Lib.hid ho6; replace hb6 := Lib.hid hb6; replace hg6 := Lib.hid hg6; clear hl6))
            case hl => simp; omega
            case hs => rw [alloc_size]; omega
            have hI6 := Lib.hid (hI4.out.of_block (hb6.out.block bS hbS) (hg6.out.block r8 (by rw [alloc_size]; omega) (fun e => ho4.out.ne_iter hI4.out e.symm)))
            refine ⟨⟨pre ++ post, A6, n6, c6, fs2 ++ [p], rfl, hI6.out, ho6.out, hmem3.out _ (.inr ⟨by simpa using hct, rfl⟩), ?_, hB4.out.trans hb6.out, ?_⟩, ?_⟩
            · have := hlen3.out
              unfold Hid
              rw [List.length_append, List.length_singleton]
              omega
            · have := hg6.out.size; rw [alloc_size] at this; unfold Hid; omega
            · rw [hI6.out.count, hcnt3.out]
              omega
end Go.Proofs.YtaapnflhjbdmlaaGreatDoor
