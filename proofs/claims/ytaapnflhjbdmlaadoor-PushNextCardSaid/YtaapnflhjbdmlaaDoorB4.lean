/- The specification's Pops: the table is built. No condition. -/
import Derived.Test.YtaapnflhjbdmlaaDoorBA
import Derived.Test.YtaapnflhjbdmlaaDoorK15
namespace Go.Proofs.YtaapnflhjbdmlaaDoor
open Go.RowKit Go.Shelf
attribute [local go_sem] Oper.semAt_some

def ElP (C : Nat) : El Nat := ⟨1, fun g => [.slice (some ⟨g, 0, none⟩) C C], fun _ => rfl, fun x u hu => by
  simp only [List.mem_cons, List.mem_nil_iff, or_false] at hu
  subst hu; rfl, by decide⟩
def ElQ : El (Nat × Nat) := ⟨1, fun x => [.slice (some ⟨x.1, 0, none⟩) 5 x.2], fun _ => rfl, fun x u hu => by
  simp only [List.mem_cons, List.mem_nil_iff, or_false] at hu
  subst hu; rfl, by decide⟩
theorem OwnE.top1 {α : Type} {E : El α} {e lo : Nat} {w : World} {v : Value} {l : List α} (h : OwnE E e lo w v l) (hl : 0 < l.length) : ∃ g cap cs, v = .slice (Option.some ⟨g, 0, none⟩) l.length cap ∧ lo ≤ g ∧ Blk w g e cs ∧ l.length ≤ cap ∧ cap ≤ maxLen := by
  obtain ⟨_, h2 | ⟨g, cap, cur, h2, h3, h4, h5, h6, _⟩⟩ := h
  · exact absurd h2.2 (by omega)
  · exact ⟨g, cap, cur, h2, h3, h4, h5, h6⟩
/-- the first K rows: falsehoods, in blocks one behind the other -/
def BB (w : World) (lo C K : Nat) (H : Nat → Nat) : Prop := (∀ i, i < K → lo ≤ H i ∧ Bl w (H i) C (fun _ => false)) ∧ ∀ i j, i < j → j < K → H i < H j
theorem BB.below {w w' : World} {lo C K : Nat} {H : Nat → Nat} (h : BB w lo C K H) (hb : Below w.heap.size w w') : BB w' lo C K H := ⟨fun i hi => ⟨(h.1 i hi).1, (h.1 i hi).2.below hb (h.1 i hi).2.lt⟩, h.2⟩
theorem BB.bx {w w' : World} {lo C K : Nat} {H : Nat → Nat} {xs : List Nat} (h : BB w lo C K H) (hb : BX xs w w') (hx : ∀ i, i < K → H i ∉ xs) : BB w' lo C K H := ⟨fun i hi => ⟨(h.1 i hi).1, (h.1 i hi).2.bx hb (hx i hi)⟩, h.2⟩
def updH1 (H : Nat → Nat) (K g : Nat) : Nat → Nat := fun i => if i = K then g else H i
theorem BB.push {w : World} {lo C K g : Nat} {H : Nat → Nat} (h : BB w lo C K H) (hg : Bl w g C (fun _ => false)) (hlo : lo ≤ g) (hlt : ∀ i, i < K → H i < g) : BB w lo C (K + 1) (updH1 H K g) := by
  refine ⟨fun i hi => ?_, fun i j hij hj => ?_⟩
  · unfold updH1
    by_cases he : i = K
    · rw [if_pos he]; exact ⟨hlo, hg⟩
    · rw [if_neg he]; exact h.1 i (by omega)
  · unfold updH1
    rw [if_neg (show i ≠ K by omega)]
    by_cases he : j = K
    · rw [if_pos he]; exact hlt i (by omega)
    · rw [if_neg he]; exact h.2 i j hij (by omega)
theorem BB.congr {w : World} {lo C K : Nat} {H H' : Nat → Nat} (h : BB w lo C K H) (he : ∀ i, i < K → H' i = H i) : BB w lo C K H' := by
  refine ⟨fun i hi => by rw [he i hi]; exact h.1 i hi, fun i j hij hj => ?_⟩
  rw [he i (by omega), he j hj]
  exact h.2 i j hij hj
/-- the rows of the controls below p -/
def RS (w : World) (lo C p : Nat) (r k H : Nat → Nat) : Prop := ∀ p', p' < p → lo ≤ r p' ∧ (∃ cs, Blk w (r p') 85 cs) ∧ 5 ≤ k p' ∧ k p' ≤ maxLen ∧ ∀ c, c < 5 → w.cell? ⟨r p', c, none⟩ = some (.slice (some ⟨H (p' * 5 + c), 0, none⟩) C C)
theorem RS.below {w w' : World} {lo C p : Nat} {r k H : Nat → Nat} (h : RS w lo C p r k H) (hb : Below w.heap.size w w') : RS w' lo C p r k H := fun p' hp' => by
  obtain ⟨h1, ⟨cs, h2⟩, h3, h4, h5⟩ := h p' hp'
  exact ⟨h1, ⟨cs, h2.below hb h2.lt⟩, h3, h4, fun c hc => cell_below (h5 c hc) hb⟩
theorem RS.bx {w w' : World} {lo C p : Nat} {r k H : Nat → Nat} {xs : List Nat} (h : RS w lo C p r k H) (hb : BX xs w w') (hx : ∀ p', p' < p → r p' ∉ xs) : RS w' lo C p r k H := fun p' hp' => by
  obtain ⟨h1, ⟨cs, h2⟩, h3, h4, h5⟩ := h p' hp'
  exact ⟨h1, ⟨cs, h2.bx hb (hx p' hp')⟩, h3, h4, fun c hc => hb.cell (h5 c hc) (hx p' hp')⟩
theorem info85 : (Tryd.prog.info? 85).map (fun i => (i.zero, i.size, i.bytes)) = some (some (.slice none 0 0), 1, 24) := by kernel_rfl
theorem info116 : (Tryd.prog.info? 116).map (fun i => (i.zero, i.size, i.bytes)) = some (some (.slice none 0 0), 1, 24) := by kernel_rfl
theorem info4 : (Tryd.prog.info? 4).map (fun i => (i.zero, i.size, i.bytes)) = some (some (.bool false), 1, 1) := by kernel_rfl
theorem range_push {α : Type} {f f' : Nat → α} {n : Nat} {x : α} (h : ∀ i, i < n → f' i = f i) (hx : f' n = x) : (List.range (n + 1)).map f' = (List.range n).map f ++ [x] := by
  rw [List.range_succ, List.map_append, List.map_cons, List.map_nil, hx]
  congr 1
  exact List.map_congr_left fun i hi => h i (List.mem_range.1 hi)

set_option maxRecDepth 8000 in
set_option maxHeartbeats 4000000 in
theorem Pops_any (w : World) (C : Nat) (v : Value) (l : List RuleB) (h : Rls w v l) (hsys : sysB C l = true) :
    Calls Tryd.prog 33 #[sv C v] w fun e w' => ∃ v', e = .returned v' ∧ ∃ T, Cub w' v' C T ∧ PTab (l.map RuleB.plain) C T ∧ Below w.heap.size w w' := by
  obtain ⟨A, n, cap, rfl, hn⟩ := Els.shape h
  obtain ⟨hC1, hC5, hl30, _⟩ := sysB_iff.1 hsys
  obtain ⟨W, hW⟩ : ∃ W, w.alloc (.cells #[.int .i64 C, .slice A n cap] 24) = W := ⟨_, rfl⟩
  have hBW : Below w.heap.size w W := by rw [← hW]; exact below1 _ _
  have kS : Blk W w.heap.size 24 #[.int .i64 C, .slice A n cap] := by rw [← hW]; exact Blk.new w 24 _
  have hrW := Lib.hid (show Rls W (.slice A n cap) l from Els.then h hBW)
  replace kS := Lib.hid kS
  replace hBW := Lib.hid hBW
  replace hsys := Lib.hid hsys
  clear h
  go_enter Tryd.func33, Tryd.ntmps33
  go_wp2
  go_loopw [3, 4] (fun c3 c4 wr => ∃ (p : Nat) (r k H : Nat → Nat), p ≤ C ∧ c4 = .int .i64 (p : Int) ∧ Hid (OwnE ElQ 116 W.heap.size wr c3 ((List.range p).map fun p' => (r p', k p'))) ∧ Hid (RS wr W.heap.size C p r k H) ∧
    Hid (BB wr W.heap.size C (p * 5) H) ∧ Hid (Below W.heap.size W wr)) (fun _ c4 _ => C - (intOf c4).toNat)
  case atStart => exact ⟨0, fun _ => 0, fun _ => 0, fun _ => 0, Nat.zero_le _, rfl, OwnE.nil _ _ _, fun p' hp' => absurd hp' (by omega), ⟨fun i hi => absurd hi (by omega), fun i j _ hj => absurd hj (by omega)⟩, Below.refl _ _⟩
  case round =>
    rename_i c3 c4 hd0
    obtain ⟨p, r, k, H, hp, rfl, ho, hR, hB, hBr⟩ := hrel
    obtain ⟨A3, n3, cap3, rfl, hn3⟩ := OwnE.shape ho.out
    have kS2 := kS.out.below hBr.out kS.out.lt
    have s0 : wr.cell? ⟨w.heap.size, 0, none⟩ = some (.int .i64 C) := kS2.cell 0
    have s1 : wr.cell? ⟨w.heap.size, 1, none⟩ = some (.slice A n cap) := kS2.cell 1
    replace kS2 := Lib.hid kS2
    by_cases hlt : p < C
    case neg =>
      have hge : ¬ (p : Int) < C := by omega
      have hpC : p = C := by omega
      subst p
      obtain ⟨b, cap3', csb, e3, hb, hkb, hlb, hmb⟩ := OwnE.top1 ho.out (by simp; omega)
      simp at e3 hlb
      obtain ⟨rfl, hnC, rfl⟩ := e3
      rw [hnC] at ho ⊢
      clear hn3
      obtain ⟨b', o', e3, hat⟩ := Els.cell ho.out.els (by simp; omega)
      obtain ⟨rfl, rfl⟩ : b = b' ∧ 0 = o' := by simpa using e3
      have hst : PStat wr C b 0 r (fun _ => 0) k (fun p c => H (p * 5 + c)) := by
        refine ⟨fun p' hp' => ?_, fun p' c hp' hc => ?_⟩
        · obtain ⟨_, _, h3, h4, _⟩ := hR.out p' hp'
          refine ⟨h3, h4, ?_⟩
          have := hat p' (by simpa using hp') 0 (.slice (some ⟨r p', 0, none⟩) 5 (k p')) (by simp [ElQ])
          simpa [ElQ] using this
        · simpa using (hR.out p' hp').2.2.2.2 c hc
      have hrow : PRow wr C (fun p c => H (p * 5 + c)) (fun _ _ _ => false) := fun p' c hp' hc => (hB.out.1 _ (by omega)).2
      have hsep : PSep C b r (fun p c => H (p * 5 + c)) := by
        refine ⟨fun p' c hp' hc => ⟨hkb.ne_of (hrow p' c hp' hc) (by decide), fun p'' hp'' => ?_⟩, fun p1 c1 p2 c2 hp1 hc1 hp2 hc2 he => ?_⟩
        · obtain ⟨_, ⟨cs, h2⟩, _⟩ := hR.out p'' hp''
          exact h2.ne_of (hrow p' c hp' hc) (by decide)
        · rcases Nat.lt_trichotomy (p1 * 5 + c1) (p2 * 5 + c2) with hh | hh | hh
          · exact absurd he (Nat.ne_of_lt (hB.out.2 _ _ hh (by omega)))
          · omega
          · exact absurd he (Nat.ne_of_gt (hB.out.2 _ _ hh (by omega)))
      have hlo : ∀ p' c, p' < C → c < 5 → W.heap.size ≤ H (p' * 5 + c) := fun p' c hp' hc => (hB.out.1 _ (by omega)).1
      replace hst := Lib.hid hst
      replace hrow := Lib.hid hrow
      replace hsep := Lib.hid hsep
      replace hlo := Lib.hid hlo
      clear ho hR hB hat e3 hkb kS2 hb hge
      generalize hh : (fun (p c : Nat) => H (p * 5 + c)) = h at *
      go_wp2
      obtain ⟨V, hV⟩ : ∃ V, V = wr := ⟨_, rfl⟩
      subst hV
      clear s0 s1 hlt hp
      have hsnd0 : Hid (∀ p c q : Nat, p < C → c < 5 → (fun (_ _ _ : Nat) => false) p c q = true → Pops (l.map RuleB.plain) p (97 + c) q) := fun _ _ _ _ _ h => by cases h
      go_loopg [7] (2 * cntT C (fun _ _ _ => false) + 1) (fun gk c7 wr => ∃ (T : Nat → Nat → Nat → Bool) (a : Bool), c7 = .bool a ∧ gk = 2 * cntT C T + (if a then 1 else 0) ∧ Hid (PStat wr C b 0 r (fun _ => 0) k h) ∧ Hid (PRow wr C h T) ∧ Hid (Below W.heap.size W wr) ∧
        Hid (∀ p c q : Nat, p < C → c < 5 → T p c q = true → Pops (l.map RuleB.plain) p (97 + c) q) ∧ Hid (a = false → PTab (l.map RuleB.plain) C T))
      case atStart => exact ⟨_, true, rfl, rfl, hst.out, hrow.out, hBr.out, hsnd0, fun h => by cases h⟩
      case round =>
        obtain ⟨T0, a0, rfl, hgk, hst, hrow, hBr, hsnd, htab⟩ := hrel
        cases a0 with
        | false =>
          have hT := Lib.hid (htab.out rfl)
          have hcub := Lib.hid (cub_of (off := 0) (by simpa using hlb) hmb hst.out hrow.out)
          replace hgk := Lib.hid hgk
          go_wp2
          go_ret
          refine ⟨_, rfl, ?_⟩
          exact ⟨T0, hcub.out, hT.out, bthen hBW.out hBr.out⟩
        | true =>
          replace hgk := Lib.hid hgk
          clear htab
          go_wp2
          have hln := hn.out
          have hlI := Lib.hid hln
          clear hln
          go_loopw [7, 8] (fun c7 c8 wq => ∃ (T : Nat → Nat → Nat → Bool) (a : Bool) (i : Nat), i ≤ n ∧ c7 = .bool a ∧ c8 = .int .i64 (i : Int) ∧ Hid (PPass (l.map RuleB.plain) C T0 T a i) ∧ Hid (PStat wq C b 0 r (fun _ => 0) k h) ∧ Hid (PRow wq C h T) ∧
            Hid (Below W.heap.size W wq)) (fun _ c8 _ => n - (intOf c8).toNat)
          case atStart => exact ⟨T0, false, 0, Nat.zero_le _, rfl, rfl, PPass.begin hsnd.out, hst.out, hrow.out, hBr.out⟩
          case round =>
            obtain ⟨T, a, i, hi, rfl, rfl, hP, hst2, hrow2, hBq⟩ := hrel
            have kS3 := kS.out.below hBq.out kS.out.lt
            have s0 : wr.cell? ⟨w.heap.size, 0, none⟩ = some (.int .i64 C) := kS3.cell 0
            have s1 : wr.cell? ⟨w.heap.size, 1, none⟩ = some (.slice A n cap) := kS3.cell 1
            replace kS3 := Lib.hid kS3
            by_cases hlt : i < n
            case neg =>
              have hge : ¬ (i : Int) < n := by omega
              have hin : i = (l.map RuleB.plain).length := by rw [List.length_map, ← hlI.out]; omega
              have hfin := Lib.hid (show a = false → PTab (l.map RuleB.plain) C T from fun ha => by
                subst ha
                rw [hin] at hP
                exact hP.out.tab (rulesOk_of hsys.out) (rulesIn_of hsys.out).2)
              have hless := Lib.hid (show 2 * cntT C T + (if a then 1 else 0) < gk from by
                have h1 := hgk.out
                simp only [if_true] at h1
                cases ha : a with
                | false =>
                  rw [(hP.out.quiet ha).1]
                  simp; omega
                | true =>
                  have := hP.out.less ha
                  simp; omega)
              clear hin
              go_wp2
              go_roundg (2 * cntT C T + (if a then 1 else 0))
              case measure => exact hless.out
              case rel => exact ⟨T, a, rfl, rfl, hst2.out, hrow2.out, hBq.out, hP.out.sound, hfin.out⟩
            have hltI : (i : Int) < n := by omega
            have hil : i < l.length := by rw [← hlI.out]; exact hlt
            obtain ⟨bR, oR, rfl, hatR⟩ := Els.cell (hrW.out.then hBq.out) (by omega)
            have hrule := Lib.hid (ruleB_of hsys.out hil)
            have hcell := rAt_eq hil
            have z0 := hatR i hil 0 (.int .i64 (rAt l i).fr) (by rw [hcell]; rfl)
            have z1 := hatR i hil 1 (.int .u8 (rAt l i).top) (by rw [hcell]; rfl)
            have z2 := hatR i hil 2 (.int .i64 (rAt l i).to) (by rw [hcell]; rfl)
            have z3 := hatR i hil 3 (.string (rAt l i).put) (by rw [hcell]; rfl)
            change wr.cell? ⟨bR, oR + i * 4, none⟩ = _ at z0
            change wr.cell? ⟨bR, oR + i * 4 + 1, none⟩ = _ at z1
            change wr.cell? ⟨bR, oR + i * 4 + 2, none⟩ = _ at z2
            change wr.cell? ⟨bR, oR + i * 4 + 3, none⟩ = _ at z3
            have hplain := Lib.hid ((plain_get (l := l) (n := i)).2 ⟨hil, rfl⟩)
            clear hatR hcell
            generalize rAt l i = R1 at *
            obtain ⟨f, tp, tz, pt⟩ := R1
            dsimp only at z0 z1 z2 z3
            go_upto_region 18 with (fail)
            obtain ⟨hf0, hf1, ht0, ht1, htp0, htp1, hword⟩ := (rulesIn_of hsys.out).2 i _ hplain.out
            have hps : pt.size ≤ 2 := by have := (rulesOk_of hsys.out i _ hplain.out).2.2.2.2; simpa [RuleB.plain, cs_length] using this
            simp only [RuleB.plain] at hf0 hf1 ht0 ht1 htp0 htp1 hword
            obtain ⟨fN, rfl⟩ : ∃ m : Nat, f = m := ⟨f.toNat, by omega⟩
            obtain ⟨tN, rfl⟩ : ∃ m : Nat, tz = m := ⟨tz.toNat, by omega⟩
            obtain ⟨cN, rfl⟩ : ∃ m : Nat, tp = 97 + m := ⟨(tp - 97).toNat, by omega⟩
            have hfC : fN < C := by simpa using hf1
            have htC : tN < C := by simpa using ht1
            have hcN : cN < 5 := by omega
            clear hf0 hf1 ht0 ht1 htp0 htp1
            replace hword := Lib.hid hword
            obtain ⟨W2, hW2⟩ : ∃ W2, wr.alloc (.cells #[.int .i64 fN, .int .u8 (97 + cN), .int .i64 tN, .string pt] 61) = W2 := ⟨_, rfl⟩
            obtain ⟨bu, hbu⟩ : ∃ bu, wr.heap.size = bu := ⟨_, rfl⟩
            have hb2 : Below wr.heap.size wr W2 := by rw [← hW2]; exact below1 _ _
            have kR := Lib.hid (show Blk W2 bu 61 #[.int .i64 fN, .int .u8 (97 + cN), .int .i64 tN, .string pt] by rw [← hW2, ← hbu]; exact Blk.new _ _ _)
            have hst3 := Lib.hid (hst2.out.bx (xs := []) (BX.of_below hb2) (by simp) (by simp))
            have hrow3 := Lib.hid (hrow2.out.bx (xs := []) (BX.of_below hb2) (by simp))
            have y0 := cell_below s0 hb2
            have y1 := cell_below s1 hb2
            have hBq3 := Lib.hid (hBq.out.trans (hb2.mono hBq.out.size))
            rw [hW2, hbu]
            clear hW2 hbu hb2 z0 z1 z2 z3 hst2 hrow2 s0 s1
            have u0 := kR.out.cell 0
            have u1 := kR.out.cell 1
            have u2 := kR.out.cell 2
            have u3 := kR.out.cell 3
            simp at u0 u1 u2 u3
            go_upto_region 20 with (at_make; refine wpList_make_bools rfl _ _ 85 rfl Tryd.underlying85 info4 C rfl rfl (by omega) (by omega) ?_; intro w1 hN hb1; replace u2 := cell_below u2 hb1; have a4 := hN.cell htC; have a5 := hN.free tN; have htI : (tN : Int) < C := (by omega); have hN := Lib.hid hN; have hb1 := Lib.hid hb1)
            obtain ⟨V2, hV2⟩ : ∃ V2, w1.setCell ⟨W2.heap.size, tN, none⟩ (.bool true) = V2 := ⟨_, rfl⟩
            rw [hV2]
            have hbV := Lib.hid (show Below W2.heap.size W2 V2 by rw [← hV2]; exact hb1.out.setCell (Nat.le_refl _) _)
            have hNow := Lib.hid (show Bl V2 W2.heap.size C (at1 tN) by
              rw [← hV2]
              exact (hN.out.set (i := tN) true).congr fun j _ => by unfold at1; by_cases hj : j = tN <;> simp [hj])
            clear hV2 hN hb1 a4 a5 u0 u1 u2 u3 y0 y1
            go_wp2
            go_loopw [10, 11] (fun c10 c11 wq => ∃ kk gn : Nat, kk ≤ pt.size ∧ c11 = .int .i64 (kk : Int) ∧ c10 = .slice (some ⟨gn, 0, none⟩) C C ∧ Hid (W2.heap.size ≤ gn) ∧ Hid (Bl wq gn C (ppw C T ((cs pt).take kk) (at1 tN))) ∧ Hid (Below W2.heap.size W2 wq)) (fun _ c11 _ => pt.size - (intOf c11).toNat)
            case atStart => exact ⟨0, _, Nat.zero_le _, rfl, rfl, Nat.le_refl _, hNow.out, hbV.out⟩
            case round =>
              obtain ⟨kk, gn, hkk, rfl, rfl, hgn, hNo, hBw⟩ := hrel
              have u3 : wr.cell? ⟨bu, 3, none⟩ = some (.string pt) := (kR.out.below hBw.out kR.out.lt).cell 3
              by_cases hkl : kk < pt.size
              case neg =>
                have hge : ¬ (kk : Int) < pt.size := by omega
                have htk : (cs pt).take kk = cs pt := List.take_of_length_le (by rw [cs_length]; omega)
                rw [htk] at hNo
                have kR4 := kR.out.below hBw.out kR.out.lt
                have u0 : wr.cell? ⟨bu, 0, none⟩ = some (.int .i64 fN) := kR4.cell 0
                have u1 : wr.cell? ⟨bu, 1, none⟩ = some (.int .u8 (97 + cN)) := kR4.cell 1
                have hst4 := hst3.out.bx (xs := []) (BX.of_below hBw.out) (by simp) (by simp)
                have r0 := (hst4.1 fN hfC).2.2
                have r1 := hst4.2 fN cN hfC hcN
                have hk5 := (hst4.1 fN hfC).1
                simp only [Nat.zero_add] at r0 r1
                have hfI : (fN : Int) < C := by omega
                have hcI : (cN : Int) < 5 := by omega
                have hcc : (97 + (cN : Int)) - 97 = cN := by omega
                clear htk kR4 hst4
                go_upto_region 24 with (fail)
                go_cut [12] from 70 to 80 (fun u12 wx => u12 = .slice (some ⟨h fN cN, 0, none⟩) C C ∧ Hid (Below wr.heap.size wr wx))
                case first =>
                  go_region
                  all_goals (go_wp2; go_meet)
                  all_goals exact ⟨rfl, below_drew _⟩
                case rest =>
                  obtain ⟨rfl, hbc⟩ := hcut
                  obtain ⟨X0, hX0⟩ : ∃ X0, X0 = wc := ⟨_, rfl⟩
                  subst hX0
                  have hcX := bthen hBw.out hbc.out
                  have hstX := Lib.hid (hst3.out.bx (xs := []) (BX.of_below hcX) (by simp) (by simp))
                  have hrowX := Lib.hid (hrow3.out.bx (xs := []) (BX.of_below hcX) (by simp))
                  have hNX := Lib.hid (hNo.out.below hbc.out hNo.out.lt)
                  have hBX0 := Lib.hid (hBq3.out.trans (hcX.mono hBq3.out.size))
                  have hgnh := Lib.hid (show ∀ p c, p < C → c < 5 → gn ≠ h p c from fun p c hp hc => by have := (hrow3.out p c hp hc).lt; have := hgn.out; omega)
                  have hrule2 := Lib.hid (fun (now : Nat → Bool) (hnow : now = ppw C T (cs pt) (at1 tN)) => hP.out.rule (rulesOk_of hsys.out) (rulesIn_of hsys.out).2 hplain.out (p := fN) (c := cN) (t := tN) rfl rfl rfl hnow hword.out hfC hcN htC)
                  obtain ⟨now, hnw⟩ : ∃ now, ppw C T (cs pt) (at1 tN) = now := ⟨_, rfl⟩
                  rw [hnw] at hNX
                  replace hrule2 := Lib.hid (hrule2.out now hnw.symm)
                  clear hnw hNo hcX u0 u1 u3 r0 r1
                  go_wp2
                  go_loopw [7, 13] (fun c7 c13 wq => ∃ Q : Nat, Q ≤ C ∧ c13 = .int .i64 (Q : Int) ∧ c7 = .bool (a || newN T fN cN now Q) ∧ Hid (PRow wq C h (rowN T fN cN now Q)) ∧ Hid (PStat wq C b 0 r (fun _ => 0) k h) ∧ Hid (Bl wq gn C now) ∧ Hid (Below W.heap.size W wq)) (fun _ c13 _ => C - (intOf c13).toNat)
                  case atStart => exact ⟨0, Nat.zero_le _, rfl, by simp [newN_zero], by show PRow _ _ _ _; rw [rowN_zero]; exact hrowX.out, hstX.out, hNX.out, hBX0.out⟩
                  case round =>
                    obtain ⟨Q, hQ, rfl, rfl, hrw, hsw, hnow, hBw5⟩ := hrel
                    have y0 : wr.cell? ⟨w.heap.size, 0, none⟩ = some (.int .i64 C) := (kS.out.below hBw5.out kS.out.lt).cell 0
                    by_cases hQC : Q < C
                    case neg =>
                      have hge : ¬ (Q : Int) < C := by omega
                      have hQe : Q = C := by omega
                      rw [hQe] at hrw ⊢
                      clear hQe hQC hQ
                      go_wp2
                      go_roundw
                      case rel => exact ⟨_, _, i + 1, by omega, rfl, by go_num, hrule2.out, hsw.out, hrw.out, hBw5.out⟩
                      case measure => simp [intOf]; omega
                    have hQI : (Q : Int) < C := by omega
                    have n0 := hnow.out.cell hQC
                    have n1 := (hrw.out fN cN hfC hcN).cell hQC
                    have n2 := (hrw.out fN cN hfC hcN).free Q
                    rw [rowN_at] at n1
                    have hsucc := newN_succ T fN cN now Q
                    cases hn1 : now Q with
                    | false =>
                      rw [hn1] at n0 hsucc
                      have hold := Lib.hid (rowN_old (T := T) (p := fN) (c := cN) (.inl hn1))
                      simp only [Bool.false_and, Bool.or_false] at hsucc
                      replace hsucc := Lib.hid hsucc
                      clear hn1
                      go_wp2
                      go_roundw
                      case rel => exact ⟨Q + 1, by omega, by go_num, by rw [hsucc.out], by show PRow _ _ _ _; rw [hold.out]; exact hrw.out, hsw.out, hnow.out, hBw5.out⟩
                      case measure => simp [intOf]; omega
                    | true =>
                      rw [hn1] at n0 hsucc
                      cases hT1 : T fN cN Q with
                      | true =>
                        rw [hT1] at n1 hsucc
                        have hold := Lib.hid (rowN_old (now := now) (.inr hT1))
                        simp only [Bool.not_true, Bool.and_false, Bool.or_false] at hsucc
                        replace hsucc := Lib.hid hsucc
                        clear hn1 hT1
                        go_wp2
                        go_roundw
                        case rel => exact ⟨Q + 1, by omega, by go_num, by rw [hsucc.out], by show PRow _ _ _ _; rw [hold.out]; exact hrw.out, hsw.out, hnow.out, hBw5.out⟩
                        case measure => simp [intOf]; omega
                      | false =>
                        rw [hT1] at n1 hsucc
                        have hnewr := Lib.hid (by have h1 := hrw.out.set hsep.out hfC hcN Q true; rw [rowN_new hn1] at h1; exact h1)
                        have hstn := Lib.hid (hsw.out.set hsep.out hfC hcN Q (.bool true))
                        have hnn := Lib.hid (hnow.out.far (p := ⟨h fN cN, Q, none⟩) (hgnh.out fN cN hfC hcN) (.bool true))
                        have hBn := Lib.hid (hBw5.out.setCell (p := ⟨h fN cN, Q, none⟩) (by rw [← hh]; exact hlo.out fN cN hfC hcN) (.bool true))
                        simp only [Bool.not_false, Bool.and_true, Bool.or_true] at hsucc
                        replace hsucc := Lib.hid hsucc
                        clear hn1 hT1
                        go_wp2
                        go_roundw
                        case rel => exact ⟨Q + 1, by omega, by go_num, by rw [hsucc.out]; simp, hnewr.out, hstn.out, hnn.out, hBn.out⟩
                        case measure => simp [intOf]; omega
              have hkI : (kk : Int) < pt.size := by omega
              have hchw := hword.out (ch pt kk) (List.mem_of_getElem? (cs_at hkl))
              have hche := ch_eq hkl
              obtain ⟨c2, hc2⟩ : ∃ m : Nat, (pt[kk].toNat : Int) - 97 = m := ⟨(pt[kk].toNat - 97 : Int).toNat, by omega⟩
              have hc25 : c2 < 5 := by omega
              have hcub := cub_of (off := 0) (cap := cap3) (by simpa using hlb) hmb (hst3.out.bx (xs := []) (BX.of_below hBw.out) (by simp) (by simp)) (hrow3.out.bx (xs := []) (BX.of_below hBw.out) (by simp))
              have hcall := Lib.hid (popped_any wr C c2 gn _ T _ (by omega) (by omega) hc25 hcub hNo.out)
              have hnext : ppw C T ((cs pt).take (kk + 1)) (at1 tN) = pp C T (ppw C T ((cs pt).take kk) (at1 tN)) c2 := by
                rw [List.take_add_one, cs_at hkl, Option.toList_some, ppw_append]
                show pp C T _ (ch pt kk - 97).toNat = _
                rw [hche, hc2]
                rfl
              replace hnext := Lib.hid hnext
              clear hcub hche hchw
              go_wp2_with (go_at_call 34; (try rw [hc2]); refine hcall.out.mono ?_; rintro e w5 ⟨g5, rfl, hg5, hN5, hb5⟩; have hN5 := Lib.hid hN5; have hb5 := Lib.hid hb5; have hg5 := Lib.hid hg5)
              go_roundw
              case rel => exact ⟨kk + 1, g5, by omega, by go_num, rfl, Nat.le_trans hBw.out.size hg5.out, by show Bl _ _ _ _; rw [hnext.out]; exact hN5.out, bthen hBw.out hb5.out⟩
              case measure => simp [intOf]; omega
    have hltI : (p : Int) < C := by omega
    go_wp2
    obtain ⟨V, hV⟩ : ∃ V, V = wr := ⟨_, rfl⟩
    subst hV
    go_loopw [5, 6] (fun c5 c6 wq => ∃ (c : Nat) (H' : Nat → Nat), c ≤ 5 ∧ c6 = .int .i64 (c : Int) ∧ Hid (∀ i, i < p * 5 → H' i = H i) ∧ Hid (OwnE (ElP C) 85 V.heap.size wq c5 ((List.range c).map fun c' => H' (p * 5 + c'))) ∧
      Hid (BB wq W.heap.size C (p * 5 + c) H') ∧ Hid (Below V.heap.size V wq)) (fun _ c6 _ => 5 - (intOf c6).toNat)
    case atStart => exact ⟨0, H, by omega, rfl, fun _ _ => rfl, OwnE.nil _ _ _, hB.out, Below.refl _ _⟩
    case round =>
      rename_i c5 c6 hd1
      obtain ⟨c, H', hc, rfl, hH, ho5, hB5, hBq⟩ := hrel
      obtain ⟨A5, n5, cap5, rfl, hn5⟩ := OwnE.shape ho5.out
      have q0 := cell_below s0 hBq.out
      have q1 := cell_below s1 hBq.out
      clear s0 s1
      by_cases hc5 : c < 5
      case neg =>
        have hge : ¬ (c : Int) < 5 := by omega
        obtain rfl : c = 5 := by omega
        obtain ⟨g5, cap5', cs5, e5, hg5, hk5, hl5, hm5⟩ := OwnE.top1 ho5.out (by simp)
        simp at e5
        obtain ⟨rfl, rfl, rfl⟩ := e5
        obtain ⟨b5, o5, e5, hat⟩ := Els.cell ho5.out.els (by simp)
        obtain ⟨rfl, rfl⟩ : g5 = b5 ∧ 0 = o5 := by simpa using e5
        have hat5 := Lib.hid (show ∀ c, c < 5 → wr.cell? ⟨g5, c, none⟩ = some (.slice (some ⟨H' (p * 5 + c), 0, none⟩) C C) from fun c hc => by
          have := hat c (by simpa using hc) 0 (.slice (some ⟨H' (p * 5 + c), 0, none⟩) C C) (by simp [ElP])
          simpa [ElP] using this)
        have hcap5 : 5 ≤ cap5 := by simpa using hl5
        have hzW := hBr.out.size
        have hzq := hBq.out.size
        have hRq := Lib.hid (hR.out.below hBq.out)
        have hoq := Lib.hid (ho.out.then hBq.out)
        replace hk5 := Lib.hid hk5
        clear hat e5 hl5 hge
        go_wp2_with (at_builtin; refine wpList_append_els (E := ElQ) _ rfl (.tmp 30) (.tmp 32) 83 rfl W.heap.size Tryd.underlying83 info116 rfl rfl (by decide) _ ((List.range p).map fun p' => (r p', k p')) rfl (hoq.out.then (below1 _ _)) _ rfl [(g5, cap5)] ?_ ?_ ?_ ?_)
        · exact els_one (E := ElQ) (x := (g5, cap5)) (Blk.new wr 116 _) rfl
        · simp; omega
        · simp; omega
        intro v2 w2 ho2 hb2 hg2 _
        obtain ⟨A6, n6, cap6, rfl, _⟩ := OwnE.shape ho2
        have hba := below1 wr (.cells #[.slice (some ⟨g5, 0, none⟩) 5 cap5] 116)
        have hoa := hoq.out.then hba
        have hBa := hB5.out.below hba
        have hRa := hRq.out.below hba
        have hka := hk5.out.below hba hk5.out.lt
        have hbx := BX.of_grown' hg2
        have hBn := Lib.hid (show BB w2 W.heap.size C ((p + 1) * 5) H' by
          rw [show (p + 1) * 5 = p * 5 + 5 by omega]
          exact hBa.bx hbx fun i hi hm => OwnE.ne_blk hoa (hBa.1 i hi).2 (by decide) (by simpa using hm))
        have hg5x : g5 ∉ (Value.slice A3 n3 cap3).ownBlock.toList := fun hm => OwnE.ne_blk hoa hka (by decide) (by simpa using hm)
        have hRn := Lib.hid (show RS w2 W.heap.size C (p + 1) (updH1 r p g5) (updH1 k p cap5) H' from fun p' hp' => by
          unfold updH1
          by_cases he : p' = p
          · subst he
            rw [if_pos rfl, if_pos rfl]
            exact ⟨by omega, ⟨_, hka.bx hbx hg5x⟩, hcap5, hm5, fun c hc => hbx.cell (cell_below (hat5.out c hc) hba) hg5x⟩
          · rw [if_neg he, if_neg he]
            have hpp : p' < p := by omega
            obtain ⟨h1, ⟨cs, h2⟩, h3, h4, h5⟩ := hRa p' hpp
            have hx : r p' ∉ (Value.slice A3 n3 cap3).ownBlock.toList := fun hm => OwnE.ne_blk hoa h2 (by decide) (by simpa using hm)
            refine ⟨h1, ⟨cs, h2.bx hbx hx⟩, h3, h4, fun c hc => ?_⟩
            rw [hH.out (p' * 5 + c) (by omega)]
            exact hbx.cell (h5 c hc) hx)
        have hon := Lib.hid (show OwnE ElQ 116 W.heap.size w2 (.slice A6 n6 cap6) ((List.range (p + 1)).map fun p' => (updH1 r p g5 p', updH1 k p cap5 p')) by
          rw [range_push (f := fun p' => (r p', k p')) (x := (g5, cap5)) (fun i hi => by unfold updH1; rw [if_neg (by omega), if_neg (by omega)]) (by unfold updH1; rw [if_pos rfl, if_pos rfl])]
          exact ho2)
        have hBrn := Lib.hid (hBr.out.trans (((hBq.out.mono hzW).trans (hba.mono (by omega))).trans hb2))
        clear hBa hoa hRa hka hbx hg2 ho2 hb2 hba hg5x
        (try go_frame)
        go_wp2
        go_roundw
        case rel => exact ⟨p + 1, _, _, H', by omega, by go_num, hon.out, hRn.out, hBn.out, hBrn.out⟩
        case measure => simp [intOf]; omega
      have hcI : (c : Int) < 5 := by omega
      have hzq := hBq.out.size
      go_wp2_with (first
        | (at_make; refine wpList_make_bools rfl _ _ 85 rfl Tryd.underlying85 info4 C rfl rfl (by omega) (by omega) ?_; intro w1 hN hb1; have hN := Lib.hid hN; have hb1 := Lib.hid hb1)
        | (at_builtin; refine wpList_append_els (E := ElP C) _ rfl (.tmp 24) (.tmp 28) 116 rfl V.heap.size Tryd.underlying116 info85 rfl rfl (by decide) _ ((List.range c).map fun c' => H' (p * 5 + c')) rfl ((ho5.out.then hb1.out).then (below1 _ _)) _ rfl [wr.heap.size] ?_ ?_ ?_ ?_))
      · exact els_one (E := ElP C) (x := wr.heap.size) (Blk.new w1 85 _) rfl
      · simp; omega
      · have := hb1.out.size
        simp; omega
      intro v2 w2 ho2 hb2 hg2 _
      obtain ⟨A6, n6, cap6, rfl, _⟩ := OwnE.shape ho2
      have hzW := hBr.out.size
      have hBa := ((hB5.out.below hb1.out).push hN.out (by omega) (fun i hi => (hB5.out.1 i hi).2.lt)).below (below1 w1 (.cells #[.slice (some ⟨wr.heap.size, 0, none⟩) C C] 85))
      have hoa := (ho5.out.then hb1.out).then (below1 w1 (.cells #[.slice (some ⟨wr.heap.size, 0, none⟩) C C] 85))
      have hBn := Lib.hid (hBa.bx (BX.of_grown' hg2) fun i hi hm => OwnE.ne_blk hoa (hBa.1 i hi).2 (by decide) (by simpa using hm))
      have hHn := Lib.hid (show ∀ i, i < p * 5 → updH1 H' (p * 5 + c) wr.heap.size i = H i from fun i hi => by unfold updH1; rw [if_neg (by omega)]; exact hH.out i hi)
      have hol := Lib.hid (show OwnE (ElP C) 85 V.heap.size w2 (.slice A6 n6 cap6) ((List.range (c + 1)).map fun c' => updH1 H' (p * 5 + c) wr.heap.size (p * 5 + c')) by
        rw [range_push (f := fun c' => H' (p * 5 + c')) (x := wr.heap.size) (fun i hi => by unfold updH1; rw [if_neg (by omega)]) (by unfold updH1; rw [if_pos rfl])]
        exact ho2)
      have hBqn := Lib.hid (hBq.out.trans (((bthen hb1.out (below1 _ _)).mono hzq).trans hb2))
      clear hBa hoa hg2 ho2 hb2
      (try go_frame)
      go_wp2
      go_roundw
      case rel => exact ⟨c + 1, _, by omega, by go_num, hHn.out, hol.out, hBn.out, hBqn.out⟩
      case measure => simp [intOf]; omega
end Go.Proofs.YtaapnflhjbdmlaaDoor
