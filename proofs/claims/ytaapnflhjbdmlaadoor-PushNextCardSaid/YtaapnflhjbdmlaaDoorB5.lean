/- The specification's Endless: the walk. No condition. -/
import Derived.Test.YtaapnflhjbdmlaaDoorB4
import Derived.Test.YtaapnflhjbdmlaaDoorB6
namespace Go.Proofs.YtaapnflhjbdmlaaDoor
open Go.RowKit Go.Shelf
attribute [local go_sem] Oper.semAt_some

/-- every cell stays -/
def KeepC (w w' : World) : Prop := ∀ p cv, w.cell? p = some cv → w'.cell? p = some cv
theorem KeepC.below {w w' : World} (h : Below w.heap.size w w') : KeepC w w' := fun _ _ hc => cell_below hc h
theorem KeepC.trans {a b c : World} (h : KeepC a b) (h2 : KeepC b c) : KeepC a c := fun p cv hc => h2 p cv (h p cv hc)
theorem KeepC.bx {w w' : World} {xs : List Nat} (h : BX xs w w') (hx : ∀ x ∈ xs, w.heap.size ≤ x) : KeepC w w' := fun p cv hc => h.cell hc fun hm => by have := lt_of_cell hc; have := hx _ hm; omega
theorem Cub.keep {w w' : World} {v : Value} {n : Nat} {T : Nat → Nat → Nat → Bool} (h : Cub w v n T) (hb : KeepC w w') : Cub w' v n T := by
  obtain ⟨b, off, cap, rfl, h1, h2, r, o, k, g, h3, h4, h5⟩ := h
  refine ⟨b, off, cap, rfl, h1, h2, r, o, k, g, fun p hp => ?_, fun p c hp hc => hb _ _ (h4 p c hp hc), fun p c q hp hc hq => hb _ _ (h5 p c q hp hc hq)⟩
  obtain ⟨h6, h7, h8⟩ := h3 p hp
  exact ⟨h6, h7, hb _ _ h8⟩
theorem Els.keep {α : Type} {E : El α} {w w' : World} {v : Value} {l : List α} (h : Els E w v l) (hb : KeepC w w') : Els E w' v l := by
  obtain ⟨A, cap, rfl, h1, h2, h3, h4⟩ := h
  refine ⟨A, cap, rfl, h1, h2, h3, fun i hi => ?_⟩
  obtain ⟨b, off, hA, hc⟩ := h4 i hi
  exact ⟨b, off, hA, fun j u hu => hb _ _ (hc j u hu)⟩
/-- a table of N rows of N, in one row -/
def Bt (w : World) (g N : Nat) (L : Nat → Nat → Bool) : Prop := Bl w g (N * N) (fun z => L (z / N) (z % N))
theorem Bt.at {w : World} {g N : Nat} {L : Nat → Nat → Bool} (h : Bt w g N L) {F b z : Nat} (hF : F < N) (hb : b < N) (hz : z = F * N + b) : w.cell? ⟨g, z, none⟩ = some (.bool (L F b)) := by
  have h1 := Bl.cell h (i := z) (by rw [hz]; exact idx_in hF hb)
  obtain ⟨e1, e2⟩ := (zdm hb).1 hz
  rwa [e1, e2] at h1
theorem Bt.set {w : World} {g N : Nat} {L : Nat → Nat → Bool} (h : Bt w g N L) {F b z : Nat} (hb : b < N) (hz : z = F * N + b) (v : Bool) : Bt (w.setCell ⟨g, z, none⟩ (.bool v)) g N (upd2 L F b v) := by
  refine (Bl.set h (i := z) v).congr fun j _ => ?_
  unfold upd2
  rw [hz]
  by_cases hj : j = F * N + b
  · rw [if_pos hj, if_pos ((zdm hb).1 hj)]
  · rw [if_neg hj, if_neg (fun e => hj ((zdm hb).2 e))]
theorem Bt.congr {w : World} {g N : Nat} {L L' : Nat → Nat → Bool} (h : Bt w g N L) (he : ∀ i j, i < N → j < N → L i j = L' i j) : Bt w g N L' :=
  Bl.congr h fun z hz => he _ _ (Nat.div_lt_of_lt_mul hz) (Nat.mod_lt _ (Nat.pos_of_ne_zero fun h0 => by subst h0; omega))
theorem Bt.bx {w w' : World} {g N : Nat} {L : Nat → Nat → Bool} {xs : List Nat} (h : Bt w g N L) (hb : BX xs w w') (hx : g ∉ xs) : Bt w' g N L := Blk.bx h hb hx
theorem Bt.below {w w' : World} {g N : Nat} {L : Nat → Nat → Bool} (h : Bt w g N L) (hb : Below w.heap.size w w') : Bt w' g N L := Blk.below h hb (Blk.lt h)
theorem BX.old {w w' : World} {x : Nat} (h : BX [x] w w') (hx : w.heap.size ≤ x) : KeepC w w' := KeepC.bx h fun y hy => by
  simp only [List.mem_cons, List.mem_nil_iff, or_false] at hy
  omega
/-- the product of two small numbers, as it is read -/
theorem prod_fact {F N b : Nat} (hF : F < N) (hb : b < N) (hN : N ≤ 25) : 0 ≤ (F : Int) * (N : Int) ∧ (F : Int) * (N : Int) ≤ 600 ∧ (F : Int) * (N : Int) + (b : Int) < ((N * N : Nat) : Int) ∧ ((F : Int) * (N : Int) + (b : Int)).toNat = F * N + b := by
  have h1 := idx_in hF hb
  have h2 : F * N ≤ 24 * 25 := Nat.mul_le_mul (by omega) hN
  have e : (F : Int) * (N : Int) = ((F * N : Nat) : Int) := (Int.natCast_mul F N).symm
  rw [e]
  refine ⟨by omega, by omega, by omega, by omega⟩

theorem endlessB_iff {l : List RuleB} {x : Int} {s : ByteArray} : endlessB l x s = true ↔ EndlessP (l.map RuleB.plain) x (cs s) := by
  unfold endlessB
  simp

set_option maxRecDepth 8000 in
set_option maxHeartbeats 8000000 in
theorem EndlessR_any (w : World) (C x : Nat) (v : Value) (l : List RuleB) (s : ByteArray) (h : Rls w v l) (hsys : sysB C l = true) (hp : properB C ⟨x, s⟩ = true) :
    Calls Tryd.prog 18 #[sv C v, cv ⟨x, s⟩] w fun e w' => e = .returned (.bool (endlessB l x s)) ∧ Below w.heap.size w w' := by
  obtain ⟨A, n, cap, rfl, hn⟩ := Els.shape h
  obtain ⟨hC1, hC5, hl30, _⟩ := sysB_iff.1 hsys
  obtain ⟨W, hW⟩ : ∃ W, (w.alloc (.cells #[.int .i64 C, .slice A n cap] 24)).alloc (.cells #[.int .i64 x, .string s] 26) = W := ⟨_, rfl⟩
  have hBW : Below w.heap.size w W := by rw [← hW]; exact bthen (below1 _ _) (below1 _ _)
  have kS : Blk W w.heap.size 24 #[.int .i64 C, .slice A n cap] := by rw [← hW]; exact (Blk.new w 24 _).alloc _
  have kc : Blk W (w.heap.size + 1) 26 #[.int .i64 x, .string s] := by rw [← hW]; have := Blk.new (w.alloc (.cells #[.int .i64 C, .slice A n cap] 24)) 26 #[.int .i64 x, .string s]; rw [alloc_size] at this; exact this
  have hrW := Lib.hid (show Rls W (.slice A n cap) l from Els.then h hBW)
  have c0 : W.cell? ⟨w.heap.size, 0, none⟩ = some (.int .i64 C) := kS.cell 0
  have c1 : W.cell? ⟨w.heap.size, 1, none⟩ = some (.slice A n cap) := kS.cell 1
  have hpops := Lib.hid (Pops_any W C (.slice A n cap) l hrW.out hsys)
  replace kS := Lib.hid kS
  replace kc := Lib.hid kc
  replace hBW := Lib.hid hBW
  replace hsys := Lib.hid hsys
  replace hp := Lib.hid hp
  clear h
  go_enter Tryd.func18, Tryd.ntmps18
  have hC1' : 1 ≤ C := by omega
  obtain ⟨N, hN⟩ : ∃ N : Nat, C * 5 = N := ⟨_, rfl⟩
  have hNI : (C : Int) * 5 = (N : Int) := by omega
  obtain ⟨M, hM⟩ : ∃ M : Nat, N * N = M := ⟨_, rfl⟩
  have hNN : 1 ≤ M ∧ M ≤ 625 ∧ wrap64 ((N : Int) * (N : Int)) = (M : Int) := by
    have : C = 1 ∨ C = 2 ∨ C = 3 ∨ C = 4 ∨ C = 5 := by omega
    rw [← hM, ← hN]
    rcases this with rfl | rfl | rfl | rfl | rfl <;> decide +kernel
  replace hM := Lib.hid hM
  replace hN := Lib.hid hN
  go_upto_region 4 with (first | (at_make; refine wpList_make_bools rfl _ _ 85 rfl Tryd.underlying85 info4 M (show Value.int .i64 (wrap64 ((N : Int) * (N : Int))) = .int .i64 (M : Int) by rw [hNN.2.2]) (show Value.int .i64 (wrap64 ((N : Int) * (N : Int))) = .int .i64 (M : Int) by rw [hNN.2.2]) hNN.1 (by omega) ?_; intro w2 hL0 hb2; have hL0 := Lib.hid hL0; have hb2 := Lib.hid hb2) | (go_at_call 33; refine hpops.out.mono ?_; clear hpops; rintro e w1 ⟨v1, rfl, T, hT, hPT, hb1⟩; replace c0 := cell_below c0 hb1; clear c1; have hT := Lib.hid hT; have hPT := Lib.hid hPT; have hb1 := Lib.hid hb1))
  obtain ⟨gL, hgL⟩ : ∃ gL, w1.heap.size = gL := ⟨_, rfl⟩
  rw [hgL] at hL0 ⊢
  have hN25 : N ≤ 25 := by have := hN.out; omega
  have hMe := hM.out
  have hL0' := Lib.hid (show Bt w2 gL N (fun a b => Lk (l.map RuleB.plain) C T 0 0 0 a b) from by
    show Bl w2 gL (N * N) _
    rw [hMe]
    exact hL0.out.congr fun z _ => (Lk_zero _ _).symm)
  clear hMe hL0
  have hkw := Lib.hid (show ∀ wr, BX [gL] w2 wr → KeepC w1 wr from fun wr hx => KeepC.bx ((BX.of_below (xs := [gL]) hb2.out).trans hx) fun x hm => by
    simp only [List.mem_cons, List.mem_nil_iff, or_false] at hm
    omega)
  have hrw1 := Lib.hid (hrW.out.then hb1.out)
  have hgLs := Lib.hid (show w1.heap.size ≤ gL from Nat.le_of_eq hgL)
  clear hgL
  have hln := hn.out
  have hlI := Lib.hid hln
  clear hln
  go_wp2
  go_loopw [8] (fun c8 wr => ∃ i : Nat, i ≤ n ∧ c8 = .int .i64 (i : Int) ∧ Hid (Bt wr gL N (Lk (l.map RuleB.plain) C T i 0 0)) ∧ Hid (BX [gL] w2 wr)) (fun c8 _ => n - (intOf c8).toNat)
  case atStart => exact ⟨0, Nat.zero_le _, rfl, hL0'.out, BX.refl _ _⟩
  case round =>
    obtain ⟨i, hi, rfl, hLr, hxr⟩ := hrel
    have hk1 := hkw.out _ hxr.out
    have s0 := hk1 _ _ c0
    have s1 : wr.cell? ⟨w.heap.size, 1, none⟩ = some (.slice A n cap) := hk1 _ _ (cell_below (kS.out.cell 1) hb1.out)
    by_cases hlt : i < n
    case neg =>
      have hge : ¬ (i : Int) < n := by omega
      have hin : i = (l.map RuleB.plain).length := by rw [List.length_map, ← hlI.out]; omega
      have hFT := Lib.hid (ftab_of (L := Lk (l.map RuleB.plain) C T i 0 0) (rulesOk_of hsys.out) (rulesIn_of hsys.out).2 hPT.out fun a b _ _ => by rw [hin]; exact Lk_all a b)
      clear hin
      generalize Lk (l.map RuleB.plain) C T i 0 0 = L0 at *
      clear hlt hi
      clear s0 hk1
      go_wp2
      clear s1 hge
      go_loopw [15] (fun c15 wq => ∃ K : Nat, K ≤ N ∧ c15 = .int .i64 (K : Int) ∧ Hid (Bt wq gL N (war N L0 K)) ∧ Hid (BX [gL] w2 wq)) (fun c15 _ => N - (intOf c15).toNat)
      case atStart => exact ⟨0, Nat.zero_le _, rfl, hLr.out, hxr.out⟩
      case round =>
        obtain ⟨K, hK, rfl, hLk, hxk⟩ := hrel
        by_cases hKN : K < N
        case neg =>
          have hge : ¬ (K : Int) < N := by omega
          have hKe : K = N := by omega
          rw [hKe] at hLk
          have hET := Lib.hid (fun hxC hw => endless_tab (rulesOk_of hsys.out) (rulesIn_of hsys.out).2 hPT.out hFT.out (p := x) hxC (w := cs s) hw)
          rw [hN.out] at hET
          generalize war N L0 N = WL at *
          clear hKe hKN hK hFT
          obtain ⟨hx0, hxC', hw, hss⟩ := properB_iff.1 hp.out
          have hxC : x < C := by simpa using hxC'
          have hET2 := Lib.hid (show (∃ k q j, k < (cs s).length ∧ q < C ∧ j < N ∧ FndE C T WL x (cs s) k q j) ↔ EndlessP (l.map RuleB.plain) x (cs s) from hET.out hxC hw)
          clear hET hx0 hxC'
          replace hw := Lib.hid hw
          replace hss : s.size ≤ 20 := hss
          have k1 := hkw.out _ hxk.out
          have s0 := k1 _ _ c0
          have t0 : wr.cell? ⟨w.heap.size + 1, 0, none⟩ = some (.int .i64 x) := k1 _ _ (cell_below (kc.out.cell 0) hb1.out)
          have t1 : wr.cell? ⟨w.heap.size + 1, 1, none⟩ = some (.string s) := k1 _ _ (cell_below (kc.out.cell 1) hb1.out)
          have hcub := Lib.hid (hT.out.keep k1)
          replace t1 := Lib.hid t1
          clear k1
          go_upto_region 33 with (at_make; refine wpList_make_bools rfl _ _ 85 rfl Tryd.underlying85 info4 C rfl rfl (by omega) (by omega) ?_; intro w3 hN3 hb3; replace t0 := cell_below t0 hb3; have a4 := hN3.cell hxC; have a5 := hN3.free x; have htI : (x : Int) < C := (by omega); have hN3 := Lib.hid hN3; have hb3 := Lib.hid hb3)
          obtain ⟨V3, hV3⟩ : ∃ V3, w3.setCell ⟨wr.heap.size, x, none⟩ (.bool true) = V3 := ⟨_, rfl⟩
          rw [hV3]
          have hbV := Lib.hid (show Below wr.heap.size wr V3 by rw [← hV3]; exact hb3.out.setCell (Nat.le_refl _) _)
          have hNow := Lib.hid (show Bl V3 wr.heap.size C (at1 x) by
            rw [← hV3]
            exact (hN3.out.set (i := x) true).congr fun j _ => by unfold at1; by_cases hj : j = x <;> simp [hj])
          have hLV := Lib.hid (hLk.out.below hbV.out)
          have hcV := Lib.hid (hcub.out.below hbV.out)
          have v0 := cell_below s0 hbV.out
          have v1' := cell_below t1.out hbV.out
          have hwV := Lib.hid (show Below w.heap.size w V3 from by
            have a1 := bthen hBW.out hb1.out
            have a2 := bthen a1 hb2.out
            have a3 := hxk.out.below (B := w.heap.size) (by have := hb2.out.size; have := a1.size; omega) (by
              intro y hy
              simp only [List.mem_cons, List.mem_nil_iff, or_false] at hy
              have := hgLs.out
              have := a1.size
              omega)
            exact bthen (a2.trans a3) hbV.out)
          clear hV3 hN3 hb3 a4 a5 t0 t1 s0 hcub hLk hbV
          replace v0 := Lib.hid v0
          replace v1' := Lib.hid v1'
          go_wp2
          go_loopw [18, 19] (fun c18 c19 wq => ∃ kk gn : Nat, kk ≤ s.size ∧ c19 = .int .i64 (kk : Int) ∧ c18 = .slice (some ⟨gn, 0, none⟩) C C ∧ Hid (Bl wq gn C (ppw C T ((cs s).take kk) (at1 x))) ∧ Hid (NoF C N T WL x (cs s) kk 0 0) ∧ Hid (Below V3.heap.size V3 wq)) (fun _ c19 _ => s.size - (intOf c19).toNat)
          case atStart => exact ⟨0, _, Nat.zero_le _, rfl, rfl, hNow.out, NoF.begin, Below.refl _ _⟩
          case round =>
            obtain ⟨kk, gn, hkk, rfl, rfl, hNo, hno, hbq⟩ := hrel
            have y1 := cell_below v1'.out hbq.out
            by_cases hkl : kk < s.size
            case neg =>
              have hge2 : ¬ (kk : Int) < s.size := by omega
              have hans := Lib.hid (show endlessB l x s = false from by
                unfold endlessB
                rw [decide_eq_false_iff_not]
                intro h
                obtain ⟨k, q, j, h1, h2, h3, h4⟩ := hET2.out.2 h
                exact hno.out k q j h1 h2 h3 (.inl (by rw [cs_length] at h1; omega)) h4)
              go_wp2
              go_ret
              exact ⟨(by rw [hans.out]; rfl), bthen hwV.out hbq.out⟩
            have hkI : (kk : Int) < s.size := by omega
            have hchw := hw.out (ch s kk) (List.mem_of_getElem? (cs_at hkl))
            have hche := ch_eq hkl
            obtain ⟨c2, hc2⟩ : ∃ m : Nat, (s[kk].toNat : Int) - 97 = m := ⟨(s[kk].toNat - 97 : Int).toNat, by omega⟩
            have hc25 : c2 < 5 := by omega
            have hnext := Lib.hid (show ppw C T ((cs s).take (kk + 1)) (at1 x) = pp C T (ppw C T ((cs s).take kk) (at1 x)) c2 by
              rw [List.take_add_one, cs_at hkl, Option.toList_some, ppw_append]
              show pp C T _ (ch s kk - 97).toNat = _
              rw [hche, hc2]
              rfl)
            have hput := Lib.hid (show ((cs s).getD kk 0 - 97).toNat = c2 from by
              rw [List.getD_eq_getElem?_getD, cs_at hkl, Option.getD_some, hche, hc2]
              rfl)
            obtain ⟨now, hnow⟩ : ∃ now, ppw C T ((cs s).take kk) (at1 x) = now := ⟨_, rfl⟩
            rw [hnow] at hNo hnext
            have hhead := Lib.hid (show ∀ q, headB C T x (cs s) kk q = now q from fun q => by rw [← hnow]; rfl)
            replace hnow := Lib.hid hnow
            replace hche := Lib.hid hche
            go_upto_region 37 with (fail)
            (try rw [hc2])
            clear hche hchw y1
            replace hc2 := Lib.hid hc2
            obtain ⟨V, hV⟩ : ∃ V, V = wr := ⟨_, rfl⟩
            subst hV
            go_wp2
            go_loopw [21] (fun c21 wq => ∃ Q : Nat, Q ≤ C ∧ c21 = .int .i64 (Q : Int) ∧ Hid (NoF C N T WL x (cs s) kk Q 0) ∧ Hid (Below V.heap.size V wq)) (fun c21 _ => C - (intOf c21).toNat)
            case atStart => exact ⟨0, Nat.zero_le _, rfl, hno.out, Below.refl _ _⟩
            case round =>
              obtain ⟨Q, hQ, rfl, hnq, hbs⟩ := hrel
              have hbV := Lib.hid (bthen hbq.out hbs.out)
              have y0 := cell_below v0.out hbV.out
              have hBn := Lib.hid (Blk.below hNo.out hbs.out (Blk.lt hNo.out))
              by_cases hQC : Q < C
              case neg =>
                have hge : ¬ (Q : Int) < C := by omega
                have hQe : Q = C := by omega
                have hnew := Lib.hid (show NoF C N T WL x (cs s) (kk + 1) 0 0 from by
                  have := hnq.out
                  rw [hQe] at this
                  exact this.letter)
                have hcall := Lib.hid (popped_any wr C c2 gn _ T now (by omega) (by omega) hc25 (hcV.out.below hbV.out) hBn.out)
                clear hQe hQC hQ
                go_wp2_with (go_at_call 34; refine hcall.out.mono ?_; rintro e w5 ⟨g5, rfl, hg5, hN5, hb5⟩; have hN5 := Lib.hid hN5; have hb5 := Lib.hid hb5; have hg5 := Lib.hid hg5)
                go_roundw
                case rel => exact ⟨kk + 1, g5, by omega, by go_num, rfl, by show Bl _ _ _ _; rw [hnext.out]; exact hN5.out, hnew.out, bthen hbV.out hb5.out⟩
                case measure => simp [intOf]; omega
              have hQI : (Q : Int) < C := by omega
              have n0 := Bl.cell hBn.out hQC
              obtain ⟨F, hF⟩ : ∃ F : Nat, Q * 5 + c2 = F := ⟨_, rfl⟩
              have hFI : (Q : Int) * 5 + c2 = (F : Int) := by omega
              have hFN : F < N := by have := hN.out; omega
              have hfnd := Lib.hid (show ∀ j, FndE C T WL x (cs s) kk Q j ↔ now Q = true ∧ WL j j = true ∧ (j = F ∨ WL F j = true) from fun j => by
                unfold FndE
                rw [hhead.out, hput.out, hF])
              go_upto_region 41 with (fail)
              (try rw [hFI])
              clear hF hFI y0
              replace n0 := Lib.hid n0
              obtain ⟨V4, hV4⟩ : ∃ V4, V4 = wr := ⟨_, rfl⟩
              subst hV4
              go_wp2
              go_loopw [23] (fun c23 wq => ∃ J : Nat, J ≤ N ∧ c23 = .int .i64 (J : Int) ∧ Hid (J = 0 ∨ now Q = true) ∧ Hid (NoF C N T WL x (cs s) kk Q J) ∧ Hid (Below V4.heap.size V4 wq)) (fun c23 _ => N - (intOf c23).toNat)
              case atStart => exact ⟨0, Nat.zero_le _, rfl, .inl rfl, hnq.out, Below.refl _ _⟩
              case round =>
                obtain ⟨J, hJ, rfl, hJ0, hnj, hbj⟩ := hrel
                have m0 := cell_below n0.out hbj.out
                have hbW := Lib.hid (bthen hbs.out hbj.out)
                have hLw := Lib.hid (hLV.out.below (bthen hbq.out hbW.out))
                have hwW := Lib.hid (bthen hwV.out (bthen hbq.out hbW.out))
                by_cases hJN : J < N
                case neg =>
                  have hge : ¬ (J : Int) < N := by omega
                  have hnew := Lib.hid (show NoF C N T WL x (cs s) kk (Q + 1) 0 from by
                    have := hnj.out
                    rw [show J = N by omega] at this
                    exact this.control)
                  go_wp2
                  go_roundw
                  case rel => exact ⟨Q + 1, by omega, by go_num, hnew.out, hbW.out⟩
                  case measure => simp [intOf]; omega
                have hJI : (J : Int) < N := by omega
                cases hn1 : now Q with
                | false =>
                  rw [hn1] at m0
                  have hnew := Lib.hid (show NoF C N T WL x (cs s) kk (Q + 1) 0 from hnj.out.none (by rw [hhead.out, hn1]))
                  clear hn1
                  go_wp2
                  go_roundw
                  case rel => exact ⟨Q + 1, by omega, by go_num, hnew.out, hbW.out⟩
                  case measure => simp [intOf]; omega
                | true =>
                  rw [hn1] at m0
                  have hn1h := Lib.hid hn1
                  obtain ⟨q1, q2, q3, q4⟩ := prod_fact hJN hJN hN25
                  obtain ⟨r1, r2, r3, r4⟩ := prod_fact hFN hJN hN25
                  rw [hM.out] at q3 r3
                  have q5 : 0 ≤ (J : Int) * (N : Int) + (J : Int) := by omega
                  have r5 : 0 ≤ (F : Int) * (N : Int) + (J : Int) := by omega
                  have e2 := hLw.out.at hJN hJN (z := J * N + J) rfl
                  have e3 := hLw.out.at hFN hJN (z := F * N + J) rfl
                  clear hn1
                  cases ha : WL J J with
                  | false =>
                    rw [ha] at e2
                    have hnew := Lib.hid (show NoF C N T WL x (cs s) kk Q (J + 1) from hnj.out.place fun hf => by
                      have := ((hfnd.out J).1 hf).2.1
                      rw [ha] at this
                      cases this)
                    clear ha
                    go_wp2
                    go_roundw
                    case rel => exact ⟨J + 1, by omega, by go_num, (by first | exact .inr hn1h.out | exact .inr trivial | exact .inr rfl), hnew.out, hbj.out⟩
                    case measure => simp [intOf]; omega
                  | true =>
                    rw [ha] at e2
                    have hah := Lib.hid ha
                    clear ha
                    have hyes := Lib.hid (show (J = F ∨ WL F J = true) → endlessB l x s = true from fun h => by
                      refine endlessB_iff.2 (hET2.out.1 ⟨kk, Q, J, by rw [cs_length]; exact hkl, hQC, hJN, (hfnd.out J).2 ⟨hn1h.out, hah.out, h⟩⟩))
                    by_cases hJF : J = F
                    · have hans := Lib.hid (hyes.out (.inl hJF))
                      subst hJF
                      go_wp2
                      go_ret
                      exact ⟨(by rw [hans.out]; rfl), hwW.out⟩
                    · have hJFI : ¬ (J : Int) = F := by omega
                      cases hb : WL F J with
                      | true =>
                        rw [hb] at e3
                        have hans := Lib.hid (hyes.out (.inr hb))
                        clear hb
                        go_wp2
                        go_ret
                        exact ⟨(by rw [hans.out]; rfl), hwW.out⟩
                      | false =>
                        rw [hb] at e3
                        have hnew := Lib.hid (show NoF C N T WL x (cs s) kk Q (J + 1) from hnj.out.place fun hf => by
                          rcases ((hfnd.out J).1 hf).2.2 with h | h
                          · exact hJF h
                          · rw [hb] at h; cases h)
                        clear hb hJF
                        go_wp2
                        go_roundw
                        case rel => exact ⟨J + 1, by omega, by go_num, (by first | exact .inr hn1h.out | exact .inr trivial | exact .inr rfl), hnew.out, hbj.out⟩
                        case measure => simp [intOf]; omega
        have hKI : (K : Int) < N := by omega
        have hwS := Lib.hid (show war N L0 (K + 1) = pv (war N L0 K) K N from rfl)
        generalize war N L0 K = LK at *
        go_wp2
        go_loopw [16] (fun c16 wq => ∃ I : Nat, I ≤ N ∧ c16 = .int .i64 (I : Int) ∧ Hid (Bt wq gL N (pv LK K I)) ∧ Hid (BX [gL] w2 wq)) (fun c16 _ => N - (intOf c16).toNat)
        case atStart => exact ⟨0, Nat.zero_le _, rfl, by show Bt _ _ _ _; rw [pv_zero]; exact hLk.out, hxk.out⟩
        case round =>
          obtain ⟨I, hI, rfl, hLi, hxi⟩ := hrel
          by_cases hIN : I < N
          case neg =>
            have hge : ¬ (I : Int) < N := by omega
            have hIe : I = N := by omega
            rw [hIe] at hLi
            clear hIe hIN hI
            go_wp2
            go_roundw
            case rel => exact ⟨K + 1, by omega, by go_num, by show Bt _ _ _ _; rw [hwS.out]; exact hLi.out, hxi.out⟩
            case measure => simp [intOf]; omega
          have hII : (I : Int) < N := by omega
          have hnone := Lib.hid (fun (h : pv LK K I I K = false) => pv_none h)
          have hrow := Lib.hid (fun (h : pv LK K I I K = true) (i j : Nat) (hj : j < N) => pv_row h (i := i) hj)
          generalize pv LK K I = Lp at *
          go_wp2
          go_loopw [17] (fun c17 wq => ∃ J : Nat, J ≤ N ∧ c17 = .int .i64 (J : Int) ∧ Hid (J = 0 ∨ Lp I K = true) ∧ Hid (Bt wq gL N (rowJ Lp K I J)) ∧ Hid (BX [gL] w2 wq)) (fun c17 _ => N - (intOf c17).toNat)
          case atStart => exact ⟨0, Nat.zero_le _, rfl, .inl rfl, by show Bt _ _ _ _; rw [rowJ_zero]; exact hLi.out, hxi.out⟩
          case round =>
            obtain ⟨J, hJ, rfl, hJ0, hLj, hxj⟩ := hrel
            obtain ⟨p1, p2, p3, p4⟩ := prod_fact hIN hKN hN25
            rw [hM.out] at p3
            have p5 : 0 ≤ (I : Int) * (N : Int) + (K : Int) := by omega
            have e1 := hLj.out.at hIN hKN (z := I * N + K) rfl
            rw [rowJ_col hJ0.out] at e1
            by_cases hJN : J < N
            case neg =>
              have hge : ¬ (J : Int) < N := by omega
              have hJe : J = N := by omega
              have hnew := Lib.hid (show Bt wr gL N (pv LK K (I + 1)) from by
                refine hLj.out.congr fun i j _ hj => ?_
                rw [hJe]
                exact hrow.out (hJ0.out.resolve_left (by omega)) i j hj)
              clear hJe hJN hJ
              go_wp2
              go_roundw
              case rel => exact ⟨I + 1, by omega, by go_num, hnew.out, hxj.out⟩
              case measure => simp [intOf]; omega
            have hJI : (J : Int) < N := by omega
            cases hv : Lp I K with
            | false =>
              rw [hv] at e1
              have hJe : J = 0 := hJ0.out.resolve_right (by rw [hv]; simp)
              have hnew := Lib.hid (show Bt wr gL N (pv LK K (I + 1)) from by
                rw [← hnone.out hv]
                have := hLj.out
                rw [hJe, rowJ_zero] at this
                exact this)
              replace hJe := Lib.hid hJe
              clear hv
              go_wp2
              go_roundw
              case rel => exact ⟨I + 1, by omega, by go_num, hnew.out, hxj.out⟩
              case measure => simp [intOf]; omega
            | true =>
              rw [hv] at e1
              obtain ⟨q1, q2, q3, q4⟩ := prod_fact hIN hJN hN25
              obtain ⟨r1, r2, r3, r4⟩ := prod_fact hKN hJN hN25
              rw [hM.out] at q3 r3
              have q5 : 0 ≤ (I : Int) * (N : Int) + (J : Int) := by omega
              have r5 : 0 ≤ (K : Int) * (N : Int) + (J : Int) := by omega
              have e2 := hLj.out.at hIN hJN (z := I * N + J) rfl
              have e3 := hLj.out.at hKN hJN (z := K * N + J) rfl
              have hfr := Blk.free hLj.out (I * N + J)
              rw [rowJ_here] at e2
              rw [rowJ_pivot] at e3
              have hset := Lib.hid (fun v => hLj.out.set hJN (F := I) (z := I * N + J) rfl v)
              have hsucc := Lib.hid (rowJ_succ Lp K I J)
              have hvh := Lib.hid hv
              have hxn := Lib.hid (fun v => hxj.out.set (p := ⟨gL, I * N + J, none⟩) (by simp) (.bool v))
              clear hv
              cases ha : Lp I J with
              | true =>
                rw [ha] at e2 hsucc
                clear ha
                have hnew := Lib.hid (show Bt (wr.setCell ⟨gL, I * N + J, none⟩ (.bool true)) gL N (rowJ Lp K I (J + 1)) from by rw [← hsucc.out]; exact hset.out true)
                go_wp2
                go_roundw
                case rel => exact ⟨J + 1, by omega, by go_num, (by first | exact .inr hvh.out | exact .inr trivial | exact .inr rfl), hnew.out, hxn.out true⟩
                case measure => simp [intOf]; omega
              | false =>
                rw [ha] at e2 hsucc
                clear ha
                generalize Lp K J = b3 at *
                have hnew := Lib.hid (show Bt (wr.setCell ⟨gL, I * N + J, none⟩ (.bool b3)) gL N (rowJ Lp K I (J + 1)) from by rw [← hsucc.out]; exact hset.out b3)
                go_wp2
                go_roundw
                case rel => exact ⟨J + 1, by omega, by go_num, (by first | exact .inr hvh.out | exact .inr trivial | exact .inr rfl), hnew.out, hxn.out b3⟩
                case measure => simp [intOf]; omega
    have hltI : (i : Int) < n := by omega
    have hil : i < l.length := by rw [← hlI.out]; exact hlt
    obtain ⟨bR, oR, rfl, hatR⟩ := Els.cell (hrw1.out.keep hk1) (by omega)
    have hcell := rAt_eq hil
    have z0 := hatR i hil 0 (.int .i64 (rAt l i).fr) (by rw [hcell]; rfl)
    have z1 := hatR i hil 1 (.int .u8 (rAt l i).top) (by rw [hcell]; rfl)
    have z2 := hatR i hil 2 (.int .i64 (rAt l i).to) (by rw [hcell]; rfl)
    have z3 := hatR i hil 3 (.string (rAt l i).put) (by rw [hcell]; rfl)
    change wr.cell? ⟨bR, oR + i * 4, none⟩ = _ at z0
    change wr.cell? ⟨bR, oR + i * 4 + 1, none⟩ = _ at z1
    change wr.cell? ⟨bR, oR + i * 4 + 2, none⟩ = _ at z2
    change wr.cell? ⟨bR, oR + i * 4 + 3, none⟩ = _ at z3
    have hplain := Lib.hid ((plain_get (l := l) (n := i)).2 ⟨hil, rfl⟩)
    clear hatR hcell
    generalize rAt l i = R1 at *
    obtain ⟨f, tp, tz, pt⟩ := R1
    dsimp only at z0 z1 z2 z3
    clear hk1
    go_upto_region 8 with (fail)
    obtain ⟨hf0, hf1, ht0, ht1, htp0, htp1, hword⟩ := (rulesIn_of hsys.out).2 i _ hplain.out
    have hps : pt.size ≤ 2 := by have := (rulesOk_of hsys.out i _ hplain.out).2.2.2.2; simpa [RuleB.plain, cs_length] using this
    simp only [RuleB.plain] at hf0 hf1 ht0 ht1 htp0 htp1 hword
    obtain ⟨fN, rfl⟩ : ∃ m : Nat, f = m := ⟨f.toNat, by omega⟩
    obtain ⟨tN, rfl⟩ : ∃ m : Nat, tz = m := ⟨tz.toNat, by omega⟩
    obtain ⟨cN, rfl⟩ : ∃ m : Nat, tp = 97 + m := ⟨(tp - 97).toNat, by omega⟩
    have hfC : fN < C := by simpa using hf1
    have htC : tN < C := by simpa using ht1
    have hcN : cN < 5 := by omega
    clear hf0 hf1 ht0 ht1 htp0 htp1
    replace hword := Lib.hid hword
    obtain ⟨W2, hW2⟩ : ∃ W2, wr.alloc (.cells #[.int .i64 fN, .int .u8 (97 + cN), .int .i64 tN, .string pt] 61) = W2 := ⟨_, rfl⟩
    obtain ⟨bu, hbu⟩ : ∃ bu, wr.heap.size = bu := ⟨_, rfl⟩
    have hbr : Below wr.heap.size wr W2 := by rw [← hW2]; exact below1 _ _
    have kR := Lib.hid (show Blk W2 bu 61 #[.int .i64 fN, .int .u8 (97 + cN), .int .i64 tN, .string pt] by rw [← hW2, ← hbu]; exact Blk.new _ _ _)
    have hLR := Lib.hid (hLr.out.below hbr)
    have hxR := Lib.hid (hxr.out.trans (BX.of_below hbr))
    have y0 := cell_below s0 hbr
    rw [hW2, hbu]
    clear hW2 hbu hbr z0 z1 z2 z3 hLr hxr s0 s1
    have u0 := kR.out.cell 0
    have u1 := kR.out.cell 1
    have u2 := kR.out.cell 2
    simp at u0 u1 u2
    have hcc : (97 + (cN : Int)) - 97 = cN := by omega
    go_upto_region 11 with (at_make; refine wpList_make_bools rfl _ _ 85 rfl Tryd.underlying85 info4 C rfl rfl (by omega) (by omega) ?_; intro w3 hN3 hb3; replace u2 := cell_below u2 hb3; have a4 := hN3.cell htC; have a5 := hN3.free tN; have htI : (tN : Int) < C := (by omega); have hN3 := Lib.hid hN3; have hb3 := Lib.hid hb3)
    obtain ⟨V2, hV2⟩ : ∃ V2, w3.setCell ⟨W2.heap.size, tN, none⟩ (.bool true) = V2 := ⟨_, rfl⟩
    rw [hV2]
    have hbV := Lib.hid (show Below W2.heap.size W2 V2 by rw [← hV2]; exact hb3.out.setCell (Nat.le_refl _) _)
    have hNow := Lib.hid (show Bl V2 W2.heap.size C (at1 tN) by
      rw [← hV2]
      exact (hN3.out.set (i := tN) true).congr fun j _ => by unfold at1; by_cases hj : j = tN <;> simp [hj])
    clear hV2 hN3 hb3 a4 a5 u0 u1 u2 y0
    obtain ⟨F, hF⟩ : ∃ F : Nat, fN * 5 + cN = F := ⟨_, rfl⟩
    have hFI : (fN : Int) * 5 + cN = (F : Int) := by omega
    have hFN : F < N := by have := hN.out; omega
    rw [hFI]
    have hFR := Lib.hid (show F = (RuleB.plain ⟨fN, 97 + cN, tN, pt⟩).fr.toNat * 5 + ((RuleB.plain ⟨fN, 97 + cN, tN, pt⟩).top - 97).toNat from by
      show F = (fN : Int).toNat * 5 + ((97 + (cN : Int)) - 97).toNat
      omega)
    have hbuL := Lib.hid (show bu ∉ [gL] from by
      have := Blk.ne_of kR.out hLR.out (by decide)
      simpa using this)
    have hgL2 := Lib.hid (show gL < W2.heap.size from Blk.lt hLR.out)
    have hLV := Lib.hid (hLR.out.below hbV.out)
    have hxV := Lib.hid (show BX [gL] W2 V2 from BX.of_below hbV.out)
    clear hF hFI hcc htC hLR hbV
    go_wp2
    go_loopw [11, 12] (fun c11 c12 wq => ∃ kk gn : Nat, kk ≤ pt.size ∧ c12 = .int .i64 (kk : Int) ∧ c11 = .slice (some ⟨gn, 0, none⟩) C C ∧ Hid (W2.heap.size ≤ gn) ∧ Hid (Bl wq gn C (ppw C T ((cs pt).take kk) (at1 tN))) ∧ Hid (Bt wq gL N (Lk (l.map RuleB.plain) C T i kk 0)) ∧ Hid (BX [gL] W2 wq)) (fun _ c12 _ => pt.size - (intOf c12).toNat)
    case atStart => exact ⟨0, _, Nat.zero_le _, rfl, rfl, Nat.le_refl _, hNow.out, hLV.out, hxV.out⟩
    case round =>
      obtain ⟨kk, gn, hkk, rfl, rfl, hgn, hNo, hLq, hxq⟩ := hrel
      have u3 : wr.cell? ⟨bu, 3, none⟩ = some (.string pt) := (kR.out.bx hxq.out hbuL.out).cell 3
      by_cases hkl : kk < pt.size
      case neg =>
        have hge : ¬ (kk : Int) < pt.size := by omega
        have hnew := Lib.hid (show Bt wr gL N (Lk (l.map RuleB.plain) C T (i + 1) 0 0) from by
          rw [← Lk_rule hplain.out (k := kk) (by show (cs pt).length ≤ kk; rw [cs_length]; omega)]
          exact hLq.out)
        go_wp2
        go_roundw
        case rel => exact ⟨i + 1, by omega, by go_num, hnew.out, hxR.out.trans hxq.out⟩
        case measure => simp [intOf]; omega
      have hkI : (kk : Int) < pt.size := by omega
      have hchw := hword.out (ch pt kk) (List.mem_of_getElem? (cs_at hkl))
      have hche := ch_eq hkl
      obtain ⟨c2, hc2⟩ : ∃ m : Nat, (pt[kk].toNat : Int) - 97 = m := ⟨(pt[kk].toNat - 97 : Int).toNat, by omega⟩
      have hc25 : c2 < 5 := by omega
      have hnext := Lib.hid (show ppw C T ((cs pt).take (kk + 1)) (at1 tN) = pp C T (ppw C T ((cs pt).take kk) (at1 tN)) c2 by
        rw [List.take_add_one, cs_at hkl, Option.toList_some, ppw_append]
        show pp C T _ (ch pt kk - 97).toNat = _
        rw [hche, hc2]
        rfl)
      have hput := Lib.hid (show ((RuleB.plain ⟨fN, 97 + cN, tN, pt⟩).put.getD kk 0 - 97).toNat = c2 from by
        show ((cs pt).getD kk 0 - 97).toNat = c2
        rw [List.getD_eq_getElem?_getD, cs_at hkl, Option.getD_some, hche, hc2]
        rfl)
      obtain ⟨now, hnow⟩ : ∃ now, ppw C T ((cs pt).take kk) (at1 tN) = now := ⟨_, rfl⟩
      rw [hnow] at hNo hnext
      have hgnL := Lib.hid (show gn ∉ [gL] from by
        have h1 := hgn.out
        have h2 := hgL2.out
        simp only [List.mem_cons, List.mem_nil_iff, or_false]
        omega)
      replace hnow := Lib.hid hnow
      replace hche := Lib.hid hche
      go_upto_region 15 with (fail)
      (try rw [hc2])
      clear hche hchw u3
      replace hc2 := Lib.hid hc2
      obtain ⟨V, hV⟩ : ∃ V, V = wr := ⟨_, rfl⟩
      subst hV
      go_wp2
      go_loopw [14] (fun c14 wq => ∃ Q : Nat, Q ≤ C ∧ c14 = .int .i64 (Q : Int) ∧ Hid (Bt wq gL N (Lk (l.map RuleB.plain) C T i kk Q)) ∧ Hid (BX [gL] V wq)) (fun c14 _ => C - (intOf c14).toNat)
      case atStart => exact ⟨0, Nat.zero_le _, rfl, hLq.out, BX.refl _ _⟩
      case round =>
        obtain ⟨Q, hQ, rfl, hLs, hxs⟩ := hrel
        have hBn := hNo.out.bx hxs.out hgnL.out
        have hxw := Lib.hid (hxR.out.trans (hxq.out.trans hxs.out))
        have hk1 := hkw.out _ hxw.out
        have y0 := hk1 _ _ c0
        by_cases hQC : Q < C
        case neg =>
          have hge : ¬ (Q : Int) < C := by omega
          have hQe : Q = C := by omega
          have hnew := Lib.hid (show Bt wr gL N (Lk (l.map RuleB.plain) C T i (kk + 1) 0) from by
            rw [← Lk_letter]
            have := hLs.out
            rw [hQe] at this
            exact this)
          have hcall := Lib.hid (popped_any wr C c2 gn _ T now (by omega) (by omega) hc25 (hT.out.keep hk1) hBn)
          have hgw := Lib.hid (show gL < wr.heap.size from Blk.lt hLs.out)
          clear hQe hBn hk1 hQC hQ
          go_wp2_with (go_at_call 34; refine hcall.out.mono ?_; rintro e w5 ⟨g5, rfl, hg5, hN5, hb5⟩; have hN5 := Lib.hid hN5; have hb5 := Lib.hid hb5; have hg5 := Lib.hid hg5)
          go_roundw
          case rel => exact ⟨kk + 1, g5, by omega, by go_num, rfl, Nat.le_trans (Nat.le_trans hxq.out.size hxs.out.size) hg5.out, by show Bl _ _ _ _; rw [hnext.out]; exact hN5.out, hnew.out.below hb5.out, (hxq.out.trans hxs.out).trans (BX.of_below hb5.out)⟩
          case measure => simp [intOf]; omega
        have hQI : (Q : Int) < C := by omega
        have n0 := Bl.cell hBn hQC
        clear hk1 hBn
        cases hn1 : now Q with
        | false =>
          rw [hn1] at n0
          have hold := Lib.hid (show Bt wr gL N (Lk (l.map RuleB.plain) C T i kk (Q + 1)) from by
            rw [Lk_old (C := C) (T := T) (k := kk) (q := Q) hplain.out (by rw [← hn1, ← hnow.out]; rfl)]
            exact hLs.out)
          clear hn1
          go_wp2
          go_roundw
          case rel => exact ⟨Q + 1, by omega, by go_num, hold.out, hxs.out⟩
          case measure => simp [intOf]; omega
        | true =>
          rw [hn1] at n0
          have hbN : Q * 5 + c2 < N := by have := hN.out; omega
          obtain ⟨p1, p2, p3, p4⟩ := prod_fact hFN hbN hN25
          rw [hM.out] at p3
          have p5 : (F : Int) * (N : Int) + (Q : Int) * 5 + (c2 : Int) < M := by omega
          have p6 : ((F : Int) * (N : Int) + (Q : Int) * 5 + (c2 : Int)).toNat = F * N + Q * 5 + c2 := by omega
          have hfr := Blk.free hLs.out (F * N + Q * 5 + c2)
          have hce := hLs.out.at hFN hbN (z := F * N + Q * 5 + c2) (by omega)
          have hnew := Lib.hid (show Bt (wr.setCell ⟨gL, F * N + Q * 5 + c2, none⟩ (.bool true)) gL N (Lk (l.map RuleB.plain) C T i kk (Q + 1)) from by
            refine (hLs.out.set hbN (F := F) (z := F * N + Q * 5 + c2) (by omega) true).congr fun a b _ _ => ?_
            rw [Lk_new hplain.out (k := kk) (q := Q) (by show kk < (cs pt).length; rw [cs_length]; omega) hQC (by rw [← hn1, ← hnow.out]; rfl), ← hFR.out, hput.out]
            unfold upd2
            by_cases he : a = F ∧ b = Q * 5 + c2
            · rw [if_pos he, decide_eq_true he, Bool.true_or]
            · rw [if_neg he, decide_eq_false he, Bool.false_or])
          have hxn := Lib.hid (hxs.out.set (p := ⟨gL, F * N + Q * 5 + c2, none⟩) (by simp) (.bool true))
          generalize Lk (l.map RuleB.plain) C T i kk Q F (Q * 5 + c2) = v0 at *
          clear p3 p4 hn1
          go_wp2
          go_roundw
          case rel => exact ⟨Q + 1, by omega, by go_num, hnew.out, hxn.out⟩
          case measure => simp [intOf]; omega
end Go.Proofs.YtaapnflhjbdmlaaDoor
