/- CupsHalves: the walk. No condition. -/
import Derived.Test.YthnabheibacbcaaY9
import Derived.Test.YthnabheibacbcaaE11
import Derived.Test.YthnabheibacbcaaC15
import Derived.Deep.CutRange
namespace Go.Proofs.Ythnabheibacbcaa
open Go.RowKit Go.Shelf
theorem neq49 (w : World) : (binOp .neq 49 (.agg #[.int .i64 0, .int .i64 0, .int .i64 0, .int .i64 0]) (.agg #[.int .i64 0, .int .i64 0, .int .i64 0, .int .i64 0])).run Try.prog w = .ok (.bool false) w := by
  kernel_rfl
theorem Pts.cut {w : World} {b off n cap : Nat} {l : List Pt} (h : Pts w (.slice (some ⟨b, off, none⟩) n cap) l) (k : Nat) (hk : k ≤ l.length) : Pts w (.slice (some ⟨b, off, none⟩) k k) (l.take k) := by
  obtain ⟨A, cap', e, hl, hm, hn, hat⟩ := Pts.take h k hk
  injection e with e1 e2 e3
  subst e1 e3
  rw [List.length_take, Nat.min_eq_left hk] at hl
  exact ⟨_, k, by rw [List.length_take, Nat.min_eq_left hk], by rw [List.length_take, Nat.min_eq_left hk]; exact Nat.le_refl _, by omega, (fun h => by cases h), hat⟩
attribute [local go_sem high] eql49 neq49

theorem Pts.drop {w : World} {b off n cap : Nat} {l : List Pt} (h : Pts w (.slice (some ⟨b, off, none⟩) n cap) l) (k : Nat) (hk : k ≤ l.length) : Pts w (.slice (some ⟨b, off + k * 2, none⟩) (n - k) (cap - k)) (l.drop k) := by
  obtain ⟨A, cap, e, hl, hm, hn, hat⟩ := h
  cases e
  refine ⟨_, cap - k, by rw [List.length_drop], by rw [List.length_drop]; omega, by omega, (fun h => by cases h), fun i hi => ?_⟩
  rw [List.length_drop] at hi
  obtain ⟨b', off', hA, hx, hy⟩ := hat (k + i) (by omega)
  cases hA
  have e : ptA (l.drop k) i = ptA l (k + i) := by rw [ptA_eq (by rw [List.length_drop]; omega), ptA_eq (by omega), List.getElem_drop]
  rw [e]
  exact ⟨_, _, rfl, by rw [show off + k * 2 + i * 2 = off + (k + i) * 2 by omega]; exact hx, by rw [show off + k * 2 + i * 2 = off + (k + i) * 2 by omega]; exact hy⟩
/-- two lists of points that may be read, not too long -/
def Two15 (w : World) (v v2 : Value) : Prop := ∃ a b, Pts w v a ∧ Pts w v2 b ∧ a.length ≤ 15 ∧ b.length ≤ 15
theorem cut_nat (x : Int) (n : Nat) (hn : 1 ≤ n) (h2 : n ≤ 14) : ∃ K : Nat, wrap64 ((IntKind.u64.wrap x).tmod (n : Int)) = (K : Int) ∧ K < n := by
  have h0 : 0 ≤ IntKind.u64.wrap x := by
    unfold IntKind.wrap
    simp [IntKind.signed, IntKind.bits]
    omega
  have h1 : (IntKind.u64.wrap x).tmod (n : Int) = (IntKind.u64.wrap x) % (n : Int) := Int.tmod_eq_emod_of_nonneg h0
  have h3 := Int.emod_nonneg (IntKind.u64.wrap x) (show (n : Int) ≠ 0 by omega)
  have h4 := Int.emod_lt_of_pos (IntKind.u64.wrap x) (show (0 : Int) < (n : Int) by omega)
  have h5 : wrap64 ((IntKind.u64.wrap x) % (n : Int)) = (IntKind.u64.wrap x) % (n : Int) := by unfold wrap64; omega
  rw [h1, h5]
  exact ⟨((IntKind.u64.wrap x) % (n : Int)).toNat, by omega, by omega⟩

set_option maxRecDepth 100000 in
set_option maxHeartbeats 20000000 in
theorem CupsHalves_walk (w : World) (v v2 : Value) (l m : List Pt) (x : Int) (h : Pts w v l) (h2 : Pts w v2 m) (hsz : l.length + m.length ≤ 1000000) : Calls Try.prog 7 #[v, v2, .int .i64 x] w fun e w' => e = .returned (.bool true) ∧ Below w.heap.size w w' := by
  have ho1 := Lib.hid (own_any w v l h)
  have ho2 := Lib.hid (fun W (hb : Below w.heap.size w W) => own_any W v2 m (h2.then hb))
  obtain ⟨A, n, cap, rfl, hn⟩ := h.shape
  obtain ⟨A2, n2, cap2, rfl, hn2⟩ := h2.shape
  have hh := Lib.hid h
  have hh2 := Lib.hid h2
  clear h h2
  go_enter Try.func7, Try.ntmps7
  go_wp2_with (first
    | (go_at_call 33; refine ho1.out.mono ?_; clear ho1; rintro e w1 ⟨v1, rfl, ho, hb⟩; obtain ⟨A7, n7, c7, rfl, hn7⟩ := OwnP.shape ho; have hp7 := Lib.hid (OwnP.pts ho); have hb1 := Lib.hid hb)
    | (go_at_call 33; refine (ho2.out _ hb1.out).mono ?_; clear ho2; rintro e w2 ⟨v3, rfl, ho, hb⟩; obtain ⟨A8, n8, c8, rfl, hn8⟩ := OwnP.shape ho; have hT := Lib.hid (show Two15 w2 (.slice A7 n7 c7) (.slice A8 n8 c8) from ⟨_, _, hp7.out.then hb, OwnP.pts ho, cut15_len _, cut15_len _⟩); have hb2 := Lib.hid (bthen hb1.out hb)))
  go_loopw [7, 8, 9] (fun c7 c8 c9 wr => ∃ (r : Nat) (A7 A8 : Option Addr) (n7 C7 n8 C8 : Nat), r ≤ 2 ∧ c9 = .int .i64 (r : Int) ∧ c7 = .slice A7 n7 C7 ∧ c8 = .slice A8 n8 C8 ∧ Hid (Two15 wr (.slice A7 n7 C7) (.slice A8 n8 C8)) ∧ Hid (Below w.heap.size w wr)) (fun _ _ c _ => 2 - (intOf c).toNat)
  case atStart => exact ⟨0, _, _, _, _, _, _, by omega, rfl, rfl, rfl, hT, hb2⟩
  case round =>
    clear hT hb2 hp7 hb1 hn7 hn8
    obtain ⟨r, A7, A8, n7, C7, n8, C8, hr, rfl, rfl, rfl, hY, hB⟩ := hrel
    by_cases hlt : r < 2
    case neg =>
      obtain rfl : r = 2 := by omega
      go_wp2_with (go_at_call 16; refine (awake_any _).mono ?_; rintro e w3 ⟨rfl, h3⟩; have hb := Lib.hid (bthen hB.out h3))
      go_ret
      exact ⟨rfl, hb.out⟩
    obtain ⟨a, b, ha, hb, hal, hbl⟩ := hY.out
    have hH := Lib.hid (Halve_all wr _ _ a b ha hb)
    have ha := Lib.hid ha
    have hb := Lib.hid hb
    clear hY
    go_upto_region 7 with (go_at_call 34; refine hH.out.mono ?_; rintro e w3 ⟨x1, x2, x3, x4, E, rfl, hto, hb3⟩; have hto := Lib.hid hto; have hb3 := Lib.hid hb3)
    obtain ⟨W3, hW3⟩ : ∃ W3, w3.alloc (.cells #[.int .i64 x1, .int .i64 x2, .int .i64 x3, .int .i64 x4] 49) = W3 := ⟨_, rfl⟩
    have hbW := below1 w3 (.cells #[.int .i64 x1, .int .i64 x2, .int .i64 x3, .int .i64 x4] 49)
    have kW := Blk.new w3 49 #[.int .i64 x1, .int .i64 x2, .int .i64 x3, .int .i64 x4]
    rw [hW3] at hbW kW
    rw [hW3]
    replace ha := Lib.hid (ha.out.then (bthen hb3.out hbW))
    replace hb := Lib.hid (hb.out.then (bthen hb3.out hbW))
    replace kW := Lib.hid kW
    replace hb3 := Lib.hid (bthen hb3.out hbW)
    clear hH hW3 hbW
    have ck1 := Lib.hid (fun W (hb : Below W3.heap.size W3 W) => checkR_any W _ a (ha.out.then hb))
    have ck2 := Lib.hid (fun W (hb' : Below W3.heap.size W3 W) => checkR_any W _ b (hb.out.then hb'))
    obtain ⟨ca, hca⟩ : ∃ ca, checkB a = ca := ⟨_, rfl⟩
    obtain ⟨cb, hcb⟩ : ∃ cb, checkB b = cb := ⟨_, rfl⟩
    rw [hca] at ck1
    rw [hcb] at ck2
    go_cut [36] from 29 to 109 (fun c wx => c = .bool (!(ca && cb)) ∧ Hid (Below W3.heap.size W3 wx))
    case first =>
      clear hca hcb hto
      have hbx := Lib.hid (Below.refl W3.heap.size W3)
      cases ca with
      | false =>
        go_wp2_with (go_at_call 35; refine (ck1.out _ hbx.out).mono ?_; rintro e w4 ⟨rfl, h4⟩; replace hbx := Lib.hid (bthen hbx.out h4))
        go_meet
        exact ⟨rfl, hbx⟩
      | true =>
        go_wp2_with (first
          | (go_at_call 35; refine (ck1.out _ hbx.out).mono ?_; clear ck1; rintro e w4 ⟨rfl, h4⟩; replace hbx := Lib.hid (bthen hbx.out h4))
          | (go_at_call 35; refine (ck2.out _ hbx.out).mono ?_; clear ck2; rintro e w4 ⟨rfl, h4⟩; replace hbx := Lib.hid (bthen hbx.out h4)))
        go_meet
        exact ⟨by cases cb <;> rfl, hbx⟩
    case rest =>
      obtain ⟨rfl, hbc⟩ := hcut
      clear ck1 ck2
      go_upto_if 36 with (fail)
      go_cut [12] from 36 to 109 (fun c wx => c = .int .i64 E ∧ Hid (Below W3.heap.size W3 wx))
      case first =>
        have hbx := hbc
        rcases hto.out with ⟨hE, h1, hx0⟩ | ⟨hE, h1, h2, h3, hx0⟩ | ⟨hE, h1, h2, h3, h4, h5, hx0⟩
        · have e : (!(ca && cb)) = true := by rw [← hca, ← hcb, h1]; rfl
          rw [e]
          replace hE := Lib.hid hE
          clear hx0 hca hcb hto h1
          go_wp2
          go_meet
          exact ⟨by rw [hE.out], hbx⟩
        · have e : (!(ca && cb)) = false := by rw [← hca, ← hcb, h1, h2]; rfl
          rw [e]
          have o1 := okL_of h1
          have o2 := okL_of h2
          have cg1 := Lib.hid (fun W (hb : Below W3.heap.size W3 W) => genR_any W _ a (ha.out.then hb) o1)
          have cg2 := Lib.hid (fun W (hb' : Below W3.heap.size W3 W) => genR_any W _ b (hb.out.then hb') o2)
          have chv := Lib.hid (fun W (hb' : Below W3.heap.size W3 W) => halvable_any W _ _ a b (ha.out.then hb') (hb.out.then hb') o1 o2 (by omega) (by omega))
          rw [h3] at chv
          obtain ⟨ga, hga⟩ : ∃ ga, genB a = ga := ⟨_, rfl⟩
          obtain ⟨gb, hgb⟩ : ∃ gb, genB b = gb := ⟨_, rfl⟩
          rw [hga] at cg1
          rw [hgb] at cg2
          replace hE := Lib.hid hE
          clear hx0 hca hcb hto h1 h2 h3 o1 o2 hga hgb
          cases ga with
          | false =>
            go_wp2_with (go_at_call 36; refine (cg1.out _ hbx.out).mono ?_; rintro e w4 ⟨rfl, h4⟩; replace hbx := Lib.hid (bthen hbx.out h4))
            go_meet
            exact ⟨by rw [hE.out], hbx⟩
          | true =>
            cases gb with
            | false =>
              go_wp2_with (first
                | (go_at_call 36; refine (cg1.out _ hbx.out).mono ?_; clear cg1; rintro e w4 ⟨rfl, h4⟩; replace hbx := Lib.hid (bthen hbx.out h4))
                | (go_at_call 36; refine (cg2.out _ hbx.out).mono ?_; clear cg2; rintro e w4 ⟨rfl, h4⟩; replace hbx := Lib.hid (bthen hbx.out h4)))
              go_meet
              exact ⟨by rw [hE.out], hbx⟩
            | true =>
              go_wp2_with (first
                | (go_at_call 36; refine (cg1.out _ hbx.out).mono ?_; clear cg1; rintro e w4 ⟨rfl, h4⟩; replace hbx := Lib.hid (bthen hbx.out h4))
                | (go_at_call 36; refine (cg2.out _ hbx.out).mono ?_; clear cg2; rintro e w4 ⟨rfl, h4⟩; replace hbx := Lib.hid (bthen hbx.out h4))
                | (go_at_call 37; refine (chv.out _ hbx.out).mono ?_; clear chv; rintro e w4 ⟨rfl, h4⟩; replace hbx := Lib.hid (bthen hbx.out h4)))
              go_meet
              exact ⟨by rw [hE.out], hbx⟩
        · have e : (!(ca && cb)) = false := by rw [← hca, ← hcb, h1, h2]; rfl
          rw [e]
          have o1 := okL_of h1
          have o2 := okL_of h2
          have cg1 := Lib.hid (fun W (hb : Below W3.heap.size W3 W) => genR_any W _ a (ha.out.then hb) o1)
          have cg2 := Lib.hid (fun W (hb' : Below W3.heap.size W3 W) => genR_any W _ b (hb.out.then hb') o2)
          have chv := Lib.hid (fun W (hb' : Below W3.heap.size W3 W) => halvable_any W _ _ a b (ha.out.then hb') (hb.out.then hb') o1 o2 (by omega) (by omega))
          rw [h5] at chv
          rw [h3] at cg1
          rw [h4] at cg2
          replace hE := Lib.hid hE
          clear hx0 hca hcb hto h1 h2 h3 h4 h5 o1 o2
          go_wp2_with (first
            | (go_at_call 36; refine (cg1.out _ hbx.out).mono ?_; clear cg1; rintro e w4 ⟨rfl, h4⟩; replace hbx := Lib.hid (bthen hbx.out h4))
            | (go_at_call 36; refine (cg2.out _ hbx.out).mono ?_; clear cg2; rintro e w4 ⟨rfl, h4⟩; replace hbx := Lib.hid (bthen hbx.out h4))
            | (go_at_call 37; refine (chv.out _ hbx.out).mono ?_; clear chv; rintro e w4 ⟨rfl, h4⟩; replace hbx := Lib.hid (bthen hbx.out h4)))
          go_meet
          exact ⟨by rw [hE.out], hbx⟩
      case rest =>
        obtain ⟨rfl, hbd⟩ := hcut
        clear hbc hca hcb
        go_upto_if 52 with (fail)
        go_cut [12] from 52 to 109 (fun c wx => c = .int .i64 E ∧ Hid (Below W3.heap.size W3 wx))
        case first =>
          have hbx := hbd
          have d0 := (kW.out.then hbx.out).cell 0
          have d1 := (kW.out.then hbx.out).cell 1
          have d2 := (kW.out.then hbx.out).cell 2
          have d3 := (kW.out.then hbx.out).cell 3
          simp at d0 d1 d2 d3
          have hinj : ∀ p q r t p' q' r' t' : Int, Value.agg #[.int .i64 p, .int .i64 q, .int .i64 r, .int .i64 t] = .agg #[.int .i64 p', .int .i64 q', .int .i64 r', .int .i64 t'] → p = p' ∧ q = q' ∧ r = r' ∧ t = t' := fun p q r t p' q' r' t' h => by simpa using h
          rcases hto.out with ⟨hE, _, hx0⟩ | ⟨hE, _, _, _, hx0⟩ | ⟨hE, h1, h2, _, _, _, pa, hpa, pb, hpb, g1, g2, hx0⟩
          · obtain ⟨y1, y2, y3, y4⟩ := hinj _ _ _ _ _ _ _ _ (show _ = Value.agg #[.int .i64 0, .int .i64 0, .int .i64 0, .int .i64 0] from hx0)
            rw [y1] at d0; rw [y2] at d1; rw [y3] at d2; rw [y4] at d3
            have n0 : (E == 0) = false := by rw [hE]; rfl
            clear hto hE hx0 hinj y1 y2 y3 y4
            go_wp2
            go_meet
            exact ⟨rfl, hbx⟩
          · obtain ⟨y1, y2, y3, y4⟩ := hinj _ _ _ _ _ _ _ _ (show _ = Value.agg #[.int .i64 0, .int .i64 0, .int .i64 0, .int .i64 0] from hx0)
            rw [y1] at d0; rw [y2] at d1; rw [y3] at d2; rw [y4] at d3
            have n0 : (E == 0) = false := by rw [hE]; rfl
            clear hto hE hx0 hinj y1 y2 y3 y4
            go_wp2
            go_meet
            exact ⟨rfl, hbx⟩
          · obtain ⟨y1, y2, y3, y4⟩ := hinj _ _ _ _ _ _ _ _ hx0
            rw [y1] at d0; rw [y2] at d1; rw [y3] at d2; rw [y4] at d3
            have n0 : (E == 0) = true := by rw [hE]; rfl
            have o1 := okL_of h1
            have o2 := okL_of h2
            have k1 : okP pa := by obtain ⟨i, hi, rfl⟩ := List.getElem_of_mem hpa; have := o1 i hi; rwa [ptA_eq hi] at this
            have k2 : okP pb := by obtain ⟨i, hi, rfl⟩ := List.getElem_of_mem hpb; have := o2 i hi; rwa [ptA_eq hi] at this
            have hv := Lib.hid (fun W (hb' : Below W3.heap.size W3 W) => halves_any W _ _ a b pa pb (ha.out.then hb') (hb.out.then hb') o1 o2 k1 k2 (by omega) (by omega) ((hasPt_mem _ _).2 hpa) ((hasPt_mem _ _).2 hpb) g1 g2)
            clear hto hE hx0 hinj y1 y2 y3 y4 o1 o2 k1 k2 h1 h2 g1 g2 hpa hpb
            go_wp2_with (go_at_call 38; refine (hv.out _ hbx.out).mono ?_; rintro e w4 ⟨rfl, h4⟩; replace hbx := Lib.hid (bthen hbx.out h4))
            go_meet
            exact ⟨rfl, hbx⟩
        case rest =>
          obtain ⟨rfl, hbe⟩ := hcut
          clear hbd hto kW ha hb hal hbl
          have hbF := Lib.hid (bthen hB.out (bthen hb3.out hbe.out))
          clear hbe hb3 hB
          have hlW := Lib.hid (hh.out.then hbF.out)
          have hmW := Lib.hid (hh2.out.then hbF.out)
          go_upto_region 19 with (first
            | (at_builtin; refine wpList_append_pts _ rfl (.tmp 70) (.tmp 71) 31 rfl wc.heap.size Try.underlying31 info22 _ [] rfl (OwnP.nil _ _) _ rfl l hlW.out (by simp; omega) (Nat.le_refl _) ?_; intro v' w' h1 hb1 hgx hlx; clear hgx hlx; obtain ⟨Aq, nq, cq, rfl, hnq⟩ := OwnP.shape h1; replace h1 := Lib.hid h1; replace hb1 := Lib.hid hb1)
            | (at_builtin; refine wpList_append_pts _ rfl (.tmp 73) (.tmp 74) 31 rfl wc.heap.size Try.underlying31 info22 _ l rfl h1.out _ rfl m (hmW.out.then hb1.out) (by omega) hb1.out.size ?_; intro v'' w'' h3 hb4 hgx hlx; clear hgx hlx; obtain ⟨Ar, nr, cr, rfl, hnr⟩ := OwnP.shape h3; replace hb4 := Lib.hid hb4; replace h3 := Lib.hid (OwnP.pts h3))
            | (go_at_call 17; refine (tame_any w'' _ (l ++ m) h3.out 14 40 (by omega) (by omega) (by omega) (by omega)).mono ?_; rintro e w5 ⟨v5, y, rfl, ho, hcy, _, hly, hb5⟩; obtain ⟨Ay, ny, cy, rfl, hny⟩ := OwnP.shape ho; have hpy := Lib.hid (OwnP.pts ho); have hb5 := Lib.hid hb5; have hy1 := (len_of hcy).1; clear ho))
          have hbG := Lib.hid (hbF.out.trans ((hb1.out.trans (hb4.out.trans (hb5.out.mono (Nat.le_trans hb1.out.size hb4.out.size)))).mono hbF.out.size))
          have hny' : ny = y.length := hny.out
          obtain ⟨K, hK, hKn⟩ := cut_nat x ny (by omega) (by omega)
          have hKh := Lib.hid hK
          obtain ⟨_, _, e, hy2, hy3, hy4, haty⟩ := hpy.out.open
          injection e with e1 e2 e3
          subst e1 e3
          obtain ⟨by', oy, rfl, _, _⟩ := haty 0 (by omega)
          have hny2 : ny ≤ 14 := by omega
          have hu : IntKind.u64.wrap (ny : Int) = (ny : Int) := by unfold IntKind.wrap; simp [IntKind.signed, IntKind.bits]; omega
          have hnz : ¬ (ny : Int) = 0 := by omega
          unfold maxLen at hy3
          rw [← hny'] at hy2
          clear hny haty hy4 e2 hb1 hb4 hb5 h1 h3 hlW hmW hnq hnr hbF hK
          have hnyh := Lib.hid hny'
          clear hny' hly hy1
          have hKy : K ≤ ny := by omega
          have hKle : ¬ (ny < K) := by omega
          go_cut [14] from 77 to 109 (fun c wx => c = .int .i64 (K : Int) ∧ Hid (Below w5.heap.size w5 wx))
          case first =>
            go_wp2
            go_meet
            exact ⟨by rw [← hKh.out], Below.refl _ _⟩
          case rest =>
            obtain ⟨rfl, hbh⟩ := hcut
            clear hKh hu hnz
            have hbI := Lib.hid (hbG.out.trans (hbh.out.mono hbG.out.size))
            have hpc := Lib.hid (hpy.out.then hbh.out)
            clear hbG hbh hpy
            have hKl := Lib.hid (show K ≤ y.length by rw [← hnyh.out]; exact hKy)
            have hyl := Lib.hid (show y.length ≤ 15 by rw [← hnyh.out]; omega)
            have hdl := Lib.hid (show (y.drop K).length = ny - K by rw [List.length_drop, hnyh.out])
            go_upto_region 22 with (fail)
            go_cut [97] from 91 to 109 (fun c wx => c = .bool (decide (K % 2 = 0 ∧ 0 < K)) ∧ wx = wc)
            case first =>
              clear hto
              by_cases hKp : ((K : Int) % 2 == 0) = true
              case neg =>
                have e : decide (K % 2 = 0 ∧ 0 < K) = false := by simp at hKp ⊢; omega
                replace hKp : ((K : Int) % 2 == 0) = false := by simpa using hKp
                go_wp2
                go_meet
                exact ⟨by rw [e], rfl⟩
              have e : decide (K % 2 = 0 ∧ 0 < K) = decide (0 < K) := by rw [decide_eq_decide]; simp at hKp; omega
              go_wp2
              go_meet
              exact ⟨by rw [e], rfl⟩
            case rest =>
              obtain ⟨rfl, rfl⟩ := hcut
              go_upto_if 97 with (fail)
              go_cut [7] from 97 to 109 (fun c wx => ∃ k : Nat, k ≤ ny ∧ c = .slice (some ⟨by', oy, none⟩) k k ∧ wx = wc)
              case first =>
                by_cases hc : K % 2 = 0 ∧ 0 < K
                · have e : decide (K % 2 = 0 ∧ 0 < K) = true := by simpa using hc
                  have h0 : 0 < K := hc.2
                  have hK1 : ((K : Int) - 1).toNat = K - 1 := by omega
                  rw [e]
                  clear hto hc e
                  go_wp2
                  go_meet
                  exact ⟨K - 1, by omega, rfl, rfl⟩
                · have e : decide (K % 2 = 0 ∧ 0 < K) = false := by simpa using hc
                  rw [e]
                  clear hto hc e
                  go_wp2
                  go_meet
                  exact ⟨K, hKy, rfl, rfl⟩
              case rest =>
                obtain ⟨k, hk, rfl, rfl⟩ := hcut
                have hp7 := Lib.hid (Pts.cut hpc.out k (by rw [← hnyh.out]; exact hk))
                have hl7 := Lib.hid (show (y.take k).length ≤ 15 by rw [List.length_take]; have := hyl.out; omega)
                have hp8 := Lib.hid (Pts.drop hpc.out K hKl.out)
                have hp9 := Lib.hid (fun (h : 1 ≤ ny - K) => Pts.drop hp8.out 1 (by rw [hdl.out]; exact h))
                have hl8 := Lib.hid (show (y.drop K).length ≤ 15 by rw [List.length_drop]; have := hyl.out; omega)
                have hl9 := Lib.hid (show ((y.drop K).drop 1).length ≤ 15 by rw [List.length_drop, List.length_drop]; have := hyl.out; omega)
                have hz1 : 1 ≤ ny - K := by omega
                have hz2 : ¬ (ny - K < 1) := by omega
                have hz3 : ny - K ≤ cy - K := by omega
                have hz4 : cy - K ≤ 2 ^ 63 - 1 := by omega
                have hz5 : ny - K ≤ 14 := by omega
                clear hto hpc hyl hdl hKl hnyh hk
                obtain ⟨d, hd⟩ : ∃ d, ny - K = d := ⟨_, rfl⟩
                obtain ⟨f, hf⟩ : ∃ f, cy - K = f := ⟨_, rfl⟩
                obtain ⟨o2, ho2⟩ : ∃ o2, oy + K * 2 = o2 := ⟨_, rfl⟩
                rw [hd] at hz1 hz2 hz3 hz5 hp8
                rw [hd, hf, ho2] at hp9
                rw [hf] at hz3 hz4 hp8
                rw [ho2] at hp8
                rw [hd, hf, ho2]
                clear hd hf ho2
                have hz6 : 1 ≤ f := by omega
                have hz7 : ¬ f < d := by omega
                by_cases hbp : ((d : Int) % 2 == 0) = true
                · have hz8 : 2 ≤ d := by simp at hbp; omega
                  have hz9 : ¬ f = 1 := by omega
                  have hz10 : ¬ 1 = f := by omega
                  go_upto_if 107 with (fail)
                  clear hbp
                  go_wp2
                  go_roundw
                  case rel => exact ⟨r + 1, _, _, _, _, _, _, by omega, by go_num, rfl, rfl, Lib.hid ⟨_, _, hp7.out, hp9.out hz1, hl7.out, hl9.out⟩, hbI⟩
                  case measure => simp [intOf]; omega
                · replace hbp : ((d : Int) % 2 == 0) = false := by simpa using hbp
                  go_upto_if 107 with (fail)
                  clear hbp
                  go_wp2
                  go_roundw
                  case rel => exact ⟨r + 1, _, _, _, _, _, _, by omega, by go_num, rfl, rfl, Lib.hid ⟨_, _, hp7.out, hp8.out, hl7.out, hl8.out⟩, hbI⟩
                  case measure => simp [intOf]; omega
end Go.Proofs.Ythnabheibacbcaa
