/- rise. -/
import Derived.Test.YtadonoacmpkolaaW14
import Derived.WalkMore
namespace Go.Proofs.Ytadonoacmpkolaa
open Go.RowKit
attribute [local go_sem high] walk_shl walk_shr walk_bit walk_rem walk_and walk_or walk_andNot

theorem quiet_left {P : Program} {f : FuncId} {args : Array Value} {w : World} {n : Nat} {v : Value}
    (h : Calls P f args (w.drewN n) fun e w' => e = .returned v ∧ w.drewN n = w') : Calls P f args (w.drewN n) fun e w'' => e = .returned v ∧ ∃ m, w'' = w.drewN m :=
  h.mono fun _ _ ⟨he, hm⟩ => ⟨he, n, hm.symm⟩

/-- what bidder i has by its own bundle at prices ps -/
def gainOf (xs : List (List Int)) (ls : List Nat) (ps : List Int) (i : Nat) : Int := at0 (rowAt xs i) (natAt ls i) - costOf ps (natAt ls i)
def moreOf (xs : List (List Int)) (ls : List Nat) (ps : List Int) (i j : Nat) : Int := at0 (rowAt xs i) (p2 j) - at0 ps j - gainOf xs ls ps i
/-- bidder i would rather have item j -/
def wants (xs : List (List Int)) (ls : List Nat) (ps : List Int) (i j : Nat) : Prop := bitOf (natAt ls i) j ≠ 1 ∧ 0 < moreOf xs ls ps i j

/-- the market in block X, prices in block G -/
structure Mkt (w : World) (X : Nat) (m : Nat) (vb vl vp : Value) : Prop where
  c0 : w.cell? ⟨X, 0, none⟩ = some (.int .i64 (m : Int))
  c1 : w.cell? ⟨X, 1, none⟩ = some vb
  c2 : w.cell? ⟨X, 2, none⟩ = some vl
  c3 : w.cell? ⟨X, 3, none⟩ = some vp

set_option maxHeartbeats 1000000 in
theorem rise_any (w : World) (X m G cap lo : Nat) (vb vl : Value) (xs : List (List Int)) (ls : List Nat) (ps : List Int)
    (hM : Mkt w X m vb vl (.slice (some ⟨G, 0, none⟩) m cap)) (hb : Rows2 w vb xs) (hl : Ints w vl (casts ls)) (hp : OwnI lo 2 w (.slice (some ⟨G, 0, none⟩) m cap) ps) (hpm : ps.length = m)
    (hm1 : 1 ≤ m) (hm : m ≤ 6) (hn : xs.length ≤ 6) (hln : ls.length = xs.length) (hrow : ∀ i, i < xs.length → okRow m (rowAt xs i)) (hls : ∀ i, natAt ls i < p2 m) (hpb : ∀ j, 0 ≤ at0 ps j ∧ at0 ps j ≤ 1000000000) :
    Calls Try.prog 55 #[.pointer (some ⟨X, 0, none⟩)] w fun e w' =>
      (e = .returned (.bool false) ∧ (∃ d, w.drewN d = w') ∧ ∀ i, i < xs.length → ∀ j, j < m → ¬ wants xs ls ps i j) ∨
      (∃ i j d, i < xs.length ∧ j < m ∧ wants xs ls ps i j ∧ e = .returned (.bool true) ∧ w' = (w.drewN d).setCell ⟨G, j, none⟩ (.int .i64 (at0 ps j + moreOf xs ls ps i j))) := by
  obtain ⟨h0, h1, h2, h3⟩ := hM
  have hpi := OwnI.ints hp
  obtain ⟨g', cap', e', _, _, hpc1, hpc2, hpat, hpfr⟩ := OwnI.open hp (by omega)
  have hgc : G = g' ∧ cap = cap' := by injection e' with a b c; injection a with a; injection a with a; exact ⟨a, c⟩
  obtain ⟨rfl, rfl⟩ := hgc
  clear e'
  have hcost := Lib.hid (fun (W : World) s (hW : ∃ d, w.drewN d = W) (hs : small s) => cost_any W X _ ps s (by obtain ⟨d, rfl⟩ := hW; exact h3) (by obtain ⟨d, rfl⟩ := hW; exact hpi) hs (by omega) (fun i => by have := hpb i; omega))
  have hcb := Lib.hid (fun s => costUpto_bd ps s 1000000000 (by omega) (fun i => by have := hpb i; omega) ps.length)
  obtain ⟨A1, cap1, rfl, _, hcapb, _, hat1⟩ := hb.open
  obtain ⟨A2, cap2, rfl, _, hcapl, _, hat2⟩ := hl.open
  rw [casts_length, hln] at hat2 h2
  have hfr := Lib.hid hpfr
  replace hpat := Lib.hid hpat
  replace hat1 := Lib.hid hat1
  replace hat2 := Lib.hid hat2
  replace hrow := Lib.hid hrow
  replace hls := Lib.hid hls
  replace hpb := Lib.hid hpb
  clear hpfr hp hpi hb hl
  unfold maxLen at hcapb hcapl hpc2
  have h64 := p2_le64 hm
  go_enter Try.func55, Try.ntmps55
  go_wp2
  replace h0 := Lib.hid h0
  replace h1 := Lib.hid h1
  replace h2 := Lib.hid h2
  replace h3 := Lib.hid h3
  go_loopw [13] (fun i wr => ∃ k : Nat, k ≤ xs.length ∧ i = .int .i64 k ∧ Hid (∃ d, w.drewN d = wr) ∧ Hid (∀ i, i < k → ∀ j, j < m → ¬ wants xs ls ps i j)) (fun i _ => xs.length - (intOf i).toNat)
  case atStart => exact ⟨0, Nat.zero_le _, rfl, ⟨0, rfl⟩, fun i hi => absurd hi (by omega)⟩
  case round =>
    obtain ⟨k, hk, rfl, hd, hno⟩ := hrel
    by_cases hlt : k < xs.length
    · obtain ⟨b1, o1, A3, cap3, rfl, hc1, hi1⟩ := hat1.out k hlt
      obtain ⟨b2, o2, rfl, hc2⟩ := hat2.out k hlt
      rw [at0_casts] at hc2
      have hrk := hrow.out k hlt
      have hsk := hls.out k
      obtain ⟨_, b3, o3, rfl, hat3⟩ := hi1.addr (by rw [hrk.1]; omega)
      have hc3 := hat3 (natAt ls k) (by rw [hrk.1]; exact hsk)
      have f0 : wr.cell? ⟨X, 0, none⟩ = some (.int .i64 (m : Int)) := by obtain ⟨d, rfl⟩ := hd.out; exact h0.out
      have f1 : wr.cell? ⟨X, 1, none⟩ = some (.slice (some ⟨b1, o1, none⟩) xs.length cap1) := by obtain ⟨d, rfl⟩ := hd.out; exact h1.out
      have f2 : wr.cell? ⟨b1, o1 + k, none⟩ = some (.slice (some ⟨b3, o3, none⟩) (rowAt xs k).length cap3) := by obtain ⟨d, rfl⟩ := hd.out; exact hc1
      have f3 : wr.cell? ⟨b2, o2 + k, none⟩ = some (.int .i64 (natAt ls k : Int)) := by obtain ⟨d, rfl⟩ := hd.out; exact hc2
      have f4 : wr.cell? ⟨b3, o3 + natAt ls k, none⟩ = some (.int .i64 (at0 (rowAt xs k) (natAt ls k))) := by obtain ⟨d, rfl⟩ := hd.out; exact hc3
      have hrl : (rowAt xs k).length = p2 m := hrk.1
      have g0 : (0 : Int) ≤ (k : Int) := by omega
      have g1 : (k : Int) < (xs.length : Int) := by omega
      have g2 : (0 : Int) ≤ (natAt ls k : Int) := by omega
      have g3 : (natAt ls k : Int) < ((rowAt xs k).length : Int) := by omega
      have g4 : natAt ls k < (rowAt xs k).length := by omega
      have hsm : small (natAt ls k) := small_of (by omega)
      have hbo := hrk.2 (natAt ls k)
      have hcb1 := hcb.out (natAt ls k)
      rw [hpm] at hcb1
      have hco : Hid (costUpto ps (natAt ls k) m = costOf ps (natAt ls k)) := by rw [← hpm]; rfl
      rw [hco.out] at hcb1
      have hgn : Hid (gainOf xs ls ps k = at0 (rowAt xs k) (natAt ls k) - costOf ps (natAt ls k)) := rfl
      replace hat3 := Lib.hid hat3
      replace hrk := Lib.hid hrk
      have hc2k := Lib.hid hc1
      clear hc1 hc2 hc3 hi1 hco
      have hcall := Lib.hid (fun n => hcost.out (wr.drewN n) (natAt ls k) (by obtain ⟨d, rfl⟩ := hd.out; exact ⟨_, (World.drewN_drewN ..).symm⟩) hsm)
      generalize hcv : costOf ps (natAt ls k) = cv at *
      generalize at0 (rowAt xs k) (natAt ls k) = bv at *
      have hwr : IntKind.i64.wrap (bv - cv) = bv - cv := IntWalk.i64_in _ (by omega)
      have hgb : -7000000000 ≤ bv - cv ∧ bv - cv ≤ 7000000000 := by
        have h6 : (m : Int) ≤ 6 := by omega
        omega
      replace hrl := Lib.hid hrl
      replace hcb1 := Lib.hid hcb1
      replace hcv := Lib.hid hcv
      go_wp2
      go_step3
      go_wp2
      go_quiet ((go_at_call 64; exact quiet_left (hcall.out _)))
      clear hwr hbo hcb1 hcall f4 f3 f2 f1 hcv hcb hcost
      generalize bv - cv = gk at *
      have hd1 : Hid (∃ d, w.drewN d = wr.drewN nq) := by obtain ⟨d, rfl⟩ := hd.out; exact ⟨_, (World.drewN_drewN ..).symm⟩
      go_wp2
      go_step3
      go_wp2
      clear f0
      go_loopw [36] (fun i wr => ∃ j : Nat, j ≤ m ∧ i = .int .i64 j ∧ Hid (∃ d, w.drewN d = wr) ∧ Hid (∀ j', j' < j → ¬ wants xs ls ps k j')) (fun i _ => m - (intOf i).toNat)
      case atStart => exact ⟨0, Nat.zero_le _, rfl, hd1.out, fun j hj => absurd hj (by omega)⟩
      case round =>
        clear hd hd1
        obtain ⟨j, hj, rfl, hd, hnj⟩ := hrel
        by_cases hjl : j < m
        · have hjs : smallS j := smallS_of (by omega)
          have hwd : Hid (wants xs ls ps k j ↔ (bitOf (natAt ls k) j ≠ 1 ∧ 0 < moreOf xs ls ps k j)) := Iff.rfl
          by_cases hbit : bitOf (natAt ls k) j = 1
          · have hbb : (((bitOf (natAt ls k) j : Nat) : Int) == 1) = true := by rw [hbit]; rfl
            have hnw := Lib.hid (show ¬ wants xs ls ps k j by rw [hwd.out]; exact fun h => h.1 hbit)
            replace hbit := Lib.hid hbit
            go_wp2
            go_roundw
            case rel => exact ⟨j + 1, by omega, by go_num, hd.out, fun j' hj' => by
              by_cases h : j' = j
              · rw [h]; exact hnw.out
              · exact hnj.out j' (by omega)⟩
            case measure => simp [intOf]; omega
          · have hbb : (((bitOf (natAt ls k) j : Nat) : Int) == 1) = false := by simp; omega
            have hp2 := p2_lt hjl
            have hpj : p2 j < (rowAt xs k).length := by rw [hrl.out]; exact hp2
            have hc5 := hat3.out (p2 j) hpj
            have hc7 := hpat.out j (by omega)
            have f1 : wr.cell? ⟨X, 1, none⟩ = some (.slice (some ⟨b1, o1, none⟩) xs.length cap1) := by obtain ⟨d, rfl⟩ := hd.out; exact h1.out
            have f2 : wr.cell? ⟨b1, o1 + k, none⟩ = some (.slice (some ⟨b3, o3, none⟩) (rowAt xs k).length cap3) := by obtain ⟨d, rfl⟩ := hd.out; exact hc2k.out
            have f3 : wr.cell? ⟨X, 3, none⟩ = some (.slice (some ⟨G, 0, none⟩) m cap) := by obtain ⟨d, rfl⟩ := hd.out; exact h3.out
            have f5 : wr.cell? ⟨b3, o3 + p2 j, none⟩ = some (.int .i64 (at0 (rowAt xs k) (p2 j))) := by obtain ⟨d, rfl⟩ := hd.out; exact hc5
            have f7 : wr.cell? ⟨G, j, none⟩ = some (.int .i64 (at0 ps j)) := by obtain ⟨d, rfl⟩ := hd.out; exact hc7
            have f8 : wr.frozen? ⟨G, j, none⟩ = false := by obtain ⟨d, rfl⟩ := hd.out; exact hfr.out j
            have hmo : Hid (moreOf xs ls ps k j = at0 (rowAt xs k) (p2 j) - at0 ps j - gk) := by rw [← hgn.out]; rfl
            have q1 := hrk.out.2 (p2 j)
            have q2 := hpb.out j
            clear hc5 hc7
            generalize at0 (rowAt xs k) (p2 j) = bj at *
            generalize hpjv : at0 ps j = pj at *
            replace hpjv := Lib.hid hpjv
            have k0 : (0 : Int) ≤ (k : Int) := by omega
            have k1 : (k : Int) < (xs.length : Int) := by omega
            have k2 : (0 : Int) ≤ ((p2 j : Nat) : Int) := by omega
            have k3 : ((p2 j : Nat) : Int) < ((rowAt xs k).length : Int) := by omega
            have k4 : (0 : Int) ≤ (j : Int) := by omega
            have k5 : (j : Int) < (m : Int) := by omega
            have k6 : -9000000000 ≤ bj - pj - gk ∧ bj - pj - gk ≤ 9000000000 := by omega
            have k7 : -9000000000 ≤ bj - pj ∧ bj - pj ≤ 9000000000 := by omega
            have k8 : -99000000000 ≤ pj + (bj - pj - gk) ∧ pj + (bj - pj - gk) ≤ 99000000000 := by omega
            replace hrl := Lib.hid hrl.out
            obtain ⟨z1, z2⟩ : IntKind.i64.wrap (bj - pj) = bj - pj ∧ IntKind.i64.wrap (bj - pj - gk) = bj - pj - gk := ⟨IntWalk.i64_in _ (by omega), IntWalk.i64_in _ (by omega)⟩
            by_cases hpos : 0 < bj - pj - gk
            · have hw := Lib.hid (show wants xs ls ps k j by rw [hwd.out, hmo.out]; exact ⟨hbit, hpos⟩)
              replace hbit := Lib.hid hbit
              obtain ⟨mo, hmv⟩ : ∃ mo, mo = bj - pj - gk := ⟨_, rfl⟩
              go_wp2
              go_quiet (fail)
              clear z1 z2
              rw [← hmv] at hpos k6 k8 ⊢
              rw [← hmv] at hmo
              replace hmv := Lib.hid hmv
              go_wp2
              rw [Exit.noGoto_ret]
              go_wp2
              go_ret
              refine .inr ⟨k, j, ?_⟩
              rw [hmo.out, hpjv.out]
              obtain ⟨d, rfl⟩ := hd.out
              exact ⟨_, hlt, hjl, hw.out, rfl, by rw [World.drewN_drewN]⟩
            · have hnw := Lib.hid (show ¬ wants xs ls ps k j by rw [hwd.out, hmo.out]; exact fun h => hpos h.2)
              replace hbit := Lib.hid hbit
              go_wp2
              go_quiet (fail)
              clear z1 z2
              go_wp2
              go_roundw
              case rel => exact ⟨j + 1, by omega, by go_num, (by obtain ⟨d, rfl⟩ := hd.out; exact ⟨_, (World.drewN_drewN ..).symm⟩), fun j' hj' => by
                by_cases h : j' = j
                · rw [h]; exact hnw.out
                · exact hnj.out j' (by omega)⟩
              case measure => simp [intOf]; omega
        · obtain rfl : j = m := by omega
          go_wp2
          rw [Exit.noGoto_normal]
          go_wp2
          go_roundw
          case rel => exact ⟨k + 1, by omega, by go_num, hd.out, fun i hi j' hj' => by
            by_cases h : i = k
            · rw [h]; exact hnj.out j' hj'
            · exact hno.out i (by omega) j' hj'⟩
          case measure => simp [intOf]; omega
    · obtain rfl : k = xs.length := by omega
      go_wp2
      go_ret
      exact .inl ⟨rfl, hd.out, hno.out⟩

end Go.Proofs.Ytadonoacmpkolaa
