/- The reference: sum, Clears. -/
import Derived.Test.YtadonoacmpkolaaM7
import Derived.Test.YtadonoacmpkolaaR1
namespace Go.Proofs.Ytadonoacmpkolaa
open Go.RowKit
attribute [local go_sem high] walk_shl walk_shr walk_bit walk_rem walk_and walk_or walk_andNot

set_option maxHeartbeats 800000 in
theorem rsum_any (w : World) (v : Value) (ps : List Int) (s : Nat) (h : Ints w v ps) (hs : small s) (hl : ps.length ≤ 6) (hb : ∀ i, -10000000000 ≤ at0 ps i ∧ at0 ps i ≤ 10000000000) :
    Calls Try.prog 58 #[v, .int .i64 (s : Int)] w fun e w' => e = .returned (.int .i64 (costOf ps s)) ∧ w = w' := by
  obtain ⟨A, cap, rfl, hl2, hcap, hn, hat⟩ := h.open
  replace hat := Lib.hid hat
  have hcb := Lib.hid (costUpto_bd ps s 10000000000 (by decide) hb)
  replace hb := Lib.hid hb
  clear hn h
  unfold maxLen at hcap
  unfold costOf
  go_enter Try.func58, Try.ntmps58
  go_wp2
  go_loop [5, 6] (fun c i => ∃ k : Nat, k ≤ ps.length ∧ i = .int .i64 (k : Int) ∧ c = .int .i64 (costUpto ps s k)) (fun _ i => ps.length - (intOf i).toNat)
  case atStart => exact ⟨0, Nat.zero_le _, rfl, rfl⟩
  case round =>
    obtain ⟨k, hk, rfl, rfl⟩ := hrel
    by_cases hlt : k < ps.length
    · obtain ⟨b1, o1, rfl, hc1⟩ := hat.out k hlt
      have hks : smallS k := smallS_of (by omega)
      have hcs : Hid (costUpto ps s (k + 1) = if bitOf s k = 1 then costUpto ps s k + at0 ps k else costUpto ps s k) := rfl
      have h1 := hcb.out k
      have h2 := hb.out k
      have h6 : (k : Int) ≤ 6 := by omega
      generalize costUpto ps s k = c at *
      generalize at0 ps k = p at *
      have hwr : IntKind.i64.wrap (c + p) = c + p := IntWalk.i64_in _ (by omega)
      clear h1 h2
      by_cases hbit : bitOf s k = 1
      · rw [if_pos hbit] at hcs
        have hbb := bitOf_is hbit
        replace hbit := Lib.hid hbit
        go_wp2
        go_round
        case rel => exact ⟨k + 1, by omega, by go_num, by rw [hcs.out]⟩
        case measure => simp [intOf]; try omega
      · rw [if_neg hbit] at hcs
        have hbb := bitOf_ne hbit
        replace hbit := Lib.hid hbit
        go_wp2
        go_round
        case rel => exact ⟨k + 1, by omega, by go_num, by rw [hcs.out]⟩
        case measure => simp [intOf]; try omega
    · obtain rfl : k = ps.length := by omega
      go_wp2
      go_ret
      exact ⟨rfl, rfl⟩

theorem left_tk (m : Nat) (ls : List Nat) : ∀ k j, (leftUpto m ls k).testBit j = (decide (j < m) && !(tk (casts ls) k).testBit j)
  | 0, j => by
    show (p2 m - 1).testBit j = (decide (j < m) && !(0 : Nat).testBit j)
    unfold p2
    rw [Nat.testBit_two_pow_sub_one]; simp
  | k + 1, j => by
    rw [leftUpto, testBit_andN, left_tk m ls k j, tk, at0_casts, Int.toNat_natCast, Nat.testBit_or]
    cases decide (j < m) <;> cases (tk (casts ls) k).testBit j <;> cases (natAt ls k).testBit j <;> rfl
theorem left_zero {m : Nat} {ps : List Int} (hp : priced m ps) (L : Nat) : costOf ps L = 0 ↔ ∀ j, j < m → bitOf L j = 1 → at0 ps j = 0 := by
  unfold costOf
  rw [hp.1]
  constructor
  · intro h j hj hb
    have := cost_ge ps L j (fun j => (hp.2 j).1) hb m hj
    have := (hp.2 j).1
    omega
  · intro h
    exact cost_none ps L m h
theorem tkN_lt {m : Nat} {ls : List Nat} (h : ∀ i, natAt ls i < p2 m) : ∀ k, tk (casts ls) k < p2 m
  | 0 => p2_pos m
  | k + 1 => by
    have ih := tkN_lt h k
    have := h k
    rw [tk, at0_casts, Int.toNat_natCast]
    unfold p2 at *
    exact Nat.or_lt_two_pow ih this

set_option maxRecDepth 100000 in
set_option maxHeartbeats 1500000 in
theorem rclears_any (w : World) (v u q : Value) (xs : List (List Int)) (ls : List Nat) (ps : List Int) (m : Nat) (h : Rows2 w v xs) (hu : Ints w u (casts ls)) (hq : Ints w q ps) (hE : Bids m xs)
    (hp : priced m ps) (hls : ls.length = xs.length) (hnl : ∀ i, natAt ls i < p2 m) :
    Calls Try.prog 34 #[.int .i64 (m : Int), v, u, q] w fun e w' => e = .returned (.bool (clearsB m xs ls ps)) ∧ ∃ d, w.drewN d = w' := by
  have hz := Lib.hid (left_zero hp (leftUpto m ls xs.length))
  have htb := Lib.hid (fun j => left_tk m ls xs.length j)
  have htl := tkN_lt hnl xs.length
  have htl' := Lib.hid (tkN_lt hnl)
  obtain ⟨hpm, hpb⟩ := hp
  have hm1 := hE.m1
  have hm6 := hE.m6
  have hl6 := hE.l6
  have hcost := Lib.hid (fun (d s : Nat) (hs : small s) => rsum_any (w.drewN d) q ps s (Ints.drewN hq d) hs (by omega) (fun i => by have := hpb i; omega))
  have hcb : Hid (∀ s, -7000000000 ≤ costOf ps s ∧ costOf ps s ≤ 7000000000) := fun s => by
    have := costUpto_bd ps s 1000000000 (by decide) (fun i => by have := hpb i; omega) ps.length
    unfold costOf
    have h6 : (ps.length : Int) ≤ 6 := by omega
    omega
  have hrow : Hid (∀ i, i < xs.length → (rowAt xs i).length = p2 m ∧ ∀ s, 0 ≤ at0 (rowAt xs i) s ∧ at0 (rowAt xs i) s ≤ 1000000) := fun i hi => hE.row i hi
  have hsm : smallS m := smallS_of (by omega)
  have h64 := p2_le64 hm6
  obtain ⟨N, hN⟩ : ∃ N, N = p2 m := ⟨_, rfl⟩
  obtain ⟨R, hR⟩ : ∃ R, R = clearsB m xs ls ps := ⟨_, rfl⟩
  have hno : Hid (∀ i s, i < xs.length → s < N → clr1 xs ls ps i s = false → R = false) := fun i s hi hs hc => by
    rw [hR]; unfold clearsB
    rw [all_no hi (show clrRow m xs ls ps i = false from all_no (by rw [← hN]; exact hs) hc)]
    rfl
  have hyes : Hid ((∀ i, i < xs.length → ∀ s, s < N → clr1 xs ls ps i s = true) → R = decide (costOf ps (leftUpto m ls xs.length) = 0)) := fun hc => by
    rw [hR]; unfold clearsB
    rw [all_yes fun i hi => show clrRow m xs ls ps i = true from all_yes fun s hs => hc i hi s (by rw [hN]; exact hs)]
    rfl
  rw [← hR]
  clear hR hE
  rw [← hN] at hnl hrow h64 htl htl'
  replace hnl := Lib.hid hnl
  obtain ⟨A, cap, rfl, _, hcap, _, hat⟩ := h.open
  obtain ⟨B, cu, rfl, _, hcu, _, hau⟩ := hu.open
  obtain ⟨D, cq, rfl, _, hcq, _, haq⟩ := hq.open
  rw [casts_length, hls] at hau ⊢
  rw [hpm] at haq hcost ⊢
  replace hat := Lib.hid hat
  replace hau := Lib.hid hau
  replace haq := Lib.hid haq
  clear h hu hq hpb hpm
  unfold maxLen at hcap hcu hcq
  replace hls := Lib.hid hls
  have hdf : Hid (∀ i s, clr1 xs ls ps i s = decide (at0 (rowAt xs i) s - costOf ps s ≤ at0 (rowAt xs i) (natAt ls i) - costOf ps (natAt ls i))) := fun _ _ => rfl
  have hcells : Hid (∀ i, i < xs.length → ∃ b1 o1 b4 o4 cap1 b5 o5, A = some ⟨b1, o1, none⟩ ∧ B = some ⟨b5, o5, none⟩ ∧ cap1 ≤ 2 ^ 63 - 1 ∧ N ≤ cap1 ∧ w.cell? ⟨b1, o1 + i, none⟩ = some (.slice (some ⟨b4, o4, none⟩) N cap1) ∧ w.cell? ⟨b5, o5 + i, none⟩ = some (.int .i64 ((natAt ls i : Nat) : Int)) ∧ ∀ s, s < N → w.cell? ⟨b4, o4 + s, none⟩ = some (.int .i64 (at0 (rowAt xs i) s))) := fun i hi => by
    obtain ⟨b1, o1, A2, cap2, e1, hc1, hi1⟩ := hat.out i hi
    have hrj := (hrow.out i hi).1
    have hNp : 0 < N := by rw [hN]; exact p2_pos m
    obtain ⟨b4, o4, e4, hc4⟩ := (hi1.addr (by omega)).2
    obtain ⟨A5, cap5, e5, hl5, hm5, _, _⟩ := hi1.open
    cases e5
    subst e4
    rw [hrj] at hc1 hl5
    obtain ⟨b5, o5, e5, hc5⟩ := hau.out i hi
    rw [at0_casts] at hc5
    exact ⟨b1, o1, b4, o4, cap2, b5, o5, e1, e5, hm5, hl5, hc1, hc5, fun s hs => hc4 s (by omega)⟩
  clear hat hau
  replace hN := Lib.hid hN
  have htk : Hid (∀ k, tk (casts ls) (k + 1) = tk (casts ls) k ||| natAt ls k) := fun k => by show tk _ k ||| _ = _; rw [at0_casts, Int.toNat_natCast]
  have htk0 : Hid (tk (casts ls) 0 = 0) := rfl
  generalize costOf ps = cf at *
  generalize tk (casts ls) = tf at *
  go_enter Try.func34, Try.ntmps34
  go_wp2
  go_loopw [9, 10] (fun t i wr => ∃ k : Nat, k ≤ xs.length ∧ i = .int .i64 (k : Int) ∧ t = .int .i64 ((tf k : Nat) : Int) ∧ Hid (∀ j, j < k → ∀ s, s < N → clr1 xs ls ps j s = true) ∧ Hid (∃ d, wr = w.drewN d)) (fun _ i _ => xs.length - (intOf i).toNat)
  case atStart => exact ⟨0, Nat.zero_le _, rfl, by rw [htk0.out]; rfl, (fun j hj => absurd hj (by omega)), 0, rfl⟩
  case round =>
    obtain ⟨k, hk, rfl, rfl, hok, hd⟩ := hrel
    by_cases hlt : k < xs.length
    · obtain ⟨b1, o1, b4, o4, cap1, b5, o5, rfl, rfl, hcp1, hcl1, hc1, hc5, hcr⟩ := hcells.out k hlt
      have hn1 := hnl.out k
      have hc4 := hcr (natAt ls k) hn1
      replace hcr := Lib.hid hcr
      have hown := Lib.hid (hdf.out k)
      have hno1 := Lib.hid (fun s hs => hno.out k s hlt hs)
      have hrb := Lib.hid (hrow.out k hlt).2
      have hns : small (natAt ls k) := small_of (by omega)
      have hts := htl'.out k
      have htsm : small (tf k) := small_of (by omega)
      have htk1 := Lib.hid (htk.out k)
      have hcob := hcb.out (natAt ls k)
      have hob := (hrow.out k hlt).2 (natAt ls k)
      have hcs2 : Hid (∀ t, small t → ∀ n, Calls Try.prog 58 #[.slice D m cq, .int .i64 (t : Int)] (wr.drewN n) fun e w' => e = .returned (.int .i64 (cf t)) ∧ wr.drewN n = w') := fun t ht n => by
        obtain ⟨d, rfl⟩ := hd.out
        rw [World.drewN_drewN]
        exact hcost.out _ t ht
      have e1 : wr.cell? ⟨b1, o1 + k, none⟩ = some (.slice (some ⟨b4, o4, none⟩) N cap1) := by obtain ⟨d, rfl⟩ := hd.out; exact hc1
      have e4 : wr.cell? ⟨b4, o4 + natAt ls k, none⟩ = some (.int .i64 (at0 (rowAt xs k) (natAt ls k))) := by obtain ⟨d, rfl⟩ := hd.out; exact hc4
      have e5 : wr.cell? ⟨b5, o5 + k, none⟩ = some (.int .i64 ((natAt ls k : Nat) : Int)) := by obtain ⟨d, rfl⟩ := hd.out; exact hc5
      replace hc1 := Lib.hid hc1
      replace hc5 := Lib.hid hc5
      clear hc4
      generalize natAt ls k = nk at *
      generalize at0 (rowAt xs k) nk = on at *
      have hw2 : IntKind.i64.wrap (on - cf nk) = on - cf nk := IntWalk.i64_in _ (by omega)
      have hgb : -8000000000 ≤ on - cf nk ∧ on - cf nk ≤ 8000000000 := by omega
      clear hcob hob
      go_wp2_with fail
      go_quiet ((go_at_call 58; exact quiet_left (hcs2.out _ (by assumption) _)))
      clear hw2 e1 e4 e5
      generalize hgk : on - cf nk = gk at *
      replace hgk := Lib.hid hgk
      go_wp2
      go_loopw [12] (fun i W => ∃ s : Nat, s ≤ N ∧ i = .int .i64 (s : Int) ∧ Hid (∀ t, t < s → clr1 xs ls ps k t = true) ∧ Hid (∃ d, W = w.drewN d)) (fun i _ => N - (intOf i).toNat)
      case atStart => exact ⟨0, Nat.zero_le _, rfl, (fun j hj => absurd hj (by omega)), by obtain ⟨d, rfl⟩ := hd.out; exact ⟨_, World.drewN_drewN ..⟩⟩
      case round =>
        clear hd hcs2
        obtain ⟨s, hs, rfl, hos, hd⟩ := hrel
        by_cases hsl : s < N
        · have hcs := hcr.out s hsl
          have hss : small s := small_of (by omega)
          have hsl' : ((s : Int) < ((p2 m : Nat) : Int)) := by rw [← hN.out]; omega
          have hcs2 : Hid (∀ t, small t → ∀ n, Calls Try.prog 58 #[.slice D m cq, .int .i64 (t : Int)] (wr.drewN n) fun e w' => e = .returned (.int .i64 (cf t)) ∧ wr.drewN n = w') := fun t ht n => by
            obtain ⟨d, rfl⟩ := hd.out
            rw [World.drewN_drewN]
            exact hcost.out _ t ht
          have hcsb := hcb.out s
          have hsb := hrb.out s
          have hdef := Lib.hid (hown.out s)
          have hno2 := Lib.hid (hno1.out s hsl)
          have hd1 : wr.cell? ⟨b1, o1 + k, none⟩ = some (.slice (some ⟨b4, o4, none⟩) N cap1) := by obtain ⟨d, rfl⟩ := hd.out; exact hc1.out
          have hds : wr.cell? ⟨b4, o4 + s, none⟩ = some (.int .i64 (at0 (rowAt xs k) s)) := by obtain ⟨d, rfl⟩ := hd.out; exact hcs
          clear hcs
          generalize at0 (rowAt xs k) s = xv at *
          have hw1 : IntKind.i64.wrap (xv - cf s) = xv - cf s := IntWalk.i64_in _ (by omega)
          clear hcsb hsb hgb
          by_cases hgt : gk < xv - cf s
          · have hr := Lib.hid (hno2.out (by rw [hdef.out]; simp; omega))
            go_wp2_with fail
            go_quiet ((go_at_call 58; exact quiet_left (hcs2.out _ (by assumption) _)))
            go_wp2
            go_ret
            obtain ⟨d, rfl⟩ := hd.out
            exact ⟨by rw [hr.out]; rfl, _, (World.drewN_drewN ..).symm⟩
          · have hr := Lib.hid (show clr1 xs ls ps k s = true by rw [hdef.out]; simp; omega)
            go_wp2_with fail
            go_quiet ((go_at_call 58; exact quiet_left (hcs2.out _ (by assumption) _)))
            go_wp2
            go_roundw
            case rel => exact ⟨s + 1, by omega, by go_num, (fun t ht => by
              by_cases e : t = s
              · rw [e]; exact hr.out
              · exact hos.out t (by omega)), by obtain ⟨d, rfl⟩ := hd.out; exact ⟨_, World.drewN_drewN ..⟩⟩
            case measure => simp [intOf]; try omega
        · obtain rfl : s = N := by omega
          have hsl' : ¬ ((s : Int) < ((p2 m : Nat) : Int)) := by rw [← hN.out]; omega
          have e5 : wr.cell? ⟨b5, o5 + k, none⟩ = some (.int .i64 ((nk : Nat) : Int)) := by obtain ⟨d, rfl⟩ := hd.out; exact hc5.out
          clear hgb
          go_wp2
          go_roundw
          case rel => exact ⟨k + 1, by omega, by go_num, by rw [htk1.out], (fun j hj => by
            by_cases e : j = k
            · rw [e]; exact hos.out
            · exact hok.out j (by omega)), hd.out⟩
          case measure => simp [intOf]; try omega
    · obtain rfl : k = xs.length := by omega
      have hr := Lib.hid (hyes.out hok.out)
      have hts : small (tf xs.length) := small_of (by omega)
      clear hno hyes hcells hcost hok
      generalize tf xs.length = T at *
      generalize leftUpto m ls xs.length = L at *
      go_wp2
      go_loopw [13] (fun i W => ∃ j : Nat, j ≤ m ∧ i = .int .i64 (j : Int) ∧ Hid (∀ t, t < j → bitOf L t = 1 → at0 ps t = 0) ∧ Hid (∃ d, W = w.drewN d)) (fun i _ => m - (intOf i).toNat)
      case atStart => exact ⟨0, Nat.zero_le _, rfl, (fun t ht => absurd ht (by omega)), hd.out⟩
      case round =>
        clear hd
        obtain ⟨j, hj, rfl, hf, hd⟩ := hrel
        by_cases hjl : j < m
        · obtain ⟨b3, o3, rfl, hc3⟩ := haq.out j hjl
          have hd3 : wr.cell? ⟨b3, o3 + j, none⟩ = some (.int .i64 (at0 ps j)) := by obtain ⟨d, rfl⟩ := hd.out; exact hc3
          have hjs : smallS j := smallS_of (by omega)
          have htj := htb.out j
          have hLT : (bitOf T j = 0 ∧ bitOf L j = 1) ∨ (¬ bitOf T j = 0 ∧ ¬ bitOf L j = 1) := by
            rw [testBit_bitOf, testBit_bitOf, htj]
            cases T.testBit j <;> simp [hjl]
          clear hc3 htj
          have hnext : Hid ((bitOf L j = 1 → at0 ps j = 0) → ∀ t, t < j + 1 → bitOf L t = 1 → at0 ps t = 0) := fun h t ht hb => by
            by_cases e : t = j
            · subst e; exact h hb
            · exact hf.out t (by omega) hb
          have hbad : Hid (bitOf L j = 1 → ¬ at0 ps j = 0 → decide (cf L = 0) = false) := fun hb hp => by
            rw [decide_eq_false_iff_not, hz.out]
            exact fun h => hp (h j hjl hb)
          generalize at0 ps j = pj at *
          rcases hLT with ⟨t1, t2⟩ | ⟨t1, t2⟩
          · have hb0 : (((bitOf T j : Nat) : Int) == 0) = true := by rw [t1]; rfl
            replace t1 := Lib.hid t1
            by_cases hp0 : pj = 0
            · have hne : (pj != 0) = false := by rw [hp0]; rfl
              have hr2 := Lib.hid (hnext.out fun _ => hp0)
              replace hp0 := Lib.hid hp0
              replace t2 := Lib.hid t2
              go_wp2
              go_roundw
              case rel => exact ⟨j + 1, by omega, by go_num, hr2.out, hd.out⟩
              case measure => simp [intOf]; try omega
            · have hne : (pj != 0) = true := by simpa using hp0
              have hr2 := Lib.hid (hbad.out t2 hp0)
              replace hp0 := Lib.hid hp0
              replace t2 := Lib.hid t2
              go_wp2
              go_ret
              obtain ⟨d, rfl⟩ := hd.out
              exact ⟨by rw [hr.out, hr2.out]; rfl, _, rfl⟩
          · have hb0 : (((bitOf T j : Nat) : Int) == 0) = false := by simp; omega
            have hr2 := Lib.hid (hnext.out fun h => absurd h t2)
            replace t1 := Lib.hid t1
            replace t2 := Lib.hid t2
            go_wp2
            go_roundw
            case rel => exact ⟨j + 1, by omega, by go_num, hr2.out, hd.out⟩
            case measure => simp [intOf]; try omega
        · obtain rfl : j = m := by omega
          have hr2 := Lib.hid (show decide (cf L = 0) = true by rw [decide_eq_true_eq, hz.out]; exact fun t ht hb => hf.out t ht hb)
          go_wp2
          go_ret
          obtain ⟨d, rfl⟩ := hd.out
          exact ⟨by rw [hr.out, hr2.out]; rfl, _, rfl⟩
end Go.Proofs.Ytadonoacmpkolaa
