/- Clears, where the lists are an allocation and prices. -/
import Derived.Test.YtadonoacmpkolaaW22
import Derived.Test.YtadonoacmpkolaaW15
import Derived.Test.YtadonoacmpkolaaW17
import Derived.Test.YtadonoacmpkolaaL4
namespace Go.Proofs.Ytadonoacmpkolaa
open Go.RowKit
attribute [local go_sem high] walk_shl walk_shr walk_bit walk_rem walk_and walk_or walk_andNot

/-- the items that are left -/
def leftUpto (m : Nat) (ls : List Nat) : Nat → Nat
  | 0 => p2 m - 1
  | k + 1 => andN (leftUpto m ls k) (natAt ls k)
def clr1 (xs : List (List Int)) (ls : List Nat) (ps : List Int) (i s : Nat) : Bool := decide (at0 (rowAt xs i) s - costOf ps s ≤ at0 (rowAt xs i) (natAt ls i) - costOf ps (natAt ls i))
def clrRow (m : Nat) (xs : List (List Int)) (ls : List Nat) (ps : List Int) (i : Nat) : Bool := (List.range (p2 m)).all (clr1 xs ls ps i)
/-- whether prices clear an allocation -/
def clearsB (m : Nat) (xs : List (List Int)) (ls : List Nat) (ps : List Int) : Bool :=
  (List.range xs.length).all (clrRow m xs ls ps) && decide (costOf ps (leftUpto m ls xs.length) = 0)
theorem leftUpto_le (m : Nat) (ls : List Nat) : ∀ k, leftUpto m ls k ≤ p2 m - 1
  | 0 => Nat.le_refl _
  | k + 1 => Nat.le_trans (andN_le _ _) (leftUpto_le m ls k)
/-- prices as they may be -/
def priced (m : Nat) (ps : List Int) : Prop := ps.length = m ∧ ∀ i, 0 ≤ at0 ps i ∧ at0 ps i ≤ 1000000000

set_option maxRecDepth 100000 in
set_option maxHeartbeats 800000 in
theorem Clears_ok (w : World) (v u q : Value) (xs : List (List Int)) (ls : List Nat) (ps : List Int) (m : Nat) (h : Rows2 w v xs) (hu : Ints w u (casts ls)) (hq : Ints w q ps) (hE : Bids m xs)
    (hal : allocB m xs.length (casts ls) = true) (hp : priced m ps) (hls : ls.length = xs.length) (hnl : ∀ i, natAt ls i < p2 m) :
    Calls Try.prog 42 #[.int .i64 (m : Int), v, u, q] w fun e w' => e = .returned (.tuple #[.bool (clearsB m xs ls ps), .int .i64 0]) ∧ Below w.heap.size w w' := by
  have hc := check_any w v xs m h
  rw [hE.check] at hc
  replace hc := Lib.hid hc
  have hsa := fun W (hB : Below w.heap.size w W) => isAlloc_any W v u xs (casts ls) m (Rows2.below h (Nat.le_refl _) hB) (Ints.below hu (Nat.le_refl _) hB) hE.m6 (by have := hE.l6; omega)
  rw [hal] at hsa
  replace hsa := Lib.hid hsa
  clear hal
  obtain ⟨hpm, hpb⟩ := hp
  have hm1 := hE.m1
  have hm6 := hE.m6
  have hl6 := hE.l6
  have hmin := Lib.hid (fun W (hB : Below w.heap.size w W) => min_any W q ps (Ints.below hq (Nat.le_refl _) hB) (by omega))
  have hmax := Lib.hid (fun W (hB : Below w.heap.size w W) => max_any W q ps (Ints.below hq (Nat.le_refl _) hB) (by omega))
  have hmn : ¬ minUpto ps ps.length < 0 := by
    obtain ⟨i, hi, e⟩ := min_mem ps (by omega) ps.length (Nat.le_refl _)
    have := hpb i; omega
  have hmx : ¬ 1000000000 < maxUpto ps ps.length := by
    obtain ⟨i, hi, e⟩ := max_mem ps (by omega) ps.length (Nat.le_refl _)
    have := hpb i; omega
  generalize minUpto ps ps.length = mn at *
  generalize maxUpto ps ps.length = mx at *
  have hcost := Lib.hid (fun W (hB : Below w.heap.size w W) X (hX : W.cell? ⟨X, 3, none⟩ = some q) s (hs : small s) => cost_any W X q ps s hX (Ints.below hq (Nat.le_refl _) hB) hs (by omega) (fun i => by have := hpb i; omega))
  have hcb : Hid (∀ s, -7000000000 ≤ costOf ps s ∧ costOf ps s ≤ 7000000000) := fun s => by
    have := costUpto_bd ps s 1000000000 (by decide) (fun i => by have := hpb i; omega) ps.length
    unfold costOf
    have h6 : (ps.length : Int) ≤ 6 := by omega
    omega
  have hrow : Hid (∀ i, i < xs.length → (rowAt xs i).length = p2 m ∧ ∀ s, 0 ≤ at0 (rowAt xs i) s ∧ at0 (rowAt xs i) s ≤ 1000000) := fun i hi => hE.row i hi
  have hsm : smallS m := smallS_of (by omega)
  have h64 := p2_le64 hm6
  obtain ⟨M, hM⟩ : ∃ M, p2 m = M + 1 := ⟨p2 m - 1, by have := p2_pos m; omega⟩
  obtain ⟨R, hR⟩ : ∃ R, R = clearsB m xs ls ps := ⟨_, rfl⟩
  have hno : Hid (∀ i s, i < xs.length → s < M + 1 → clr1 xs ls ps i s = false → R = false) := fun i s hi hs hc => by
    rw [hR]; unfold clearsB
    rw [all_no hi (show clrRow m xs ls ps i = false from all_no (by rw [hM]; exact hs) hc)]
    rfl
  have hyes : Hid ((∀ i, i < xs.length → ∀ s, s < M + 1 → clr1 xs ls ps i s = true) → R = decide (costOf ps (leftUpto m ls xs.length) = 0)) := fun hc => by
    rw [hR]; unfold clearsB
    rw [all_yes fun i hi => show clrRow m xs ls ps i = true from all_yes fun s hs => hc i hi s (by rw [← hM]; exact hs)]
    rfl
  have hl0 : Hid (leftUpto m ls 0 = M) := by show p2 m - 1 = M; omega
  have hlle : Hid (∀ k, leftUpto m ls k ≤ M) := fun k => by have := leftUpto_le m ls k; omega
  rw [← hR]
  clear hR hE
  rw [hM] at hnl hrow
  replace hnl := Lib.hid hnl
  obtain ⟨A, cap, rfl, _, hcap, _, hat⟩ := h.open
  obtain ⟨B, cu, rfl, _, hcu, _, hau⟩ := hu.open
  obtain ⟨D, cq, rfl, _, hcq, _, _⟩ := hq.open
  rw [casts_length, hls] at hau hsa ⊢
  rw [hpm] at hq hmin hmax hcost ⊢
  replace hat := Lib.hid hat
  replace hau := Lib.hid hau
  clear h hu hq hpb hpm
  unfold maxLen at hcap hcu hcq
  replace hls := Lib.hid hls
  have hwM : IntKind.i64.wrap (M : Int) = (M : Int) := IntWalk.i64_in _ (by omega)
  go_enter Try.func42, Try.ntmps42
  go_wp2_with (first
    | (go_at_call 45; refine hc.out.mono ?_; rintro e w1 ⟨rfl, hB⟩; replace hB := Lib.hid hB)
    | (go_at_call 63; refine (hsa.out _ hB.out).mono ?_; rintro e w2 ⟨rfl, rfl⟩)
    | (go_at_call 47; refine (hmin.out _ hB.out).mono ?_; rintro e w3 ⟨rfl, rfl⟩)
    | (go_at_call 48; refine (hmax.out _ hB.out).mono ?_; rintro e w4 ⟨rfl, rfl⟩))
  obtain ⟨w5, hw5⟩ : ∃ w5, w5 = w1.alloc (.cells #[.int .i64 (m : Int), .slice A xs.length cap, .slice B xs.length cu, .slice D m cq] 81) := ⟨_, rfl⟩
  rw [← hw5]
  have hX := (Blk.new w1 81 #[.int .i64 (m : Int), .slice A xs.length cap, .slice B xs.length cu, .slice D m cq]).cell 3
  rw [← hw5] at hX
  have hB5 : Hid (Below w.heap.size w w5) := by rw [hw5]; exact bthen hB.out ((Below.refl _ _).alloc (Nat.le_refl _) _)
  obtain ⟨X, hXX⟩ : ∃ X, X = w1.heap.size := ⟨_, rfl⟩
  rw [← hXX] at hX ⊢
  replace hX : Hid (w5.cell? ⟨X, 3, none⟩ = some (.slice D m cq)) := hX
  have hcall := Lib.hid (fun d s hs => hcost.out (w5.drewN d) (below_drewN hB5.out d) X hX.out s hs)
  have hat5 : Hid (∀ i, i < xs.length → ∃ b1 o1 b4 o4 cap1, A = some ⟨b1, o1, none⟩ ∧ cap1 ≤ 2 ^ 63 - 1 ∧ M + 1 ≤ cap1 ∧ w5.cell? ⟨b1, o1 + i, none⟩ = some (.slice (some ⟨b4, o4, none⟩) (M + 1) cap1) ∧ ∀ s, s < M + 1 → w5.cell? ⟨b4, o4 + s, none⟩ = some (.int .i64 (at0 (rowAt xs i) s))) := fun i hi => by
    obtain ⟨b1, o1, A2, cap2, e1, hc1, hi1⟩ := hat.out i hi
    have hrj := (hrow.out i hi).1
    obtain ⟨b4, o4, e4, hc4⟩ := (hi1.addr (by omega)).2
    obtain ⟨A5, cap5, e5, hl5, hm5, _, _⟩ := hi1.open
    cases e5
    subst e4
    rw [hrj] at hc1 hl5
    exact ⟨b1, o1, b4, o4, cap2, e1, hm5, hl5, (hB5.out.cell (p := ⟨b1, o1 + i, none⟩) (lt_of_cell hc1)).trans hc1, fun s hs => by
      have := hc4 s (by omega)
      exact (hB5.out.cell (p := ⟨b4, o4 + s, none⟩) (lt_of_cell this)).trans this⟩
  have hau5 : Hid (∀ i, i < xs.length → ∃ b off, B = some ⟨b, off, none⟩ ∧ w5.cell? ⟨b, off + i, none⟩ = some (.int .i64 ((natAt ls i : Nat) : Int))) := fun i hi => by
    obtain ⟨b, off, e, hc⟩ := hau.out i hi
    rw [at0_casts] at hc
    exact ⟨b, off, e, (hB5.out.cell (p := ⟨b, off + i, none⟩) (lt_of_cell hc)).trans hc⟩
  clear hat hau hcost hc hsa hmin hmax hw5 hXX hB
  have hMs : M ≤ 63 := by omega
  have hdf : Hid (∀ i s, clr1 xs ls ps i s = decide (at0 (rowAt xs i) s - costOf ps s ≤ at0 (rowAt xs i) (natAt ls i) - costOf ps (natAt ls i))) := fun _ _ => rfl
  generalize costOf ps = cf at *
  replace hM := Lib.hid hM
  go_loopw [12, 56] (fun l i wr => ∃ k : Nat, k ≤ xs.length ∧ i = .int .i64 (k : Int) ∧ l = .int .i64 ((leftUpto m ls k : Nat) : Int) ∧ Hid (∀ j, j < k → ∀ s, s < M + 1 → clr1 xs ls ps j s = true) ∧ ∃ d, wr = w5.drewN d) (fun _ i _ => xs.length - (intOf i).toNat)
  case atStart => exact ⟨0, Nat.zero_le _, rfl, by rw [hl0.out], (fun j hj => absurd hj (by omega)), 0, rfl⟩
  case round =>
    obtain ⟨k, hk, rfl, rfl, hok, d, rfl⟩ := hrel
    by_cases hlt : k < xs.length
    · obtain ⟨b1, o1, b4, o4, cap1, rfl, hcp1, hcl1, hc1, hcr⟩ := hat5.out k hlt
      obtain ⟨b5, o5, rfl, hc5⟩ := hau5.out k hlt
      have hn1 := hnl.out k
      have hll := hlle.out k
      have hls1 : Hid (leftUpto m ls (k + 1) = andN (leftUpto m ls k) (natAt ls k)) := rfl
      have hc4 := hcr (natAt ls k) hn1
      replace hcr := Lib.hid hcr
      have hown := Lib.hid (hdf.out k)
      have hno1 := Lib.hid (fun s hs => hno.out k s hlt hs)
      have hrb := Lib.hid (hrow.out k hlt).2
      have hns : small (natAt ls k) := small_of (by omega)
      have hLs : small (leftUpto m ls k) := small_of (by omega)
      have hcob := hcb.out (natAt ls k)
      have hob := (hrow.out k hlt).2 (natAt ls k)
      generalize leftUpto m ls k = L at *
      generalize natAt ls k = nk at *
      generalize at0 (rowAt xs k) nk = on at *
      have hw2 : IntKind.i64.wrap (on - cf nk) = on - cf nk := IntWalk.i64_in _ (by omega)
      have hgb : -8000000000 ≤ on - cf nk ∧ on - cf nk ≤ 8000000000 := by omega
      clear hcob hob
      go_wp2
      go_loopw [69] (fun i wr => ∃ s : Nat, s ≤ M + 1 ∧ i = .int .i64 (s : Int) ∧ Hid (∀ t, t < s → clr1 xs ls ps k t = true) ∧ Hid (∃ d, wr = w5.drewN d)) (fun i _ => M + 1 - (intOf i).toNat)
      case atStart => exact ⟨0, Nat.zero_le _, rfl, (fun j hj => absurd hj (by omega)), d, rfl⟩
      case round =>
        obtain ⟨s, hs, rfl, hos, hd⟩ := hrel
        by_cases hsl : s < M + 1
        · have hcs := hcr.out s hsl
          have hss : small s := small_of (by omega)
          have hcs2 : Hid (∀ t, small t → ∀ n, Calls Try.prog 64 #[.pointer (some ⟨X, 0, none⟩), .int .i64 (t : Int)] (wr.drewN n) fun e w' => e = .returned (.int .i64 (cf t)) ∧ wr.drewN n = w') := fun t ht n => by
            obtain ⟨d, rfl⟩ := hd.out
            rw [World.drewN_drewN]
            exact hcall.out _ t ht
          have hcsb := hcb.out s
          have hsb := hrb.out s
          have hdef := Lib.hid (hown.out s)
          have hno2 := Lib.hid (hno1.out s hsl)
          have hd1 : wr.cell? ⟨b1, o1 + k, none⟩ = some (.slice (some ⟨b4, o4, none⟩) (M + 1) cap1) := by obtain ⟨d, rfl⟩ := hd.out; exact hc1
          have hd4 : wr.cell? ⟨b4, o4 + nk, none⟩ = some (.int .i64 on) := by obtain ⟨d, rfl⟩ := hd.out; exact hc4
          have hds : wr.cell? ⟨b4, o4 + s, none⟩ = some (.int .i64 (at0 (rowAt xs k) s)) := by obtain ⟨d, rfl⟩ := hd.out; exact hcs
          clear hcs
          generalize at0 (rowAt xs k) s = xv at *
          have hw1 : IntKind.i64.wrap (xv - cf s) = xv - cf s := IntWalk.i64_in _ (by omega)
          clear hcsb hsb
          by_cases hgt : on - cf nk < xv - cf s
          · have hr := Lib.hid (hno2.out (by rw [hdef.out]; simp; omega))
            clear hc1 hc4 hgb
            go_wp2_with fail
            go_quiet ((go_at_call 64; exact quiet_left (hcs2.out _ (by assumption) _)))
            go_wp2
            go_ret2
            obtain ⟨d, rfl⟩ := hd.out
            exact ⟨by rw [hr.out]; rfl, below_drewN (below_drewN hB5.out d) _⟩
          · have hr := Lib.hid (show clr1 xs ls ps k s = true by rw [hdef.out]; simp; omega)
            clear hc1 hc4 hgb
            go_wp2_with fail
            go_quiet ((go_at_call 64; exact quiet_left (hcs2.out _ (by assumption) _)))
            go_wp2
            go_roundw
            case rel => exact ⟨s + 1, by omega, by go_num, (fun t ht => by
              by_cases e : t = s
              · rw [e]; exact hr.out
              · exact hos.out t (by omega)), by obtain ⟨d, rfl⟩ := hd.out; exact ⟨_, World.drewN_drewN ..⟩⟩
            case measure => simp [intOf]; try omega
        · obtain rfl : s = M + 1 := by omega
          go_wp2
          go_roundw
          case rel => exact ⟨k + 1, by omega, by go_num, by rw [hls1.out], (fun j hj => by
            by_cases e : j = k
            · rw [e]; exact hos.out
            · exact hok.out j (by omega)), hd.out⟩
          case measure => simp [intOf]; try omega
    · obtain rfl : k = xs.length := by omega
      have hr := Lib.hid (hyes.out hok.out)
      have hll := hlle.out xs.length
      have hsl : small (leftUpto m ls xs.length) := small_of (by omega)
      have hcl := Lib.hid (hcall.out d _ hsl)
      generalize leftUpto m ls xs.length = L at *
      go_wp2_with (go_at_call 64; refine hcl.out.mono ?_; rintro e w6 ⟨rfl, rfl⟩)
      go_ret2
      exact ⟨by rw [hr.out]; rfl, below_drewN hB5.out d⟩
end Go.Proofs.Ytadonoacmpkolaa
