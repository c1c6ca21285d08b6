/- Prices. -/
import Derived.Test.YtadonoacmpkolaaW15
namespace Go.Proofs.Ytadonoacmpkolaa
open Go.RowKit
attribute [local go_sem high] walk_shl walk_shr walk_bit walk_rem walk_and walk_or walk_andNot

/-- prices at which no bidder would rather have another item -/
def Clr (m : Nat) (xs : List (List Int)) (ls : List Nat) (q : List Int) : Prop :=
  q.length = m ∧ (∀ j, 0 ≤ at0 q j ∧ at0 q j ≤ 1000000000) ∧ ∀ i, i < xs.length → ∀ j, j < m → ¬ wants xs ls q i j
/-- not above any such prices -/
def Low (m : Nat) (xs : List (List Int)) (ls : List Nat) (ps : List Int) : Prop :=
  ps.length = m ∧ (∀ j, 0 ≤ at0 ps j) ∧ ∀ q, Clr m xs ls q → ∀ j, at0 ps j ≤ at0 q j

theorem costUpto_mono (ps qs : List Int) (s : Nat) (h : ∀ j, at0 ps j ≤ at0 qs j) : ∀ k, costUpto ps s k ≤ costUpto qs s k
  | 0 => Int.le_refl _
  | k + 1 => by
    have := costUpto_mono ps qs s h k
    have := h k
    rw [costUpto, costUpto]
    split <;> omega

theorem at0_set (xs : List Int) (j : Nat) (x : Int) (i : Nat) (hj : j < xs.length) : at0 (xs.set j x) i = if i = j then x else at0 xs i := by
  unfold at0
  simp only [List.getD, List.getElem?_set]
  by_cases h : i = j
  · subst h; simp [hj]
  · rw [if_neg (fun e => h e.symm), if_neg h]

theorem Low.step {m : Nat} {xs : List (List Int)} {ls : List Nat} {ps : List Int} (h : Low m xs ls ps) {i j : Nat} (hi : i < xs.length) (hj : j < m) (hw : wants xs ls ps i j) :
    Low m xs ls (ps.set j (at0 ps j + moreOf xs ls ps i j)) := by
  obtain ⟨h1, h2, h3⟩ := h
  refine ⟨by simpa using h1, fun k => ?_, fun q hq k => ?_⟩
  · rw [at0_set _ _ _ _ (by omega)]
    split
    · have := hw.2; have := h2 j; omega
    · exact h2 k
  · rw [at0_set _ _ _ _ (by omega)]
    split
    · rename_i e
      subst e
      obtain ⟨q1, q2, q3⟩ := id hq
      have hn := q3 i hi k hj
      have hm := costUpto_mono ps q (natAt ls i) (h3 q hq) m
      have e1 : costOf ps (natAt ls i) = costUpto ps (natAt ls i) m := by unfold costOf; rw [h1]
      have e2 : costOf q (natAt ls i) = costUpto q (natAt ls i) m := by unfold costOf; rw [q1]
      unfold wants at hn hw
      have : ¬ 0 < moreOf xs ls q i k := fun hh => hn ⟨hw.1, hh⟩
      unfold moreOf gainOf at this ⊢
      omega
    · exact h3 q hq k

def sumN (f : Nat → Nat) : Nat → Nat
  | 0 => 0
  | k + 1 => sumN f k + f k
theorem sumN_congr {f g : Nat → Nat} : ∀ k, (∀ i, i < k → f i = g i) → sumN f k = sumN g k
  | 0, _ => rfl
  | k + 1, h => by rw [sumN, sumN, sumN_congr k fun i hi => h i (by omega), h k (by omega)]
theorem sumN_lt {f g : Nat → Nat} {j : Nat} (hj : f j < g j) : ∀ k, j < k → (∀ i, i < k → i ≠ j → f i = g i) → sumN f k < sumN g k
  | 0, h, _ => by omega
  | k + 1, h, he => by
    rw [sumN, sumN]
    by_cases e : j = k
    · subst e
      rw [sumN_congr j fun i hi => he i (by omega) (by omega)]
      omega
    · have := sumN_lt hj k (by omega) fun i hi hne => he i (by omega) hne
      have := he k (by omega) (by omega)
      omega
/-- how much the prices in block G may still rise -/
def muP (q : List Int) (G m : Nat) (W : World) : Nat := sumN (fun j => (at0 q j - intOf ((W.cell? ⟨G, j, none⟩).getD undef)).toNat) m
theorem muP_own {q : List Int} {G m cap lo : Nat} {W : World} {ps : List Int} (h : OwnI lo 2 W (.slice (some ⟨G, 0, none⟩) m cap) ps) (hm : 1 ≤ m) (hp : ps.length = m) : muP q G m W = sumN (fun j => (at0 q j - at0 ps j).toNat) m := by
  obtain ⟨g, c, e, _, _, _, _, hc, _⟩ := OwnI.open h (by omega)
  obtain rfl : G = g := by injection e with a; injection a with a; injection a
  refine sumN_congr m fun i hi => ?_
  show (at0 q i - intOf ((W.cell? ⟨G, i, none⟩).getD undef)).toNat = _
  rw [hc i (by omega)]
  rfl

set_option maxHeartbeats 400000 in
theorem Prices_bad (w : World) (v : Value) (xs : List (List Int)) (m : Int) (h : Rows2 w v xs) (hE : checkE m xs ≠ 0) :
    Calls Try.prog 26 #[.int .i64 m, v] w fun e w' => e = .returned (.tuple #[.slice none 0 0, .int .i64 (checkE m xs)]) ∧ Below w.heap.size w w' := by
  have hc := Lib.hid (check_any w v xs m h)
  have hne : (checkE m xs != 0) = true := by simpa using hE
  replace hE := Lib.hid hE
  clear h
  generalize checkE m xs = c at *
  go_enter Try.func26, Try.ntmps26
  go_wp2_with (go_at_call 45; refine hc.out.mono ?_; rintro e w1 ⟨rfl, hb⟩; replace hb := Lib.hid hb)
  go_ret2
  exact ⟨rfl, hb.out⟩

set_option maxHeartbeats 400000 in
theorem Prices_none (w : World) (v : Value) (xs : List (List Int)) (m : Nat) (h : Rows2 w v xs) (hE : Bids m xs) (hS : xs.all (singleB m) = false) :
    Calls Try.prog 26 #[.int .i64 (m : Int), v] w fun e w' => e = .returned (.tuple #[.slice none 0 0, .int .i64 4]) ∧ Below w.heap.size w w' := by
  have hc := check_any w v xs m h
  rw [hE.check] at hc
  replace hc := Lib.hid hc
  have hs := Lib.hid (fun w1 hb => isSingle_any w1 v xs m (Rows2.below h (Nat.le_refl _) hb) hE.m6 (fun l hl => (hE.ok l hl).1))
  rw [hS] at hs
  clear h hE
  go_enter Try.func26, Try.ntmps26
  go_wp2_with (first
    | (go_at_call 45; refine hc.out.mono ?_; rintro e w1 ⟨rfl, hb⟩; replace hb := Lib.hid hb)
    | (go_at_call 54; refine (hs.out _ hb.out).mono ?_; rintro e w2 ⟨rfl, hb2⟩; replace hb2 := Lib.hid hb2))
  go_ret2
  exact ⟨rfl, hb.out.trans (hb2.out.mono hb.out.size)⟩

theorem callFunc55 (args : Array Value) (W : World) : (callFunc 55 args).run Try.prog W = .ok (.enter 55 args) W := by simp [go_sem]

set_option maxHeartbeats 1000000 in
theorem Prices_ok (w : World) (v : Value) (xs : List (List Int)) (m : Nat) (h : Rows2 w v xs) (hE : Bids m xs) (hS : xs.all (singleB m) = true) (q0 : List Int) (hq0 : Clr m xs (alloc xs (p2 m - 1)) q0) :
    Calls Try.prog 26 #[.int .i64 (m : Int), v] w fun e w' => ∃ v' ps, e = .returned (.tuple #[v', .int .i64 0]) ∧ OwnI w.heap.size 2 w' v' ps ∧ Clr m xs (alloc xs (p2 m - 1)) ps ∧ Low m xs (alloc xs (p2 m - 1)) ps ∧ Below w.heap.size w w' := by
  have hc := check_any w v xs m h
  rw [hE.check] at hc
  replace hc := Lib.hid hc
  have hs := Lib.hid (fun w1 hb => isSingle_any w1 v xs m (Rows2.below h (Nat.le_refl _) hb) hE.m6 (fun l hl => (hE.ok l hl).1))
  rw [hS] at hs
  have hbest := Lib.hid (fun w1 hb => best_any w1 v m xs (Rows2.below h (Nat.le_refl _) hb) hE.m1 hE.m6 hE.l6 hE.ok)
  have hpos : 0 < p2 m := p2_pos m
  have hrise := Lib.hid (fun W X G lo vl ps (hM : Mkt W X m v vl (.slice (some ⟨G, 0, none⟩) m m)) (hb : Below w.heap.size w W) (hl : Ints W vl (casts (alloc xs (p2 m - 1)))) (hp : OwnI lo 2 W (.slice (some ⟨G, 0, none⟩) m m) ps) (hpm : ps.length = m) (hpb : ∀ j, 0 ≤ at0 ps j ∧ at0 ps j ≤ 1000000000) =>
    rise_any W X m G m lo v vl xs (alloc xs (p2 m - 1)) ps hM (Rows2.below h (Nat.le_refl _) hb) hl hp hpm hE.m1 hE.m6 hE.l6 (alloc_length _ _) (fun i hi => hE.row i hi) (fun i => by have := alloc_le xs (p2 m - 1) i; omega) hpb)
  have hm1 := hE.m1
  have hm6 := hE.m6
  obtain ⟨A, n, cap, rfl, hn⟩ := Slc.shape h
  clear h hE hS hpos
  obtain ⟨ls, hls⟩ : ∃ ls, ls = alloc xs (p2 m - 1) := ⟨_, rfl⟩
  have hcs : Hid ((alloc xs (p2 m - 1)).map (fun (s : Nat) => (s : Int)) = casts ls) := by rw [hls]; rfl
  rw [hcs.out] at hbest
  rw [← hls] at hrise hq0 ⊢
  clear hcs hls
  generalize wts xs (p2 m - 1) = q at *
  replace hq0 := Lib.hid hq0
  go_enter Try.func26, Try.ntmps26
  go_wp2_with (first
    | (go_at_call 45; refine hc.out.mono ?_; rintro e w1 ⟨rfl, hb⟩; replace hb := Lib.hid hb)
    | (go_at_call 54; refine (hs.out _ hb.out).mono ?_; rintro e w2 ⟨rfl, hb2⟩; replace hb2 := Lib.hid (hb.out.trans (hb2.mono hb.out.size)))
    | (go_at_call 52; refine (hbest.out _ hb2.out).mono ?_; rintro e w3 ⟨vl, rfl, hol, hb3⟩; obtain ⟨A3, n3, c3, rfl, hn3⟩ := OwnL.shape hol; replace hb3 := Lib.hid (hb2.out.trans (hb3.mono hb2.out.size)); replace hol := Lib.hid hol)
    | (at_make; refine wpList_make_ints rfl _ _ 27 rfl w3.heap.size 2 Try.underlying27 info2 m rfl rfl (by omega) (Nat.le_refl _) _ rfl ?_; intro w4 ho hg hsz; replace ho := Lib.hid ho; replace hg := Lib.hid hg))
  obtain ⟨w5, hw5⟩ : ∃ w5, w5 = w4.alloc (.cells #[.int .i64 (m : Int), .slice A n cap, .slice A3 n3 c3, .slice (some ⟨w3.heap.size, 0, none⟩) m m] 81) := ⟨_, rfl⟩
  rw [← hw5]
  have hX := Blk.new w4 81 #[.int .i64 (m : Int), .slice A n cap, .slice A3 n3 c3, .slice (some ⟨w3.heap.size, 0, none⟩) m m]
  rw [← hw5] at hX
  replace hX := Lib.hid hX
  have hB5 : Hid (Below w3.heap.size w3 w5) := by rw [hw5]; exact hg.out.alloc (by omega) _
  have ho5 : Hid (OwnI w3.heap.size 2 w5 (.slice (some ⟨w3.heap.size, 0, none⟩) m m) (tab m fun _ => 0)) := by
    rw [hw5]; exact OwnL.below ho.out (Nat.le_refl _) ((Below.refl _ _).alloc (Nat.le_refl _) _)
  clear hw5 ho hg hc hs hbest
  obtain ⟨G, hG⟩ : ∃ G, G = w3.heap.size := ⟨_, rfl⟩
  obtain ⟨X, hXX⟩ : ∃ X, X = w4.heap.size := ⟨_, rfl⟩
  rw [← hG] at hX hB5 ho5 hsz ⊢
  rw [← hXX] at hX hsz ⊢
  have hGX : G ≠ X := by omega
  clear hXX
  replace hG := Lib.hid hG
  have hlow0 : Hid (Low m xs ls (tab m fun _ => 0)) := ⟨tab_length _ _, fun j => by rw [at0_tab]; split <;> omega, fun q hq j => by
    have := (hq.2.1 j).1
    rw [at0_tab]
    split <;> omega⟩
  go_loopw [37] (fun _ wr => ∃ ps, Hid (OwnI G 2 wr (.slice (some ⟨G, 0, none⟩) m m) ps) ∧ Hid (Blk wr X 81 #[.int .i64 (m : Int), .slice A n cap, .slice A3 n3 c3, .slice (some ⟨G, 0, none⟩) m m]) ∧ Hid (Below G w3 wr) ∧ Hid (Low m xs ls ps)) (fun _ wr => muP q0 G m wr)
  case atStart => exact ⟨_, ho5.out, hX.out, hB5.out, hlow0.out⟩
  case round =>
    clear hX hB5 ho5 hlow0
    obtain ⟨ps, ho, hX, hB, hlow⟩ := hrel
    have hpl := hlow.out.1
    have hpb : ∀ j, 0 ≤ at0 ps j ∧ at0 ps j ≤ 1000000000 := fun j => ⟨hlow.out.2.1 j, Int.le_trans (hlow.out.2.2 q0 hq0.out j) (hq0.out.2.1 j).2⟩
    have hcall := hrise.out wr X G G (.slice A3 n3 c3) ps ⟨hX.out.cell 0, hX.out.cell 1, hX.out.cell 2, hX.out.cell 3⟩ (hb3.out.trans (hB.out.mono (by rw [hG.out]; exact hb3.out.size)))
      (OwnI.ints (OwnL.below hol.out (Nat.le_of_eq hG.out.symm) hB.out)) ho.out hpl hpb
    replace hcall := Lib.hid (hcall.mono (R' := fun e w' => ∃ b : Bool, e = .returned (.bool b) ∧ w'.cell? ⟨X, 3, none⟩ = some (.slice (some ⟨G, 0, none⟩) m m) ∧ Hid ((b = false ∧ (∃ d, wr.drewN d = w') ∧ ∀ (i : Nat), i < xs.length → ∀ (j : Nat), j < m → ¬wants xs ls ps i j) ∨
      (b = true ∧ ∃ i j d, i < xs.length ∧ j < m ∧ wants xs ls ps i j ∧ w' = (wr.drewN d).setCell ⟨G, j, none⟩ (.int .i64 (at0 ps j + moreOf xs ls ps i j))))) (by
        rintro e w' (⟨rfl, h1, h2⟩ | ⟨i, j, d, h1, h2, h3, rfl, h4⟩)
        · exact ⟨false, rfl, by obtain ⟨d, rfl⟩ := h1; exact hX.out.cell 3, .inl ⟨rfl, h1, h2⟩⟩
        · exact ⟨true, rfl, by rw [h4]; exact ((hX.out.drewN d).far (p := ⟨G, j, none⟩) (Ne.symm hGX) _).cell 3, .inr ⟨rfl, i, j, d, h1, h2, h3, h4⟩⟩))
    have hmu0 := Lib.hid (muP_own (q := q0) ho.out hm1 hpl)
    replace hpb := Lib.hid hpb
    go_wp2_with (go_at_call 55; refine hcall.out.mono ?_; rintro e w6 ⟨b, rfl, hc3, hres⟩)
    · rename_i hb1
      rcases hres.out with ⟨h1, _⟩ | ⟨_, i, j, d, hi, hj, hw, rfl⟩
      · rw [hb1] at h1; cases h1
      · have hst := OwnI.set (xs := ps) (cap := m) (g := G) (lo := G) (e := 2) (w := wr.drewN d) (by rw [hpl]; exact ho.out) j (at0 ps j + moreOf xs ls ps i j)
        have hl2 : (ps.set j (at0 ps j + moreOf xs ls ps i j)).length = m := by rw [List.length_set]; exact hpl
        rw [hl2] at hst
        have hlow2 := hlow.out.step hi hj hw
        refine ⟨⟨_, hst.1, (hX.out.drewN d).far (p := ⟨G, j, none⟩) (Ne.symm hGX) _, (below_drewN hB.out d).setCell (p := ⟨G, j, none⟩) (Nat.le_refl _) _, hlow2⟩, ?_⟩
        rw [hmu0.out, muP_own (q := q0) hst.1 hm1 hl2]
        refine sumN_lt (j := j) ?_ m hj fun k hk hne => ?_
        · have h3 := hlow2.2.2 q0 hq0.out j
          rw [at0_set _ _ _ _ (by omega), if_pos rfl] at h3 ⊢
          have := hw.2
          omega
        · rw [at0_set _ _ _ _ (by omega), if_neg hne]
    · go_ret2
      have hb1 : b = false := by cases b <;> simp_all
      rcases hres.out with ⟨_, ⟨d, rfl⟩, hno⟩ | ⟨h1, _⟩
      · exact ⟨_, ps, rfl, (OwnL.drewN ho.out d).lo_le (by rw [hG.out]; exact hb3.out.size), ⟨hpl, hpb.out, hno⟩, hlow.out, below_drewN (hb3.out.trans (hB.out.mono (by rw [hG.out]; exact hb3.out.size))) d⟩
      · rw [hb1] at h1; cases h1

end Go.Proofs.Ytadonoacmpkolaa
