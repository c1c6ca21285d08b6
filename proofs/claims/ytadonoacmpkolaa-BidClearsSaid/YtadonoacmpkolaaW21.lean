/- IsCore, and the reference's. -/
import Derived.Test.YtadonoacmpkolaaR5
import Derived.Test.YtadonoacmpkolaaW18
import Derived.Test.YtadonoacmpkolaaW17
namespace Go.Proofs.Ytadonoacmpkolaa
open Go.RowKit
attribute [local go_sem high] walk_shl walk_shr walk_bit walk_rem walk_and walk_or walk_andNot

def inUpto (os : List Int) (s : Nat) : Nat → Int
  | 0 => 0
  | k + 1 => if bitOf s k = 1 then inUpto os s k + at0 os k else inUpto os s k
def outUpto (ps : List Int) (s : Nat) : Nat → Int
  | 0 => 0
  | k + 1 => if bitOf s k = 1 then outUpto ps s k else outUpto ps s k + at0 ps k
theorem inUpto_bd (os : List Int) (s : Nat) (h : ∀ i, 0 ≤ at0 os i ∧ at0 os i ≤ 1000000) : ∀ k : Nat, 0 ≤ inUpto os s k ∧ inUpto os s k ≤ 1000000 * k
  | 0 => by simp [inUpto]
  | k + 1 => by
    have ih := inUpto_bd os s h k
    have := h k
    rw [inUpto]
    split <;> (constructor <;> (push_cast; omega))
theorem outUpto_bd (os : List Int) (s : Nat) (h : ∀ i, 0 ≤ at0 os i ∧ at0 os i ≤ 1000000) : ∀ k : Nat, 0 ≤ outUpto os s k ∧ outUpto os s k ≤ 1000000 * k
  | 0 => by simp [outUpto]
  | k + 1 => by
    have ih := outUpto_bd os s h k
    have := h k
    rw [outUpto]
    split <;> (constructor <;> (push_cast; omega))
def selP (s : Nat) (xs : List (List Int)) : Nat → List (List Int)
  | 0 => []
  | k + 1 => if bitOf s k = 1 then selP s xs k ++ [rowAt xs k] else selP s xs k
theorem selP_sel (s : Nat) (xs : List (List Int)) : ∀ k, k ≤ xs.length → selP s xs k ++ selR s k (xs.drop k) = selR s 0 xs
  | 0, _ => by simp [selP]
  | k + 1, hk => by
    have ih := selP_sel s xs k (by omega)
    have hd : xs.drop k = rowAt xs k :: xs.drop (k + 1) := by rw [rowAt_eq (by omega)]; exact List.drop_eq_getElem_cons (by omega)
    rw [hd, selR] at ih
    rw [selP]
    by_cases h : bitOf s k = 1
    · rw [if_pos h] at ih ⊢
      rw [List.append_assoc]
      exact ih
    · rw [if_neg h] at ih ⊢
      exact ih
theorem selP_all (s : Nat) (xs : List (List Int)) : selP s xs xs.length = selR s 0 xs := by
  have := selP_sel s xs xs.length (Nat.le_refl _)
  rw [List.drop_length] at this
  simpa [selR] using this
theorem selP_len (s : Nat) (xs : List (List Int)) : ∀ k, (selP s xs k).length ≤ k
  | 0 => Nat.le_refl _
  | k + 1 => by
    have := selP_len s xs k
    rw [selP]
    split <;> simp <;> omega

def paysOk (os ps : List Int) (i : Nat) : Bool := decide (0 ≤ at0 ps i) && decide (at0 ps i ≤ at0 os i)
def setOk (m : Nat) (xs : List (List Int)) (os ps : List Int) (s : Nat) : Bool := decide (wts (selR s 0 xs) (p2 m - 1) - inUpto os s xs.length ≤ outUpto ps s xs.length)
/-- whether payments are a core payment list -/
def coreB (m : Nat) (xs : List (List Int)) (ps : List Int) : Bool :=
  (List.range xs.length).all (paysOk (ownsOf m xs) ps) && (List.range (p2 xs.length)).all (setOk m xs (ownsOf m xs) ps)
theorem coreB_pay {m : Nat} {xs : List (List Int)} {ps : List Int} {i : Nat} (hi : i < xs.length) (h : paysOk (ownsOf m xs) ps i = false) : coreB m xs ps = false := by
  unfold coreB; rw [all_no hi h]; rfl
theorem coreB_set {m : Nat} {xs : List (List Int)} {ps : List Int} {s : Nat} (hs : s < p2 xs.length) (h : setOk m xs (ownsOf m xs) ps s = false) : coreB m xs ps = false := by
  unfold coreB; rw [all_no hs h, Bool.and_false]
theorem coreB_yes {m : Nat} {xs : List (List Int)} {ps : List Int} (h1 : ∀ i, i < xs.length → paysOk (ownsOf m xs) ps i = true) (h2 : ∀ s, s < p2 xs.length → setOk m xs (ownsOf m xs) ps s = true) : coreB m xs ps = true := by
  unfold coreB; rw [all_yes h1, all_yes h2]; rfl

/-- one element is appended to what the call owns -/
theorem wpList_append_one {α : Type} {P : Program} {ops : Array Oper} {rest : List Oper} {o : Oper} {a : Act} {Q : Exit → Act → World → Prop} {w : World} (hgd : o.guard = none) (s x : Operand) (t : TypeId)
    (ho : o.op = .call { callee := .builtin .append, args := #[s, x], argTypes := #[t, t] })
    (lo : Nat) (e : TypeId) (ht : P.underlying t = some (.slice e)) {z : Value} {bytes : Nat} (hinfo : (P.info? e).map (fun i => (i.zero, i.size, i.bytes)) = some (some z, 1, bytes)) (hzs : z.cells.size = 1) (hb24 : bytes ≤ 1000)
    {R : Value → α → Prop} (hone : ∀ c x, R c x → c.oneCell' = true)
    (v : Value) (xs : List α) (hs : a.eval s = v) {W : World} {c : Value} {y : α} {g : Nat} (hw : w = W.alloc (.cells #[c] e)) (hown : OwnL lo e R W v xs) (hx : a.eval x = .slice (some ⟨g, 0, none⟩) 1 1) (hg : g = W.heap.size) (hR : R c y)
    (hb : xs.length + 1 ≤ 1000000) (hlo : lo ≤ W.heap.size)
    (h : ∀ v' w', OwnL lo e R w' v' (xs ++ [y]) → Below lo W w' → wpList P ops Q rest (a.put o.dst v') w') : wpList P ops Q (o :: rest) a w := by
  subst hg
  have hB : Below W.heap.size W (W.alloc (.cells #[c] e)) := (Below.refl _ _).alloc (Nat.le_refl _) _
  rw [← hw] at hB
  refine wpList_append_slc w hgd s x t ho lo e ht hinfo hzs hb24 hone v xs hs (OwnL.below hown (Nat.le_refl _) hB) _ hx [y] (slc_one (w := w) (c := c) ?_ hR) (by simpa using hb) (Nat.le_trans hlo hB.size) ?_
  · rw [hw]; exact cell_one_new W _ e 0 _ rfl
  · intro v' w' h1 h2 _ _
    exact h v' w' h1 ((hB.mono hlo).trans h2)

set_option maxRecDepth 100000 in
set_option maxHeartbeats 1600000 in
theorem IsCore_len (w : World) (v u : Value) (xs : List (List Int)) (ps : List Int) (m : Nat) (h : Rows2 w v xs) (hu : Ints w u ps) (hE : Bids m xs) (hl : ps.length ≠ xs.length) :
    Calls Try.prog 39 #[.int .i64 (m : Int), v, u] w fun e w' => e = .returned (.tuple #[.bool false, .int .i64 1]) ∧ Below w.heap.size w w' := by
  have hc := check_any w v xs m h
  rw [hE.check] at hc
  replace hc := Lib.hid hc
  obtain ⟨A, cap, rfl, _, hcap, _, _⟩ := h.open
  obtain ⟨B, cu, rfl, _, hcu, _, _⟩ := hu.open
  clear h hu hE
  unfold maxLen at hcap hcu
  have hne : ((ps.length : Int) != (xs.length : Int)) = true := by simp; omega
  replace hl := Lib.hid hl
  go_enter Try.func39, Try.ntmps39
  go_wp2_with (go_at_call 45; refine hc.out.mono ?_; rintro e w1 ⟨rfl, hB⟩; replace hB := Lib.hid hB)
  go_ret2
  exact ⟨rfl, hB.out⟩

theorem natAt_lt' {m : Nat} (xs : List (List Int)) (i : Nat) : natAt (alloc xs (p2 m - 1)) i < p2 m := by
  have := alloc_le xs (p2 m - 1) i
  have := p2_pos m
  omega
theorem rowsOf' {w w' : World} {lo : Nat} {v : Value} {xs : List (List Int)} (h : OwnL lo 27 (rowI w) w' v xs) (hB : Below w.heap.size w w') : Rows2 w' v xs :=
  Slc.keep (OwnL.slc h) (fun _ _ _ => ⟨trivial, rfl⟩) fun _ _ _ hc => Ints.below hc (Nat.le_refl _) hB

set_option maxRecDepth 100000 in
set_option maxHeartbeats 2000000 in
theorem IsCore_ok (w : World) (v u : Value) (xs : List (List Int)) (ps : List Int) (m : Nat) (h : Rows2 w v xs) (hu : Ints w u ps) (hE : Bids m xs) (hl : ps.length = xs.length) :
    Calls Try.prog 39 #[.int .i64 (m : Int), v, u] w fun e w' => e = .returned (.tuple #[.bool (coreB m xs ps), .int .i64 0]) ∧ Below w.heap.size w w' := by
  have hc := check_any w v xs m h
  rw [hE.check] at hc
  replace hc := Lib.hid hc
  have hbe1 := Lib.hid (fun W (hB : Below w.heap.size w W) => best_any W v m xs (Rows2.below h (Nat.le_refl _) hB) hE.m1 hE.m6 hE.l6 hE.ok)
  have hbe := Lib.hid (fun W V s k (hV : Rows2 W V (selP s xs k)) (h6 : (selP s xs k).length ≤ 6) (hok : ∀ b ∈ selP s xs k, okRow m b) => best_any W V m (selP s xs k) hV hE.m1 hE.m6 h6 hok)
  have hsok : Hid (∀ s, ∀ b ∈ selP s xs xs.length, okRow m b) := fun s b hb => by rw [selP_all] at hb; exact hE.ok b (selR_sub s xs 0 b hb)
  have hofs := Lib.hid (fun W (hB : Below w.heap.size w W) V (hV : OwnI w.heap.size 3 W V (casts (alloc xs (p2 m - 1)))) => offers_any W v V xs (alloc xs (p2 m - 1)) (Rows2.below h (Nat.le_refl _) hB) (OwnI.ints hV) (by rw [alloc_length]; exact Nat.le_refl _) (by rw [alloc_length]; have := hE.l6; omega) (fun i hi => by
    rw [alloc_length] at hi
    rw [(hE.row i hi).1]
    exact natAt_lt' xs i))
  have hos : Hid (offersOf xs (alloc xs (p2 m - 1)) = ownsOf m xs) := rfl
  rw [hos.out] at hofs
  clear hos
  have hcst : Hid ((alloc xs (p2 m - 1)).map (fun (s : Nat) => (s : Int)) = casts (alloc xs (p2 m - 1))) := rfl
  rw [hcst.out] at hbe1
  clear hcst
  have hol := ownsOf_length m xs
  have hob := Lib.hid (ownsOf_bd hE)
  have hl6 := hE.l6
  have hn64 := p2_le64 hE.l6
  have hs6 : smallS xs.length := smallS_of (by omega)
  have hcp := Lib.hid (fun i (hi : i < xs.length) h => coreB_pay (m := m) (ps := ps) hi h)
  have hcs := Lib.hid (fun s (hs : s < p2 xs.length) h => coreB_set (m := m) (ps := ps) hs h)
  have hcy := Lib.hid (coreB_yes (m := m) (xs := xs) (ps := ps))
  have hws : Hid (∀ s, 0 ≤ wts (selP s xs xs.length) (p2 m - 1) ∧ wts (selP s xs xs.length) (p2 m - 1) ≤ 6000000) := fun s => by
    have h1 := wts_bounds (selP s xs xs.length) (fun b hb t => (hsok.out s b hb).2 t) (p2 m - 1)
    have h2 := selP_len s xs xs.length
    refine ⟨h1.1, Int.le_trans h1.2 ?_⟩
    have : ((selP s xs xs.length).length : Int) ≤ 6 := by omega
    omega
  have hsd : Hid (∀ s, setOk m xs (ownsOf m xs) ps s = decide (wts (selP s xs xs.length) (p2 m - 1) - inUpto (ownsOf m xs) s xs.length ≤ outUpto ps s xs.length)) := fun s => by
    unfold setOk; rw [selP_all]
  generalize coreB m xs ps = core at *
  generalize casts (alloc xs (p2 m - 1)) = ls at *
  generalize wts xs (p2 m - 1) = W9 at *
  generalize ownsOf m xs = os at *
  obtain ⟨A, cap, rfl, _, hcap, _, hat⟩ := h.open
  obtain ⟨B, cu, rfl, _, hcu, _, hau⟩ := hu.open
  rw [hl] at hau ⊢
  replace hat := Lib.hid hat
  replace hau := Lib.hid hau
  clear h hu hE
  unfold maxLen at hcap hcu
  have hpl := Lib.hid hl
  clear hl
  have hol' := Lib.hid hol
  clear hol
  obtain ⟨N, hN⟩ : ∃ N, N = p2 xs.length := ⟨_, rfl⟩
  rw [← hN] at hn64 hcs hcy
  go_enter Try.func39, Try.ntmps39
  replace hN := Lib.hid hN
  go_wp2_with (first
    | (go_at_call 45; refine hc.out.mono ?_; rintro e w1 ⟨rfl, hB⟩; replace hB := Lib.hid hB)
    | (go_at_call 52; refine (hbe1.out _ hB.out).mono ?_; rintro e w2 ⟨v2, rfl, ho2, hB2⟩; replace ho2 := Lib.hid (ho2.lo_le hB.out.size); replace hB2 := Lib.hid (bthen hB.out hB2))
    | (go_at_call 62; refine (hofs.out _ hB2.out _ ho2.out).mono ?_; rintro e w3 ⟨v3, rfl, ho3, hB3⟩; replace hB3 := Lib.hid (bthen hB2.out hB3); obtain ⟨A3, c3, rfl, _, hc3, _, hat3⟩ := (OwnI.ints ho3).open; rw [hol'.out] at hat3 ⊢; unfold maxLen at hc3; replace hat3 := Lib.hid hat3))
  clear hc hbe1 hofs ho3 ho2 hB hB2
  have hau3 : Hid (∀ i, i < xs.length → ∃ b off, B = some ⟨b, off, none⟩ ∧ w3.cell? ⟨b, off + i, none⟩ = some (.int .i64 (at0 ps i))) := fun i hi => by
    obtain ⟨b, off, e, hc⟩ := hau.out i hi
    exact ⟨b, off, e, (hB3.out.cell (p := ⟨b, off + i, none⟩) (lt_of_cell hc)).trans hc⟩
  go_loop [43] (fun i => ∃ k : Nat, k ≤ xs.length ∧ i = .int .i64 (k : Int) ∧ Hid (∀ j, j < k → paysOk os ps j = true)) (fun i => xs.length - (intOf i).toNat)
  case atStart => exact ⟨0, Nat.zero_le _, rfl, fun j hj => absurd hj (by omega)⟩
  case round =>
    obtain ⟨k, hk, rfl, hpk⟩ := hrel
    by_cases hlt : k < xs.length
    · obtain ⟨b1, o1, rfl, hc1⟩ := hau3.out k hlt
      obtain ⟨b2, o2, rfl, hc2⟩ := hat3.out k hlt
      have hpd : Hid (paysOk os ps k = (decide (0 ≤ at0 ps k) && decide (at0 ps k ≤ at0 os k))) := rfl
      have hno := Lib.hid (hcp.out k hlt)
      generalize at0 ps k = x at *
      generalize at0 os k = y at *
      by_cases hx : x < 0
      · have hr := Lib.hid (hno.out (by rw [hpd.out]; simp; omega))
        go_wp2
        go_ret2
        exact ⟨by rw [hr.out]; rfl, hB3.out⟩
      · by_cases hy : y < x
        · have hr := Lib.hid (hno.out (by rw [hpd.out]; simp; omega))
          go_wp2
          go_ret2
          exact ⟨by rw [hr.out]; rfl, hB3.out⟩
        · have hr := Lib.hid (show paysOk os ps k = true by rw [hpd.out]; simp; omega)
          go_wp2
          go_round
          case rel => exact ⟨k + 1, by omega, by go_num, fun j hj => by
            by_cases e : j = k
            · rw [e]; exact hr.out
            · exact hpk.out j (by omega)⟩
          case measure => simp [intOf]; try omega
    · obtain rfl : k = xs.length := by omega
      have hpb : Hid (∀ i, 0 ≤ at0 ps i ∧ at0 ps i ≤ 1000000) := fun i => by
        by_cases hi : i < xs.length
        · have h1 := hpk.out i hi
          unfold paysOk at h1
          simp only [Bool.and_eq_true, decide_eq_true_eq] at h1
          have := hob.out i
          omega
        · have : at0 ps i = 0 := by unfold at0; simp [List.getD, List.getElem?_eq_none (show ps.length ≤ i by rw [hpl.out]; omega)]
          rw [this]; decide
      have hib := Lib.hid (inUpto_bd os · hob.out)
      have hob2 := Lib.hid (outUpto_bd ps · hpb.out)
      have hcy2 := Lib.hid (hcy.out hpk.out)
      clear hcp hcy hpk
      go_wp2
      rw [← hN.out]
      go_loopw [63] (fun i wr => ∃ s : Nat, s ≤ N ∧ i = .int .i64 (s : Int) ∧ Hid (∀ j, j < s → setOk m xs os ps j = true) ∧ Hid (Below w3.heap.size w3 wr)) (fun i _ => N - (intOf i).toNat)
      case atStart => exact ⟨0, Nat.zero_le _, rfl, (fun j hj => absurd hj (by omega)), Below.refl _ _⟩
      case round =>
        obtain ⟨s, hs, rfl, hss, hB⟩ := hrel
        obtain ⟨wo, rfl⟩ : ∃ wo : World, wo = wr := ⟨_, rfl⟩
        by_cases hlt2 : s < N
        · have hsm : small s := small_of (by omega)
          have hno := Lib.hid (hcs.out s hlt2)
          have hsd1 := Lib.hid (hsd.out s)
          have hws1 := hws.out s
          go_wp2
          go_loopw [15, 16, 17, 68] (fun v p o i wr => ∃ k : Nat, k ≤ xs.length ∧ i = .int .i64 (k : Int) ∧ p = .int .i64 (outUpto ps s k) ∧ o = .int .i64 (inUpto os s k) ∧ Hid (OwnL wo.heap.size 27 (rowI w) wr v (selP s xs k)) ∧ Hid (Below wo.heap.size wo wr)) (fun _ _ _ i _ => xs.length - (intOf i).toNat)
          case atStart => exact ⟨0, Nat.zero_le _, rfl, rfl, rfl, own_nil _ _ _, Below.refl _ _⟩
          case round =>
            obtain ⟨k, hk, rfl, rfl, rfl, ho, hBo⟩ := hrel
            have hBw : Hid (Below w.heap.size w wr) := bthen hB3.out (bthen hB.out hBo.out)
            have hB3w : Hid (Below w3.heap.size w3 wr) := bthen hB.out hBo.out
            by_cases hlt3 : k < xs.length
            · have hks : smallS k := smallS_of (by omega)
              obtain ⟨b1, o1, A1, cap1, rfl, hc1, hi1⟩ := hat.out k hlt3
              obtain ⟨b2, o2, rfl, hc2⟩ := hau3.out k hlt3
              obtain ⟨b4, o4, rfl, hc4⟩ := hat3.out k hlt3
              replace hc1 := (hBw.out.cell (p := ⟨b1, o1 + k, none⟩) (lt_of_cell hc1)).trans hc1
              replace hc2 := (hB3w.out.cell (p := ⟨b2, o2 + k, none⟩) (lt_of_cell hc2)).trans hc2
              have hlt4 := Nat.lt_of_lt_of_le (lt_of_cell hc4) hB.out.size
              replace hc4 := (hB3w.out.cell (p := ⟨b4, o4 + k, none⟩) (lt_of_cell hc4)).trans hc4
              have hsp : Hid (selP s xs (k + 1) = if bitOf s k = 1 then selP s xs k ++ [rowAt xs k] else selP s xs k) := rfl
              have hso : Hid (outUpto ps s (k + 1) = if bitOf s k = 1 then outUpto ps s k else outUpto ps s k + at0 ps k) := rfl
              have hsi : Hid (inUpto os s (k + 1) = if bitOf s k = 1 then inUpto os s k + at0 os k else inUpto os s k) := rfl
              have hb1 := hib.out s k
              have hb2 := hob2.out s k
              have hb3 := hob.out k
              have hb4 := hpb.out k
              have hspl := selP_len s xs k
              obtain ⟨A9, n9, c9, rfl, hn9⟩ := OwnL.shape ho.out
              replace hi1 : Hid (rowI w (.slice A1 (rowAt xs k).length cap1) (rowAt xs k)) := hi1
              generalize outUpto ps s k = pk at *
              generalize inUpto os s k = ik at *
              generalize at0 ps k = pp at *
              generalize at0 os k = oo at *
              by_cases hb : bitOf s k = 1
              · have hbb := bitOf_is hb
                rw [if_pos hb] at hsp hso hsi
                have hwr : IntKind.i64.wrap (ik + oo) = ik + oo := IntWalk.i64_in _ (by omega)
                clear hb1 hb2 hb3 hb4
                replace hb := Lib.hid hb
                replace hlt4 := Lib.hid hlt4
                go_wp2_with (at_builtin; refine wpList_append_one rfl (.tmp 77) (.tmp 82) 22 rfl wo.heap.size 27 Try.underlying22 info27 rfl (by omega) rowI_one _ _ rfl rfl ho.out rfl rfl hi1.out (by omega) hBo.out.size ?_; intro v' w' h3 h4; replace hc4 := (h4.cell (p := ⟨b4, o4 + k, none⟩) hlt4.out).trans hc4; replace h3 := Lib.hid h3; replace h4 := Lib.hid h4)
                go_roundw
                case rel => exact ⟨k + 1, by omega, by go_num, by rw [hso.out], by rw [hsi.out], by rw [hsp.out]; exact h3.out, hBo.out.trans h4.out⟩
                case measure => simp [intOf]; try omega
              · have hbb := bitOf_ne hb
                rw [if_neg hb] at hsp hso hsi
                have hwr : IntKind.i64.wrap (pk + pp) = pk + pp := IntWalk.i64_in _ (by omega)
                clear hb1 hb2 hb3 hb4
                replace hb := Lib.hid hb
                go_wp2
                go_roundw
                case rel => exact ⟨k + 1, by omega, by go_num, by rw [hso.out], by rw [hsi.out], by rw [hsp.out]; exact ho.out, hBo.out⟩
                case measure => simp [intOf]; try omega
            · obtain rfl : k = xs.length := by omega
              have hsl := selP_len s xs xs.length
              have hbc := Lib.hid (hbe.out wr _ s xs.length (rowsOf' ho.out hBw.out) (by omega) (hsok.out s))
              have hb1 := hib.out s xs.length
              have hb2 := hob2.out s xs.length
              generalize outUpto ps s xs.length = pk at *
              generalize inUpto os s xs.length = ik at *
              generalize wts (selP s xs xs.length) (p2 m - 1) = W0 at *
              have hwr : IntKind.i64.wrap (W0 - ik) = W0 - ik := IntWalk.i64_in _ (by omega)
              clear hb1 hb2 hws1
              by_cases hcmp : pk < W0 - ik
              · have hr := Lib.hid (hno.out (by rw [hsd1.out]; simp; omega))
                go_wp2_with (go_at_call 52; refine hbc.out.mono ?_; rintro e w5 ⟨v5, rfl, ho5, hB5⟩; obtain ⟨A5, n5, c5, rfl, _⟩ := OwnL.shape ho5; clear ho5; replace hB5 := Lib.hid hB5)
                go_ret2
                exact ⟨by rw [hr.out]; rfl, bthen hBw.out hB5.out⟩
              · have hr := Lib.hid (show setOk m xs os ps s = true by rw [hsd1.out]; simp; omega)
                go_wp2_with (go_at_call 52; refine hbc.out.mono ?_; rintro e w5 ⟨v5, rfl, ho5, hB5⟩; obtain ⟨A5, n5, c5, rfl, _⟩ := OwnL.shape ho5; clear ho5; replace hB5 := Lib.hid hB5)
                go_roundw
                case rel => exact ⟨s + 1, by omega, by go_num, (fun j hj => by
                  by_cases e : j = s
                  · rw [e]; exact hr.out
                  · exact hss.out j (by omega)), bthen hB.out (bthen hBo.out hB5.out)⟩
                case measure => simp [intOf]; try omega
        · obtain rfl : s = N := by omega
          have hr := Lib.hid (hcy2.out hss.out)
          go_wp2
          go_ret2
          exact ⟨by rw [hr.out]; rfl, bthen hB3.out hB.out⟩
end Go.Proofs.Ytadonoacmpkolaa
