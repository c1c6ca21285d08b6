/- Values of acceptors in regions that draw their order; blocks of the laws about acceptors. No condition. -/
import Derived.Test.YtaapnflhjbdmlaaGreatDoorZS
import Derived.Test.YtaapnflhjbdmlaaGreatDoorQR
import Derived.Test.YtaapnflhjbdmlaaGreatDoorNO
import Derived.Test.YtaapnflhjbdmlaaGreatDoorL6
namespace Go.Proofs.YtaapnflhjbdmlaaGreatDoor
open Go.RowKit Go.Shelf
/-- a slice, by numbers -/
def slN (g n cap : Nat) : Value := if g = 0 then .slice none 0 0 else .slice (some ⟨g - 1, 0, none⟩) n cap
theorem slN_of {α : Type} {E : El α} {e lo : Nat} {w : World} {v : Value} {l : List α} (h : OwnE E e lo w v l) : ∃ g n cap, slN g n cap = v := by
  obtain ⟨_, h | ⟨g, cap, cur, h, _⟩⟩ := h
  · exact ⟨0, 0, 0, by rw [h.1]; rfl⟩
  · exact ⟨g + 1, l.length, cap, by rw [h]; rfl⟩
/-- an acceptor, by a hole -/
def acH (h : Hole) : Value := match h.A with
  | none => acV h.i (.slice none 0 0) (.slice none 0 0)
  | some a => acV h.i (slN a.block h.n h.cap) (slN a.off (a.spot.getD 0) h.k)
theorem acH_of {α β : Type} {E : El α} {E' : El β} {e e' lo : Nat} {w : World} {v v' : Value} {l : List α} {l' : List β} (st : Int) (h : OwnE E e lo w v l) (h' : OwnE E' e' lo w v' l') : ∃ h : Hole, acH h = acV st v v' := by
  obtain ⟨g, n, cap, rfl⟩ := slN_of h
  obtain ⟨g', n', cap', rfl⟩ := slN_of h'
  exact ⟨⟨some ⟨g, g', some n'⟩, n, cap, cap', st, false⟩, rfl⟩
/-- a hole is an acceptor of its own -/
def AcR (lo : Nat) (P : Int → List Mi → List Int → Prop) (h : Hole) (w : World) : Prop := ∃ n vm vf ms fs, acH h = acV n vm vf ∧ OwnE ElZ 78 lo w vm ms ∧ OwnE ElI 3 lo w vf fs ∧ P n ms fs
theorem AcR.then {lo : Nat} {P : Int → List Mi → List Int → Prop} {h : Hole} {w w' : World} (hs : AcR lo P h w) (hb : Below w.heap.size w w') : AcR lo P h w' := by
  obtain ⟨n, vm, vf, ms, fs, h1, h2, h3, h4⟩ := hs
  exact ⟨n, vm, vf, ms, fs, h1, h2.then hb, h3.then hb, h4⟩
theorem since_ac {W : World} {lo : Nat} {P : Int → List Mi → List Int → Prop} {h : Hole} {w : World} (hs : Since W (AcR lo P) h w) : AcR lo P h w := since_and hs fun _ _ h1 hb => h1.then hb
theorem ac_eff {w w' : World} {lo : Nat} {P : Int → List Mi → List Int → Prop} {n : Int} {vm vf : Value} {ms : List Mi} {fs : List Int} (hlo : lo ≤ w.heap.size) (hm : OwnE ElZ 78 w.heap.size w' vm ms) (hf : OwnE ElI 3 w.heap.size w' vf fs) (hP : P n ms fs) : ∃ h : Hole, acH h = acV n vm vf ∧ AcR lo P h w' := by
  obtain ⟨h, e⟩ := acH_of n hm hf
  exact ⟨h, e, n, vm, vf, ms, fs, e, hm.lo_le hlo, hf.lo_le hlo, hP⟩
theorem set3 {Y : World} {b t : Nat} {x y z : Value} (k : Blk Y b t #[x, y, z]) (u0 u1 u2 : Value) : Blk (((Y.setCell ⟨b, 0, none⟩ u0).setCell ⟨b, 1, none⟩ u1).setCell ⟨b, 2, none⟩ u2) b t #[u0, u1, u2] ∧ BX [b] Y (((Y.setCell ⟨b, 0, none⟩ u0).setCell ⟨b, 1, none⟩ u1).setCell ⟨b, 2, none⟩ u2) :=
  ⟨by simpa using ((k.set 0 u0).set 1 u1).set 2 u2, (((BX.refl _ Y).set (by simp) _).set (by simp) _).set (by simp) _⟩
theorem set2 {Y : World} {b t : Nat} {x y : Value} (k : Blk Y b t #[x, y]) (u0 u1 : Value) : Blk ((Y.setCell ⟨b, 0, none⟩ u0).setCell ⟨b, 1, none⟩ u1) b t #[u0, u1] ∧ BX [b] Y ((Y.setCell ⟨b, 0, none⟩ u0).setCell ⟨b, 1, none⟩ u1) :=
  ⟨by simpa using (k.set 0 u0).set 1 u1, ((BX.refl _ Y).set (by simp) _).set (by simp) _⟩
theorem below_st3 {B b : Nat} {a w : World} (h : Below B a w) (hb : B ≤ b) (u0 u1 u2 : Value) : Below B a (((w.setCell ⟨b, 0, none⟩ u0).setCell ⟨b, 1, none⟩ u1).setCell ⟨b, 2, none⟩ u2) := ((h.setCell (p := ⟨b, 0, none⟩) hb u0).setCell (p := ⟨b, 1, none⟩) hb u1).setCell (p := ⟨b, 2, none⟩) hb u2
theorem BX.two {xs ys : List Nat} {a b c : World} (h : BX xs a b) (h2 : BX ys b c) : BX (xs ++ ys) a c := (h.mono fun _ hx => List.mem_append.2 (.inl hx)).trans (h2.mono fun _ hx => List.mem_append.2 (.inr hx))
theorem law_sa {Y : World} {b c : Nat} {x y x' y' z' : Value} (k : Blk Y b 24 #[x, y]) (q : Blk Y c 28 #[x', y', z']) (u0 u1 v0 v1 v2 : Value) :
    Blk (((((Y.setCell ⟨b, 0, none⟩ u0).setCell ⟨b, 1, none⟩ u1).setCell ⟨c, 0, none⟩ v0).setCell ⟨c, 1, none⟩ v1).setCell ⟨c, 2, none⟩ v2) b 24 #[u0, u1] ∧
    Blk (((((Y.setCell ⟨b, 0, none⟩ u0).setCell ⟨b, 1, none⟩ u1).setCell ⟨c, 0, none⟩ v0).setCell ⟨c, 1, none⟩ v1).setCell ⟨c, 2, none⟩ v2) c 28 #[v0, v1, v2] ∧
    BX [b, c] Y (((((Y.setCell ⟨b, 0, none⟩ u0).setCell ⟨b, 1, none⟩ u1).setCell ⟨c, 0, none⟩ v0).setCell ⟨c, 1, none⟩ v1).setCell ⟨c, 2, none⟩ v2) := by
  have hne : b ≠ c := k.ne_of q (by decide)
  obtain ⟨k1, x1⟩ := set2 k u0 u1
  have q1 := q.bx x1 (by simpa using hne.symm)
  obtain ⟨q2, x2⟩ := set3 q1 v0 v1 v2
  exact ⟨k1.bx x2 (by simpa using hne), q2, x1.two x2⟩
theorem law_aa {Y : World} {b c : Nat} {x y z x' y' z' : Value} (k : Blk Y b 28 #[x, y, z]) (q : Blk Y c 28 #[x', y', z']) (hne : b ≠ c) (u0 u1 u2 v0 v1 v2 : Value) :
    Blk ((((((Y.setCell ⟨b, 0, none⟩ u0).setCell ⟨b, 1, none⟩ u1).setCell ⟨b, 2, none⟩ u2).setCell ⟨c, 0, none⟩ v0).setCell ⟨c, 1, none⟩ v1).setCell ⟨c, 2, none⟩ v2) b 28 #[u0, u1, u2] ∧
    Blk ((((((Y.setCell ⟨b, 0, none⟩ u0).setCell ⟨b, 1, none⟩ u1).setCell ⟨b, 2, none⟩ u2).setCell ⟨c, 0, none⟩ v0).setCell ⟨c, 1, none⟩ v1).setCell ⟨c, 2, none⟩ v2) c 28 #[v0, v1, v2] ∧
    BX [b, c] Y ((((((Y.setCell ⟨b, 0, none⟩ u0).setCell ⟨b, 1, none⟩ u1).setCell ⟨b, 2, none⟩ u2).setCell ⟨c, 0, none⟩ v0).setCell ⟨c, 1, none⟩ v1).setCell ⟨c, 2, none⟩ v2) := by
  obtain ⟨k1, x1⟩ := set3 k u0 u1 u2
  have q1 := q.bx x1 (by simpa using hne.symm)
  obtain ⟨q2, x2⟩ := set3 q1 v0 v1 v2
  exact ⟨k1.bx x2 (by simpa using hne), q2, x1.two x2⟩
/-- a hole is a table -/
def TMh (n : Nat) (X : Nat → Nat → Nat → Int) (F : Nat → Bool) (h : Hole) (w : World) : Prop := ∃ b off, h.A = some ⟨b, off, none⟩ ∧ h.n = n ∧ TM w n h.k b off h.cap X F
/-- a hole is one of some tables -/
def TMx (n : Nat) (F : Nat → Bool) (P : (Nat → Nat → Nat → Int) → Prop) (h : Hole) (w : World) : Prop := ∃ X, TMh n X F h w ∧ P X
theorem TMx.then {n : Nat} {F : Nat → Bool} {P : (Nat → Nat → Nat → Int) → Prop} {h : Hole} {w w' : World} (hs : TMx n F P h w) (hb : Below w.heap.size w w') : TMx n F P h w' := by
  obtain ⟨X, ⟨b, off, h1, h2, h3⟩, h4⟩ := hs
  exact ⟨X, ⟨b, off, h1, h2, h3.then hb⟩, h4⟩
theorem since_tm {W : World} {n : Nat} {F : Nat → Bool} {P : (Nat → Nat → Nat → Int) → Prop} {h : Hole} {w : World} (hs : Since W (TMx n F P) h w) : TMx n F P h w := since_and hs fun _ _ h1 hb => h1.then hb
theorem ofX_tok {n : Nat} {ms : List Mv} (_h : ∀ m ∈ ms, m.2.1 < 5) : TOk n (ofX ms) where
  rng p c q _ _ _ := by unfold ofX; split <;> omega
  eps p q _ _ := by unfold ofX; split <;> simp
  bd p c q _ _ _ hx := by unfold ofX at hx ⊢; split <;> simp_all
theorem RInv.tok {R : List Rule} {B : Int → Int → Int → Prop} {n : Nat} {X : Nat → Nat → Nat → Int} (h : RInv R B n X) (he : ∀ p q, p < n → q < n → X p 5 q = 1073741824) : TOk n X where
  rng p c q hp hc hq := by
    by_cases h5 : c = 5
    · subst h5; rw [he p q hp hq]; omega
    · have := h.range p c q hp (by omega) hq; unfold farR at this; omega
  eps p q hp hq := .inr (he p q hp hq)
  bd p c q hp hc hq hx := by have := h.range p c q hp hc hq; unfold farR at this; omega
theorem D_in {C st : Nat} {l : List RuleB} {ms : List Mi} {fs : List Int} (hsys : sysB C l = true) (hg : givenB C st ms fs = true) {p a q : Int} {n : List Nat} (h : D (l.map RuleB.plain) (BofI ms) p a q n) : 0 ≤ p ∧ p < st ∧ 97 ≤ a ∧ a ≤ 101 ∧ 0 ≤ q ∧ q < st := by
  have hC := (givenB_iff2 (Int.natCast_nonneg C)).1 hg
  have hr : ∀ {i : Nat} {r : Rule}, (l.map RuleB.plain)[i]? = some r → (0 ≤ r.fr ∧ r.fr < C) ∧ (0 ≤ r.to ∧ r.to < C) ∧ (97 ≤ r.top ∧ r.top ≤ 101) ∧ ∀ x ∈ r.put, 97 ≤ x ∧ x ≤ 101 := fun h => rules_all hsys _ (List.mem_of_getElem? h)
  induction h with
  | base hb => have := bofi_in (Int.natCast_nonneg C) hg hb; omega
  | pop hi _ => have := hr hi; omega
  | one hi _ _ ih => have := hr hi; omega
  | two hi _ _ _ _ ih => have := hr hi; omega
theorem before_ok {C st : Nat} {l : List RuleB} {ms ms' : List Mi} {fs : List Int} (hsys : sysB C l = true) (hg : givenB C st ms fs = true) (hb : BfRes l ms ms') : MadeOk C st ms' fs := by
  have hC := (givenB_iff2 (Int.natCast_nonneg C)).1 hg
  refine made_of hC.1 (by omega) (fun m hm => ?_) hb.2 (given_fin (Int.natCast_nonneg C) hg) (given_sorted (Int.natCast_nonneg C) hg)
  obtain ⟨p, a, q, n, hd, rfl⟩ := (hb.1 m).1 hm
  have := D_in hsys hg hd
  simp only [mvK]
  omega
/-- what is known of the specification's tables -/
def BeP (l : List RuleB) (ms : List Mi) (n : Nat) (X : Nat → Nat → Nat → Int) : Prop := RInv (l.map RuleB.plain) (BofI ms) n X ∧ RCl (l.map RuleB.plain) n X ∧ ∀ p q, p < n → q < n → X p 5 q = 1073741824
def AfP (l : List RuleB) (ms : List Mi) (st n : Nat) (X : Nat → Nat → Nat → Int) : Prop := AfTab (BofI ms) (l.map RuleB.plain) (numS st) n X ∧ AfCl (l.map RuleB.plain) (numS st) n X
theorem of_eff {w : World} {lo n : Nat} {vm vf : Value} {ms : List Mv} {fs : List Nat} (_ : lo ≤ w.heap.size) (hn : 1 ≤ n) (hn4 : n ≤ 400) (hm : Els ElM w vm ms) (hms : ∀ m ∈ ms, m.1 < n ∧ m.2.1 < 5 ∧ m.2.2 < n) (hf : Els ElN w vf fs) (hfs : ∀ f ∈ fs, f < n) :
    Calls Tryz.prog 18 #[.agg #[.int .i64 n, vm, vf], .int .i64 0] w fun e w' => ∃ h : Hole, e = .returned (.agg #[.slice h.A h.n h.cap, .slice (some ⟨h.k, 0, none⟩) n n]) ∧ TMx n (ofF fs) (fun X => X = ofX ms) h w' ∧ Below w.heap.size w w' :=
  (Of_any w n 0 n vm vf ms fs rfl hn hn4 hm (fun m hm => ⟨(hms m hm).1, by have := (hms m hm).2.1; omega, (hms m hm).2.2⟩) hf hfs).mono fun e w' ⟨vC, gF, h1, ⟨b, cap, r, k, h, hI⟩, hF, _, hb⟩ => by
    obtain ⟨rfl, i1, i2, i3, i4, _⟩ := hI
    exact ⟨⟨some ⟨b, 0, none⟩, n, cap, gF, 0, false⟩, h1, ⟨_, ⟨b, 0, rfl, rfl, ⟨⟨hn, hn4⟩, cua_of i1 i2 i3 i4, hF, ofX_tok fun m hm => (hms m hm).2.1⟩⟩, rfl⟩, hb⟩
theorem be_eff {w : World} {C n : Nat} {v vm vf : Value} {l : List RuleB} {ms : List Mi} {fs : List Int} (h : Rls w v l) (hsys : sysB C l = true) (_ : givenB C n ms fs = true) (hCn : C ≤ n) (hn4 : n ≤ 400) (hn : 1 ≤ n) (hm : Els ElM w vm (ms.map toMv)) (hms : ∀ m ∈ ms.map toMv, m.1 < n ∧ m.2.1 < 5 ∧ m.2.2 < n) (hf : Els ElN w vf (fs.map Int.toNat)) (hfs : ∀ f ∈ fs.map Int.toNat, f < n) (hN : NonM ms) :
    Calls Tryz.prog 19 #[sv C v, .agg #[.int .i64 n, vm, vf]] w fun e w' => ∃ h : Hole, e = .returned (.agg #[.slice h.A h.n h.cap, .slice (some ⟨h.k, 0, none⟩) n n]) ∧ TMx n (ofF (fs.map Int.toNat)) (fun X => BeP l ms n X) h w' ∧ Below w.heap.size w w' :=
  (Before_any w C n v vm vf l (ms.map toMv) (fs.map Int.toNat) h hsys hCn hn4 hm hms hf hfs).mono fun e w' ⟨vC, gF, X, h1, hC, hF, hR, hcl, he, hb⟩ => by
    obtain ⟨b, off, cap, rfl⟩ := hC.shape
    rw [bof_bofi hN] at hR
    exact ⟨⟨some ⟨b, off, none⟩, n, cap, gF, 0, false⟩, h1, ⟨X, ⟨b, off, rfl, rfl, ⟨⟨hn, hn4⟩, hC, hF, hR.tok he⟩⟩, hR, hcl, he⟩, hb⟩
theorem af_eff {w : World} {C st n : Nat} {v vm vf : Value} {l : List RuleB} {ms : List Mi} {fs : List Int} (h : Rls w v l) (hsys : sysB C l = true) (hCn : C ≤ st) (hst : st ≤ 12) (hn : st + C * 5 = n) (hm : Els ElM w vm (ms.map toMv)) (hms : ∀ m ∈ ms.map toMv, m.1 < st ∧ m.2.1 < 5 ∧ m.2.2 < st) (hf : Els ElN w vf (fs.map Int.toNat)) (hfs : ∀ f ∈ fs.map Int.toNat, f < st) (hN : NonM ms) :
    Calls Tryz.prog 20 #[sv C v, .agg #[.int .i64 st, vm, vf]] w fun e w' => ∃ h : Hole, e = .returned (.agg #[.slice h.A h.n h.cap, .slice (some ⟨h.k, 0, none⟩) n n]) ∧ TMx n (ofF (fs.map Int.toNat)) (fun X => AfP l ms st n X) h w' ∧ Below w.heap.size w w' :=
  (After_any w C st n v vm vf l (ms.map toMv) (fs.map Int.toNat) h hsys hCn (by omega) hn hm hms hf hfs).mono fun e w' ⟨vC, gF, X, h1, hC, hF, hR, hcl, hb⟩ => by
    obtain ⟨b, off, cap, rfl⟩ := hC.shape
    rw [bof_bofi hN] at hR
    have hC1 := (sysB_iff.1 hsys).1
    have hC5 := (sysB_iff.1 hsys).2.1
    exact ⟨⟨some ⟨b, off, none⟩, n, cap, gF, 0, false⟩, h1, ⟨X, ⟨b, off, rfl, rfl, ⟨⟨by omega, by omega⟩, hC, hF, hR.tok⟩⟩, hR, hcl⟩, hb⟩
end Go.Proofs.YtaapnflhjbdmlaaGreatDoor
