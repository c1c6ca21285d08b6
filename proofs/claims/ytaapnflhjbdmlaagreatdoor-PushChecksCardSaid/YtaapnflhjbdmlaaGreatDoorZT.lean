/- Values of acceptors in regions that draw their order; blocks of the laws about acceptors. No condition. -/
import Derived.Test.YtaapnflhjbdmlaaGreatDoorZY
import Derived.Test.YtaapnflhjbdmlaaGreatDoorSC
import Derived.Test.YtaapnflhjbdmlaaGreatDoorQR
import Derived.Test.YtaapnflhjbdmlaaGreatDoorL6
namespace Go.Proofs.YtaapnflhjbdmlaaGreatDoor
open Go.RowKit Go.Shelf
/-- a slice, by numbers -/
def slN (g n cap : Nat) : Value := if g = 0 then .slice none 0 0 else .slice (some ⟨g - 1, 0, none⟩) n cap
theorem slN_of {α : Type} {E : El α} {e lo : Nat} {w : World} {v : Value} {l : List α} (h : OwnE E e lo w v l) : ∃ g n cap, slN g n cap = v := by
  obtain ⟨_, h | ⟨g, cap, cur, h, _⟩⟩ := h
  · exact ⟨0, 0, 0, by rw [h.1]; rfl⟩
  · exact ⟨g + 1, l.length, cap, by rw [h]; rfl⟩
/-- an acceptor, by a hole -/
def acH (h : Hole) : Value := match h.A with
  | none => acV h.i (.slice none 0 0) (.slice none 0 0)
  | some a => acV h.i (slN a.block h.n h.cap) (slN a.off (a.spot.getD 0) h.k)
theorem acH_of {α β : Type} {E : El α} {E' : El β} {e e' lo : Nat} {w : World} {v v' : Value} {l : List α} {l' : List β} (st : Int) (h : OwnE E e lo w v l) (h' : OwnE E' e' lo w v' l') : ∃ h : Hole, acH h = acV st v v' := by
  obtain ⟨g, n, cap, rfl⟩ := slN_of h
  obtain ⟨g', n', cap', rfl⟩ := slN_of h'
  exact ⟨⟨some ⟨g, g', some n'⟩, n, cap, cap', st, false⟩, rfl⟩
/-- a hole is an acceptor of its own -/
def AcR (lo : Nat) (P : Int → List Mi → List Int → Prop) (h : Hole) (w : World) : Prop := ∃ n vm vf ms fs, acH h = acV n vm vf ∧ OwnE ElZ 78 lo w vm ms ∧ OwnE ElI 3 lo w vf fs ∧ P n ms fs
theorem AcR.then {lo : Nat} {P : Int → List Mi → List Int → Prop} {h : Hole} {w w' : World} (hs : AcR lo P h w) (hb : Below w.heap.size w w') : AcR lo P h w' := by
  obtain ⟨n, vm, vf, ms, fs, h1, h2, h3, h4⟩ := hs
  exact ⟨n, vm, vf, ms, fs, h1, h2.then hb, h3.then hb, h4⟩
theorem since_ac {W : World} {lo : Nat} {P : Int → List Mi → List Int → Prop} {h : Hole} {w : World} (hs : Since W (AcR lo P) h w) : AcR lo P h w := since_and hs fun _ _ h1 hb => h1.then hb
theorem ac_eff {w w' : World} {lo : Nat} {P : Int → List Mi → List Int → Prop} {n : Int} {vm vf : Value} {ms : List Mi} {fs : List Int} (hlo : lo ≤ w.heap.size) (hm : OwnE ElZ 78 w.heap.size w' vm ms) (hf : OwnE ElI 3 w.heap.size w' vf fs) (hP : P n ms fs) : ∃ h : Hole, acH h = acV n vm vf ∧ AcR lo P h w' := by
  obtain ⟨h, e⟩ := acH_of n hm hf
  exact ⟨h, e, n, vm, vf, ms, fs, e, hm.lo_le hlo, hf.lo_le hlo, hP⟩
theorem set3 {Y : World} {b t : Nat} {x y z : Value} (k : Blk Y b t #[x, y, z]) (u0 u1 u2 : Value) : Blk (((Y.setCell ⟨b, 0, none⟩ u0).setCell ⟨b, 1, none⟩ u1).setCell ⟨b, 2, none⟩ u2) b t #[u0, u1, u2] ∧ BX [b] Y (((Y.setCell ⟨b, 0, none⟩ u0).setCell ⟨b, 1, none⟩ u1).setCell ⟨b, 2, none⟩ u2) :=
  ⟨by simpa using ((k.set 0 u0).set 1 u1).set 2 u2, (((BX.refl _ Y).set (by simp) _).set (by simp) _).set (by simp) _⟩
theorem set2 {Y : World} {b t : Nat} {x y : Value} (k : Blk Y b t #[x, y]) (u0 u1 : Value) : Blk ((Y.setCell ⟨b, 0, none⟩ u0).setCell ⟨b, 1, none⟩ u1) b t #[u0, u1] ∧ BX [b] Y ((Y.setCell ⟨b, 0, none⟩ u0).setCell ⟨b, 1, none⟩ u1) :=
  ⟨by simpa using (k.set 0 u0).set 1 u1, ((BX.refl _ Y).set (by simp) _).set (by simp) _⟩
theorem below_st3 {B b : Nat} {a w : World} (h : Below B a w) (hb : B ≤ b) (u0 u1 u2 : Value) : Below B a (((w.setCell ⟨b, 0, none⟩ u0).setCell ⟨b, 1, none⟩ u1).setCell ⟨b, 2, none⟩ u2) := ((h.setCell (p := ⟨b, 0, none⟩) hb u0).setCell (p := ⟨b, 1, none⟩) hb u1).setCell (p := ⟨b, 2, none⟩) hb u2
theorem BX.two {xs ys : List Nat} {a b c : World} (h : BX xs a b) (h2 : BX ys b c) : BX (xs ++ ys) a c := (h.mono fun _ hx => List.mem_append.2 (.inl hx)).trans (h2.mono fun _ hx => List.mem_append.2 (.inr hx))
theorem law_sa {Y : World} {b c : Nat} {x y x' y' z' : Value} (k : Blk Y b 24 #[x, y]) (q : Blk Y c 28 #[x', y', z']) (u0 u1 v0 v1 v2 : Value) :
    Blk (((((Y.setCell ⟨b, 0, none⟩ u0).setCell ⟨b, 1, none⟩ u1).setCell ⟨c, 0, none⟩ v0).setCell ⟨c, 1, none⟩ v1).setCell ⟨c, 2, none⟩ v2) b 24 #[u0, u1] ∧
    Blk (((((Y.setCell ⟨b, 0, none⟩ u0).setCell ⟨b, 1, none⟩ u1).setCell ⟨c, 0, none⟩ v0).setCell ⟨c, 1, none⟩ v1).setCell ⟨c, 2, none⟩ v2) c 28 #[v0, v1, v2] ∧
    BX [b, c] Y (((((Y.setCell ⟨b, 0, none⟩ u0).setCell ⟨b, 1, none⟩ u1).setCell ⟨c, 0, none⟩ v0).setCell ⟨c, 1, none⟩ v1).setCell ⟨c, 2, none⟩ v2) := by
  have hne : b ≠ c := k.ne_of q (by decide)
  obtain ⟨k1, x1⟩ := set2 k u0 u1
  have q1 := q.bx x1 (by simpa using hne.symm)
  obtain ⟨q2, x2⟩ := set3 q1 v0 v1 v2
  exact ⟨k1.bx x2 (by simpa using hne), q2, x1.two x2⟩
/-- a hole is a table -/
def TMh (n : Nat) (X : Nat → Nat → Nat → Int) (F : Nat → Bool) (h : Hole) (w : World) : Prop := ∃ b off, h.A = some ⟨b, off, none⟩ ∧ h.n = n ∧ TM w n h.k b off h.cap X F
/-- a hole is one of some tables -/
def TMx (n : Nat) (F : Nat → Bool) (P : (Nat → Nat → Nat → Int) → Prop) (h : Hole) (w : World) : Prop := ∃ X, TMh n X F h w ∧ P X
theorem TMx.then {n : Nat} {F : Nat → Bool} {P : (Nat → Nat → Nat → Int) → Prop} {h : Hole} {w w' : World} (hs : TMx n F P h w) (hb : Below w.heap.size w w') : TMx n F P h w' := by
  obtain ⟨X, ⟨b, off, h1, h2, h3⟩, h4⟩ := hs
  exact ⟨X, ⟨b, off, h1, h2, h3.then hb⟩, h4⟩
theorem since_tm {W : World} {n : Nat} {F : Nat → Bool} {P : (Nat → Nat → Nat → Int) → Prop} {h : Hole} {w : World} (hs : Since W (TMx n F P) h w) : TMx n F P h w := since_and hs fun _ _ h1 hb => h1.then hb
theorem ofX_tok {n : Nat} {ms : List Mv} (_h : ∀ m ∈ ms, m.2.1 < 5) : TOk n (ofX ms) where
  rng p c q _ _ _ := by unfold ofX; split <;> omega
  eps p q _ _ := by unfold ofX; split <;> simp
  bd p c q _ _ _ hx := by unfold ofX at hx ⊢; split <;> simp_all
theorem of_eff {w : World} {lo n : Nat} {vm vf : Value} {ms : List Mv} {fs : List Nat} (_ : lo ≤ w.heap.size) (hn : 1 ≤ n) (hn4 : n ≤ 400) (hm : Els ElM w vm ms) (hms : ∀ m ∈ ms, m.1 < n ∧ m.2.1 < 5 ∧ m.2.2 < n) (hf : Els ElN w vf fs) (hfs : ∀ f ∈ fs, f < n) :
    Calls Tryz.prog 18 #[.agg #[.int .i64 n, vm, vf], .int .i64 0] w fun e w' => ∃ h : Hole, e = .returned (.agg #[.slice h.A h.n h.cap, .slice (some ⟨h.k, 0, none⟩) n n]) ∧ TMx n (ofF fs) (fun X => X = ofX ms) h w' ∧ Below w.heap.size w w' :=
  (Of_any w n 0 n vm vf ms fs rfl hn hn4 hm (fun m hm => ⟨(hms m hm).1, by have := (hms m hm).2.1; omega, (hms m hm).2.2⟩) hf hfs).mono fun e w' ⟨vC, gF, h1, ⟨b, cap, r, k, h, hI⟩, hF, _, hb⟩ => by
    obtain ⟨rfl, i1, i2, i3, i4, _⟩ := hI
    exact ⟨⟨some ⟨b, 0, none⟩, n, cap, gF, 0, false⟩, h1, ⟨_, ⟨b, 0, rfl, rfl, ⟨⟨hn, hn4⟩, cua_of i1 i2 i3 i4, hF, ofX_tok fun m hm => (hms m hm).2.1⟩⟩, rfl⟩, hb⟩
end Go.Proofs.YtaapnflhjbdmlaaGreatDoor
