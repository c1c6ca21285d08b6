/- What a slice in memory reads as; what the call itself owns; steps that keep both. No condition. -/
import Derived.Test.YtaapnflhjbdmlaaGreatDoorRows
import Derived.WalkKit
import Derived.WalkSpells
import Derived.WalkLawsBesides
import Derived.BigQuiet
import Derived.Deep.QuietTactic
import Derived.Deep.Draws
import Derived.Deep.AppendLies
import Derived.StillTailTactics
import Derived.Lib.Hide
namespace Go.Proofs.YtaapnflhjbdmlaaGreatDoor
open Go.RowKit

/-- the frame's shape of a slice's value -/
abbrev sl (A : Option Addr) (n c : Nat) : Value := .slice A n c
abbrev I (x : Int) : Value := .int .i64 x

/-- 'v' is, in 'w', a slice whose cells stand in relation R to the list 'xs'; its cells lie in blocks that 'ok' allows. -/
def Slc {α : Type} (ok : Nat → Prop) (R : Value → α → Prop) (w : World) (v : Value) (xs : List α) : Prop :=
  ∃ (A : Option Addr) (cap : Nat), v = .slice A xs.length cap ∧ xs.length ≤ cap ∧ cap ≤ maxLen ∧ (A = none → cap = 0) ∧
    ∀ i (h : i < xs.length), ∃ b off c, A = some ⟨b, off, none⟩ ∧ ok b ∧ w.cell? ⟨b, off + i, none⟩ = some c ∧ R c xs[i]

/-- element i of a list, kept from simp -/
def at0 (xs : List Int) (i : Nat) : Int := xs.getD i 0
def rowAt (xs : List (List Int)) (i : Nat) : List Int := xs.getD i []
theorem at0_eq {xs : List Int} {i : Nat} (h : i < xs.length) : at0 xs i = xs[i] := by unfold at0; simp [List.getD, h]
theorem rowAt_eq {xs : List (List Int)} {i : Nat} (h : i < xs.length) : rowAt xs i = xs[i] := by unfold rowAt; simp [List.getD, h]
theorem take_at0 {xs : List Int} {i : Nat} (h : i < xs.length) : xs.take (i + 1) = xs.take i ++ [at0 xs i] := by rw [at0_eq h]; exact List.take_succ_eq_append_getElem h
theorem take_rowAt {xs : List (List Int)} {i : Nat} (h : i < xs.length) : xs.take (i + 1) = xs.take i ++ [rowAt xs i] := by rw [rowAt_eq h]; exact List.take_succ_eq_append_getElem h

def anyB (_ : Nat) : Prop := True
def isI (c : Value) (x : Int) : Prop := c = .int .i64 x

/-- a slice of integers that may be read -/
def Ints (w : World) (v : Value) (xs : List Int) : Prop := Slc anyB isI w v xs
/-- a slice of slices of integers that may be read -/
def Rows2 (w : World) (v : Value) (xs : List (List Int)) : Prop := Slc anyB (fun c x => Ints w c x) w v xs

theorem Slc.shape {α : Type} {ok : Nat → Prop} {R : Value → α → Prop} {w : World} {v : Value} {xs : List α} (h : Slc ok R w v xs) : ∃ A n cap, v = .slice A n cap ∧ Hid (n = xs.length) := by
  obtain ⟨A, cap, rfl, _⟩ := h
  exact ⟨A, _, cap, rfl, rfl⟩

theorem ret_int {k : IntKind} {a b : Int} (h : a = b) : Ending.returned (.int k a) = Ending.returned (.int k b) := by rw [h]
theorem ret_bool {a b : Bool} (h : a = b) : Ending.returned (.bool a) = Ending.returned (.bool b) := by rw [h]
theorem lt_of_cell {w : World} {a : Addr} {c : Value} (h : w.cell? a = some c) : a.block < w.heap.size := World.block_lt_of_cell? w a h

theorem Slc.keep {α : Type} {ok ok' : Nat → Prop} {R R' : Value → α → Prop} {w w' : World} {v : Value} {xs : List α} (h : Slc ok R w v xs)
    (hok : ∀ b, ok b → b < w.heap.size → ok' b ∧ w'.heap[b]? = w.heap[b]?) (hR : ∀ c x, x ∈ xs → R c x → R' c x) : Slc ok' R' w' v xs := by
  obtain ⟨A, cap, rfl, hl, hm, hn, hat⟩ := h
  refine ⟨A, cap, rfl, hl, hm, hn, fun i hi => ?_⟩
  obtain ⟨b, off, c, hA, hb, hc, hr⟩ := hat i hi
  have hlt := lt_of_cell hc
  obtain ⟨h1, h2⟩ := hok b hb hlt
  exact ⟨b, off, c, hA, h1, (World.cell?_of_block (w := w) h2).trans hc, hR _ _ (List.getElem_mem hi) hr⟩

theorem Ints.below {w w' : World} {v : Value} {xs : List Int} (h : Ints w v xs) {B : Nat} (hB : w.heap.size ≤ B) (hb : Below B w w') : Ints w' v xs :=
  Slc.keep h (fun b _ hlt => ⟨trivial, hb.block b (by omega)⟩) (fun _ _ _ h => h)
theorem Rows2.below {w w' : World} {v : Value} {xs : List (List Int)} (h : Rows2 w v xs) {B : Nat} (hB : w.heap.size ≤ B) (hb : Below B w w') : Rows2 w' v xs :=
  Slc.keep h (fun b _ hlt => ⟨trivial, hb.block b (by omega)⟩) (fun _ _ _ h => Ints.below h hB hb)

theorem Ints.drewN {w : World} {v : Value} {xs : List Int} (h : Ints w v xs) (k : Nat) : Ints (w.drewN k) v xs := h
theorem Rows2.drewN {w : World} {v : Value} {xs : List (List Int)} (h : Rows2 w v xs) (k : Nat) : Rows2 (w.drewN k) v xs := h

theorem below_drewN {B : Nat} {a w : World} (h : Below B a w) (n : Nat) : Below B a (w.drewN n) := ⟨h.os, h.tape, h.output, h.size, h.block⟩
theorem below_of_grown {w w' : World} {row : Option Nat} (hg : w.grownBy w' row) {B : Nat} (hB : B ≤ w.heap.size) (hr : ∀ k, row = some k → B ≤ k) : Below B w w' :=
  (Below.refl B w).grown hg hB hr

/-- the shape of a slice of integers, opened -/
theorem Ints.open {w : World} {v : Value} {xs : List Int} (h : Ints w v xs) : ∃ A cap, v = .slice A xs.length cap ∧ xs.length ≤ cap ∧ cap ≤ maxLen ∧ (A = none → cap = 0) ∧
    ∀ i (_ : i < xs.length), ∃ b off, A = some ⟨b, off, none⟩ ∧ w.cell? ⟨b, off + i, none⟩ = some (.int .i64 (at0 xs i)) := by
  obtain ⟨A, cap, rfl, hl, hm, hn, hat⟩ := h
  refine ⟨A, cap, rfl, hl, hm, hn, fun i hi => ?_⟩
  rw [at0_eq hi]
  obtain ⟨b, off, c, hA, _, hc, rfl⟩ := hat i hi
  exact ⟨b, off, hA, hc⟩
theorem Rows2.open {w : World} {v : Value} {xs : List (List Int)} (h : Rows2 w v xs) : ∃ A cap, v = .slice A xs.length cap ∧ xs.length ≤ cap ∧ cap ≤ maxLen ∧ (A = none → cap = 0) ∧
    ∀ i (_ : i < xs.length), ∃ b off A' cap', A = some ⟨b, off, none⟩ ∧ w.cell? ⟨b, off + i, none⟩ = some (.slice A' (rowAt xs i).length cap') ∧ Ints w (.slice A' (rowAt xs i).length cap') (rowAt xs i) := by
  obtain ⟨A, cap, rfl, hl, hm, hn, hat⟩ := h
  refine ⟨A, cap, rfl, hl, hm, hn, fun i hi => ?_⟩
  rw [rowAt_eq hi]
  obtain ⟨b, off, c, hA, _, hc, hr⟩ := hat i hi
  have hr' := hr
  obtain ⟨A', cap', rfl, _⟩ := hr
  exact ⟨b, off, A', cap', hA, hc, hr'⟩

/-- one address for all elements -/
theorem Ints.addr {w : World} {A : Option Addr} {n cap : Nat} {xs : List Int} (h : Ints w (.slice A n cap) xs) (h0 : 0 < xs.length) :
    n = xs.length ∧ ∃ b off, A = some ⟨b, off, none⟩ ∧ ∀ i, i < xs.length → w.cell? ⟨b, off + i, none⟩ = some (.int .i64 (at0 xs i)) := by
  obtain ⟨A', cap', e, hl, hm, hn, hat⟩ := h.open
  cases e
  obtain ⟨b, off, rfl, _⟩ := hat 0 h0
  refine ⟨rfl, b, off, rfl, fun i hi => ?_⟩
  obtain ⟨b', off', e, hc⟩ := hat i hi
  cases e
  exact hc
theorem Rows2.addr {w : World} {v : Value} {xs : List (List Int)} (h : Rows2 w v xs) (h0 : 0 < xs.length) :
    ∃ b off cap, v = .slice (some ⟨b, off, none⟩) xs.length cap ∧ xs.length ≤ cap ∧ cap ≤ maxLen ∧
      ∀ i, i < xs.length → ∃ A' cap', w.cell? ⟨b, off + i, none⟩ = some (.slice A' (rowAt xs i).length cap') ∧ Ints w (.slice A' (rowAt xs i).length cap') (rowAt xs i) := by
  obtain ⟨A, cap, rfl, hl, hm, hn, hat⟩ := h.open
  obtain ⟨b, off, _, _, rfl, _⟩ := hat 0 h0
  refine ⟨b, off, cap, rfl, hl, hm, fun i hi => ?_⟩
  obtain ⟨b', off', A', cap', e, hc, hi'⟩ := hat i hi
  cases e
  exact ⟨A', cap', hc, hi'⟩

/-- block g is just the cells cs of type t, none frozen -/
def Blk (w : World) (g t : Nat) (cs : Array Value) : Prop := w.heap[g]? = some (.cells cs t (0, 0))
section
variable {w w' : World} {g t : Nat} {cs : Array Value}
theorem Blk.lt (h : Blk w g t cs) : g < w.heap.size := (Array.getElem?_eq_some_iff.1 h).1
theorem Blk.cell (h : Blk w g t cs) (i : Nat) : w.cell? ⟨g, i, none⟩ = cs[i]? := cell_of_row w g i cs t (0, 0) h
theorem Blk.free (h : Blk w g t cs) (i : Nat) : w.frozen? ⟨g, i, none⟩ = false := by unfold Blk at h; simp [World.frozen?, h]
theorem Blk.new (w : World) (t : Nat) (cs : Array Value) : Blk (w.alloc (.cells cs t)) w.heap.size t cs := heap_alloc_new w _
theorem Blk.alloc (h : Blk w g t cs) (o : Obj) : Blk (w.alloc o) g t cs := (Below.heap_alloc w o g h.lt).trans h
theorem Blk.set (h : Blk w g t cs) (i : Nat) (u : Value) : Blk (w.setCell ⟨g, i, none⟩ u) g t (cs.setIfInBounds i u) := by
  unfold Blk at h ⊢; simp [World.setCell, Array.getElem?_modify, h]
theorem Blk.far (h : Blk w g t cs) {p : Addr} (hp : g ≠ p.block) (u : Value) : Blk (w.setCell p u) g t cs := (Below.heap_setCell w p u g hp).trans h
theorem Blk.below {B : Nat} (h : Blk w g t cs) (hb : Below B w w') (hg : g < B) : Blk w' g t cs := (hb.block g hg).trans h
theorem Blk.drewN (h : Blk w g t cs) (n : Nat) : Blk (w.drewN n) g t cs := h
end

/-! ### What the call itself owns -/

/-- 'v' owns, in a block from 'lo' on (element type e, one cell an element), cells that stand in relation R to 'xs' -/
def OwnL {α : Type} (lo e : Nat) (R : Value → α → Prop) (w : World) (v : Value) (xs : List α) : Prop :=
  ∃ cs : List Value, cs.length = xs.length ∧ w.ownsRow lo e 1 v xs.length cs ∧ ∀ i (h1 : i < cs.length) (h2 : i < xs.length), R cs[i] xs[i]
def OwnI (lo e : Nat) (w : World) (v : Value) (xs : List Int) : Prop := OwnL lo e isI w v xs
/-- rows that the call owns: the outer row is its own, the inner ones lie in other blocks and may be read -/
def OwnRows (lo e : Nat) (w : World) (v : Value) (xs : List (List Int)) : Prop := OwnL lo e (fun c x => Slc (fun b => v.ownBlock ≠ some b) isI w c x) w v xs

section
variable {α : Type} {lo e : Nat} {R R' : Value → α → Prop} {w w' : World} {v : Value} {xs : List α}

theorem OwnL.slc (h : OwnL lo e R w v xs) : Slc (fun b => lo ≤ b ∧ v.ownBlock = some b) R w v xs := by
  obtain ⟨cs, hl, h, hR⟩ := h
  rcases h.2 with ⟨rfl, h0⟩ | ⟨g, cap, cur, rfl, hb, hg, hnc, hcm, _, _⟩
  · exact ⟨none, 0, by rw [h0], by omega, Nat.zero_le _, fun _ => rfl, fun i hi => by omega⟩
  · refine ⟨_, cap, rfl, hnc, hcm, (fun h => by cases h), fun i hi => ⟨g, 0, cs[i]'(by omega), rfl, ⟨hb, rfl⟩, ?_, hR i (by omega) hi⟩⟩
    rw [Nat.zero_add, h.cellAt i (by omega)]
    exact List.getElem?_eq_getElem _

theorem OwnL.imp (h : OwnL lo e R w v xs) (hR : ∀ c x, x ∈ xs → R c x → R' c x) : OwnL lo e R' w v xs := by
  obtain ⟨cs, hl, h, hr⟩ := h
  exact ⟨cs, hl, h, fun i h1 h2 => hR _ _ (List.getElem_mem h2) (hr i h1 h2)⟩

theorem OwnL.below (h : OwnL lo e R w v xs) {B : Nat} (hB : w.heap.size ≤ B) (hb : Below B w w') : OwnL lo e R w' v xs := by
  obtain ⟨cs, hl, h, hR⟩ := h
  refine ⟨cs, hl, ⟨h.1, ?_⟩, hR⟩
  rcases h.2 with hn | ⟨g, cap, cur, rfl, hbb, hgg, rest⟩
  · exact .inl hn
  · refine .inr ⟨g, cap, cur, rfl, hbb, ?_, rest⟩
    have := (Array.getElem?_eq_some_iff.1 hgg).1
    rw [hb.block g (by omega)]
    exact hgg

theorem OwnL.kept (h : OwnL lo e R w v xs) {row : Option Nat} (hg : w.grownBy w' row) (hne : v.ownBlock = none ∨ v.ownBlock ≠ row) : OwnL lo e R w' v xs := by
  obtain ⟨cs, hl, h, hR⟩ := h
  exact ⟨cs, hl, h.kept hg hne, hR⟩

theorem OwnL.drewN (h : OwnL lo e R w v xs) (k : Nat) : OwnL lo e R (w.drewN k) v xs := h

theorem OwnL.lt (h : OwnL lo e R w v xs) : ∀ k, v.ownBlock = some k → lo ≤ k ∧ k < w.heap.size := by
  obtain ⟨cs, hl, h, hR⟩ := h
  exact h.lt

/-- what is made later lies apart -/
theorem OwnL.apart (h : OwnL lo e R w v xs) {q : Nat → Prop} : ∀ b, w.heap.size ≤ b ∧ q b → v.ownBlock ≠ some b := by
  rintro b ⟨h1, _⟩ h2
  have := (h.lt b h2).2
  omega
/-- what was there before lies apart -/
theorem OwnL.apart_old (h : OwnL lo e R w v xs) : ∀ b, b < lo → v.ownBlock ≠ some b := by
  intro b h1 h2
  have := (h.lt b h2).1
  omega

theorem OwnL.lo_le (h : OwnL lo e R w v xs) {lo' : Nat} (hl : lo' ≤ lo) : OwnL lo' e R w v xs := by
  obtain ⟨cs, hlen, h, hR⟩ := h
  refine ⟨cs, hlen, ⟨h.1, ?_⟩, hR⟩
  rcases h.2 with hn | ⟨g, cap, cur, rfl, hbb, rest⟩
  · exact .inl hn
  · exact .inr ⟨g, cap, cur, rfl, by omega, rest⟩

theorem own_nil (lo e : Nat) (w : World) : OwnL lo e R w (.slice none 0 0) [] := ⟨[], rfl, ⟨rfl, .inl ⟨rfl, rfl⟩⟩, fun _ h => by simp at h⟩

theorem OwnL.shape (h : OwnL lo e R w v xs) : ∃ A n cap, v = .slice A n cap ∧ Hid (n = xs.length) := by
  obtain ⟨cs, hl, h, hR⟩ := h
  rcases h.2 with ⟨rfl, h0⟩ | ⟨g, cap, cur, rfl, _⟩
  · exact ⟨none, 0, 0, rfl, h0.symm⟩
  · exact ⟨_, _, cap, rfl, rfl⟩

/-- opened where there is an element -/
theorem OwnL.open (h : OwnL lo e R w v xs) (h0 : 0 < xs.length) : ∃ g cap, v = .slice (some ⟨g, 0, none⟩) xs.length cap ∧ lo ≤ g ∧ g < w.heap.size ∧ xs.length ≤ cap ∧ cap ≤ maxLen ∧
    (∀ i (_ : i < xs.length), ∃ c, w.cell? ⟨g, i, none⟩ = some c ∧ R c xs[i]) ∧ (∀ i, w.frozen? ⟨g, i, none⟩ = false) := by
  obtain ⟨cs, hl, h, hR⟩ := h
  have h' := h
  rcases h.2 with ⟨rfl, h0⟩ | ⟨g, cap, cur, rfl, hb, hg, hnc, hcm, _, _⟩
  · omega
  · refine ⟨g, cap, rfl, hb, (Array.getElem?_eq_some_iff.1 hg).1, hnc, hcm, fun i hi => ⟨cs[i]'(by omega), ?_, hR i (by omega) hi⟩, fun i => World.ownsRow.frozenAt h' i⟩
    rw [World.ownsRow.cellAt h' i (by omega)]
    exact List.getElem?_eq_getElem _

theorem OwnL.set {g cap : Nat} (h : OwnL lo e R w (.slice (some ⟨g, 0, none⟩) xs.length cap) xs) (i : Nat) (c : Value) (x : α) (hc : R c x) :
    OwnL lo e R (w.setCell ⟨g, i, none⟩ c) (.slice (some ⟨g, 0, none⟩) (xs.set i x).length cap) (xs.set i x) ∧ w.grownBy (w.setCell ⟨g, i, none⟩ c) (some g) := by
  obtain ⟨cs, hl, h, hR⟩ := h
  have := World.ownsRow.stored h i c
  rw [List.length_set]
  refine ⟨⟨cs.set i c, by simpa using hl, by simpa using this.1, fun j h1 h2 => ?_⟩, this.2⟩
  simp only [List.getElem_set]
  split
  · exact hc
  · exact hR j (by simpa using h1) (by simpa using h2)
end

theorem OwnI.ints {lo e : Nat} {w : World} {v : Value} {xs : List Int} (h : OwnI lo e w v xs) : Ints w v xs :=
  Slc.keep (OwnL.slc h) (fun _ _ _ => ⟨trivial, rfl⟩) (fun _ _ _ h => h)
theorem OwnRows.rows {lo e : Nat} {w : World} {v : Value} {xs : List (List Int)} (h : OwnRows lo e w v xs) : Rows2 w v xs :=
  Slc.keep (OwnL.slc h) (fun _ _ _ => ⟨trivial, rfl⟩) (fun _ _ _ h => Slc.keep h (fun _ _ _ => ⟨trivial, rfl⟩) (fun _ _ _ h => h))

theorem OwnI.open {lo e : Nat} {w : World} {v : Value} {xs : List Int} (h : OwnI lo e w v xs) (h0 : 0 < xs.length) : ∃ g cap, v = .slice (some ⟨g, 0, none⟩) xs.length cap ∧ lo ≤ g ∧ g < w.heap.size ∧ xs.length ≤ cap ∧ cap ≤ maxLen ∧
    (∀ i (_ : i < xs.length), w.cell? ⟨g, i, none⟩ = some (.int .i64 (at0 xs i))) ∧ (∀ i, w.frozen? ⟨g, i, none⟩ = false) := by
  obtain ⟨g, cap, rfl, h1, h2, h3, h4, h5, h6⟩ := OwnL.open h h0
  refine ⟨g, cap, rfl, h1, h2, h3, h4, fun i hi => ?_, h6⟩
  rw [at0_eq hi]
  obtain ⟨c, hc, rfl⟩ := h5 i hi
  exact hc
theorem OwnI.set {lo e : Nat} {w : World} {g cap : Nat} {xs : List Int} (h : OwnI lo e w (.slice (some ⟨g, 0, none⟩) xs.length cap) xs) (i : Nat) (x : Int) :
    OwnI lo e (w.setCell ⟨g, i, none⟩ (.int .i64 x)) (.slice (some ⟨g, 0, none⟩) (xs.set i x).length cap) (xs.set i x) ∧ w.grownBy (w.setCell ⟨g, i, none⟩ (.int .i64 x)) (some g) := OwnL.set h i _ x rfl
theorem OwnI.cells {lo e : Nat} {w : World} {v : Value} {xs : List Int} (h : OwnI lo e w v xs) : w.ownsRow lo e 1 v xs.length (xs.map (Value.int .i64)) := by
  obtain ⟨cs, hl, h, hR⟩ := h
  have : cs = xs.map (Value.int .i64) := List.ext_getElem (by simpa using hl) fun i h1 h2 => by rw [List.getElem_map]; exact hR i h1 (by simpa using h2)
  rwa [← this]
theorem OwnI.mk {lo e : Nat} {w : World} {v : Value} {xs : List Int} (h : w.ownsRow lo e 1 v xs.length (xs.map (Value.int .i64))) : OwnI lo e w v xs :=
  ⟨_, by simp, h, fun i h1 h2 => by simp [isI]⟩

theorem slc_oneCell {c : Value} {xs : List Int} {ok : Nat → Prop} {w : World} (h : Slc ok isI w c xs) : c.oneCell' = true := by
  obtain ⟨A, cap, rfl, _⟩ := h
  rfl

/-! ### append -/
section
variable {P : Program} (w : World)
theorem run_append_of_nil (base : Nat) (t ty e : TypeId) (i : TypeInfo) (size : Nat) (ht : P.underlying t = some (.slice e)) (hi : P.info? e = some i)
    (v : Value) (n : Nat) (xs : List Value) (hown : w.ownsRow base e size v n xs) (c : Nat) : (Builtin.append_ #[t, t] ty #[v, .slice none 0 c]).run P w = .ok v w := by
  rcases hown.2 with ⟨rfl, rfl⟩ | ⟨g, cap, cur, rfl, _, _, hnc, _⟩
  · simp [Builtin.append_, run_underlying ht, sizeOf, typeInfo, hi, Builtin.lenOf, Builtin.firstCells]
  · simp [Builtin.append_, run_underlying ht, sizeOf, typeInfo, hi, Builtin.lenOf, Builtin.firstCells, hnc, storeCells]

/-- where the new value lies -/
def lies (w : World) (v v' : Value) : Prop := v'.ownBlock = v.ownBlock ∨ v'.ownBlock = some w.heap.size

/-- appending a whole slice to what the call owns: element types of one cell -/
theorem run_append_slc {α : Type} (lo : Nat) (t ty e : TypeId) (i : TypeInfo) (z : Value) (bytes : Nat) (ht : P.underlying t = some (.slice e)) (hi : P.info? e = some i) (hz : i.zero = some z) (hsize : i.size = 1) (hby : i.bytes = bytes) (hzs : z.cells.size = 1)
    {R : Value → α → Prop} (hone : ∀ c x, R c x → c.oneCell' = true) {ok : Nat → Prop}
    (v : Value) (xs : List α) (hown : OwnL lo e R w v xs) (v2 : Value) (ys : List α) (h2 : Slc ok R w v2 ys) (hb : xs.length + ys.length ≤ 1000000) (hb24 : bytes ≤ 1000) (hlo : lo ≤ w.heap.size) :
    ∃ v' w', (Builtin.append_ #[t, t] ty #[v, v2]).run P w = .ok v' w' ∧ OwnL lo e R w' v' (xs ++ ys) ∧ w.grownBy w' v.ownBlock ∧ lies w v v' := by
  obtain ⟨A, cap, rfl, hl, hm, hn, hat⟩ := h2
  obtain ⟨cs, hcl, hown, hR⟩ := hown
  rcases A with _ | ad
  · have h0 : ys.length = 0 := by have := hn rfl; omega
    obtain rfl : ys = [] := List.eq_nil_of_length_eq_zero h0
    exact ⟨v, w, run_append_of_nil w lo t ty e i 1 ht hi v xs.length _ hown cap, ⟨cs, by simpa using hcl, by simpa using hown, by simpa using hR⟩, World.grownBy.refl w _, .inl rfl⟩
  · obtain ⟨ds, hdl, hds⟩ : ∃ ds : List Value, ds.length = ys.length ∧ ∀ i (h1 : i < ds.length) (h2 : i < ys.length), w.cell? (ad.add i) = some ds[i] ∧ R ds[i] ys[i] := by
      clear hl hb
      have key : ∀ i (h : i < ys.length), ∃ c, w.cell? (ad.add i) = some c ∧ R c ys[i] := fun i hi => by
        obtain ⟨b, off, c, hA, _, hc, hr⟩ := hat i hi
        cases hA
        exact ⟨c, by rw [Addr.add_lit]; exact hc, hr⟩
      refine ⟨List.ofFn fun i : Fin ys.length => (key i.1 i.2).choose, by simp, fun i h1 h2 => ?_⟩
      simpa using (key i h2).choose_spec
    have hnews : ∀ j u, ds[j]? = some u → w.cell? (ad.add j) = some u := by
      intro j u hu
      obtain ⟨h1, rfl⟩ := List.getElem?_eq_some_iff.1 hu
      exact (hds j h1 (by omega)).1
    have hones : ∀ u ∈ ds, u.oneCell' = true := by
      intro u hu
      obtain ⟨j, hj, rfl⟩ := List.getElem_of_mem hu
      exact hone _ _ (hds j hj (by omega)).2
    have hbb : (xs.length + ys.length) * bytes ≤ 1000000 * 1000 := Nat.mul_le_mul hb hb24
    obtain ⟨v', w', hrun, h2, h3, _, h5⟩ := run_append_own_at (P := P) w lo t ty e i z 1 bytes ht hi hz hsize hby hzs (by omega) v xs.length cs hown ad ys.length cap ds (by omega) hnews hones (by simp only [maxLen]; omega) (by omega) hlo
    refine ⟨v', w', hrun, ⟨cs ++ ds, by simp [hcl, hdl], by simpa using h2, fun i h1 h2 => ?_⟩, h3, h5⟩
    by_cases hi : i < cs.length
    · rw [List.getElem_append_left hi, List.getElem_append_left (by omega)]
      exact hR i hi (by omega)
    · rw [List.getElem_append_right (by omega), List.getElem_append_right (by omega)]
      have := (hds (i - cs.length) (by simp at h1; omega) (by simp at h2; omega)).2
      simpa only [hcl] using this

theorem wpList_append_slc {α : Type} {ops : Array Oper} {rest : List Oper} {o : Oper} {a : Act} {Q : Exit → Act → World → Prop} (hgd : o.guard = none) (s x : Operand) (t : TypeId)
    (ho : o.op = .call { callee := .builtin .append, args := #[s, x], argTypes := #[t, t] })
    (lo : Nat) (e : TypeId) (ht : P.underlying t = some (.slice e)) {z : Value} {bytes : Nat} (hinfo : (P.info? e).map (fun i => (i.zero, i.size, i.bytes)) = some (some z, 1, bytes)) (hzs : z.cells.size = 1) (hb24 : bytes ≤ 1000)
    {R : Value → α → Prop} (hone : ∀ c x, R c x → c.oneCell' = true) {ok : Nat → Prop}
    (v : Value) (xs : List α) (hs : a.eval s = v) (hown : OwnL lo e R w v xs) (v2 : Value) (hx : a.eval x = v2) (ys : List α) (h2 : Slc ok R w v2 ys) (hb : xs.length + ys.length ≤ 1000000) (hlo : lo ≤ w.heap.size)
    (h : ∀ v' w', OwnL lo e R w' v' (xs ++ ys) → Below lo w w' → w.grownBy w' v.ownBlock → lies w v v' → wpList P ops Q rest (a.put o.dst v') w') : wpList P ops Q (o :: rest) a w := by
  obtain ⟨i, hi, hz0, hz1, hz2⟩ := info_parts hinfo
  refine wpList_plain hgd fun K hK => ?_
  obtain ⟨v', w', hrun, r2, r3, r4⟩ := run_append_slc (P := P) w lo t o.type e i z bytes ht hi hz0 hz1 hz2 hzs hone v xs hown v2 ys h2 hb hb24 hlo
  unfold Oper.wp execOp
  simp only [ho, resolve, invoke, builtin, Sem.run_bind, Sem.run_pure, Result.andThen_ok, List.map_toArray, List.map_cons, List.map_nil, hs, hx, hrun]
  exact hK _ _ (h v' w' r2 (below_of_grown r3 hlo fun k hk => (hown.lt k hk).1) r3 r4)

/-- appending one element that lies in a new block -/
theorem slc_one {α : Type} {R : Value → α → Prop} {w : World} {g : Nat} {c : Value} {x : α} (hc : w.cell? ⟨g, 0, none⟩ = some c) (hR : R c x) : Slc anyB R w (.slice (some ⟨g, 0, none⟩) 1 1) [x] := by
  refine ⟨_, 1, rfl, by simp, by decide, (fun h => by cases h), fun i hi => ?_⟩
  obtain rfl : i = 0 := by simp at hi; omega
  exact ⟨g, 0, c, rfl, trivial, hc, hR⟩
end

theorem isI_one (c : Value) (x : Int) (h : isI c x) : c.oneCell' = true := by rw [h]; rfl
theorem slc_one' {ok : Nat → Prop} {w : World} (c : Value) (x : List Int) (h : Slc ok isI w c x) : c.oneCell' = true := by
  obtain ⟨A, cap, rfl, _⟩ := h
  rfl

/-- rows: one more row was appended (the law above at R = the rows' reading in w): read in the new world -/
theorem OwnRows.more {lo e : Nat} {w w' : World} {v v' : Value} {xs : List (List Int)} (h : OwnL lo e (fun c x => Slc (fun b => v.ownBlock ≠ some b) isI w c x) w' v' xs) (hg : w.grownBy w' v.ownBlock) (hl : lies w v v') : OwnRows lo e w' v' xs := by
  refine OwnL.imp h fun c x _ hc => Slc.keep hc (fun b hb hlt => ⟨?_, ?_⟩) fun _ _ _ h => h
  · rcases hl with h | h <;> rw [h]
    · exact hb
    · intro e; injection e; omega
  · exact hg.block b hlt fun e => hb e.symm

theorem OwnRows.below {lo e : Nat} {w w' : World} {v : Value} {xs : List (List Int)} (h : OwnRows lo e w v xs) {B : Nat} (hB : w.heap.size ≤ B) (hb : Below B w w') : OwnRows lo e w' v xs :=
  OwnL.below (OwnL.imp h fun c x _ hc => Slc.keep hc (fun b hb' hlt => ⟨hb', hb.block b (by omega)⟩) fun _ _ _ h => h) hB hb

/-- a new row is appended to what the call owns: the law for 'out = append(out, row)' behind the new block -/
theorem wpList_append_row {P : Program} {ops : Array Oper} {rest : List Oper} {o : Oper} {a : Act} {Q : Exit → Act → World → Prop} {w : World} (hgd : o.guard = none) (s x : Operand) (t : TypeId)
    (ho : o.op = .call { callee := .builtin .append, args := #[s, x], argTypes := #[t, t] })
    (lo : Nat) (e : TypeId) (ht : P.underlying t = some (.slice e)) (hinfo : (P.info? e).map (fun i => (i.zero, i.size, i.bytes)) = some (some (.slice none 0 0), 1, 24))
    (v : Value) (xs : List (List Int)) (hs : a.eval s = v) {W : World} {c : Value} {g : Nat} (hw : w = W.alloc (.cells #[c] e)) (hown : OwnRows lo e W v xs) (hx : a.eval x = .slice (some ⟨g, 0, none⟩) 1 1) (hg : g = W.heap.size) {ok : Nat → Prop} {y : List Int}
    (h2 : Slc ok isI W c y) (hok : ∀ b, ok b → v.ownBlock ≠ some b) (hb : xs.length + 1 ≤ 1000000) (hlo : lo ≤ W.heap.size)
    (h : ∀ v' w', OwnRows lo e w' v' (xs ++ [y]) → Below lo W w' → W.grownBy w' v.ownBlock → wpList P ops Q rest (a.put o.dst v') w') : wpList P ops Q (o :: rest) a w := by
  subst hg
  have hB : Below W.heap.size W (W.alloc (.cells #[c] e)) := (Below.refl _ _).alloc (Nat.le_refl _) _
  have hh : W.grownBy w v.ownBlock := by rw [hw]; exact World.grownBy_alloc W _ _
  rw [← hw] at hB
  refine wpList_append_slc w hgd s x t ho lo e ht hinfo rfl (by omega) slc_one' v xs hs (OwnRows.below hown (Nat.le_refl _) hB) _ hx [y] (slc_one (w := w) (c := c) ?_ ?_) (by simpa using hb) (Nat.le_trans hlo hB.size) ?_
  · rw [hw]; exact cell_one_new W c e 0 c rfl
  · exact Slc.keep h2 (fun b hb hlt => ⟨hok b hb, hB.block b hlt⟩) fun _ _ _ h => h
  · intro v' w' h1 h2 h3 h4
    exact h v' w' (OwnRows.more h1 h3 h4) ((hB.mono hlo).trans h2) ⟨h3.os.trans hh.os, h3.tape.trans hh.tape, h3.output.trans hh.output, Nat.le_trans hh.size h3.size, fun k hk hn => (h3.block k (Nat.lt_of_lt_of_le hk hh.size) hn).trans (hh.block k hk hn)⟩

/-! ### a row that the call made, told by a function -/
def tab {α : Type} (n : Nat) (f : Nat → α) : List α := (List.range n).map f
def upd {α : Type} (f : Nat → α) (i : Nat) (x : α) : Nat → α := fun j => if j = i then x else f j
theorem tab_length {α : Type} (n : Nat) (f : Nat → α) : (tab n f).length = n := by simp [tab]
theorem tab_get {α : Type} (n : Nat) (f : Nat → α) (i : Nat) (h : i < (tab n f).length) : (tab n f)[i] = f i := by simp [tab]
theorem tab_congr {α : Type} {n : Nat} {f g : Nat → α} (h : ∀ i, i < n → f i = g i) : tab n f = tab n g := by
  unfold tab; exact List.map_congr_left fun i hi => h i (List.mem_range.1 hi)
theorem tab_set {α : Type} (n : Nat) (f : Nat → α) (i : Nat) (x : α) : (tab n f).set i x = tab n (upd f i x) := by
  refine List.ext_getElem (by simp [tab]) fun j h1 h2 => ?_
  rw [List.getElem_set, tab_get, tab_get]
  unfold upd
  by_cases h : i = j
  · subst h; simp
  · rw [if_neg h, if_neg (fun e => h e.symm)]
theorem tab_replicate {α : Type} (n : Nat) (x : α) : List.replicate n x = tab n (fun _ => x) := by
  refine List.ext_getElem (by simp [tab]) fun j h1 h2 => by simp [tab]
theorem tab_succ {α : Type} (n : Nat) (f : Nat → α) : tab (n + 1) f = tab n f ++ [f n] := by simp [tab, List.range_succ]

/-- the row at the head of block g, N long, reads as f -/
def OwnT (lo e : Nat) (w : World) (g N cap : Nat) (f : Nat → Int) : Prop := OwnI lo e w (.slice (some ⟨g, 0, none⟩) N cap) (tab N f)
theorem OwnT.at {lo e : Nat} {w : World} {g N cap : Nat} {f : Nat → Int} (h : OwnT lo e w g N cap f) (i : Nat) (hi : i < N) : w.cell? ⟨g, i, none⟩ = some (.int .i64 (f i)) := by
  obtain ⟨g', cap', hv, _, _, _, _, hc, _⟩ := OwnI.open h (by rw [tab_length]; omega)
  obtain rfl : g = g' := by injection hv with h1; injection h1 with h1; injection h1
  rw [hc i (by rw [tab_length]; exact hi), at0_eq (by rw [tab_length]; exact hi), tab_get]
theorem OwnT.free {lo e : Nat} {w : World} {g N cap : Nat} {f : Nat → Int} (h : OwnT lo e w g N cap f) (i : Nat) (hi : 0 < N) : w.frozen? ⟨g, i, none⟩ = false := by
  obtain ⟨g', cap', hv, _, _, _, _, _, hf⟩ := OwnI.open h (by rw [tab_length]; omega)
  obtain rfl : g = g' := by injection hv with h1; injection h1 with h1; injection h1
  exact hf i
theorem OwnT.lo_le {lo e : Nat} {w : World} {g N cap : Nat} {f : Nat → Int} (h : OwnT lo e w g N cap f) : lo ≤ g ∧ g < w.heap.size := OwnL.lt h g rfl
theorem OwnT.set {lo e : Nat} {w : World} {g N cap : Nat} {f : Nat → Int} (h : OwnT lo e w g N cap f) (i : Nat) (x : Int) :
    OwnT lo e (w.setCell ⟨g, i, none⟩ (.int .i64 x)) g N cap (upd f i x) := by
  have h' : OwnI lo e w (.slice (some ⟨g, 0, none⟩) (tab N f).length cap) (tab N f) := by rw [tab_length]; exact h
  have := (OwnI.set h' i x).1
  rw [tab_set, tab_length] at this
  exact this
theorem OwnT.congr {lo e : Nat} {w : World} {g N cap : Nat} {f f' : Nat → Int} (h : OwnT lo e w g N cap f) (hf : ∀ i, i < N → f i = f' i) : OwnT lo e w g N cap f' := by
  unfold OwnT; rw [← tab_congr hf]; exact h
theorem OwnT.below {lo e : Nat} {w w' : World} {g N cap : Nat} {f : Nat → Int} (h : OwnT lo e w g N cap f) {B : Nat} (hB : w.heap.size ≤ B) (hb : Below B w w') : OwnT lo e w' g N cap f := OwnL.below h hB hb

/-- 'make([]T, n)': n zeros, in the new block -/
theorem wpList_make_ints {P : Program} {w : World} {ops : Array Oper} {rest : List Oper} {o : Oper} {a : Act} {Q : Exit → Act → World → Prop}
    (hg : o.guard = none) (l c : Operand) (t : TypeId) (hop : o.op = Op.makeSlice t l c) (lo : Nat) (e : TypeId) (ht : P.underlying t = some (.slice e))
    (hinfo : (P.info? e).map (fun i => (i.zero, i.size, i.bytes)) = some (some (.int .i64 0), 1, 8)) (n : Nat) (hl : a.eval l = .int .i64 (n : Int)) (hc : a.eval c = .int .i64 (n : Int))
    (hn : n ≤ 1000000) (hlo : lo ≤ w.heap.size) (g : Nat) (hgg : w.heap.size = g)
    (hK : ∀ w', OwnT lo e w' g n n (fun _ => 0) → Below g w w' → g < w'.heap.size → wpList P ops Q rest (a.put o.dst (.slice (some ⟨g, 0, none⟩) n n)) w') :
    wpList P ops Q (o :: rest) a w := by
  obtain ⟨i, hi, hz0, hz1, hz2⟩ := info_parts hinfo
  subst hgg
  refine wpList_make_full w hg l c t hop lo e i (.int .i64 0) 1 ht hi hz0 hz1 .i64 .i64 _ _ n hl hc rfl rfl (by rw [hz2]; omega) (by simp only [maxLen]; omega) hlo fun w' ho hgr => ?_
  have ho' : OwnT lo e w' w.heap.size n n (fun _ => 0) := by
    unfold OwnT
    rw [← tab_replicate]
    refine OwnI.mk ?_
    rw [List.length_replicate, List.map_replicate, ← toList_madeCells_one]
    rw [Nat.mul_one] at ho
    exact ho
  exact hK w' ho' (below_of_grown hgr (Nat.le_refl _) (fun k hk => by cases hk)) (ho'.lo_le).2

/-- an integer is appended to what the call owns: the law for 'out = append(out, x)' behind the new block -/
theorem wpList_append_int {P : Program} {ops : Array Oper} {rest : List Oper} {o : Oper} {a : Act} {Q : Exit → Act → World → Prop} {w : World} (hgd : o.guard = none) (s x : Operand) (t : TypeId)
    (ho : o.op = .call { callee := .builtin .append, args := #[s, x], argTypes := #[t, t] })
    (lo : Nat) (e : TypeId) (ht : P.underlying t = some (.slice e)) (hinfo : (P.info? e).map (fun i => (i.zero, i.size, i.bytes)) = some (some (.int .i64 0), 1, 8))
    (v : Value) (xs : List Int) (hs : a.eval s = v) {W : World} {y : Int} {g : Nat} (hw : w = W.alloc (.cells #[.int .i64 y] e)) (hown : OwnI lo e W v xs) (hx : a.eval x = .slice (some ⟨g, 0, none⟩) 1 1) (hg : g = W.heap.size)
    (hb : xs.length + 1 ≤ 1000000) (hlo : lo ≤ W.heap.size)
    (h : ∀ v' w', OwnI lo e w' v' (xs ++ [y]) → Below lo W w' → W.grownBy w' v.ownBlock → wpList P ops Q rest (a.put o.dst v') w') : wpList P ops Q (o :: rest) a w := by
  subst hg
  have hB : Below W.heap.size W (W.alloc (.cells #[.int .i64 y] e)) := (Below.refl _ _).alloc (Nat.le_refl _) _
  have hh : W.grownBy w v.ownBlock := by rw [hw]; exact World.grownBy_alloc W _ _
  rw [← hw] at hB
  refine wpList_append_slc w hgd s x t ho lo e ht hinfo rfl (by omega) isI_one v xs hs (OwnL.below hown (Nat.le_refl _) hB) _ hx [y] (slc_one (w := w) (c := .int .i64 y) ?_ rfl) (by simpa using hb) (Nat.le_trans hlo hB.size) ?_
  · rw [hw]; exact cell_one_new W _ e 0 _ rfl
  · intro v' w' h1 h2 h3 h4
    exact h v' w' h1 ((hB.mono hlo).trans h2) ⟨h3.os.trans hh.os, h3.tape.trans hh.tape, h3.output.trans hh.output, Nat.le_trans hh.size h3.size, fun k hk hn => (h3.block k (Nat.lt_of_lt_of_le hk hh.size) hn).trans (hh.block k hk hn)⟩

theorem one_cell {w : World} {v : Value} {t : TypeId} : (w.alloc (.cells #[v] t)).cell? ⟨w.heap.size, 0, none⟩ = some v := cell_one_new w v t 0 v rfl
theorem one_free {w : World} {v : Value} {t : TypeId} : (w.alloc (.cells #[v] t)).frozen? ⟨w.heap.size, 0, none⟩ = false := frozen_of_row _ _ 0 #[v] t (heap_alloc_new w _)


theorem Slc.take {α : Type} {ok : Nat → Prop} {R : Value → α → Prop} {w : World} {A : Option Addr} {n cap : Nat} {xs : List α} (h : Slc ok R w (.slice A n cap) xs) (k : Nat) (hk : k ≤ xs.length) : Slc ok R w (.slice A k cap) (xs.take k) := by
  obtain ⟨A, cap, e, hl, hm, hn, hat⟩ := h
  cases e
  refine ⟨A, cap, by simp [hk], by simp; omega, hm, hn, fun i hi => ?_⟩
  simp at hi
  obtain ⟨b, off, c, hA, hb, hc, hr⟩ := hat i (by omega)
  exact ⟨b, off, c, hA, hb, hc, by simpa using hr⟩

end Go.Proofs.YtaapnflhjbdmlaaGreatDoor
