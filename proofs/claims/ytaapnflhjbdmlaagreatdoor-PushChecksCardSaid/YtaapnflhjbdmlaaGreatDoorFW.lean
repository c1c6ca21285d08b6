/- The row's frame: what an argument reads as. No condition. The row's frame: what an acceptor reads as. No condition. A world for the witness: the settled one, Go's tables utf8.first and utf8.acceptRanges holding what their texts lay. No condition. -/
import Derived.Test.YtaapnflhjbdmlaaGreatDoorW2
import Derived.WalkKit
import Derived.ProofKit
import Derived.OpenShut
import Derived.ShutString
import Derived.ChangeOld
import Derived.Below
import Derived.Deep.Slices
import Derived.Deep.Matrix
import Derived.Test.YtaapnflhjbdmlaaGreatDoorZU
import Derived.Test.YtaapnflhjbdmlaaGreatDoorL6
import Derived.Laws.IdiomArrays
import Derived.Deep.Strs
import Derived.Deep.DeepHandedRow
import Derived.Lib.LaidTab
import GoSem.PinnedTables
namespace Go.Proofs.YtaapnflhjbdmlaaGreatDoor
section
open Go.ChangeShapes Go.WideShapes Go.ChangeAt Go.RowKit Go.Deep
open Go.ChangeMaps (open_string shut_string)

theorem fr_own : ownKnob Tryz.prog.godebug = none := by kernel_rfl
theorem fr_laidOut : laidOutB Tryz.prog = true := by kernel_rfl
theorem fr_cells61 : Tryz.prog.cellsOf 76 = 4 := by kernel_rfl
theorem fr_cells24 : Tryz.prog.cellsOf 24 = 2 := by kernel_rfl
theorem fr_cells26 : Tryz.prog.cellsOf 53 = 2 := by kernel_rfl
theorem fr_cells3 : Tryz.prog.cellsOf 3 = 1 := by kernel_rfl
theorem fr_cells5 : Tryz.prog.cellsOf 5 = 1 := by kernel_rfl
theorem fr_cells9 : Tryz.prog.cellsOf 9 = 1 := by kernel_rfl
theorem fr_cells22 : Tryz.prog.cellsOf 22 = 1 := by kernel_rfl
theorem trod_struct4 {H : Type} {enc : TypeId × Value → H} {P : Program} {w : World} {base : Nat} {spare : Nat → Bool} {held : Bool} {t : TypeId} {f0 f1 f2 f3 : Field} {fuel : Nat} {cs : List Value} {x : DataW H × List MemPlace} (ht : P.underlying t = some (.struct #[f0, f1, f2, f3])) (h : DataW.trod enc P w base spare held fuel t cs = some x) :
    ∃ y0 y1 y2 y3 n, cs.length = P.cellsOf t ∧ DataW.trod enc P w base spare held n f0.type ((cs.drop f0.offset).take (P.cellsOf f0.type)) = some y0 ∧ DataW.trod enc P w base spare held n f1.type ((cs.drop f1.offset).take (P.cellsOf f1.type)) = some y1 ∧
      DataW.trod enc P w base spare held n f2.type ((cs.drop f2.offset).take (P.cellsOf f2.type)) = some y2 ∧ DataW.trod enc P w base spare held n f3.type ((cs.drop f3.offset).take (P.cellsOf f3.type)) = some y3 := by
  obtain ⟨xs, n, _, rfl, hl, hlen, hf⟩ := DataW.trod_struct ht h
  match xs, hlen with
  | [y0, y1, y2, y3], _ => exact ⟨y0, y1, y2, y3, n, hl, by simpa using hf 0 f0 rfl, by simpa using hf 1 f1 rfl, by simpa using hf 2 f2 rfl, by simpa using hf 3 f3 rfl⟩
theorem len2 {cs : List Value} (h : cs.length = 2) : ∃ a b, cs = [a, b] := by
  match cs, h with
  | [a, b], _ => exact ⟨a, b, rfl⟩
theorem len4 {cs : List Value} (h : cs.length = 4) : ∃ a b c d, cs = [a, b, c, d] := by
  match cs, h with
  | [a, b, c, d], _ => exact ⟨a, b, c, d, rfl⟩
variable {H : Type} {enc : TypeId × Value → H} {W : World}
set_option maxRecDepth 20000

theorem ints_of_open {x : Addr} {len cap : Nat} {zs : List Int} (hl : len ≤ cap) (hm : cap ≤ maxLen) (hz : zs.length = cap) (hcell : ∀ i, i < zs.length → W.cell? (x.add i) = some (.int .i64 (zs.getD i 0))) :
    Ints W (.slice (some x) len cap) (zs.take len) := by
  obtain ⟨b, off, spot⟩ := x
  refine ⟨some ⟨b, off, spot⟩, cap, by simp [List.length_take]; omega, by simp; omega, hm, (fun h => by cases h), fun i hi => ?_⟩
  have hi' : i < zs.length := by simp at hi; omega
  have hc0 := hcell 0 (by omega)
  have hspot : spot = none := by simpa [Addr.add] using World.cell?_spot hc0
  subst hspot
  have hc := hcell i hi'
  rw [Addr.add_lit] at hc
  refine ⟨b, off, _, rfl, trivial, hc, ?_⟩
  simp [isI, List.getD, List.getElem?_eq_getElem hi']
theorem frame_ints {a0 : Option Addr} {len0 cap0 : Nat} {d : DataW H} {p : List MemPlace} (h0 : DataW.Trod enc Tryz.prog W 0 (fun _ => true) true 26 (.slice a0 len0 cap0) d p) :
    ∃ xs, Ints W (.slice a0 len0 cap0) xs := by
  obtain ⟨fuel, hf⟩ := h0
  rcases open_ints Tryz.underlying26 Tryz.underlying3 fr_cells3 hf with ⟨hcs, _⟩ | ⟨x, l, c, zs, hcs, _, hl, hm, hz, _, hcell, hwz⟩
  · simp [Value.cells] at hcs
    obtain ⟨rfl, rfl, rfl⟩ := hcs
    exact ⟨[], none, 0, rfl, Nat.le_refl _, Nat.zero_le _, fun _ => rfl, fun i hi => absurd hi (by simp)⟩
  · simp [Value.cells] at hcs
    obtain ⟨rfl, rfl, rfl⟩ := hcs
    exact ⟨_, ints_of_open hl hm (by simpa using hz) hcell⟩
theorem conf_trod {n : Nat} {cs : List Value} {x : DataW H × List MemPlace} (hf : DataW.trod enc Tryz.prog W 0 (fun _ => true) true n 53 cs = some x) :
    ∃ (c : Int) (s : ByteArray), cs = [.int .i64 c, .string s] ∧ s.size ≤ 9223372036854775807 := by
  obtain ⟨y0, y1, m, _, hl, h0, h1⟩ := trod_struct2 Tryz.underlying53 hf
  rw [fr_cells26] at hl
  obtain ⟨c0, c1, rfl⟩ := len2 hl
  · simp [fr_cells3, fr_cells9] at h0 h1
    obtain ⟨a, ea, _, _⟩ := DataW.trod_int Tryz.underlying3 h0
    obtain ⟨s, es, _, hs⟩ := DataW.trod_string Tryz.underlying9 h1
    simp at ea es
    subst ea; subst es
    exact ⟨a, s, rfl, hs⟩
theorem rule_trod {n : Nat} {cs : List Value} {x : DataW H × List MemPlace} (hf : DataW.trod enc Tryz.prog W 0 (fun _ => true) true n 76 cs = some x) :
    ∃ r : RuleB, cs = [.int .i64 r.fr, .int .u8 r.top, .int .i64 r.to, .string r.put] := by
  obtain ⟨y0, y1, y2, y3, m, hl, h0, h1, h2, h3⟩ := trod_struct4 Tryz.underlying76 hf
  rw [fr_cells61] at hl
  obtain ⟨c0, c1, c2, c3, rfl⟩ := len4 hl
  · simp [fr_cells3, fr_cells9, fr_cells5] at h0 h1 h2 h3
    obtain ⟨a, ea, _, _⟩ := DataW.trod_int Tryz.underlying3 h0
    obtain ⟨b, eb, _, _⟩ := DataW.trod_int Tryz.underlying5 h1
    obtain ⟨c, ec, _, _⟩ := DataW.trod_int Tryz.underlying3 h2
    obtain ⟨s, es, _, hs⟩ := DataW.trod_string Tryz.underlying9 h3
    simp at ea eb ec es
    subst ea; subst eb; subst ec; subst es
    exact ⟨⟨a, b, c, s⟩, rfl⟩
instance : Inhabited RuleB := ⟨⟨0, 0, 0, ⟨#[]⟩⟩⟩
theorem frame_rules {n : Nat} {c : Value} {x : DataW H × List MemPlace} (hf : DataW.trod enc Tryz.prog W 0 (fun _ => true) true n 22 [c] = some x) : ∃ l, Rls W c l := by
  rcases open_slice Tryz.underlying22 hf with ⟨hcs, _⟩ | ⟨a, len, cap, m, n, D, Pl, hcs, _, hl, hm, hmm, _, hx⟩
  · simp at hcs
    subst hcs
    exact ⟨[], Els.nil _⟩
  · simp at hcs
    subst hcs
    rw [if_pos rfl] at hmm
    subst hmm
    rw [fr_cells61] at hx
    obtain ⟨f, hfn⟩ := choose_lt (α := RuleB) (n := len) (p := fun i q => ∀ j u, (ElR.enc q)[j]? = some u → W.cell? (a.add (i * 4 + j)) = some u) (fun i hi => by
      obtain ⟨cs', h1, h2⟩ := hx i (by omega)
      obtain ⟨_, hlen, hcell⟩ := World.cells?_some h1
      obtain ⟨r, rfl⟩ := rule_trod h2
      refine ⟨r, fun j u hu => ?_⟩
      have hj : j < 4 := by
        have := (List.getElem?_eq_some_iff.1 hu).1
        simpa [ElR] using this
      have e := hcell j (by simpa using hj)
      rw [add_add] at e
      rw [e]
      exact hu)
    refine ⟨(List.range len).map f, some a, m, by simp, by simpa using hl, hm, (fun h => by cases h), fun i hi => ?_⟩
    have hi' : i < len := by simpa using hi
    obtain ⟨b, off, spot⟩ := a
    have hspot : spot = none := by
      have := World.cell?_spot (hfn 0 (by omega) 0 (.int .i64 (f 0).fr) rfl)
      simpa [Addr.add] using this
    subst hspot
    refine ⟨b, off, rfl, fun j u hu => ?_⟩
    simp only [List.getElem_map, List.getElem_range] at hu
    have := hfn i hi' j u hu
    rw [Addr.add_lit] at this
    rw [Nat.add_assoc]
    exact this
theorem frame_sys {v : Value} {r : Reach} {b0 : Nat} {d : DataW H} {p : List MemPlace} (hv : Value.okWide Tryz.prog W r b0 24 v) (h0 : DataW.Trod enc Tryz.prog W 0 (fun _ => true) true 24 v d p) :
    ∃ C u l, v = sv C u ∧ Rls W u l := by
  obtain ⟨cs, rfl, _⟩ := okWide_struct Tryz.underlying24 hv
  obtain ⟨fuel, hf⟩ := h0
  obtain ⟨y0, y1, m, _, hl, h0, h1⟩ := trod_struct2 Tryz.underlying24 hf
  rw [fr_cells24] at hl
  simp only [Value.cells] at hl h0 h1
  obtain ⟨cs⟩ := cs
  obtain ⟨c0, c1, rfl⟩ := len2 hl
  · simp [fr_cells3, fr_cells22] at h0 h1
    obtain ⟨a, ea, _, _⟩ := DataW.trod_int Tryz.underlying3 h0
    obtain ⟨l, hl2⟩ := frame_rules h1
    simp at ea
    subst ea
    exact ⟨a, c1, l, rfl, hl2⟩
theorem frame_conf {v : Value} {r : Reach} {b0 : Nat} {d : DataW H} {p : List MemPlace} (hv : Value.okWide Tryz.prog W r b0 53 v) (h0 : DataW.Trod enc Tryz.prog W 0 (fun _ => true) true 53 v d p) :
    ∃ (c : Int) (s : ByteArray), v = cv ⟨c, s⟩ ∧ s.size ≤ 9223372036854775807 := by
  obtain ⟨cs, rfl, _⟩ := okWide_struct Tryz.underlying53 hv
  obtain ⟨fuel, hf⟩ := h0
  obtain ⟨c, s, e, hs⟩ := conf_trod hf
  simp only [Value.cells] at e
  obtain ⟨cs⟩ := cs
  simp at e
  subst e
  exact ⟨c, s, rfl, hs⟩
end
section
open Go.ChangeShapes Go.WideShapes Go.ChangeAt Go.RowKit Go.Deep
open Go.ChangeMaps (open_string shut_string)
theorem fr_cells28 : Tryz.prog.cellsOf 28 = 3 := by kernel_rfl
theorem fr_cells25 : Tryz.prog.cellsOf 25 = 1 := by kernel_rfl
theorem fr_cellsI : Tryz.prog.cellsOf 26 = 1 := by kernel_rfl
theorem fr_cells78 : Tryz.prog.cellsOf 78 = 3 := by kernel_rfl
theorem len3 {cs : List Value} (h : cs.length = 3) : ∃ a b c, cs = [a, b, c] := by
  match cs, h with
  | [a, b, c], _ => exact ⟨a, b, c, rfl⟩
variable {H : Type} {enc : TypeId × Value → H} {W : World}
set_option maxRecDepth 20000
theorem move_trod {n : Nat} {cs : List Value} {x : DataW H × List MemPlace} (hl : cs.length = 3) (hf : DataW.trod enc Tryz.prog W 0 (fun _ => true) true n 78 cs = some x) : ∃ m : Mi, cs = [.int .i64 m.1, .int .i64 m.2.1, .int .i64 m.2.2] := by
  obtain ⟨c0, c1, c2, rfl⟩ := len3 hl
  obtain ⟨y0, y1, y2, m, _, h0, h1, h2⟩ := trod_array3 Tryz.underlying78 fr_cells3 hf
  obtain ⟨a, ea, _, _⟩ := DataW.trod_int Tryz.underlying3 h0
  obtain ⟨b, eb, _, _⟩ := DataW.trod_int Tryz.underlying3 h1
  obtain ⟨c, ec, _, _⟩ := DataW.trod_int Tryz.underlying3 h2
  simp at ea eb ec
  subst ea; subst eb; subst ec
  exact ⟨(a, b, c), rfl⟩
theorem frame_moves {n : Nat} {c : Value} {x : DataW H × List MemPlace} (hf : DataW.trod enc Tryz.prog W 0 (fun _ => true) true n 25 [c] = some x) : ∃ l, Els ElZ W c l := by
  rcases open_slice Tryz.underlying25 hf with ⟨hcs, _⟩ | ⟨a, len, cap, m, n, D, Pl, hcs, _, hl, hm, hmm, _, hx⟩
  · simp at hcs
    subst hcs
    exact ⟨[], Els.nil _⟩
  · simp at hcs
    subst hcs
    rw [if_pos rfl] at hmm
    subst hmm
    rw [fr_cells78] at hx
    obtain ⟨f, hfn⟩ := choose_lt (α := Mi) (n := len) (p := fun i q => ∀ j u, (ElZ.enc q)[j]? = some u → W.cell? (a.add (i * 3 + j)) = some u) (fun i hi => by
      obtain ⟨cs', h1, h2⟩ := hx i (by omega)
      obtain ⟨_, hlen, hcell⟩ := World.cells?_some h1
      obtain ⟨r, rfl⟩ := move_trod (by simpa using hlen) h2
      refine ⟨r, fun j u hu => ?_⟩
      have hj : j < 3 := by
        have := (List.getElem?_eq_some_iff.1 hu).1
        simpa [ElZ] using this
      have e := hcell j (by simpa using hj)
      rw [add_add] at e
      rw [e]
      exact hu)
    refine ⟨(List.range len).map f, some a, m, by simp, by simpa using hl, hm, (fun h => by cases h), fun i hi => ?_⟩
    have hi' : i < len := by simpa using hi
    obtain ⟨b, off, spot⟩ := a
    have hspot : spot = none := by
      have := World.cell?_spot (hfn 0 (by omega) 0 (.int .i64 (f 0).1) rfl)
      simpa [Addr.add] using this
    subst hspot
    refine ⟨b, off, rfl, fun j u hu => ?_⟩
    simp only [List.getElem_map, List.getElem_range] at hu
    have := hfn i hi' j u hu
    rw [Addr.add_lit] at this
    rw [Nat.add_assoc]
    exact this
theorem frame_acc {v : Value} {r : Reach} {b0 : Nat} {d : DataW H} {p : List MemPlace} (hv : Value.okWide Tryz.prog W r b0 28 v) (h0 : DataW.Trod enc Tryz.prog W 0 (fun _ => true) true 28 v d p) :
    ∃ st vm vf ms fs, v = acV st vm vf ∧ Els ElZ W vm ms ∧ Els ElI W vf fs := by
  obtain ⟨cs, rfl, _⟩ := okWide_struct Tryz.underlying28 hv
  obtain ⟨fuel, hf⟩ := h0
  obtain ⟨y0, y1, y2, m, _, hl, h0, h1, h2⟩ := trod_struct3 Tryz.underlying28 hf
  rw [fr_cells28] at hl
  simp only [Value.cells] at hl h0 h1 h2
  obtain ⟨cs⟩ := cs
  obtain ⟨c0, c1, c2, rfl⟩ := len3 hl
  · simp [fr_cells3, fr_cells25, fr_cellsI] at h0 h1 h2
    obtain ⟨a, ea, _, _⟩ := DataW.trod_int Tryz.underlying3 h0
    obtain ⟨l, hl2⟩ := frame_moves h1
    simp at ea
    subst ea
    rcases open_ints Tryz.underlying26 Tryz.underlying3 fr_cells3 h2 with ⟨hcs, _⟩ | ⟨x, ln, c, zs, hcs, _, hl', hm, hz, _, hcell, hwz⟩
    · simp at hcs
      subst hcs
      exact ⟨a, c1, _, l, [], rfl, hl2, Els.nil _⟩
    · simp at hcs
      subst hcs
      exact ⟨a, c1, _, l, _, rfl, hl2, ints_els (ints_of_open hl' hm (by simpa using hz) hcell)⟩
end
section
open Go.RowKit

theorem g_first : Tryz.prog.globalNamed "unicode/utf8.first" = some 0 := by kernel_rfl
theorem g_accept : Tryz.prog.globalNamed "unicode/utf8.acceptRanges" = some 1 := by kernel_rfl
def acceptCells : Array Value := (([128, 191, 160, 191, 128, 159, 144, 191, 128, 143] ++ List.replicate 22 0 : List Nat).map fun (n : Nat) => Value.int .u8 (n : Int)).toArray
def firstCells : Array Value := (Pinned.utf8FirstZ.map fun (n : Nat) => Value.int .u8 (n : Int)).toArray
def fill (cs : Array Value) : Obj → Obj
  | .cells _ t frozen => .cells cs t frozen
  | o => o
noncomputable def laidWorld (os : Os) : World :=
  { World.holding Tryz.prog os ⟨#[], #[], []⟩ with heap := ((World.holding Tryz.prog os ⟨#[], #[], []⟩).heap.modify 0 (fill firstCells)).modify 1 (fill acceptCells) }
end
end Go.Proofs.YtaapnflhjbdmlaaGreatDoor
