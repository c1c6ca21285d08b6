/- The row's frame: what an argument reads as. No condition. -/
import Derived.Test.YtaapnflhjbdmlaaDoorW2
import Derived.WalkKit
import Derived.ProofKit
import Derived.OpenShut
import Derived.ShutString
import Derived.ChangeOld
import Derived.Below
import Derived.Deep.Slices
import Derived.Deep.Matrix
namespace Go.Proofs.YtaapnflhjbdmlaaDoor
open Go.ChangeShapes Go.WideShapes Go.ChangeAt Go.RowKit Go.Deep
open Go.ChangeMaps (open_string shut_string)

theorem fr_own : ownKnob Tryd.prog.godebug = none := by kernel_rfl
theorem fr_laidOut : laidOutB Tryd.prog = true := by kernel_rfl
theorem fr_cells61 : Tryd.prog.cellsOf 61 = 4 := by kernel_rfl
theorem fr_cells24 : Tryd.prog.cellsOf 24 = 2 := by kernel_rfl
theorem fr_cells26 : Tryd.prog.cellsOf 26 = 2 := by kernel_rfl
theorem fr_cells56 : Tryd.prog.cellsOf 56 = 4 := by kernel_rfl
theorem fr_cells3 : Tryd.prog.cellsOf 3 = 1 := by kernel_rfl
theorem fr_cells5 : Tryd.prog.cellsOf 5 = 1 := by kernel_rfl
theorem fr_cells9 : Tryd.prog.cellsOf 9 = 1 := by kernel_rfl
theorem fr_cells22 : Tryd.prog.cellsOf 22 = 1 := by kernel_rfl
theorem trod_struct4 {H : Type} {enc : TypeId × Value → H} {P : Program} {w : World} {base : Nat} {spare : Nat → Bool} {held : Bool} {t : TypeId} {f0 f1 f2 f3 : Field} {fuel : Nat} {cs : List Value} {x : DataW H × List MemPlace} (ht : P.underlying t = some (.struct #[f0, f1, f2, f3])) (h : DataW.trod enc P w base spare held fuel t cs = some x) :
    ∃ y0 y1 y2 y3 n, cs.length = P.cellsOf t ∧ DataW.trod enc P w base spare held n f0.type ((cs.drop f0.offset).take (P.cellsOf f0.type)) = some y0 ∧ DataW.trod enc P w base spare held n f1.type ((cs.drop f1.offset).take (P.cellsOf f1.type)) = some y1 ∧
      DataW.trod enc P w base spare held n f2.type ((cs.drop f2.offset).take (P.cellsOf f2.type)) = some y2 ∧ DataW.trod enc P w base spare held n f3.type ((cs.drop f3.offset).take (P.cellsOf f3.type)) = some y3 := by
  obtain ⟨xs, n, _, rfl, hl, hlen, hf⟩ := DataW.trod_struct ht h
  match xs, hlen with
  | [y0, y1, y2, y3], _ => exact ⟨y0, y1, y2, y3, n, hl, by simpa using hf 0 f0 rfl, by simpa using hf 1 f1 rfl, by simpa using hf 2 f2 rfl, by simpa using hf 3 f3 rfl⟩
theorem len2 {cs : List Value} (h : cs.length = 2) : ∃ a b, cs = [a, b] := by
  match cs, h with
  | [a, b], _ => exact ⟨a, b, rfl⟩
theorem len4 {cs : List Value} (h : cs.length = 4) : ∃ a b c d, cs = [a, b, c, d] := by
  match cs, h with
  | [a, b, c, d], _ => exact ⟨a, b, c, d, rfl⟩
variable {H : Type} {enc : TypeId × Value → H} {W : World}
set_option maxRecDepth 20000

theorem ints_of_open {x : Addr} {len cap : Nat} {zs : List Int} (hl : len ≤ cap) (hm : cap ≤ maxLen) (hz : zs.length = cap) (hcell : ∀ i, i < zs.length → W.cell? (x.add i) = some (.int .i64 (zs.getD i 0))) :
    Ints W (.slice (some x) len cap) (zs.take len) := by
  obtain ⟨b, off, spot⟩ := x
  refine ⟨some ⟨b, off, spot⟩, cap, by simp [List.length_take]; omega, by simp; omega, hm, (fun h => by cases h), fun i hi => ?_⟩
  have hi' : i < zs.length := by simp at hi; omega
  have hc0 := hcell 0 (by omega)
  have hspot : spot = none := by simpa [Addr.add] using World.cell?_spot hc0
  subst hspot
  have hc := hcell i hi'
  rw [Addr.add_lit] at hc
  refine ⟨b, off, _, rfl, trivial, hc, ?_⟩
  simp [isI, List.getD, List.getElem?_eq_getElem hi']
theorem frame_ints {a0 : Option Addr} {len0 cap0 : Nat} {d : DataW H} {p : List MemPlace} (h0 : DataW.Trod enc Tryd.prog W 0 (fun _ => true) true 48 (.slice a0 len0 cap0) d p) :
    ∃ xs, Ints W (.slice a0 len0 cap0) xs := by
  obtain ⟨fuel, hf⟩ := h0
  rcases open_ints Tryd.underlying48 Tryd.underlying3 fr_cells3 hf with ⟨hcs, _⟩ | ⟨x, l, c, zs, hcs, _, hl, hm, hz, _, hcell, hwz⟩
  · simp [Value.cells] at hcs
    obtain ⟨rfl, rfl, rfl⟩ := hcs
    exact ⟨[], none, 0, rfl, Nat.le_refl _, Nat.zero_le _, fun _ => rfl, fun i hi => absurd hi (by simp)⟩
  · simp [Value.cells] at hcs
    obtain ⟨rfl, rfl, rfl⟩ := hcs
    exact ⟨_, ints_of_open hl hm (by simpa using hz) hcell⟩
theorem conf_trod {n : Nat} {cs : List Value} {x : DataW H × List MemPlace} (hf : DataW.trod enc Tryd.prog W 0 (fun _ => true) true n 26 cs = some x) :
    ∃ (c : Int) (s : ByteArray), cs = [.int .i64 c, .string s] ∧ s.size ≤ 9223372036854775807 := by
  obtain ⟨y0, y1, m, _, hl, h0, h1⟩ := trod_struct2 Tryd.underlying26 hf
  rw [fr_cells26] at hl
  obtain ⟨c0, c1, rfl⟩ := len2 hl
  · simp [fr_cells3, fr_cells9] at h0 h1
    obtain ⟨a, ea, _, _⟩ := DataW.trod_int Tryd.underlying3 h0
    obtain ⟨s, es, _, hs⟩ := DataW.trod_string Tryd.underlying9 h1
    simp at ea es
    subst ea; subst es
    exact ⟨a, s, rfl, hs⟩
theorem rule_trod {n : Nat} {cs : List Value} {x : DataW H × List MemPlace} (hf : DataW.trod enc Tryd.prog W 0 (fun _ => true) true n 61 cs = some x) :
    ∃ r : RuleB, cs = [.int .i64 r.fr, .int .u8 r.top, .int .i64 r.to, .string r.put] := by
  obtain ⟨y0, y1, y2, y3, m, hl, h0, h1, h2, h3⟩ := trod_struct4 Tryd.underlying61 hf
  rw [fr_cells61] at hl
  obtain ⟨c0, c1, c2, c3, rfl⟩ := len4 hl
  · simp [fr_cells3, fr_cells9, fr_cells5] at h0 h1 h2 h3
    obtain ⟨a, ea, _, _⟩ := DataW.trod_int Tryd.underlying3 h0
    obtain ⟨b, eb, _, _⟩ := DataW.trod_int Tryd.underlying5 h1
    obtain ⟨c, ec, _, _⟩ := DataW.trod_int Tryd.underlying3 h2
    obtain ⟨s, es, _, hs⟩ := DataW.trod_string Tryd.underlying9 h3
    simp at ea eb ec es
    subst ea; subst eb; subst ec; subst es
    exact ⟨⟨a, b, c, s⟩, rfl⟩
instance : Inhabited RuleB := ⟨⟨0, 0, 0, ⟨#[]⟩⟩⟩
theorem frame_rules {n : Nat} {c : Value} {x : DataW H × List MemPlace} (hf : DataW.trod enc Tryd.prog W 0 (fun _ => true) true n 22 [c] = some x) : ∃ l, Rls W c l := by
  rcases open_slice Tryd.underlying22 hf with ⟨hcs, _⟩ | ⟨a, len, cap, m, n, D, Pl, hcs, _, hl, hm, hmm, _, hx⟩
  · simp at hcs
    subst hcs
    exact ⟨[], Els.nil _⟩
  · simp at hcs
    subst hcs
    rw [if_pos rfl] at hmm
    subst hmm
    rw [fr_cells61] at hx
    obtain ⟨f, hfn⟩ := choose_lt (α := RuleB) (n := len) (p := fun i q => ∀ j u, (ElR.enc q)[j]? = some u → W.cell? (a.add (i * 4 + j)) = some u) (fun i hi => by
      obtain ⟨cs', h1, h2⟩ := hx i (by omega)
      obtain ⟨_, hlen, hcell⟩ := World.cells?_some h1
      obtain ⟨r, rfl⟩ := rule_trod h2
      refine ⟨r, fun j u hu => ?_⟩
      have hj : j < 4 := by
        have := (List.getElem?_eq_some_iff.1 hu).1
        simpa [ElR] using this
      have e := hcell j (by simpa using hj)
      rw [add_add] at e
      rw [e]
      exact hu)
    refine ⟨(List.range len).map f, some a, m, by simp, by simpa using hl, hm, (fun h => by cases h), fun i hi => ?_⟩
    have hi' : i < len := by simpa using hi
    obtain ⟨b, off, spot⟩ := a
    have hspot : spot = none := by
      have := World.cell?_spot (hfn 0 (by omega) 0 (.int .i64 (f 0).fr) rfl)
      simpa [Addr.add] using this
    subst hspot
    refine ⟨b, off, rfl, fun j u hu => ?_⟩
    simp only [List.getElem_map, List.getElem_range] at hu
    have := hfn i hi' j u hu
    rw [Addr.add_lit] at this
    rw [Nat.add_assoc]
    exact this
theorem frame_sys {v : Value} {r : Reach} {b0 : Nat} {d : DataW H} {p : List MemPlace} (hv : Value.okWide Tryd.prog W r b0 24 v) (h0 : DataW.Trod enc Tryd.prog W 0 (fun _ => true) true 24 v d p) :
    ∃ C u l, v = sv C u ∧ Rls W u l := by
  obtain ⟨cs, rfl, _⟩ := okWide_struct Tryd.underlying24 hv
  obtain ⟨fuel, hf⟩ := h0
  obtain ⟨y0, y1, m, _, hl, h0, h1⟩ := trod_struct2 Tryd.underlying24 hf
  rw [fr_cells24] at hl
  simp only [Value.cells] at hl h0 h1
  obtain ⟨cs⟩ := cs
  obtain ⟨c0, c1, rfl⟩ := len2 hl
  · simp [fr_cells3, fr_cells22] at h0 h1
    obtain ⟨a, ea, _, _⟩ := DataW.trod_int Tryd.underlying3 h0
    obtain ⟨l, hl2⟩ := frame_rules h1
    simp at ea
    subst ea
    exact ⟨a, c1, l, rfl, hl2⟩
theorem frame_conf {v : Value} {r : Reach} {b0 : Nat} {d : DataW H} {p : List MemPlace} (hv : Value.okWide Tryd.prog W r b0 26 v) (h0 : DataW.Trod enc Tryd.prog W 0 (fun _ => true) true 26 v d p) :
    ∃ (c : Int) (s : ByteArray), v = cv ⟨c, s⟩ ∧ s.size ≤ 9223372036854775807 := by
  obtain ⟨cs, rfl, _⟩ := okWide_struct Tryd.underlying26 hv
  obtain ⟨fuel, hf⟩ := h0
  obtain ⟨c, s, e, hs⟩ := conf_trod hf
  simp only [Value.cells] at e
  obtain ⟨cs⟩ := cs
  simp at e
  subst e
  exact ⟨c, s, rfl, hs⟩
theorem frame_pair {v : Value} {r : Reach} {b0 : Nat} {d : DataW H} {p : List MemPlace} (hv : Value.okWide Tryd.prog W r b0 56 v) (h0 : DataW.Trod enc Tryd.prog W 0 (fun _ => true) true 56 v d p) :
    ∃ (c : Int) (s : ByteArray) (c' : Int) (s' : ByteArray), v = .agg #[.int .i64 c, .string s, .int .i64 c', .string s'] ∧ s.size ≤ 9223372036854775807 ∧ s'.size ≤ 9223372036854775807 := by
  obtain ⟨cs, rfl, _⟩ := okWide_struct Tryd.underlying56 hv
  obtain ⟨fuel, hf⟩ := h0
  obtain ⟨y0, y1, m, _, hl, h0, h1⟩ := trod_struct2 Tryd.underlying56 hf
  rw [fr_cells56] at hl
  simp only [Value.cells] at hl h0 h1
  obtain ⟨cs⟩ := cs
  obtain ⟨c0, c1, c2, c3, rfl⟩ := len4 hl
  · simp [fr_cells26] at h0 h1
    obtain ⟨c, s, e, hs⟩ := conf_trod h0
    obtain ⟨c', s', e', hs'⟩ := conf_trod h1
    simp at e e'
    obtain ⟨rfl, rfl⟩ := e
    obtain ⟨rfl, rfl⟩ := e'
    exact ⟨c, s, c', s', rfl, hs, hs'⟩
end Go.Proofs.YtaapnflhjbdmlaaDoor
