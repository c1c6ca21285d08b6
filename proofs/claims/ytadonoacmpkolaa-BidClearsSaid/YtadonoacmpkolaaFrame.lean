/- The row's frame: what an argument reads as. No condition. -/
import Derived.Test.YtadonoacmpkolaaBase
import Derived.WalkKit
import Derived.ProofKit
import Derived.OpenShut
import Derived.ShutString
import Derived.ChangeOld
import Derived.Below
import Derived.Deep.Matrix
namespace Go.Proofs.Ytadonoacmpkolaa
open Go.ChangeShapes Go.WideShapes Go.ChangeAt Go.RowKit Go.Deep
open Go.ChangeMaps (open_string shut_string)

theorem fr_own : ownKnob Try.prog.godebug = none := by kernel_rfl
theorem fr_laidOut : laidOutB Try.prog = true := by kernel_rfl
theorem fr_cells27 : Try.prog.cellsOf 27 = 1 := by kernel_rfl
theorem fr_cells2 : Try.prog.cellsOf 2 = 1 := by kernel_rfl

theorem ints_of_open {W : World} {x : Addr} {len cap : Nat} {zs : List Int} (hl : len ≤ cap) (hm : cap ≤ maxLen) (hz : zs.length = cap) (hcell : ∀ i, i < zs.length → W.cell? (x.add i) = some (.int .i64 (zs.getD i 0))) :
    Ints W (.slice (some x) len cap) (zs.take len) := by
  obtain ⟨b, off, spot⟩ := x
  refine ⟨some ⟨b, off, spot⟩, cap, by simp [List.length_take]; omega, by simp; omega, hm, (fun h => by cases h), fun i hi => ?_⟩
  have hi' : i < zs.length := by simp at hi; omega
  have hc0 := hcell 0 (by omega)
  have hspot : spot = none := by simpa [Addr.add] using World.cell?_spot hc0
  subst hspot
  have hc := hcell i hi'
  rw [Addr.add_lit] at hc
  refine ⟨b, off, _, rfl, trivial, hc, ?_⟩
  simp [isI, List.getD, List.getElem?_eq_getElem hi']

theorem frame_ints {H : Type} {enc : TypeId × Value → H} {W : World} {a0 : Option Addr} {len0 cap0 : Nat} {d : DataW H} {p : List MemPlace} (h0 : DataW.Trod enc Try.prog W 0 (fun _ => true) true 27 (.slice a0 len0 cap0) d p) :
    ∃ xs, Ints W (.slice a0 len0 cap0) xs := by
  obtain ⟨fuel, hf⟩ := h0
  rcases open_ints Try.underlying27 Try.underlying2 (by kernel_rfl) hf with ⟨hcs, _⟩ | ⟨x, l, c, zs, hcs, _, hl, hm, hz, _, hcell, hwz⟩
  · simp [Value.cells] at hcs
    obtain ⟨rfl, rfl, rfl⟩ := hcs
    exact ⟨[], none, 0, rfl, Nat.le_refl _, Nat.zero_le _, fun _ => rfl, fun i hi => absurd hi (by simp)⟩
  · simp [Value.cells] at hcs
    obtain ⟨rfl, rfl, rfl⟩ := hcs
    exact ⟨_, ints_of_open hl hm (by simpa using hz) hcell⟩

theorem frame_rows {H : Type} {enc : TypeId × Value → H} {W : World} {a0 : Option Addr} {len0 cap0 : Nat} {d : DataW H} {p : List MemPlace} (h0 : DataW.Trod enc Try.prog W 0 (fun _ => true) true 22 (.slice a0 len0 cap0) d p) :
    ∃ xs, Rows2 W (.slice a0 len0 cap0) xs := by
  obtain ⟨fuel, hf⟩ := h0
  rcases open_int_rows Try.underlying22 Try.underlying27 Try.underlying2 fr_cells27 fr_cells2 hf with ⟨hcs, _⟩ | ⟨a, len', cap', A, L, C, Z, hcs, _, hl, hm, hx, hrows⟩
  · simp [Value.cells] at hcs
    obtain ⟨rfl, rfl, rfl⟩ := hcs
    exact ⟨[], none, 0, rfl, Nat.le_refl _, Nat.zero_le _, fun _ => rfl, fun i hi => absurd hi (by simp)⟩
  · simp [Value.cells] at hcs
    obtain ⟨rfl, rfl, rfl⟩ := hcs
    refine ⟨(List.range len0).map fun r => (Z r).take (L r), some a, cap0, by simp, by simpa using hl, hm, (fun h => by cases h), fun i hi => ?_⟩
    have hi' : i < len0 := by simpa using hi
    obtain ⟨h1, h2, h3, h4, _, h6, h7⟩ := hrows i (by omega)
    obtain ⟨b, off, spot⟩ := a
    have hspot : spot = none := by simpa [Addr.add] using World.cell?_spot (hrows 0 (by omega)).1
    subst hspot
    rw [Addr.add_lit] at h1
    refine ⟨b, off, _, rfl, trivial, h1, ?_⟩
    simp only [List.getElem_map, List.getElem_range]
    cases hA : A i with
    | none =>
      have h8 := h6 hA
      have : L i = 0 := by omega
      rw [this, h8]
      exact ⟨none, 0, by simp, by simp, Nat.zero_le _, fun _ => rfl, fun i hi => absurd hi (by simp)⟩
    | some x =>
      exact ints_of_open h2 h3 h4 fun j hj => (h7 x hA).2 j (by omega)
/-- an int that came in fits -/
theorem int_wf {x : Int} (h : (Lit.int .i64 x).wf = true) : -9223372036854775808 ≤ x ∧ x ≤ 9223372036854775807 := by
  simp [Lit.wf, IntKind.min, IntKind.max, IntKind.signed, IntKind.bits] at h
  omega
end Go.Proofs.Ytadonoacmpkolaa
