/- The row's frame: what an argument reads as. No condition. -/
import Derived.Test.YthnabheibacbcaaP0
import Derived.WalkKit
import Derived.ProofKit
import Derived.OpenShut
import Derived.ShutString
import Derived.ChangeOld
import Derived.Below
import Derived.Deep.Slices
import Derived.WideKeyPair
namespace Go.Proofs.Ythnabheibacbcaa
open Go.ChangeShapes Go.WideShapes Go.ChangeAt Go.RowKit Go.Deep Go.WideMaps
open Go.ChangeMaps (open_string shut_string)

theorem fr_own : ownKnob Try.prog.godebug = none := by kernel_rfl
theorem fr_laidOut : laidOutB Try.prog = true := by kernel_rfl
theorem fr_cells22 : Try.prog.cellsOf 22 = 2 := by kernel_rfl
theorem fr_cells3 : Try.prog.cellsOf 3 = 1 := by kernel_rfl
theorem fr_arr : ArrKey Try.prog 22 3 2 := ⟨Try.underlying22, by kernel_rfl, by kernel_rfl, fr_cells22⟩

theorem ints_of_open {W : World} {x : Addr} {len cap : Nat} {zs : List Int} (hl : len ≤ cap) (hm : cap ≤ maxLen) (hz : zs.length = cap) (hcell : ∀ i, i < zs.length → W.cell? (x.add i) = some (.int .i64 (zs.getD i 0))) :
    Ints W (.slice (some x) len cap) (zs.take len) := by
  obtain ⟨b, off, spot⟩ := x
  refine ⟨some ⟨b, off, spot⟩, cap, by simp [List.length_take]; omega, by simp; omega, hm, (fun h => by cases h), fun i hi => ?_⟩
  have hi' : i < zs.length := by simp at hi; omega
  have hc0 := hcell 0 (by omega)
  have hspot : spot = none := by simpa [Addr.add] using World.cell?_spot hc0
  subst hspot
  have hc := hcell i hi'
  rw [Addr.add_lit] at hc
  refine ⟨b, off, _, rfl, trivial, hc, ?_⟩
  simp [isI, List.getD, List.getElem?_eq_getElem hi']

theorem frame_ints {H : Type} {enc : TypeId × Value → H} {W : World} {a0 : Option Addr} {len0 cap0 : Nat} {d : DataW H} {p : List MemPlace} (h0 : DataW.Trod enc Try.prog W 0 (fun _ => true) true 33 (.slice a0 len0 cap0) d p) :
    ∃ xs, Ints W (.slice a0 len0 cap0) xs := by
  obtain ⟨fuel, hf⟩ := h0
  rcases open_ints Try.underlying33 Try.underlying3 (by kernel_rfl) hf with ⟨hcs, _⟩ | ⟨x, l, c, zs, hcs, _, hl, hm, hz, _, hcell, hwz⟩
  · simp [Value.cells] at hcs
    obtain ⟨rfl, rfl, rfl⟩ := hcs
    exact ⟨[], none, 0, rfl, Nat.le_refl _, Nat.zero_le _, fun _ => rfl, fun i hi => absurd hi (by simp)⟩
  · simp [Value.cells] at hcs
    obtain ⟨rfl, rfl, rfl⟩ := hcs
    exact ⟨_, ints_of_open hl hm (by simpa using hz) hcell⟩

theorem pair_trod {H : Type} {enc : TypeId × Value → H} {W : World} {n : Nat} {cs : List Value} {x : DataW H × List MemPlace} (hl : cs.length = 2) (hf : DataW.trod enc Try.prog W 0 (fun _ => true) true n 22 cs = some x) :
    ∃ a b : Int, cs = [.int .i64 a, .int .i64 b] := by
  have A := fr_arr
  match cs, hl with
  | [c0, c1], _ =>
    cases n with
    | zero => simp [DataW.trod] at hf
    | succ n =>
      rw [DataW.trod_step] at hf
      unfold DataW.trodStep at hf
      simp only [A.hu] at hf
      rw [if_pos (by rw [A.size]; rfl)] at hf
      simp only [Option.map_eq_some_iff] at hf
      obtain ⟨xs, hx, e1⟩ := hf
      rw [show List.range 2 = [0, 1] from rfl, List.mapM_cons, List.mapM_cons, List.mapM_nil] at hx
      simp only [bind, Option.bind_eq_some_iff, pure, Option.some.injEq, A.one] at hx
      obtain ⟨y0, h0, _, ⟨y1, h1, _, rfl, rfl⟩, rfl⟩ := hx
      obtain ⟨a, ea, rfl, wa⟩ := DataW.trod_int Try.underlying3 h0
      obtain ⟨b, eb, rfl, wb⟩ := DataW.trod_int Try.underlying3 h1
      simp at ea eb
      subst ea; subst eb
      exact ⟨a, b, rfl⟩

theorem frame_pts {H : Type} {enc : TypeId × Value → H} {W : World} {a0 : Option Addr} {len0 cap0 : Nat} {d : DataW H} {p : List MemPlace} (h0 : DataW.Trod enc Try.prog W 0 (fun _ => true) true 31 (.slice a0 len0 cap0) d p) :
    ∃ l, Pts W (.slice a0 len0 cap0) l := by
  obtain ⟨fuel, hf⟩ := h0
  rcases open_slice Try.underlying31 hf with ⟨hcs, _⟩ | ⟨a, len, cap, m, n, D, Pl, hcs, _, hl, hm, hmm, _, hx⟩
  · simp [Value.cells] at hcs
    obtain ⟨rfl, rfl, rfl⟩ := hcs
    exact ⟨[], none, 0, rfl, Nat.le_refl _, Nat.zero_le _, fun _ => rfl, fun i hi => absurd hi (by simp)⟩
  · simp [Value.cells] at hcs
    obtain ⟨rfl, rfl, rfl⟩ := hcs
    rw [if_pos rfl] at hmm
    subst hmm
    rw [fr_cells22] at hx
    obtain ⟨f, hfn⟩ := choose_lt (α := Int × Int) (n := len0) (p := fun i q => W.cell? (a.add (i * 2)) = some (.int .i64 q.1) ∧ W.cell? (a.add (i * 2 + 1)) = some (.int .i64 q.2)) (fun i hi => by
      obtain ⟨cs', h1, h2⟩ := hx i (by omega)
      obtain ⟨_, hlen, hcell⟩ := World.cells?_some h1
      obtain ⟨u, v, rfl⟩ := pair_trod hlen h2
      have e0 := hcell 0 (by simp)
      have e1 := hcell 1 (by simp)
      rw [add_add] at e0 e1
      exact ⟨(u, v), by simpa using e0, by simpa using e1⟩)
    refine ⟨(List.range len0).map f, some a, m, by simp, by simpa using hl, hm, (fun h => by cases h), fun i hi => ?_⟩
    have hi' : i < len0 := by simpa using hi
    obtain ⟨h1, h2⟩ := hfn i hi'
    obtain ⟨b, off, spot⟩ := a
    have hspot : spot = none := by
      have := World.cell?_spot (hfn 0 (by omega)).1
      simpa [Addr.add] using this
    subst hspot
    rw [Addr.add_lit] at h1 h2
    have e : ptA ((List.range len0).map f) i = f i := by rw [ptA_eq (by simpa using hi')]; simp
    rw [e]
    exact ⟨b, off, rfl, h1, by rw [Nat.add_assoc]; exact h2⟩
/-- an int that came in fits -/
theorem int_wf {x : Int} (h : (Lit.int .i64 x).wf = true) : -9223372036854775808 ≤ x ∧ x ≤ 9223372036854775807 := by
  simp [Lit.wf, IntKind.min, IntKind.max, IntKind.signed, IntKind.bits] at h
  omega
end Go.Proofs.Ythnabheibacbcaa
