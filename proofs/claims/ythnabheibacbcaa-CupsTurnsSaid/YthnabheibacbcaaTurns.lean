/- CupsTurns returns true for every input, and every argument reads behind the call as it read before. No condition. -/
import Derived.Test.YthnabheibacbcaaE3
import Derived.Test.YthnabheibacbcaaFrame
namespace Go.Proofs.Ythnabheibacbcaa.cupsTurnsDone
open Go.ChangeShapes Go.WideShapes Go.ChangeAt Go.RowKit Go.WideMaps
open Go.ChangeMaps (open_string shut_string)
set_option linter.unusedVariables false

set_option maxRecDepth 100000 in
theorem lifted (os : Os) (started : os.Started) (H : Type) (enc : TypeId × Value → H) :
    ReturnsInHanded {} Try.checked os 3 .any (Rows.cupsTurnsSpec.pre6 enc Try.prog Try.f3 Rows.cupsTurnsRow.domain false) (Rows.cupsTurnsSpec.post enc Try.prog Try.f3 false true false false) := by
  refine returnsInHanded_of_change (C := Try.checked) fr_own started (by kernel_rfl) Try.func3
    (ChangeSpec.witness6 (enc := enc) (C := Try.checked) false ⟨#[], #[.agg #[.int .i64 0, .int .i64 0], .agg #[.int .i64 0, .int .i64 0], .agg #[.int .i64 0, .int .i64 0]], []⟩ 8 (by kernel_rfl) (by kernel_rfl) (by kernel_rfl) (by kernel_rfl)) ?_
  intro W base args ds gs before hval0 hW hcnd _
  have hval : ∀ (j : Nat) t v, Try.f3.params[j]? = some t → args[j]? = some v → Value.okWide Try.prog W .any base t v := hval0
  have hW' := hW
  obtain ⟨p, q, hA0, hV, rfl, hfz, hnd⟩ := hW
  have hA : DataW.TrodAll enc Try.prog W 0 (fun _ => true) true Try.f3.params.toList args.toList ds p := hA0
  rw [Try.params3] at hA hval
  obtain ⟨v0, vs0, d0, ds0, p0, q0, hargs, rfl, rfl, h0, r0⟩ := trodAll_cons hA
  obtain ⟨v1, vs1, d1, ds1, p1, q1, rfl, rfl, rfl, h1, r1⟩ := trodAll_cons r0
  obtain ⟨v2, vs2, d2, ds2, p2, q2, rfl, rfl, rfl, h2, r2⟩ := trodAll_cons r1
  obtain ⟨rfl, rfl, rfl⟩ := trodAll_nil r2
  obtain rfl : args = #[v0, v1, v2] := by cases args; simp_all
  obtain ⟨rfl, rfl⟩ := trodVars_none hV
  obtain ⟨x0, y0, rfl, rfl, rfl, w0, z0⟩ := open_pair fr_arr Try.underlying3 (hval 0 22 v0 rfl rfl) h0
  obtain ⟨x1, y1, rfl, rfl, rfl, w1, z1⟩ := open_pair fr_arr Try.underlying3 (hval 1 22 v1 rfl rfl) h1
  obtain ⟨x2, y2, rfl, rfl, rfl, w2, z2⟩ := open_pair fr_arr Try.underlying3 (hval 2 22 v2 rfl rfl) h2
  clear hA0 hval0
  refine (CupsTurns_walk W (x0, y0) (x1, y1) (x2, y2)   ).mono fun e W' ⟨he, bel⟩ => ?_
  subst he
  exact ⟨_, rfl, _, _, _, [], _, [], hW', trodAll_mk1 (shut_bool Try.underlying4 _), (trodAll_cons_mk (shut_pair fr_arr Try.underlying3 w0 z0) (trodAll_cons_mk (shut_pair fr_arr Try.underlying3 w1 z1) (trodAll_cons_mk (shut_pair fr_arr Try.underlying3 w2 z2) trodAll_mk0))), rfl, bel.frame _, fun h => by cases h⟩

theorem over : Rows.cupsTurnsRow.holds Try.pinned (OpenSpec.ofChange Rows.cupsTurnsSpec) :=
  OpenClaim.holds_of_wide 3 Try.f3 rfl rfl rfl rfl rfl rfl rfl ⟨rfl, rfl, rfl, rfl, rfl⟩ rfl rfl rfl rfl rfl (by kernel_rfl) Try.func3 (by kernel_rfl)
    (of_decide_eq_true (by kernel_rfl)) (by unfold Func.isWrapper; first | (rw [if_pos (by decide +kernel)]; kernel_rfl) | (rw [if_neg (by decide +kernel)]; exact ⟨rfl, rfl⟩))
    (fun os started H enc _ => lifted os started H enc)

theorem proved : Rows.CupsTurnsSaid := over
#print axioms proved
end Go.Proofs.Ythnabheibacbcaa.cupsTurnsDone
