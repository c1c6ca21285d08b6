/- Maps told by lists, inside a fence. No condition. -/
import Derived.Test.YthnabheibacbcaaAmap
import Derived.Maps.OwnIn
namespace Go.Proofs.Ythnabheibacbcaa
open Go.RowKit
section
variable {F : Fence} {nF : Nat} {P : Program} {κ : Type} [DecidableEq κ] {ke : κ → Value} {b : Nat} {l : List (κ × Value)}
variable (w : World) {ops : Array Oper} {rest : List Oper} {o : Oper} {a : Act} {Q : Exit → Act → World → Prop}

theorem wpListIn_lookup_a (hg : o.guard = none) (m x : Operand) (t : TypeId) (hop : o.op = Op.lookup t m x false) (kt et : TypeId) (K : KeyT P kt ke) (ht : P.underlying t = some (.map kt et)) {z : Value} (hz : (zeroValue et).run P w = .ok z w)
    (hm : a.eval m = .map (some b)) (h : AMap ke w b l) (k : κ) (hx : a.eval x = ke k) (v : Value) (hv : (aget l k).getD z = v) (hK : wpListIn F nF P ops Q rest (a.put o.dst v) w) : wpListIn F nF P ops Q (o :: rest) a w := by
  refine wpListIn_plain hg fun K' hK' => ?_
  have hrun := AMap.run_lookup K ht hz h k false
  unfold Oper.wpIn
  refine ⟨by simp [Oper.about, hop], ?_⟩
  rw [Oper.semAt_plain F _ _ (by rw [hop]; intro c hc'; cases hc')]
  simp [execOp, hop, hm, hx, hrun, Result.andThen, hv]
  exact hK' _ _ hK
theorem wpListIn_lookup_ok_a (hg : o.guard = none) (m x : Operand) (t : TypeId) (hop : o.op = Op.lookup t m x true) (kt et : TypeId) (K : KeyT P kt ke) (ht : P.underlying t = some (.map kt et)) {z : Value} (hz : (zeroValue et).run P w = .ok z w)
    (hm : a.eval m = .map (some b)) (h : AMap ke w b l) (k : κ) (hx : a.eval x = ke k) (v : Value) (hv : (aget l k).getD z = v) (y : Bool) (hy : (aget l k).isSome = y) (hK : wpListIn F nF P ops Q rest (a.put o.dst (.tuple #[v, .bool y])) w) : wpListIn F nF P ops Q (o :: rest) a w := by
  refine wpListIn_plain hg fun K' hK' => ?_
  have hrun := AMap.run_lookup K ht hz h k true
  unfold Oper.wpIn
  refine ⟨by simp [Oper.about, hop], ?_⟩
  rw [Oper.semAt_plain F _ _ (by rw [hop]; intro c hc'; cases hc')]
  simp [execOp, hop, hm, hx, hrun, Result.andThen, hv, hy]
  exact hK' _ _ hK
theorem wpListIn_mapUpdate_a (hg : o.guard = none) (m x y : Operand) (t : TypeId) (hop : o.op = Op.mapUpdate t m x y) (kt et : TypeId) (K : KeyT P kt ke) (ht : P.underlying t = some (.map kt et))
    (hm : a.eval m = .map (some b)) (h : AMap ke w b l) (k : κ) (hx : a.eval x = ke k) (v : Value) (hv : a.eval y = v)
    (hK : ∀ w', AMap ke w' b (aput l k v) → w.grownBy w' (some b) → w'.heap.size = w.heap.size → wpListIn F nF P ops Q rest (a.put o.dst undef) w') : wpListIn F nF P ops Q (o :: rest) a w := by
  refine wpListIn_plain hg fun K' hK' => ?_
  obtain ⟨w', hrun, r1, r2, r3⟩ := AMap.run_update K ht h k v
  unfold Oper.wpIn
  refine ⟨by simp [Oper.about, hop], ?_⟩
  rw [Oper.semAt_plain F _ _ (by rw [hop]; intro c hc'; cases hc')]
  simp [execOp, hop, hm, hx, hv, hrun, Result.andThen]
  exact hK' _ _ (hK w' r1 r2 r3)
end
end Go.Proofs.Ythnabheibacbcaa
