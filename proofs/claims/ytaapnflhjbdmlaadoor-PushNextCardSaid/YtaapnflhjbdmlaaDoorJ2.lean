/- slices.Clone of moves. No condition. -/
import Derived.Test.YtaapnflhjbdmlaaDoorJ1
import Derived.Lib.SliceRun
namespace Go.Proofs.YtaapnflhjbdmlaaDoor
open Go.RowKit Go.Shelf
attribute [local go_sem] Oper.semAt_some

/-- a move in memory -/
def ElK : El Key := ⟨3, fun k => [.int .i64 k.1, .int .u8 k.2.1, .int .i64 k.2.2], fun _ => rfl, fun x u hu => by
  simp only [List.mem_cons, List.mem_nil_iff, or_false] at hu
  rcases hu with rfl | rfl | rfl <;> rfl, by decide⟩
theorem info94 : (Tryd.prog.info? 94).map (fun i => (i.zero, i.size, i.bytes)) = some (some (.agg #[.int .i64 0, .int .u8 0, .int .i64 0]), 3, 24) := by kernel_rfl
theorem ownE_empty {α : Type} {E : El α} (w : World) (e : Nat) : OwnE E e w.heap.size (w.alloc (.cells #[] e)) (.slice (some ⟨w.heap.size, 0, none⟩) 0 0) [] :=
  ⟨by simp [flatE], .inr ⟨w.heap.size, 0, #[], rfl, Nat.le_refl _, heap_alloc_new w _, Nat.le_refl _, Nat.zero_le _, by simp, by simp [flatE]⟩⟩

set_option maxHeartbeats 400000 in
theorem cloneK_any (w : World) (v : Value) (xs : List Key) (h : Els ElK w v xs) (hl : xs.length ≤ 1000) :
    Calls Tryd.prog 49 #[v] w fun e w' => ∃ v', e = .returned v' ∧ OwnE ElK 94 w.heap.size w' v' xs ∧ Below w.heap.size w w' := by
  have hh : Hid (Els ElK w v xs) := h
  obtain ⟨A, n, cap, rfl, hn⟩ := Els.shape h
  have he := fun W => Lib.run_eql_slice_nil (P := Tryd.prog) W 87 94 A n cap 0 0 Tryd.underlying87
  clear h
  cases A with
  | none =>
    go_enter Tryd.func49, Tryd.ntmps49
    have e0 : xs = [] := by
      obtain ⟨A, cap, e, h1, _, h3, _⟩ := hh.out
      have hn0 : A = none := by injection e with e _ _; exact e.symm
      rw [h3 hn0] at h1
      exact List.length_eq_zero_iff.1 (by omega)
    subst e0
    go_wp2_with fail
    go_ret
    exact ⟨_, rfl, OwnE.nil _ _ _, Below.refl _ _⟩
  | some p =>
    go_enter Tryd.func49, Tryd.ntmps49
    have hB : Hid (Below w.heap.size w (w.alloc (.cells #[] 94))) := below1 _ _
    have hS : Hid (Els ElK (w.alloc (.cells #[] 94)) (.slice (some p) n cap) xs) := Els.then hh.out hB.out
    go_wp2_with (at_builtin; refine wpList_append_els (E := ElK) _ rfl (.tmp 5) (.tmp 6) 87 rfl w.heap.size Tryd.underlying87 info94 rfl rfl (by decide) _ [] rfl (ownE_empty w 94) _ rfl xs hS.out (by simp; omega) hB.out.size ?_; intro v' w' h1 h2 _ _)
    go_ret
    exact ⟨_, rfl, h1, hB.out.trans h2⟩
end Go.Proofs.YtaapnflhjbdmlaaDoor
