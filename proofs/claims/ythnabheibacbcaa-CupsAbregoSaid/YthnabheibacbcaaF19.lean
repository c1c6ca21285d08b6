/- Edges of one point: none, here and in the reference. No condition. -/
import Derived.Test.YthnabheibacbcaaF17
namespace Go.Proofs.Ythnabheibacbcaa
open Go.RowKit Go.Shelf

set_option maxRecDepth 100000 in
set_option maxHeartbeats 1000000 in
theorem EdgesR_one (w : World) (v : Value) (l : List Pt) (h : Pts w v l) (h1 : l.length < 2) :
    Calls Try.prog 29 #[v] w fun e w' => e = .returned (.slice none 0 0) ∧ Below w.heap.size w w' := by
  obtain ⟨A, n, cap, rfl, hn⟩ := h.shape
  have hn2 : (n : Int) < 2 := by have := hn.out; omega
  clear h
  go_enter Try.func29, Try.ntmps29
  go_wp2
  go_ret
  exact ⟨rfl, Below.refl _ _⟩

set_option maxRecDepth 100000 in
set_option maxHeartbeats 1000000 in
theorem Edges_one (w : World) (v : Value) (l : List Pt) (h : Pts w v l) (hc : checkB l = true) (hg : genB l = true) (h1 : l.length < 2) :
    Calls Try.prog 25 #[v] w fun e w' => e = .returned (.tuple #[.slice none 0 0, .int .i64 0]) ∧ Below w.heap.size w w' := by
  obtain ⟨A, n, cap, rfl, hn⟩ := h.shape
  obtain ⟨W0, hW0⟩ : ∃ W0, w.alloc (.cells #[.slice A n cap] 31) = W0 := ⟨_, rfl⟩
  have k0c : W0.cell? ⟨w.heap.size, 0, none⟩ = some (.slice A n cap) := by rw [← hW0]; exact one_cell
  have hB0 := Lib.hid (show Below w.heap.size w W0 by rw [← hW0]; exact below1 _ _)
  have H := Lib.hid (open_ok W0 _ l 1 (h.then hB0.out) hc hg (by unfold checkB at hc; simp at hc; omega))
  have hn2 : (n : Int) < 2 := by have := hn.out; omega
  clear h hc hg
  refine (callsIn_wide (n := 3)).1 ?_
  refine callsIn_of_wp_marks Try.func25 rfl trivial ?_ rfl
  simp only [Try.ntmps25, List.size_toArray, List.length_cons, List.length_nil, Nat.reduceAdd, Nat.reduceSub, Array.replicate_succ, Array.replicate_zero, List.push_toArray, List.append_toArray, List.nil_append, List.cons_append]
  refine (wpIn_wide (n := 3)).2 ?_
  go_wp2_with (go_at_call 54; refine H.out.mono ?_; rintro e w1 ⟨g, os, rfl, hg1, hord, hP, hb⟩; obtain ⟨W2, hW2⟩ : ∃ W2, w1.alloc (.cells #[.pointer (some ⟨g, 0, none⟩)] 66) = W2 := ⟨_, rfl⟩; have hB2 := (show Below w1.heap.size w1 W2 by rw [← hW2]; exact below1 _ _); have k2c := cell_below (cell_below k0c hb) hB2; replace hb := Lib.hid (bthen hB0.out (bthen hb hB2)); clear hP hord)
  refine ⟨_, by simp [results, Try.results25, go_sem], rfl, ?_⟩
  exact hb.out
end Go.Proofs.Ythnabheibacbcaa
