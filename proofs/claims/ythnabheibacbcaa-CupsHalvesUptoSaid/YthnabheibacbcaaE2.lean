/- The errors of cups' functions. No condition. -/
import Derived.Test.YthnabheibacbcaaE1
import Derived.Test.YthnabheibacbcaaC14
namespace Go.Proofs.Ythnabheibacbcaa
open Go.RowKit Go.Shelf

/-- what open returns as an error -/
def openE (l : List Pt) (m : Int) : Int := if checkB l = true then (if genB l = true ∧ m ≤ l.length then 0 else 1) else 90
theorem open_err (w : World) (v : Value) (l : List Pt) (m E : Int) (h : Pts w v l) (hE : openE l m = E) (h0 : E = 90 ∨ E = 1) :
    Calls Try.prog 54 #[v, .int .i64 m] w fun e w' => e = .returned (.tuple #[.pointer none, .int .i64 E]) ∧ Below w.heap.size w w' := by
  subst hE
  unfold openE at *
  by_cases hc : checkB l = true
  · rw [if_pos hc] at h0 ⊢
    by_cases hg : genB l = true ∧ m ≤ l.length
    · rw [if_pos hg] at h0; omega
    · rw [if_neg hg]
      refine open_line w v l m h hc ?_
      by_cases hg2 : genB l = true
      · exact .inr (by
          have : ¬ m ≤ l.length := fun h => hg ⟨hg2, h⟩
          omega)
      · exact .inl (by simpa using hg2)
  · rw [if_neg hc]
    exact open_bad w v l m h (by simpa using hc)

set_option maxHeartbeats 1000000 in
theorem Cup_err (w : World) (v : Value) (l : List Pt) (E : Int) (h : Pts w v l) (hE : openE l 2 = E) (h0 : E = 90 ∨ E = 1) :
    Calls Try.prog 18 #[v] w fun e w' => e = .returned (.tuple #[.slice none 0 0, .int .i64 E]) ∧ Below w.heap.size w w' := by
  have H := Lib.hid (open_err w v l 2 E h hE h0)
  clear h hE
  rcases h0 with rfl | rfl
  all_goals
    go_enter Try.func18, Try.ntmps18
    go_wp2_with (go_at_call 54; refine H.out.mono ?_; rintro e w1 ⟨rfl, hb⟩; replace hb := Lib.hid hb)
    go_ret2
    exact ⟨rfl, hb.out⟩
set_option maxHeartbeats 1000000 in
theorem Cap_err (w : World) (v : Value) (l : List Pt) (E : Int) (h : Pts w v l) (hE : openE l 2 = E) (h0 : E = 90 ∨ E = 1) :
    Calls Try.prog 19 #[v] w fun e w' => e = .returned (.tuple #[.slice none 0 0, .int .i64 E]) ∧ Below w.heap.size w w' := by
  have H := Lib.hid (open_err w v l 2 E h hE h0)
  clear h hE
  rcases h0 with rfl | rfl
  all_goals
    go_enter Try.func19, Try.ntmps19
    go_wp2_with (go_at_call 54; refine H.out.mono ?_; rintro e w1 ⟨rfl, hb⟩; replace hb := Lib.hid hb)
    go_ret2
    exact ⟨rfl, hb.out⟩
set_option maxHeartbeats 1000000 in
theorem Polygon_err (w : World) (v : Value) (l : List Pt) (E : Int) (h : Pts w v l) (hE : openE l 3 = E) (h0 : E = 90 ∨ E = 1) :
    Calls Try.prog 46 #[v] w fun e w' => e = .returned (.tuple #[.slice none 0 0, .int .i64 E]) ∧ Below w.heap.size w w' := by
  have H := Lib.hid (open_err w v l 3 E h hE h0)
  clear h hE
  rcases h0 with rfl | rfl
  all_goals
    go_enter Try.func46, Try.ntmps46
    go_wp2_with (go_at_call 54; refine H.out.mono ?_; rintro e w1 ⟨rfl, hb⟩; replace hb := Lib.hid hb)
    go_ret2
    exact ⟨rfl, hb.out⟩
set_option maxHeartbeats 1000000 in
theorem Empty_err (w : World) (v : Value) (l : List Pt) (E : Int) (h : Pts w v l) (hE : openE l 3 = E) (h0 : E = 90 ∨ E = 1) :
    Calls Try.prog 47 #[v] w fun e w' => e = .returned (.tuple #[.slice none 0 0, .int .i64 E]) ∧ Below w.heap.size w w' := by
  have H := Lib.hid (open_err w v l 3 E h hE h0)
  clear h hE
  rcases h0 with rfl | rfl
  all_goals
    go_enter Try.func47, Try.ntmps47
    go_wp2_with (go_at_call 54; refine H.out.mono ?_; rintro e w1 ⟨rfl, hb⟩; replace hb := Lib.hid hb)
    go_ret2
    exact ⟨rfl, hb.out⟩
set_option maxHeartbeats 1000000 in
theorem Layers_err (w : World) (v : Value) (l : List Pt) (E : Int) (h : Pts w v l) (hE : openE l 1 = E) (h0 : E = 90 ∨ E = 1) :
    Calls Try.prog 24 #[v] w fun e w' => e = .returned (.tuple #[.slice none 0 0, .int .i64 E]) ∧ Below w.heap.size w w' := by
  have H := Lib.hid (open_err w v l 1 E h hE h0)
  clear h hE
  rcases h0 with rfl | rfl
  all_goals
    go_enter Try.func24, Try.ntmps24
    go_wp2_with (go_at_call 54; refine H.out.mono ?_; rintro e w1 ⟨rfl, hb⟩; replace hb := Lib.hid hb)
    go_ret2
    exact ⟨rfl, hb.out⟩
set_option maxHeartbeats 1000000 in
theorem Squares_err (w : World) (v : Value) (l : List Pt) (E : Int) (h : Pts w v l) (hE : openE l 1 = E) (h0 : E = 90 ∨ E = 1) :
    Calls Try.prog 27 #[v] w fun e w' => e = .returned (.tuple #[.int .i64 0, .int .i64 E]) ∧ Below w.heap.size w w' := by
  have H := Lib.hid (open_err w v l 1 E h hE h0)
  clear h hE
  rcases h0 with rfl | rfl
  all_goals
    go_enter Try.func27, Try.ntmps27
    go_wp2_with (go_at_call 54; refine H.out.mono ?_; rintro e w1 ⟨rfl, hb⟩; replace hb := Lib.hid hb)
    go_ret2
    exact ⟨rfl, hb.out⟩
set_option maxRecDepth 100000 in
set_option maxHeartbeats 1000000 in
theorem Edges_err (w : World) (v : Value) (l : List Pt) (E : Int) (h : Pts w v l) (hE : openE l 1 = E) (h0 : E = 90 ∨ E = 1) :
    Calls Try.prog 25 #[v] w fun e w' => e = .returned (.tuple #[.slice none 0 0, .int .i64 E]) ∧ Below w.heap.size w w' := by
  obtain ⟨A, n, cap, rfl, hn⟩ := h.shape
  obtain ⟨W0, hW0⟩ : ∃ W0, w.alloc (.cells #[.slice A n cap] 31) = W0 := ⟨_, rfl⟩
  have k0c : W0.cell? ⟨w.heap.size, 0, none⟩ = some (.slice A n cap) := by rw [← hW0]; exact one_cell
  have hB0 := Lib.hid (show Below w.heap.size w W0 by rw [← hW0]; exact below1 _ _)
  have H := Lib.hid (open_err W0 _ l 1 E (h.then hB0.out) hE h0)
  clear h hE
  refine (callsIn_wide (n := 3)).1 ?_
  refine callsIn_of_wp_marks Try.func25 rfl trivial ?_ rfl
  simp only [Try.ntmps25, List.size_toArray, List.length_cons, List.length_nil, Nat.reduceAdd, Nat.reduceSub, Array.replicate_succ, Array.replicate_zero, List.push_toArray, List.append_toArray, List.nil_append, List.cons_append]
  refine (wpIn_wide (n := 3)).2 ?_
  rcases h0 with rfl | rfl
  all_goals
    go_wp2_with (go_at_call 54; refine H.out.mono ?_; rintro e w1 ⟨rfl, hb⟩; replace hb := Lib.hid (bthen hB0.out hb))
    refine ⟨_, by simp [results, Try.results25, go_sem], rfl, ?_⟩
    exact bthen hb.out (below1 _ _)
set_option maxRecDepth 100000 in
set_option maxHeartbeats 1000000 in
theorem Crossings_err (w : World) (v : Value) (l : List Pt) (E : Int) (h : Pts w v l) (hE : openE l 1 = E) (h0 : E = 90 ∨ E = 1) :
    Calls Try.prog 26 #[v] w fun e w' => e = .returned (.tuple #[.int .i64 0, .int .i64 E]) ∧ Below w.heap.size w w' := by
  obtain ⟨A, n, cap, rfl, hn⟩ := h.shape
  have hB0 := Lib.hid (Below.refl w.heap.size w)
  have H := Lib.hid (open_err w _ l 1 E h hE h0)
  clear h hE
  refine (callsIn_wide (n := 3)).1 ?_
  refine callsIn_of_wp_marks Try.func26 rfl trivial ?_ rfl
  simp only [Try.ntmps26, List.size_toArray, List.length_cons, List.length_nil, Nat.reduceAdd, Nat.reduceSub, Array.replicate_succ, Array.replicate_zero, List.push_toArray, List.append_toArray, List.nil_append, List.cons_append]
  refine (wpIn_wide (n := 3)).2 ?_
  rcases h0 with rfl | rfl
  all_goals
    go_wp2_with (go_at_call 54; refine H.out.mono ?_; rintro e w1 ⟨rfl, hb⟩; replace hb := Lib.hid (bthen hB0.out hb))
    refine ⟨_, by simp [results, Try.results26, go_sem], rfl, ?_⟩
    exact bthen hb.out (below1 _ _)
set_option maxHeartbeats 1000000 in
theorem isRow_err (w : World) (v : Value) (l : List Pt) (s E : Int) (A : Option Addr) (n c : Nat) (h : Pts w v l) (hE : openE l 2 = E) (h0 : E = 90 ∨ E = 1) :
    Calls Try.prog 58 #[v, .slice A n c, .int .i8 s] w fun e w' => e = .returned (.bool false) ∧ Below w.heap.size w w' := by
  have H := Lib.hid (open_err w v l 2 E h hE h0)
  clear h hE
  rcases h0 with rfl | rfl
  all_goals
    go_enter Try.func58, Try.ntmps58
    go_wp2_with (go_at_call 54; refine H.out.mono ?_; rintro e w1 ⟨rfl, hb⟩; replace hb := Lib.hid hb)
    go_ret
    exact ⟨rfl, hb.out⟩
set_option maxHeartbeats 1000000 in
theorem IsCup_err (w : World) (v : Value) (l : List Pt) (E : Int) (A : Option Addr) (n c : Nat) (h : Pts w v l) (hE : openE l 2 = E) (h0 : E = 90 ∨ E = 1) :
    Calls Try.prog 22 #[v, .slice A n c] w fun e w' => e = .returned (.bool false) ∧ Below w.heap.size w w' := by
  have H := Lib.hid (isRow_err w v l 1 E A n c h hE h0)
  clear h hE
  go_enter Try.func22, Try.ntmps22
  go_wp2_with (go_at_call 58; refine H.out.mono ?_; rintro e w1 ⟨rfl, hb⟩; replace hb := Lib.hid hb)
  go_ret
  exact ⟨rfl, hb.out⟩
set_option maxHeartbeats 1000000 in
theorem IsCap_err (w : World) (v : Value) (l : List Pt) (E : Int) (A : Option Addr) (n c : Nat) (h : Pts w v l) (hE : openE l 2 = E) (h0 : E = 90 ∨ E = 1) :
    Calls Try.prog 23 #[v, .slice A n c] w fun e w' => e = .returned (.bool false) ∧ Below w.heap.size w w' := by
  have H := Lib.hid (isRow_err w v l (-1) E A n c h hE h0)
  clear h hE
  go_enter Try.func23, Try.ntmps23
  go_wp2_with (go_at_call 58; refine H.out.mono ?_; rintro e w1 ⟨rfl, hb⟩; replace hb := Lib.hid hb)
  go_ret
  exact ⟨rfl, hb.out⟩
set_option maxHeartbeats 1000000 in
theorem IsPolygon_err (w : World) (v : Value) (l : List Pt) (E : Int) (A : Option Addr) (n c : Nat) (h : Pts w v l) (hE : openE l 1 = E) (h0 : E = 90 ∨ E = 1) :
    Calls Try.prog 40 #[v, .slice A n c] w fun e w' => e = .returned (.bool false) ∧ Below w.heap.size w w' := by
  have H := Lib.hid (open_err w v l 1 E h hE h0)
  clear h hE
  rcases h0 with rfl | rfl
  all_goals
    go_enter Try.func40, Try.ntmps40
    go_wp2_with (go_at_call 54; refine H.out.mono ?_; rintro e w1 ⟨rfl, hb⟩; replace hb := Lib.hid hb)
    go_ret
    exact ⟨rfl, hb.out⟩
set_option maxHeartbeats 1000000 in
theorem IsEmpty_err (w : World) (v : Value) (l : List Pt) (E : Int) (A : Option Addr) (n c : Nat) (h : Pts w v l) (hE : openE l 1 = E) (h0 : E = 90 ∨ E = 1) :
    Calls Try.prog 42 #[v, .slice A n c] w fun e w' => e = .returned (.bool false) ∧ Below w.heap.size w w' := by
  have H := Lib.hid (open_err w v l 1 E h hE h0)
  clear h hE
  rcases h0 with rfl | rfl
  all_goals
    go_enter Try.func42, Try.ntmps42
    go_wp2_with (go_at_call 54; refine H.out.mono ?_; rintro e w1 ⟨rfl, hb⟩; replace hb := Lib.hid hb)
    go_ret
    exact ⟨rfl, hb.out⟩
end Go.Proofs.Ythnabheibacbcaa
