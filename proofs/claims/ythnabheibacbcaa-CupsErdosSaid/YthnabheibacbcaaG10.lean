/- Plain: the layers of points in the order. No condition. -/
import Derived.Test.YthnabheibacbcaaF18
namespace Go.Proofs.Ythnabheibacbcaa

/-- what is left without some corners -/
def restL (H os : List Nat) : List Nat := os.filter fun i => decide (i ∉ H)
/-- the layers, at most k -/
def laysL (t : Nat → Nat → Nat → Int) : Nat → List Nat → List (List Nat)
  | 0, _ => []
  | k + 1, os => if os = [] then [] else hullL t os :: laysL t k (restL (hullL t os) os)
theorem restL_sub (H os : List Nat) : (restL H os).Sublist os := List.filter_sublist
theorem mem_restL (H os : List Nat) (x : Nat) : x ∈ restL H os ↔ x ∈ os ∧ x ∉ H := by unfold restL; rw [List.mem_filter, decide_eq_true_eq]
theorem restL_len {t : Nat → Nat → Nat → Int} {lt : Nat → Nat → Prop} {H os : List Nat} (h : IsH t lt os H) : (restL H os).length < os.length := by
  unfold restL
  refine List.length_filter_lt_length_iff_exists.2 ⟨natAt H 0, h.mem, ?_⟩
  have h1 : natAt H 0 ∈ H := by rw [natAt_eq h.pos]; exact List.getElem_mem _
  simpa using h1
/-- the hull of what is left of the order -/
theorem rest_isH {l : List Pt} {os so : List Nat} (hg : Gen l) (ho : Ordd l os) (hs : so.Sublist os) (hne : so ≠ []) : IsH (tur l) (befI l) so (hullL (tur l) so) :=
  hull_isH (chi_of hg) (List.length_pos_iff.2 hne) (fun k hk => ord_lt ho k (hs.subset hk)) (ho.2.sublist hs)
theorem laysL_stop (t : Nat → Nat → Nat → Int) (k : Nat) : laysL t k [] = [] := by cases k <;> simp [laysL]
theorem laysL_step (t : Nat → Nat → Nat → Int) {k : Nat} {os : List Nat} (h : os ≠ []) (hk : os.length ≤ k) : laysL t k os = hullL t os :: laysL t (k - 1) (restL (hullL t os) os) := by
  match k with
  | 0 => exact absurd (List.eq_nil_of_length_eq_zero (by omega)) h
  | k + 1 => simp only [laysL]; rw [if_neg h]; rfl
end Go.Proofs.Ythnabheibacbcaa
