/- Plain: the order is one; the points of awake. No program. -/
import Derived.Test.YthnabheibacbcaaD1
import Derived.Test.YthnabheibacbcaaC10
namespace Go.Proofs.Ythnabheibacbcaa

theorem perm_sorted_eq {R : Nat → Nat → Prop} (has : ∀ a b, R a b → ¬ R b a) : ∀ {l m : List Nat}, l.Perm m → l.Pairwise R → m.Pairwise R → l = m
  | [], m, hp, _, _ => by have := hp.length_eq; cases m with | nil => rfl | cons => simp at this
  | a :: l, [], hp, _, _ => by have := hp.length_eq; simp at this
  | a :: l, b :: m, hp, h1, h2 => by
    have hab : a = b := by
      have ha : a ∈ b :: m := hp.mem_iff.1 (by simp)
      have hb : b ∈ a :: l := hp.mem_iff.2 (by simp)
      rcases List.mem_cons.1 ha with e | ha
      · exact e
      rcases List.mem_cons.1 hb with e | hb
      · exact e.symm
      exact absurd ((List.pairwise_cons.1 h1).1 b hb) (has _ _ ((List.pairwise_cons.1 h2).1 a ha))
    subst hab
    rw [perm_sorted_eq has (List.Perm.cons_inv hp) (List.pairwise_cons.1 h1).2 (List.pairwise_cons.1 h2).2]
theorem Ordd.unique {l : List Pt} {os os' : List Nat} (h : Ordd l os) (h' : Ordd l os') : os = os' :=
  perm_sorted_eq (R := befI l) (fun _ _ h1 h2 => bef_irrefl _ (bef_trans h1 h2)) (h.1.trans h'.1.symm) h.2 h'.2

def wA : List Pt := [(0, 0), (1, 1), (2, 0), (3, 1)]
def wB : List Pt := [(0, 0), (4, 0), (0, 4), (1, 1)]
def wC : List Pt := [(0, 0), (1, 1), (2, 2)]
theorem wA_ord : Ordd wA [0, 1, 2, 3] := ⟨by decide, by unfold befI; decide⟩
theorem wB_ord : Ordd wB [0, 2, 3, 1] := ⟨by decide, by unfold befI; decide⟩
theorem wA_chain {ps : List Nat} (h : RC (tp wA [0, 1, 2, 3]) 1 ps) (hb : ∀ d ∈ ps, d < 4) : ps.length ≤ 3 := by
  match ps, h with
  | [d, c], _ => simp
  | [d, c, e], _ => simp
  | d :: c :: e :: f :: r, h =>
    exfalso
    obtain ⟨h1, h2, h3, h4, h5⟩ := h
    have h6 : f < e := by
      cases r with
      | nil => exact h5
      | cons => exact h5.1
    have hd := hb d (by simp)
    obtain rfl : f = 0 := by omega
    obtain rfl : e = 1 := by omega
    obtain rfl : c = 2 := by omega
    obtain rfl : d = 3 := by omega
    revert h4
    decide
theorem wA_three : RC (tp wA [0, 1, 2, 3]) 1 [3, 2, 0] := ⟨by omega, by decide, by show (0 : Nat) < 2; omega⟩
theorem wA_cross : crossN wA (linksL [0, 1, 2, 3]) (linksL [0, 1, 2, 3]) = 1 := by decide +kernel
theorem wA_edges : (edgeC wA (linksL [0, 1, 2, 3]) 0, edgeC wA (linksL [0, 1, 2, 3]) 1) = (4, 2) := by decide +kernel
theorem wA_check : checkB wA = true := by decide +kernel
theorem wA_gen : genB wA = true := by decide +kernel
theorem wB_check : checkB wB = true := by decide +kernel
theorem wB_gen : genB wB = true := by decide +kernel
theorem wC_check : checkB wC = true := by decide +kernel
theorem wC_gen : genB wC = false := by decide +kernel
end Go.Proofs.Ythnabheibacbcaa
