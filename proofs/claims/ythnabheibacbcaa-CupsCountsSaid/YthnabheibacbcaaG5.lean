/- Plain: the numbers of k-edges are the same for the pairs of the order and for those of the numbers. No condition. -/
import Derived.Test.YthnabheibacbcaaG4
import Derived.Test.YthnabheibacbcaaP1
namespace Go.Proofs.Ythnabheibacbcaa

theorem mem_linksTo {os : List Nat} (hnd : os.Nodup) : ∀ k, k ≤ os.length → ∀ p ∈ linksTo os k, p.1 ∈ os ∧ p.2 ∈ os ∧ p.1 ≠ p.2
  | 0, _, p, hp => by simp [linksTo] at hp
  | k + 1, h, p, hp => by
    simp only [linksTo, List.mem_append, List.mem_map] at hp
    rcases hp with hp | ⟨i, hi, rfl⟩
    · exact mem_linksTo hnd k (by omega) p hp
    · have hk : natAt os k = os[k] := natAt_eq (by omega)
      refine ⟨List.mem_of_mem_take hi, by rw [hk]; exact List.getElem_mem _, fun e => ?_⟩
      dsimp only at e
      rw [hk] at e
      obtain ⟨j, hj, hje⟩ := List.mem_take_iff_getElem.1 hi
      have h1 : j = k := (List.getElem_inj (h₀ := by omega) (h₁ := by omega) hnd).1 (hje.trans e)
      omega
theorem mem_linksL {os : List Nat} (hnd : os.Nodup) : ∀ p ∈ linksL os, p.1 ∈ os ∧ p.2 ∈ os ∧ p.1 ≠ p.2 := mem_linksTo hnd _ (Nat.le_refl _)
/-- the same without regard to the direction -/
def edgeS (l : List Pt) (p : Nat × Nat) : Nat := min (leftAll l p.1 p.2) (leftAll l p.2 p.1)
theorem edgeK_eq {l : List Pt} (hg : Gen l) {p : Nat × Nat} (h1 : p.1 < l.length) (h2 : p.2 < l.length) (hne : p.1 ≠ p.2) : edgeK l p = edgeS l p := by
  have hchi := chi_of hg
  have h := leftN_both (l := l) hne (fun k hk e1 e2 => hchi.gen h1 h2 hk hne (fun e => e2 e.symm) (fun e => e1 e.symm)) (fun k => hchi.anti _ _ _) l.length (Nat.le_refl _)
  rw [if_pos h1, if_pos h2] at h
  unfold edgeK edgeS leftAll
  omega
theorem edge_congr {l : List Pt} (hg : Gen l) (e : Nat) {ps : List (Nat × Nat)} (h : ∀ p ∈ ps, p.1 < l.length ∧ p.2 < l.length ∧ p.1 ≠ p.2) : ps.countP (fun p => decide (edgeK l p = e)) = ps.countP fun p => decide (edgeS l p = e) := by
  refine List.countP_congr fun p hp => ?_
  obtain ⟨h1, h2, h3⟩ := h p hp
  rw [edgeK_eq hg h1 h2 h3]
theorem edge_perm (l : List Pt) {os os' : List Nat} (h : os.Perm os') (e : Nat) : (linksL os).countP (fun p => decide (edgeS l p = e)) = (linksL os').countP fun p => decide (edgeS l p = e) := by
  rw [countP_sum, countP_sum]
  refine sumP_perm (fun x y => ?_) h
  have : edgeS l (x, y) = edgeS l (y, x) := Nat.min_comm _ _
  rw [this]
theorem mem_rpB (a : Nat) : ∀ b, ∀ p ∈ rpB a b, p.1 = a ∧ p.1 < p.2 ∧ p.2 < b
  | 0, p, hp => by simp [rpB] at hp
  | b + 1, p, hp => by
    simp only [rpB, List.mem_append] at hp
    rcases hp with hp | hp
    · obtain ⟨h1, h2, h3⟩ := mem_rpB a b p hp; exact ⟨h1, h2, by omega⟩
    · split at hp
      · simp at hp; subst hp; exact ⟨rfl, by assumption, by simp⟩
      · simp at hp
theorem mem_rpA (n : Nat) : ∀ a, ∀ p ∈ rpA n a, p.1 < p.2 ∧ p.2 < n
  | 0, p, hp => by simp [rpA] at hp
  | a + 1, p, hp => by
    simp only [rpA, List.mem_append] at hp
    rcases hp with hp | hp
    · exact mem_rpA n a p hp
    · exact (mem_rpB a n p hp).2
/-- the program's numbers of k-edges are the reference's -/
theorem edges_eq {l : List Pt} (hg : Gen l) {os : List Nat} (ho : os.Perm (List.range l.length)) (e : Nat) : edgeC l (linksL os) e = edgeC l (rpA l.length l.length) e := by
  unfold edgeC
  have hnd : os.Nodup := ho.nodup_iff.2 List.nodup_range
  have hlt : ∀ x ∈ os, x < l.length := fun x hx => by simpa using ho.mem_iff.1 hx
  rw [edge_congr hg e fun p hp => let ⟨h1, h2, h3⟩ := mem_linksL hnd p hp; ⟨hlt _ h1, hlt _ h2, h3⟩, edge_perm l ho e,
    edge_congr hg e (ps := rpA l.length l.length) fun p hp => let ⟨h1, h2⟩ := mem_rpA _ _ p hp; ⟨by omega, h2, by omega⟩]
  rw [countP_sum, countP_sum, sumP_range]
end Go.Proofs.Ythnabheibacbcaa
