/- Plain: the program's number of squares is the reference's (the end). No condition. -/
import Derived.Test.YthnabheibacbcaaG8
namespace Go.Proofs.Ythnabheibacbcaa

theorem dec_onto {n : Nat} {q : Quad} (h : q ∈ qA n n) : ∃ k, k < 2 ^ n ∧ (subL (List.range n) k).length = 4 ∧ dec4 (subL (List.range n) k) = q := by
  obtain ⟨a, b, c, d⟩ := q
  rw [mem_qA] at h
  dsimp only at h
  have hp : ∀ i, i < n → 2 ^ i < 2 ^ n := fun i hi => Nat.pow_lt_pow_right (by omega) hi
  refine ⟨2 ^ a ||| 2 ^ b ||| 2 ^ c ||| 2 ^ d, ?_, ?_⟩
  · exact Nat.or_lt_two_pow (Nat.or_lt_two_pow (Nat.or_lt_two_pow (hp _ (by omega)) (hp _ (by omega))) (hp _ (by omega))) (hp _ (by omega))
  have hm : ∀ i, i ∈ subL (List.range n) (2 ^ a ||| 2 ^ b ||| 2 ^ c ||| 2 ^ d) ↔ i ∈ [a, b, c, d] := fun i => by
    rw [sub_mem]
    simp only [Nat.testBit_or, Nat.testBit_two_pow, Bool.or_eq_true, decide_eq_true_eq, List.mem_cons, List.not_mem_nil, or_false]
    omega
  have hs := sorted_sub n (2 ^ a ||| 2 ^ b ||| 2 ^ c ||| 2 ^ d)
  generalize subL (List.range n) (2 ^ a ||| 2 ^ b ||| 2 ^ c ||| 2 ^ d) = xs at *
  have hnd : xs.Nodup := hs.imp (fun h => by omega)
  have hnd2 : [a, b, c, d].Nodup := by simp; omega
  have hl : xs.length = 4 := ((List.perm_ext_iff_of_nodup hnd hnd2).2 hm).length_eq
  refine ⟨hl, ?_⟩
  have h4 := four_of hl
  unfold dec4
  generalize natAt xs 0 = x0 at *
  generalize natAt xs 1 = x1 at *
  generalize natAt xs 2 = x2 at *
  generalize natAt xs 3 = x3 at *
  subst h4
  simp only [List.pairwise_cons, List.mem_cons, List.not_mem_nil, or_false] at hs hm
  have s1 := hs.1 x1 (.inl rfl)
  have s2 := hs.2.1 x2 (.inl rfl)
  have s3 := hs.2.2.1 x3 rfl
  have m0 := (hm x0).1 (.inl rfl)
  have m3 := (hm x3).1 (.inr (.inr (.inr rfl)))
  have m1 := (hm x1).1 (.inr (.inl rfl))
  have m2 := (hm x2).1 (.inr (.inr (.inl rfl)))
  have e0 : x0 = a := by omega
  have e3 : x3 = d := by omega
  have e1 : x1 = b := by omega
  have e2 : x2 = c := by omega
  rw [e0, e1, e2, e3]
theorem squares_eq (l : List Pt) {os : List Nat} {n : Nat} (ho : os.Perm (List.range n)) : sqN l os (2 ^ n) = sA4 l os n n := by
  rw [sqN_count, qA_count]
  have h1 : (List.range (2 ^ n)).countP (sqOne l os) = ((List.range (2 ^ n)).filter fun k => decide ((subL (List.range n) k).length = 4)).countP fun k => sqQ l os (dec4 (subL (List.range n) k)) := by
    rw [List.countP_filter]
    refine List.countP_congr fun k _ => ?_
    unfold sqOne
    rw [sub_len ho]
    by_cases h : (subL (List.range n) k).length = 4
    · rw [sub_sel ho h]; simp [h, sqQ, sq4]
    · simp [h]
  rw [h1, show (fun k => sqQ l os (dec4 (subL (List.range n) k))) = (sqQ l os ∘ fun k => dec4 (subL (List.range n) k)) from rfl, ← List.countP_map]
  refine List.Perm.countP_eq _ ((List.perm_ext_iff_of_nodup ?_ (nodup_qA n n)).2 fun q => ?_)
  · refine List.pairwise_map.2 ?_
    refine (List.Pairwise.sublist List.filter_sublist List.nodup_range).imp_of_mem fun {a b} ha hb hne e => hne ?_
    rw [List.mem_filter, List.mem_range, decide_eq_true_eq] at ha hb
    exact dec_inj ha.1 hb.1 ha.2 hb.2 e
  · rw [List.mem_map]
    constructor
    · rintro ⟨k, hk, rfl⟩
      rw [List.mem_filter, decide_eq_true_eq] at hk
      exact dec_mem hk.2
    · intro h
      obtain ⟨k, h1, h2, h3⟩ := dec_onto h
      exact ⟨k, by rw [List.mem_filter, List.mem_range, decide_eq_true_eq]; exact ⟨h1, h2⟩, h3⟩
end Go.Proofs.Ythnabheibacbcaa
