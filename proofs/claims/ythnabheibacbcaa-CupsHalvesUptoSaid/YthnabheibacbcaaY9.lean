/- Halve over all cases. No condition. -/
import Derived.Test.YthnabheibacbcaaY8
import Derived.Test.YthnabheibacbcaaF2
namespace Go.Proofs.Ythnabheibacbcaa
open Go.RowKit Go.Shelf

theorem hasPt_mem (l : List Pt) (p : Pt) : hasPt l p = true ↔ p ∈ l := by
  unfold hasPt eqPt
  rw [List.any_eq_true]
  constructor
  · rintro ⟨q, hq, h⟩; rw [of_decide_eq_true h]; exact hq
  · exact fun h => ⟨p, h, decide_eq_true rfl⟩
theorem distB_iff (L : List Pt) : distB L = true ↔ L.Nodup := by
  constructor
  · intro h
    refine List.pairwise_iff_getElem.2 fun i j hi hj hij he => ?_
    unfold distB at h
    have := List.all_eq_true.1 h j (List.mem_range.2 hj)
    have h2 : hasPt (L.take j) (ptA L j) = true := by
      rw [hasPt_mem, ptA_eq hj, ← he]
      exact List.mem_take_iff_getElem.2 ⟨i, by omega, rfl⟩
    rw [h2] at this
    cases this
  · intro h
    refine distB_good fun i hi => ?_
    rcases e : hasPt (L.take i) (ptA L i) with _ | _
    · rfl
    · exfalso
      rw [hasPt_mem, ptA_eq hi] at e
      obtain ⟨k, hk, he⟩ := List.mem_take_iff_getElem.1 e
      exact List.pairwise_iff_getElem.1 h k i (by omega) hi (by omega) he
theorem nodup_of {l : List Pt} (hc : checkB l = true) : l.Nodup := by
  refine List.pairwise_iff_getElem.2 fun i j hi hj hij he => ?_
  have := dist_of hc i j hi hj (by omega)
  rw [ptA_eq hi, ptA_eq hj] at this
  exact this he
theorem nodup_app {l m : List Pt} (c1 : checkB l = true) (c2 : checkB m = true) : (l ++ m).Nodup ↔ l.any (hasPt m) = false := by
  rw [List.nodup_append]
  constructor
  · rintro ⟨_, _, h⟩
    rcases e : l.any (hasPt m) with _ | _
    · rfl
    · obtain ⟨x, hx, h2⟩ := List.any_eq_true.1 e
      exact absurd rfl (h x hx x ((hasPt_mem _ _).1 h2))
  · intro h
    refine ⟨nodup_of c1, nodup_of c2, fun x hx y hy e => ?_⟩
    subst e
    have := List.any_eq_false.1 h x hx
    exact this ((hasPt_mem _ _).2 hy)
theorem halvB_arg {l m : List Pt} (c1 : checkB l = true) (c2 : checkB m = true) (hl : lineOf (l ++ m) = none) : halvB l m = !argB l m := by
  have hg : genB (l ++ m) = true := by unfold genB; rw [hl]; rfl
  have hd : distB (l ++ m) = !l.any (hasPt m) := by
    rcases e : l.any (hasPt m) with _ | _
    · exact (distB_iff _).2 ((nodup_app c1 c2).2 e)
    · rcases e2 : distB (l ++ m) with _ | _
      · rfl
      · rw [(nodup_app c1 c2).1 ((distB_iff _).1 e2)] at e; cases e
  unfold halvB argB
  rw [hg, hd, Bool.and_true, Bool.not_or, Bool.not_or]
  have p : ∀ n : Nat, (n % 2 == 1) = !(n % 2 == 0) := fun n => by
    rcases Nat.mod_two_eq_zero_or_one n with e | e <;> rw [e] <;> rfl
  rw [p, p, Bool.and_comm (!l.any (hasPt m)), Bool.and_assoc]
theorem gens_of {l m : List Pt} (c1 : checkB l = true) (c2 : checkB m = true) (hl : lineOf (l ++ m) = none) (ha : argB l m = false) : Gens (l ++ m) := by
  have hcm : l.any (hasPt m) = false := by
    unfold argB at ha; rw [Bool.or_eq_false_iff, Bool.or_eq_false_iff] at ha; exact ha.2.2
  refine ⟨(nodup_app c1 c2).2 hcm, fun a b c h1 h2 h3 e1 e2 e3 h0 => ?_⟩
  obtain ⟨i, hi, rfl⟩ := List.getElem_of_mem h1
  obtain ⟨j, hj, rfl⟩ := List.getElem_of_mem h2
  obtain ⟨k, hk, rfl⟩ := List.getElem_of_mem h3
  have := tur_ne_sorted hl hi hj hk (fun e => e1 (by subst e; rfl)) (fun e => e2 (by subst e; rfl)) (fun e => e3 (by subst e; rfl))
  unfold tur at this
  rw [ptA_eq hi, ptA_eq hj, ptA_eq hk] at this
  unfold trn at this
  rw [h0] at this
  exact this rfl
theorem pair_of {l m : List Pt} (c1 : checkB l = true) (c2 : checkB m = true) (hl : lineOf (l ++ m) = none) (ha : argB l m = false) : ∃ x ∈ l, ∃ y ∈ m, trnS l x y = 0 ∧ trnS m x y = 0 := by
  have hg := gens_of c1 c2 hl ha
  unfold argB at ha
  rw [Bool.or_eq_false_iff, Bool.or_eq_false_iff] at ha
  refine ham hg ?_ ?_
  · have := ha.1; simp at this; exact this
  · have := ha.2.1; simp at this; exact this
/-- what Halve returns -/
def HalvesTo (l m : List Pt) (x : Value) (E : Int) : Prop :=
  (E = 90 ∧ (checkB l && checkB m) = false ∧ x = z49) ∨
  (E = 1 ∧ checkB l = true ∧ checkB m = true ∧ halvB l m = false ∧ x = z49) ∨
  (E = 0 ∧ checkB l = true ∧ checkB m = true ∧ genB l = true ∧ genB m = true ∧ halvB l m = true ∧ ∃ a ∈ l, ∃ b ∈ m, trnS l a b = 0 ∧ trnS m a b = 0 ∧ x = .agg #[.int .i64 a.1, .int .i64 a.2, .int .i64 b.1, .int .i64 b.2])
theorem genB_none {l : List Pt} : genB l = true ↔ lineOf l = none := by
  unfold genB; rw [Option.isNone_iff_eq_none]
theorem Halve_all (w : World) (v v2 : Value) (l m : List Pt) (h : Pts w v l) (h2 : Pts w v2 m) :
    Calls Try.prog 34 #[v, v2] w fun e w' => ∃ a b c d E, e = .returned (.tuple #[.agg #[.int .i64 a, .int .i64 b, .int .i64 c, .int .i64 d], .int .i64 E]) ∧ HalvesTo l m (.agg #[.int .i64 a, .int .i64 b, .int .i64 c, .int .i64 d]) E ∧ Below w.heap.size w w' := by
  by_cases hck : (checkB l && checkB m) = true
  case neg =>
    have hck : (checkB l && checkB m) = false := by simpa using hck
    refine (Halve_bad w v v2 l m h h2 hck).mono ?_
    rintro e w' ⟨rfl, hb⟩
    exact ⟨0, 0, 0, 0, 90, rfl, .inl ⟨rfl, hck, rfl⟩, hb⟩
  obtain ⟨c1, c2⟩ := Bool.and_eq_true_iff.1 hck
  rcases hl : lineOf (l ++ m) with _ | t
  · rcases ha : argB l m with _ | _
    · refine (Halve_ok w v v2 l m h h2 c1 c2 hl ha (pair_of c1 c2 hl ha)).mono ?_
      rintro e w' ⟨⟨a, h1, b, h2, e1, e2, rfl⟩, hb⟩
      refine ⟨a.1, a.2, b.1, b.2, 0, rfl, .inr (.inr ⟨rfl, c1, c2, ?_, ?_, by rw [halvB_arg c1 c2 hl, ha]; rfl, a, h1, b, h2, e1, e2, rfl⟩), hb⟩
      · rw [genB_none, lineOf_none]
        intro i j k hij hjk hk
        have := lineOf_none.1 hl i j k hij hjk (by rw [List.length_append]; omega)
        unfold tur at *
        rwa [ptA_append (by omega), ptA_append (by omega), ptA_append (by omega)] at this
      · rw [genB_none, lineOf_none]
        intro i j k hij hjk hk
        have := lineOf_none.1 hl (l.length + i) (l.length + j) (l.length + k) (by omega) (by omega) (by rw [List.length_append]; omega)
        have hp : ∀ t, t < m.length → ptA (l ++ m) (l.length + t) = ptA m t := fun t ht => by
          unfold ptA; rw [List.getD_eq_getElem?_getD, List.getD_eq_getElem?_getD, List.getElem?_append_right (by omega)]; congr 2; omega
        unfold tur at *
        rwa [hp i (by omega), hp j (by omega), hp k hk] at this
    · refine (Halve_arg w v v2 l m h h2 c1 c2 hl ha).mono ?_
      rintro e w' ⟨rfl, hb⟩
      exact ⟨0, 0, 0, 0, 1, rfl, .inr (.inl ⟨rfl, c1, c2, by rw [halvB_arg c1 c2 hl, ha]; rfl, rfl⟩), hb⟩
  · refine (Halve_line w v v2 l m h h2 c1 c2 (by rw [hl]; simp)).mono ?_
    rintro e w' ⟨rfl, hb⟩
    refine ⟨0, 0, 0, 0, 1, rfl, .inr (.inl ⟨rfl, c1, c2, ?_, rfl⟩), hb⟩
    unfold halvB genB
    rw [hl]
    simp
end Go.Proofs.Ythnabheibacbcaa
