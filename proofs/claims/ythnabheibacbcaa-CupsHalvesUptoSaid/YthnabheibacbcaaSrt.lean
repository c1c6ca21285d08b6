/- slices.SortFunc over numbers that the call owns. No condition. -/
import Derived.Test.YthnabheibacbcaaSort
import Derived.Test.YthnabheibacbcaaBase
namespace Go.Proofs.Ythnabheibacbcaa
open Go.RowKit Go.Shelf Go.Sort

def nats (l : List Nat) : List Int := l.map fun k : Nat => (k : Int)
theorem nats_length (l : List Nat) : (nats l).length = l.length := by simp [nats]
theorem nats_append (l m : List Nat) : nats (l ++ m) = nats l ++ nats m := by simp [nats]
theorem nats_at0 (l : List Nat) (i : Nat) : at0 (nats l) i = ((l.getD i 0 : Nat) : Int) := by
  unfold at0 nats
  by_cases h : i < l.length
  · simp [List.getD, h]
  · simp [List.getD, Nat.le_of_not_lt h]
/-- number i of a list of numbers -/
def natAt (l : List Nat) (i : Nat) : Nat := l.getD i 0
theorem natAt_eq {l : List Nat} {i : Nat} (h : i < l.length) : natAt l i = l[i] := by unfold natAt; simp [List.getD, h]
theorem at0_nats (l : List Nat) (i : Nat) : at0 (nats l) i = (natAt l i : Int) := nats_at0 l i

theorem sortN {lo : Nat} (w : World) (v : Value) (ks : List Nat) (n : Nat) (hn : ∀ k ∈ ks, k < n) (hne : 0 < ks.length) (hlen : ks.length ≤ 1000000) (h : OwnI lo 3 w v (nats ks)) (g : Nat) (cb : Array Value)
    (eg : ∀ args w, (callFunc g args).run Try.prog w = .ok (.enter g args) w) (cf : Nat → Nat → Int)
    (hirr : ∀ x, x < n → ¬ cf x x < 0) (htr : ∀ x y z, x < n → y < n → z < n → cf x y < 0 → cf y z < 0 → cf x z < 0) (hnt : ∀ x y z, x < n → y < n → z < n → ¬ cf x y < 0 → ¬ cf y z < 0 → ¬ cf x z < 0)
    (hcmp : ∀ W, (∀ b, b < w.heap.size → v.ownBlock ≠ some b → W.heap[b]? = w.heap[b]?) → ∀ x y, x < n → y < n → Calls Try.prog g (#[.int .i64 x, .int .i64 y] ++ cb) W fun e w' => e = .returned (.int .i64 (cf x y)) ∧ ∃ q, w' = W.drewN q) :
    Calls Try.prog 79 #[v, .func (.func g) #[] cb] w fun e w' => e = .returned (.tuple #[]) ∧ ∃ ks' : List Nat, ks'.Perm ks ∧ ks'.Pairwise (fun a b => ¬ cf b a < 0) ∧ OwnI lo 3 w' v (nats ks') ∧ w.grownBy w' v.ownBlock := by
  obtain ⟨k0, ks0, hks⟩ := List.exists_cons_of_length_pos hne
  have hn0 : 0 < n := by have := hn k0 (by rw [hks]; simp); omega
  letI : Inhabited (Fin n) := ⟨⟨0, hn0⟩⟩
  obtain ⟨blk, cap, hv, hlo, hblk, hlc, hcm, hcells, hfree⟩ := OwnI.open h (by rw [nats_length]; exact hne)
  have hown := OwnI.cells h
  rw [nats_length] at hv hlc hcells hown
  let d : Array (Fin n) := (ks.pmap (fun k hk => (⟨k, hk⟩ : Fin n)) hn).toArray
  have hds : d.size = ks.length := by simp [d]
  have hdv : ∀ j, j < ks.length → ((d[j]! : Fin n) : Nat) = natAt ks j := by
    intro j hj
    rw [getElem!_pos d j (by rw [hds]; exact hj), natAt_eq hj]
    simp [d]
  have hH : Holds (fun k : Fin n => Value.int .i64 ((k : Nat) : Int)) w blk 0 d := by
    intro j hj
    rw [hds] at hj
    refine ⟨?_, hfree _⟩
    have := hcells j (by simpa using hj)
    rw [Nat.zero_add, this, at0_nats]
    show _ = some (Value.int .i64 ((d[j]! : Nat) : Int))
    rw [hdv j hj]
  have hcmp' : CmpLays1 Try.prog g cb (fun k : Fin n => Value.int .i64 ((k : Nat) : Int)) (fun x y => cf x.1 y.1) blk 0 d.size w := by
    refine CmpReads.lays fun m os dk hdk x y => ?_
    refine (hcmp _ (fun b hb hne => ?_) x.1 y.1 x.2 y.2)
    have hbb : b ≠ blk := by
      rintro rfl
      exact hne (by rw [hv]; rfl)
    unfold sortWorld
    rw [heap_grow_old _ _ (by simp [putRow, mapBlock, Go.Sort.ahead, hb])]
    unfold putRow mapBlock Go.Sort.ahead
    simp [Array.getElem?_modify, Ne.symm hbb]
  have hS : SWO (ltOf fun x y : Fin n => cf x.1 y.1) := by
    refine ⟨fun x => ?_, fun x y z h1 h2 => ?_, fun x y z h1 h2 => ?_⟩
    · simpa [ltOf] using hirr x.1 x.2
    · simp only [ltOf, decide_eq_true_eq] at *; exact htr _ _ _ x.2 y.2 z.2 h1 h2
    · simp only [ltOf, decide_eq_false_iff_not] at *; exact hnt _ _ _ x.2 y.2 z.2 h1 h2
  have hcon := Try.slices_SortFunc (fun k : Fin n => Value.int .i64 ((k : Nat) : Int)) (fun _ => rfl) (fun x y => cf x.1 y.1) hS g cb blk 0 cap d w eg hcmp' hH hblk (by rw [hds]; omega)
  rw [hds] at hcon
  rw [hv]
  refine hcon.mono ?_
  rintro e w' ⟨he, d', m, os, ⟨hs', _, hperm⟩, hsorted, rfl⟩
  rw [hds] at hs'
  refine ⟨he, d'.toList.map (fun k : Fin n => (k : Nat)), ?_, ?_, ?_, ?_⟩
  · have e1 : (d'.extract 0 ks.length).toList = d'.toList := by rw [← hs']; simp
    have e2 : (d.extract 0 ks.length).toList = d.toList := by rw [← hds]; simp
    rw [e1, e2] at hperm
    have e3 : d.toList.map (fun k : Fin n => (k : Nat)) = ks := by simp [d, List.map_pmap]
    have := hperm.map (fun k : Fin n => (k : Nat))
    rwa [e3] at this
  · rw [List.pairwise_iff_getElem]
    intro i j hi hj hij
    have hj' : j < d'.size := by simpa using hj
    have hi' : i < d'.size := by simpa using hi
    have := hsorted i j (Nat.zero_le _) hij (by omega)
    rw [getElem!_pos d' i hi', getElem!_pos d' j hj'] at this
    simpa [ltOf] using this
  · have hhd : Holds (fun k : Fin n => Value.int .i64 ((k : Nat) : Int)) (sortWorld (fun k : Fin n => Value.int .i64 ((k : Nat) : Int)) w blk 0 m d' os) blk 0 d' := by
      unfold sortWorld
      exact holds_grow _ _ _ _ _ _ (by simp [putRow, mapBlock, Go.Sort.ahead]; exact hblk) (holds_putRow _ _ _ _ d d' (holds_ahead _ _ _ _ _ _ hH) (by rw [hs', hds]))
    rw [← hv]
    refine OwnI.mk ?_
    rcases hown.2 with ⟨hnil, _⟩ | ⟨g', cap', cur, hv', hlo', hg', hnc, hcm', hcs, hct⟩
    · rw [hnil] at hv; cases hv
    · rw [hv'] at hv
      have hgb : g' = blk := by injection hv with h1; injection h1 with h1; injection h1
      have hcc : cap' = cap := by injection hv
      subst hgb hcc
      refine ⟨by simp, .inr ⟨g', cap', putCells (fun k : Fin n => Value.int .i64 ((k : Nat) : Int)) 0 d' cur, ?_, hlo', ?_, ?_, hcm', by simp [putCells]; simpa using hcs, ?_⟩⟩
      · rw [hv', nats_length]; simp [hs']
      · unfold sortWorld
        rw [heap_grow_old _ _ (by simp [putRow, mapBlock, Go.Sort.ahead]; exact hblk)]
        unfold putRow mapBlock Go.Sort.ahead
        show (w.heap.modify g' _)[g']? = _
        rw [Array.getElem?_modify, if_pos rfl, hg']
        rfl
      · rw [nats_length]; simp [hs']; exact hnc
      · apply List.ext_getElem
        · simp [putCells, nats_length, hs']; simp at hcs; omega
        · intro j h1 h2
          have hj : j < d'.size := by simpa [nats_length] using h2
          simp only [List.getElem_take, Array.getElem_toList, putCells, Array.getElem_mapIdx, List.getElem_map, nats]
          rw [if_pos ⟨Nat.zero_le _, by omega⟩, Nat.sub_zero, getElem!_pos d' j hj]
  · refine ⟨rfl, rfl, rfl, ?_, fun i hi hne => ?_⟩
    · simp [sortWorld, grow, putRow, mapBlock, Go.Sort.ahead]
    · unfold sortWorld
      rw [heap_grow_old _ _ (by simp [putRow, mapBlock, Go.Sort.ahead]; exact hi)]
      unfold putRow mapBlock Go.Sort.ahead
      have : i ≠ blk := by rintro rfl; exact hne rfl
      simp [Array.getElem?_modify, Ne.symm this]
end Go.Proofs.Ythnabheibacbcaa
