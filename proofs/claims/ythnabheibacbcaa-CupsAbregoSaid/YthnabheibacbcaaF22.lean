/- Rows that lie apart from a block in which is written. No condition. -/
import Derived.Test.YthnabheibacbcaaF21
import Derived.Test.YthnabheibacbcaaG10
namespace Go.Proofs.Ythnabheibacbcaa
open Go.RowKit

/-- rows that the call owns, none of them in block gl -/
def RowsAp (lo gl : Nat) (w : World) (v : Value) (xs : List (List Int)) : Prop :=
  OwnL lo 33 (fun c x => Slc (fun b => v.ownBlock ≠ some b ∧ b ≠ gl) isI w c x) w v xs ∧ v.ownBlock ≠ some gl
section
variable {lo gl : Nat} {w w' : World} {v : Value} {xs : List (List Int)}
theorem RowsAp.rows (h : RowsAp lo gl w v xs) : OwnRows lo 33 w v xs := OwnL.imp h.1 fun c x _ hc => Slc.keep hc (fun b hb _ => ⟨hb.1, rfl⟩) fun _ _ _ h => h
theorem RowsAp.nil (lo gl : Nat) (w : World) : RowsAp lo gl w (.slice none 0 0) [] := ⟨own_nil _ _ _, by simp [Value.ownBlock]⟩
theorem RowsAp.below (h : RowsAp lo gl w v xs) {B : Nat} (hB : w.heap.size ≤ B) (hb : Below B w w') : RowsAp lo gl w' v xs :=
  ⟨OwnL.below (OwnL.imp h.1 fun c x _ hc => Slc.keep hc (fun b hb' hlt => ⟨hb', hb.block b (by omega)⟩) fun _ _ _ h => h) hB hb, h.2⟩
theorem RowsAp.kept (h : RowsAp lo gl w v xs) (hg : w.grownBy w' (some gl)) : RowsAp lo gl w' v xs :=
  ⟨OwnL.kept (OwnL.imp h.1 fun c x _ hc => Slc.keep hc (fun b hb hlt => ⟨hb, hg.block b hlt (fun e => hb.2 (by injection e))⟩) fun _ _ _ h => h) hg (.inr h.2), h.2⟩
theorem RowsAp.shape (h : RowsAp lo gl w v xs) : ∃ A n cap, v = .slice A n cap ∧ Hid (n = xs.length) := OwnL.shape h.1

theorem wpList_append_rowAp {P : Program} {ops : Array Oper} {rest : List Oper} {o : Oper} {a : Act} {Q : Exit → Act → World → Prop} (hgd : o.guard = none) (s x : Operand) (t : TypeId)
    (ho : o.op = .call { callee := .builtin .append, args := #[s, x], argTypes := #[t, t] })
    (ht : P.underlying t = some (.slice 33)) (hinfo : (P.info? 33).map (fun i => (i.zero, i.size, i.bytes)) = some (some (.slice none 0 0), 1, 24))
    (hs : a.eval s = v) {W : World} {c : Value} {g : Nat} (hw : w = W.alloc (.cells #[c] 33)) (hown : RowsAp lo gl W v xs) (hx : a.eval x = .slice (some ⟨g, 0, none⟩) 1 1) (hg : g = W.heap.size) {ok : Nat → Prop} {y : List Int}
    (h2 : Slc ok isI W c y) (hok : ∀ b, ok b → v.ownBlock ≠ some b ∧ b ≠ gl) (hgl : gl < W.heap.size) (hb : xs.length + 1 ≤ 1000000) (hlo : lo ≤ W.heap.size)
    (h : ∀ v' w', RowsAp lo gl w' v' (xs ++ [y]) → Below lo W w' → W.grownBy w' v.ownBlock → wpList P ops Q rest (a.put o.dst v') w') : wpList P ops Q (o :: rest) a w := by
  subst hg
  have hB : Below W.heap.size W (W.alloc (.cells #[c] 33)) := (Below.refl _ _).alloc (Nat.le_refl _) _
  have hh : W.grownBy w v.ownBlock := by rw [hw]; exact World.grownBy_alloc W _ _
  rw [← hw] at hB
  refine wpList_append_slc w hgd s x t ho lo 33 ht hinfo rfl (by omega) slc_one' v xs hs (RowsAp.below hown (Nat.le_refl _) hB).1 _ hx [y] (slc_one (w := w) (c := c) ?_ ?_) (by simpa using hb) (Nat.le_trans hlo hB.size) ?_
  · rw [hw]; exact cell_one_new W c 33 0 c rfl
  · exact Slc.keep h2 (fun b hb hlt => ⟨hok b hb, hB.block b hlt⟩) fun _ _ _ h => h
  · intro v' w' h1 h2 h3 h4
    refine h v' w' ⟨OwnL.imp h1 fun c x _ hc => Slc.keep hc (fun b hb hlt => ⟨⟨?_, hb.2⟩, ?_⟩) fun _ _ _ h => h, ?_⟩ ((hB.mono hlo).trans h2) ⟨h3.os.trans hh.os, h3.tape.trans hh.tape, h3.output.trans hh.output, Nat.le_trans hh.size h3.size, fun k hk hn => (h3.block k (Nat.lt_of_lt_of_le hk hh.size) hn).trans (hh.block k hk hn)⟩
    · rcases h4 with h | h <;> rw [h]
      · exact hb.1
      · intro e; injection e; omega
    · exact h3.block b hlt fun e => hb.1 e.symm
    · rcases h4 with h | h <;> rw [h]
      · exact hown.2
      · intro e; injection e with e; rw [hw] at e; simp at e; omega
end

theorem memB_nats (H : List Nat) (x : Nat) : memB (nats H) (x : Int) = decide (x ∈ H) := by
  unfold memB nats
  rw [Bool.eq_iff_iff, List.any_eq_true, decide_eq_true_eq]
  constructor
  · rintro ⟨y, hy, he⟩
    obtain ⟨z, hz, rfl⟩ := List.mem_map.1 hy
    have he' : (z : Int) = (x : Int) := by simpa using he
    have : z = x := by omega
    exact this ▸ hz
  · intro h
    exact ⟨_, List.mem_map.2 ⟨x, h, rfl⟩, by simp⟩
theorem dropB_nats (H so : List Nat) : dropB (nats H) (nats so) = nats (restL H so) := by
  unfold dropB restL
  show (so.map fun k : Nat => (k : Int)).filter _ = (so.filter _).map fun k : Nat => (k : Int)
  rw [List.filter_map]
  congr 1
  refine List.filter_congr fun x _ => ?_
  simp only [Function.comp]
  rw [memB_nats H x]
  by_cases h : x ∈ H <;> simp [h]
end Go.Proofs.Ythnabheibacbcaa
