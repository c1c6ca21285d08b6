/- Two rows that the call owns, apart from one another: a row of integers, and a row of rows. -/
import Derived.Test.YtadonoacmpkolaaBase
namespace Go.Proofs.Ytadonoacmpkolaa
open Go.RowKit

def Two (lo : Nat) (w : World) (a b : Value) (F : List Int) (B : List (List Int)) : Prop :=
  OwnI lo 2 w a F ∧ OwnL lo 27 (fun c x => Slc (fun k => b.ownBlock ≠ some k ∧ a.ownBlock ≠ some k) isI w c x) w b B ∧ ∀ k, a.ownBlock = some k → b.ownBlock ≠ some k

theorem Two.below {lo : Nat} {w w' : World} {a b : Value} {F : List Int} {B : List (List Int)} (h : Two lo w a b F B) {C : Nat} (hC : w.heap.size ≤ C) (hb : Below C w w') : Two lo w' a b F B :=
  ⟨OwnL.below h.1 hC hb, OwnL.below (OwnL.imp h.2.1 fun c x _ hc => Slc.keep hc (fun k hk hlt => ⟨hk, hb.block k (by omega)⟩) fun _ _ _ h => h) hC hb, h.2.2⟩
theorem two_nil (lo : Nat) (w : World) : Two lo w (.slice none 0 0) (.slice none 0 0) [] [] := ⟨own_nil _ _ _, own_nil _ _ _, fun k h => by cases h⟩
theorem Two.ints {lo : Nat} {w : World} {a b : Value} {F : List Int} {B : List (List Int)} (h : Two lo w a b F B) : Ints w a F := OwnI.ints h.1
theorem Two.rows {lo : Nat} {w : World} {a b : Value} {F : List Int} {B : List (List Int)} (h : Two lo w a b F B) : Rows2 w b B :=
  Slc.keep (OwnL.slc h.2.1) (fun _ _ _ => ⟨trivial, rfl⟩) fun _ _ _ hc => Slc.keep hc (fun _ _ _ => ⟨trivial, rfl⟩) fun _ _ _ h => h

theorem below_alloc (W : World) (o : Obj) : Below W.heap.size W (W.alloc o) := (Below.refl _ _).alloc (Nat.le_refl _) _

theorem wpList_two_int {P : Program} {ops : Array Oper} {rest : List Oper} {o : Oper} {a : Act} {Q : Exit → Act → World → Prop} {w : World} (hgd : o.guard = none) (s x : Operand) (t : TypeId)
    (ho : o.op = .call { callee := .builtin .append, args := #[s, x], argTypes := #[t, t] })
    (lo : Nat) (ht : P.underlying t = some (.slice 2)) (hinfo : (P.info? 2).map (fun i => (i.zero, i.size, i.bytes)) = some (some (.int .i64 0), 1, 8))
    (va vb : Value) (F : List Int) (B : List (List Int)) (hs : a.eval s = va) {W : World} {y : Int} {g : Nat} (hw : w = W.alloc (.cells #[.int .i64 y] 2)) (hown : Two lo W va vb F B) (hx : a.eval x = .slice (some ⟨g, 0, none⟩) 1 1) (hg : g = W.heap.size)
    (hb : F.length + 1 ≤ 1000000) (hlo : lo ≤ W.heap.size)
    (h : ∀ v' w', Two lo w' v' vb (F ++ [y]) B → Below lo W w' → wpList P ops Q rest (a.put o.dst v') w') : wpList P ops Q (o :: rest) a w := by
  subst hg
  have hB := below_alloc W (.cells #[.int .i64 y] 2)
  rw [← hw] at hB
  obtain ⟨ha, hbb, hab⟩ := hown.below (Nat.le_refl _) hB
  refine wpList_append_slc w hgd s x t ho lo 2 ht hinfo rfl (by omega) isI_one va F hs ha _ hx [y] (slc_one (w := w) (c := .int .i64 y) ?_ rfl) (by simpa using hb) (Nat.le_trans hlo hB.size) ?_
  · rw [hw]; exact cell_one_new W _ 2 0 _ rfl
  · intro v' w' h1 h2 h3 h4
    refine h v' w' ⟨h1, ?_, ?_⟩ ((hB.mono hlo).trans h2)
    · have hk := OwnL.kept hbb h3 (by
        cases e : vb.ownBlock with
        | none => exact .inl rfl
        | some k => exact .inr fun e2 => hab k e2.symm e)
      refine OwnL.imp hk fun c x _ hc => Slc.keep hc (fun k hk hlt => ⟨⟨hk.1, ?_⟩, h3.block k hlt fun e => hk.2 e.symm⟩) fun _ _ _ h => h
      rcases h4 with h4 | h4 <;> rw [h4]
      · exact hk.2
      · intro e; injection e; omega
    · intro k e e2
      rcases h4 with h4 | h4
      · exact hab k (h4.symm.trans e) e2
      · have e3 : w.heap.size = k := by rw [h4] at e; injection e
        have := (OwnL.lt hbb k e2).2
        omega

theorem wpList_two_row {P : Program} {ops : Array Oper} {rest : List Oper} {o : Oper} {a : Act} {Q : Exit → Act → World → Prop} {w : World} (hgd : o.guard = none) (s x : Operand) (t : TypeId)
    (ho : o.op = .call { callee := .builtin .append, args := #[s, x], argTypes := #[t, t] })
    (lo : Nat) (ht : P.underlying t = some (.slice 27)) (hinfo : (P.info? 27).map (fun i => (i.zero, i.size, i.bytes)) = some (some (.slice none 0 0), 1, 24))
    (va vb : Value) (F : List Int) (B : List (List Int)) (hs : a.eval s = vb) {W : World} {c : Value} {g : Nat} (hw : w = W.alloc (.cells #[c] 27)) (hown : Two lo W va vb F B) (hx : a.eval x = .slice (some ⟨g, 0, none⟩) 1 1) (hg : g = W.heap.size)
    {y : List Int} (h2 : Slc (fun k => vb.ownBlock ≠ some k ∧ va.ownBlock ≠ some k) isI W c y)
    (hb : B.length + 1 ≤ 1000000) (hlo : lo ≤ W.heap.size)
    (h : ∀ v' w', Two lo w' va v' F (B ++ [y]) → Below lo W w' → wpList P ops Q rest (a.put o.dst v') w') : wpList P ops Q (o :: rest) a w := by
  subst hg
  have hB := below_alloc W (.cells #[c] 27)
  rw [← hw] at hB
  obtain ⟨ha, hbb, hab⟩ := hown.below (Nat.le_refl _) hB
  refine wpList_append_slc w hgd s x t ho lo 27 ht hinfo rfl (by omega) (fun c x h => slc_one' c x h) vb B hs hbb _ hx [y] (slc_one (w := w) (c := c) ?_ (Slc.keep h2 (fun k hk hlt => ⟨hk, hB.block k hlt⟩) fun _ _ _ h => h)) (by simpa using hb) (Nat.le_trans hlo hB.size) ?_
  · rw [hw]; exact cell_one_new W _ 27 0 _ rfl
  · intro v' w' h1 h2 h3 h4
    refine h v' w' ⟨?_, ?_, ?_⟩ ((hB.mono hlo).trans h2)
    · exact OwnL.kept ha h3 (by
        cases e : va.ownBlock with
        | none => exact .inl rfl
        | some k => exact .inr fun e2 => hab k e e2.symm)
    · refine OwnL.imp h1 fun c x _ hc => Slc.keep hc (fun k hk hlt => ⟨⟨?_, hk.2⟩, h3.block k hlt fun e => hk.1 e.symm⟩) fun _ _ _ h => h
      rcases h4 with h4 | h4 <;> rw [h4]
      · exact hk.1
      · intro e; injection e; omega
    · intro k e e2
      rcases h4 with h4 | h4
      · exact hab k e (h4.symm.trans e2)
      · have e3 : w.heap.size = k := by rw [h4] at e2; injection e2
        have := (OwnL.lt ha k e).2
        omega
end Go.Proofs.Ytadonoacmpkolaa
