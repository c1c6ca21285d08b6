/- Maps of ways in memory. No condition. -/
import Derived.Test.YtaapnflhjbdmlaaGreatDoorJA
import Derived.Test.YtaapnflhjbdmlaaGreatDoorPQ
import Derived.Test.YtaapnflhjbdmlaaGreatDoorRg
namespace Go.Proofs.YtaapnflhjbdmlaaGreatDoor
open Go.RowKit Go.Shelf
attribute [local go_sem] Oper.semAt_some

abbrev kv (q : Int) : Value := .int .i64 q
theorem key3 : KeyT Tryz.prog 3 kv := by
  refine KeyT.flat Tryz.underlying3 (fun a b => ?_) (fun w em a => ?_) (fun a => ?_)
  · simp only [Instr.sameNow]
    by_cases e : a = b <;> simp [e]
  · have key0 : ∀ d, (Instr.checkKey em (d + 1) 3 (.int .i64 a)).run Tryz.prog w = .ok () w := fun d => by
      simp [Instr.checkKey, run_underlying Tryz.underlying3]
    exact key0 9999
  · simp [Instr.sameBits]
theorem zero89 (w : World) : (zeroValue 96).run Tryz.prog w = .ok (.agg #[.int .i64 0, .slice none 0 0]) w := by kernel_rfl
theorem makeMap119 (w : World) : (Instr.makeMap 142 none).run Tryz.prog w = .ok (.map (some w.heap.size)) (w.alloc (.map #[] 0)) := by kernel_rfl

section
variable {P : Program} {κ : Type} [DecidableEq κ] {ke : κ → Value} {b : Nat} {l : List (κ × Value)}
variable (w : World) {ops : Array Oper} {rest : List Oper} {o : Oper} {a : Act} {Q : Exit → Act → World → Prop}
theorem wpList_insert_a (hg : o.guard = none) (m x y : Operand) (t : TypeId) (hop : o.op = Op.insert t m x y) (kt et : TypeId) (K : KeyT P kt ke) (ht : P.underlying t = some (.map kt et))
    (hm : a.eval m = .map (some b)) (h : AMap ke w b l) (k : κ) (hx : a.eval x = ke k) (v : Value) (hv : a.eval y = v)
    (hK : ∀ w', AMap ke w' b (aput l k v) → w.grownBy w' (some b) → w'.heap.size = w.heap.size → wpList P ops Q rest (a.put o.dst undef) w') : wpList P ops Q (o :: rest) a w := by
  refine wpList_plain hg fun K' hK' => ?_
  obtain ⟨w', hrun, r1, r2, r3⟩ := AMap.run_update K ht h k v
  unfold Oper.wp
  simp [execOp, hop, hm, hx, hv, hrun, Result.andThen]
  exact hK' _ _ (hK w' r1 r2 r3)
end

theorem AMap.apart {κ : Type} {ke : κ → Value} {w : World} {b : Nat} {L : List (κ × Value)} (h : AMap ke w b L) {p : Addr} {c : Value} (hc : w.cell? p = some c) : p.block ≠ b := by
  rintro rfl
  obtain ⟨es, cl, hb, _⟩ := h
  unfold World.cell? at hc
  rw [hb] at hc
  cases hc
/-- a read of a slice stays where a map or an iterator is turned -/
theorem Els.obj {α : Type} {E : El α} {w w' : World} {v : Value} {l : List α} (h : Els E w v l) {b : Nat} (hg : w.grownBy w' (some b)) (hb : ∀ p c, w.cell? p = some c → p.block ≠ b) : Els E w' v l := by
  obtain ⟨A, cap, rfl, h1, h2, h3, h4⟩ := h
  refine ⟨A, cap, rfl, h1, h2, h3, fun i hi => ?_⟩
  obtain ⟨b', off, rfl, hc⟩ := h4 i hi
  refine ⟨b', off, rfl, fun j u hu => ?_⟩
  have h5 := hc j u hu
  have hne := hb _ _ h5
  exact (World.cell?_of_block (w := w) (hg.block b' (lt_of_cell h5) (by intro e; cases e; exact hne rfl))).trans h5

/-- the way to a state, as a map's entry holds it -/
def PEnt (lo : Nat) (w : World) (e : Option Value) : Option (Int × List Key) → Prop
  | none => e = none
  | some (st, ks) => ∃ A n cap, e = some (.agg #[.int .i64 st, .slice A n cap]) ∧ Els ElK w (.slice A n cap) ks ∧ ∀ a, A = some a → lo ≤ a.block
/-- block b is a map of ways -/
def PMap (lo : Nat) (w : World) (b : Nat) (S : List (Int × Value)) (f : Int → Option (Int × List Key)) : Prop := AMap kv w b S ∧ ∀ q, PEnt lo w (aget S q) (f q)
theorem PEnt.imp {lo : Nat} {w w' : World} {e : Option Value} {f : Option (Int × List Key)} (h : PEnt lo w e f) (hE : ∀ v ks, Els ElK w v ks → Els ElK w' v ks) : PEnt lo w' e f := by
  cases f with
  | none => exact h
  | some x => obtain ⟨A, n, cap, h1, h2, h3⟩ := h; exact ⟨A, n, cap, h1, hE _ _ h2, h3⟩
theorem PMap.below {lo : Nat} {w w' : World} {b : Nat} {S : List (Int × Value)} {f : Int → Option (Int × List Key)} (h : PMap lo w b S f) (hB : Below w.heap.size w w') : PMap lo w' b S f :=
  ⟨h.1.below hB h.1.lt, fun q => (h.2 q).imp fun _ _ hE => hE.then hB⟩
theorem PMap.made (lo : Nat) (w : World) : PMap lo (w.alloc (.map #[] 0)) w.heap.size [] (fun _ => none) := ⟨AMap.made kv w, fun _ => rfl⟩
/-- another object is turned that is no cells -/
theorem PMap.obj {lo : Nat} {w w' : World} {b : Nat} {S : List (Int × Value)} {f : Int → Option (Int × List Key)} (h : PMap lo w b S f) {r : Nat} (hg : w.grownBy w' (some r)) (hr : ∀ p c, w.cell? p = some c → p.block ≠ r) (hne : b ≠ r) : PMap lo w' b S f :=
  ⟨h.1.kept hg (by simpa using hne), fun q => (h.2 q).imp fun _ _ hE => hE.obj hg hr⟩
theorem PMap.put {lo : Nat} {w w' : World} {b : Nat} {S : List (Int × Value)} {f : Int → Option (Int × List Key)} (h : PMap lo w b S f) {q st : Int} {ks : List Key} {A : Option Addr} {n cap : Nat} (hv : Els ElK w (.slice A n cap) ks) (hlo : ∀ a, A = some a → lo ≤ a.block)
    (hA : AMap kv w' b (aput S q (.agg #[.int .i64 st, .slice A n cap]))) (hg : w.grownBy w' (some b)) : PMap lo w' b (aput S q (.agg #[.int .i64 st, .slice A n cap])) (fun q' => if q' = q then some (st, ks) else f q') := by
  have hr : ∀ p c, w.cell? p = some c → p.block ≠ b := fun p c hc => h.1.apart hc
  refine ⟨hA, fun q' => ?_⟩
  rw [aget_aput]
  dsimp only
  by_cases e : q' = q
  · rw [if_pos e, if_pos e]
    exact ⟨A, n, cap, rfl, hv.obj hg hr, hlo⟩
  · rw [if_neg e, if_neg e]
    exact (h.2 q').imp fun _ _ hE => hE.obj hg hr

theorem Chain.len {T : Key → Option Cost} {p q : Int} {w : List Int} {ks : List Key} (h : Chain T p w ks q) : ks.length = w.length := by
  induction h with
  | nil => rfl
  | snoc _ _ ih => simp [ih]
/-- what way hands back -/
def WayOk (C : Int) (l : List RuleB) (x : Int) (s : ByteArray) (y : Int) (t : ByteArray) (w' : World) (v : Value) (bm : Nat) (L : List (Key × Cost)) (ok : Bool) : Prop :=
  MMap w' bm L ∧ Inv (l.map RuleB.plain) (Just C y (cs t)) (cget L) ∧ (∀ (i : Nat) r, (l.map RuleB.plain)[i]? = some r → ClosedAt (cget L) r) ∧
  ∃ st A n cap, v = .agg #[.int .i64 st, .slice A n cap] ∧
    (ok = true → ∃ ks, Els ElK w' (.slice A n cap) ks ∧ Chain (cget L) x (cs s) ks (lastS C y (cs t)) ∧ st = min (csum (cget L) ks) far ∧ ∀ ks', Chain (cget L) x (cs s) ks' (lastS C y (cs t)) → st ≤ csum (cget L) ks') ∧
    (ok = false → ∀ ks, ¬ Chain (cget L) x (cs s) ks (lastS C y (cs t)))
end Go.Proofs.YtaapnflhjbdmlaaGreatDoor
