/- Maps that the call makes, told by the list of their keys and values: made, read, written, gone through. No condition. Maps told by lists, inside a fence. No condition. -/
import Derived.Test.YtaapnflhjbdmlaaGreatDoorBase
import Derived.Maps.RangeWalk
import Derived.Maps.OwnSet
import Derived.Maps.OwnIn
namespace Go.Proofs.YtaapnflhjbdmlaaGreatDoor
section
open Go.RowKit
open Go.ChangeMaps (setBlock)

section
variable {P : Program} {κ : Type} [DecidableEq κ]

/-- what the laws ask of a key's type -/
structure KeyT (P : Program) (kt : TypeId) (ke : κ → Value) : Prop where
  check : ∀ w em a, (Instr.checkKey em 10000 kt (ke a)).run P w = .ok () w
  find : ∀ w a (ks : List κ) (es : List MapEntry), es.map (·.key) = ks.map ke →
    (Instr.findKey kt (ke a) es).run P w = .ok ((ks.findIdx? fun k => decide (a = k)).bind fun i => es[i]?.map fun e => (i, e.val)) w
  stays : ∀ w a, (Instr.keyThatStays (ke a) (ke a)).run P w = .ok (ke a) w

theorem findAsking_run {kt : TypeId} {ke : κ → Value} (heq : ∀ w a b, (Op.equal kt (ke a) (ke b)).run P w = .ok (decide (a = b)) w) (w : World) (a : κ) :
    ∀ (ks : List κ) (es : List MapEntry) (i : Nat), es.map (·.key) = ks.map ke →
      (Instr.findAsking kt (ke a) es i).run P w = .ok ((ks.findIdx? fun k => decide (a = k)).bind fun j => es[j]?.map fun e => (i + j, e.val)) w
  | [], [], i, _ => by simp [Instr.findAsking]
  | [], _ :: _, i, h => by simp at h
  | _ :: _, [], i, h => by simp at h
  | k :: ks, e :: es, i, h => by
    simp only [List.map_cons, List.cons.injEq] at h
    obtain ⟨h1, h2⟩ := h
    have ih := findAsking_run heq w a ks es (i + 1) h2
    rw [Instr.findAsking, Sem.run_bind, h1, heq, Result.andThen_ok]
    by_cases hk : a = k
    · simp [hk, List.findIdx?_cons]
    · simp only [hk, decide_false, Bool.false_eq_true, if_false, List.findIdx?_cons]
      rw [ih]
      congr 1
      cases List.findIdx? (fun k => decide (a = k)) ks with
      | none => rfl
      | some j => simp [Nat.add_assoc, Nat.add_comm 1 j]

theorem KeyT.deep {kt : TypeId} {d : TypeDesc} {ke : κ → Value} (hu : P.underlying kt = some d) (hnow : ∀ a b, Instr.sameNow d (ke a) (ke b) = none) (hc : ∀ w em a, (Instr.checkKey em 10000 kt (ke a)).run P w = .ok () w)
    (heq : ∀ w a b, (Op.equal kt (ke a) (ke b)).run P w = .ok (decide (a = b)) w) (hs : ∀ a, Instr.sameBits 10000 (ke a) (ke a) = true) : KeyT P kt ke where
  check := hc
  stays w a := by simp [Instr.keyThatStays, hs]
  find w a ks es h := by
    unfold Instr.findKey
    rw [Sem.run_bind, run_underlying hu, Result.andThen_ok]
    match ks, es, h with
    | [], [], _ => simp [Instr.findNow]
    | [], _ :: _, h => simp at h
    | _ :: _, [], h => simp at h
    | k :: ks, e :: es, h =>
      have hk : e.key = ke k := by simpa using (List.cons.inj h).1
      have : Instr.findNow d (ke a) (e :: es) 0 = none := by rw [Instr.findNow, hk, hnow]
      simp only [this]
      have := findAsking_run heq w a (k :: ks) (e :: es) 0 h
      simpa using this

theorem findNow_run {d : TypeDesc} {ke : κ → Value} (hnow : ∀ a b, Instr.sameNow d (ke a) (ke b) = some (decide (a = b))) (a : κ) :
    ∀ (ks : List κ) (es : List MapEntry) (i : Nat), es.map (·.key) = ks.map ke →
      Instr.findNow d (ke a) es i = some ((ks.findIdx? fun k => decide (a = k)).bind fun j => es[j]?.map fun e => (i + j, e.val))
  | [], [], i, _ => by simp [Instr.findNow]
  | [], _ :: _, i, h => by simp at h
  | _ :: _, [], i, h => by simp at h
  | k :: ks, e :: es, i, h => by
    simp only [List.map_cons, List.cons.injEq] at h
    obtain ⟨h1, h2⟩ := h
    have ih := findNow_run hnow a ks es (i + 1) h2
    rw [Instr.findNow, h1, hnow]
    by_cases hk : a = k
    · simp [hk, List.findIdx?_cons]
    · simp only [hk, decide_false, List.findIdx?_cons]
      rw [ih]
      congr 1
      simp only [Bool.false_eq_true, if_false]
      cases List.findIdx? (fun k => decide (a = k)) ks with
      | none => rfl
      | some j => simp [Nat.add_assoc, Nat.add_comm 1 j]

theorem KeyT.flat {kt : TypeId} {d : TypeDesc} {ke : κ → Value} (hu : P.underlying kt = some d) (hnow : ∀ a b, Instr.sameNow d (ke a) (ke b) = some (decide (a = b))) (hc : ∀ w em a, (Instr.checkKey em 10000 kt (ke a)).run P w = .ok () w)
    (hs : ∀ a, Instr.sameBits 10000 (ke a) (ke a) = true) : KeyT P kt ke where
  check := hc
  stays w a := by simp [Instr.keyThatStays, hs]
  find w a ks es h := by
    unfold Instr.findKey
    rw [Sem.run_bind, run_underlying hu, Result.andThen_ok]
    simp only [findNow_run hnow a ks es 0 h]
    simp

/-! ### a map told by a list -/

/-- what the list holds at a key -/
def aget (l : List (κ × Value)) (a : κ) : Option Value := (l.find? fun p => decide (a = p.1)).map (·.2)
/-- the list behind a store -/
def aput (l : List (κ × Value)) (a : κ) (v : Value) : List (κ × Value) :=
  if (aget l a).isSome then l.map (fun p => if a = p.1 then (p.1, v) else p) else l ++ [(a, v)]

theorem aget_append (l m : List (κ × Value)) (a : κ) : aget (l ++ m) a = (aget l a).or (aget m a) := by
  unfold aget
  rw [List.find?_append]
  cases List.find? (fun p => decide (a = p.1)) l <;> simp
theorem aget_cons (p : κ × Value) (l : List (κ × Value)) (a : κ) : aget (p :: l) a = if a = p.1 then some p.2 else aget l a := by
  unfold aget
  rw [List.find?_cons]
  by_cases h : a = p.1 <;> simp [h]
theorem aget_nil (a : κ) : aget ([] : List (κ × Value)) a = none := rfl
theorem aget_map (l : List (κ × Value)) (a c : κ) (v : Value) : aget (l.map (fun p => if a = p.1 then (p.1, v) else p)) c = if c = a then (aget l c).map (fun _ => v) else aget l c := by
  induction l with
  | nil => simp [aget_nil]
  | cons p l ih =>
    rw [List.map_cons, aget_cons, aget_cons, ih]
    by_cases h1 : a = p.1
    · subst h1
      by_cases h2 : c = p.1 <;> simp [h2]
    · by_cases h2 : c = p.1
      · subst h2; simp [h1, Ne.symm h1]
      · simp [h1, h2]
theorem aget_aput (l : List (κ × Value)) (a c : κ) (v : Value) : aget (aput l a v) c = if c = a then some v else aget l c := by
  unfold aput
  split
  · rename_i h
    rw [aget_map]
    by_cases e : c = a
    · subst e
      obtain ⟨x, hx⟩ := Option.isSome_iff_exists.1 h
      simp [hx]
    · simp [e]
  · rename_i h
    rw [aget_append, aget_cons, aget_nil]
    have h : aget l a = none := by simpa using h
    by_cases e : c = a
    · subst e; simp [h]
    · simp [e]

theorem aget_some_mem {l : List (κ × Value)} {a : κ} {v : Value} (h : aget l a = some v) : (a, v) ∈ l := by
  unfold aget at h
  obtain ⟨p, hp, rfl⟩ := Option.map_eq_some_iff.1 h
  have h1 := List.mem_of_find?_eq_some hp
  have h2 := List.find?_some hp
  simp only [decide_eq_true_eq] at h2
  rw [h2]; exact h1
theorem aget_of_mem {l : List (κ × Value)} (hn : (l.map (·.1)).Nodup) {a : κ} {v : Value} (h : (a, v) ∈ l) : aget l a = some v := by
  induction l with
  | nil => simp at h
  | cons p l ih =>
    rw [List.map_cons, List.nodup_cons] at hn
    rw [aget_cons]
    rcases List.mem_cons.1 h with rfl | h
    · simp
    · rw [if_neg, ih hn.2 h]
      intro e
      exact hn.1 (by rw [← e]; exact List.mem_map.2 ⟨_, h, rfl⟩)
theorem aget_none {l : List (κ × Value)} {a : κ} : aget l a = none ↔ ∀ p ∈ l, p.1 ≠ a := by
  unfold aget
  simp only [Option.map_eq_none_iff, List.find?_eq_none, decide_eq_true_eq]
  exact ⟨fun h p hp e => h p hp e.symm, fun h p hp e => h p hp e.symm⟩

end

section
variable {κ : Type}
/-- block b is a map that holds just the keys and values of l -/
def AMap (ke : κ → Value) (w : World) (b : Nat) (l : List (κ × Value)) : Prop :=
  ∃ (es : Array MapEntry) (clock : Nat), w.heap[b]? = some (.map es clock) ∧ es.toList.map (fun e => (e.key, e.val)) = l.map (fun p => (ke p.1, p.2)) ∧
    (l.map (·.1)).Nodup ∧ (es.toList.map (·.born)).Nodup ∧ ∀ e ∈ es.toList, e.born < clock

variable {ke : κ → Value} {w w' : World} {b : Nat} {l : List (κ × Value)}

theorem AMap.made (ke : κ → Value) (w : World) : AMap ke (w.alloc (.map #[] 0)) w.heap.size [] := ⟨#[], 0, heap_alloc_new w _, rfl, by simp, by simp, by simp⟩
theorem AMap.lt (h : AMap ke w b l) : b < w.heap.size := by
  obtain ⟨es, clock, hb, _⟩ := h
  exact (Array.getElem?_eq_some_iff.1 hb).1
theorem AMap.of_block (h : AMap ke w b l) (hb : w'.heap[b]? = w.heap[b]?) : AMap ke w' b l := by
  obtain ⟨es, clock, h1, rest⟩ := h
  exact ⟨es, clock, hb.trans h1, rest⟩
theorem AMap.below (h : AMap ke w b l) {B : Nat} (hB : Below B w w') (hb : b < B) : AMap ke w' b l := h.of_block (hB.block b hb)
theorem AMap.kept (h : AMap ke w b l) {row : Option Nat} (hg : w.grownBy w' row) (hne : some b ≠ row) : AMap ke w' b l := h.of_block (hg.block b h.lt hne)
theorem AMap.alloc (h : AMap ke w b l) (o : Obj) : AMap ke (w.alloc o) b l := h.kept (World.grownBy_alloc w o none) (by simp)
theorem AMap.drewN (h : AMap ke w b l) (n : Nat) : AMap ke (w.drewN n) b l := h
theorem AMap.setCell (h : AMap ke w b l) (p : Addr) (v : Value) : AMap ke (w.setCell p v) b l := by
  by_cases e : b = p.block
  · obtain ⟨es, clock, h1, rest⟩ := h
    refine ⟨es, clock, ?_, rest⟩
    simp only [World.setCell, Array.getElem?_modify, e.symm, if_true]
    rw [h1]; rfl
  · exact h.of_block (Below.heap_setCell w p v b e)
theorem AMap.nodup (h : AMap ke w b l) : (l.map (·.1)).Nodup := by obtain ⟨_, _, _, _, h, _⟩ := h; exact h

theorem keys_of {es : List MapEntry} {l : List (κ × Value)} (h : es.map (fun e => (e.key, e.val)) = l.map (fun p => (ke p.1, p.2))) : es.map (·.key) = (l.map (·.1)).map ke := by
  have := congrArg (List.map Prod.fst) h
  simpa [List.map_map, Function.comp_def] using this
theorem vals_of {es : List MapEntry} {l : List (κ × Value)} (h : es.map (fun e => (e.key, e.val)) = l.map (fun p => (ke p.1, p.2))) : es.map (·.val) = l.map (·.2) := by
  have := congrArg (List.map Prod.snd) h
  simpa [List.map_map, Function.comp_def] using this

end

section
variable {P : Program} {κ : Type} [DecidableEq κ] {ke : κ → Value} {w w' : World} {b : Nat} {l : List (κ × Value)}
theorem find_at {l : List (κ × Value)} {es : List MapEntry} (h : es.map (fun e => (e.key, e.val)) = l.map (fun p => (ke p.1, p.2))) (a : κ) :
    (((l.map (·.1)).findIdx? fun k => decide (a = k)).bind fun i => es[i]?.map fun e => (i, e.val)) = match aget l a with | none => none | some v => ((l.map (·.1)).findIdx? fun k => decide (a = k)).map fun i => (i, v) := by
  have hv := vals_of h
  clear h
  have key : ∀ (l : List (κ × Value)) (vs : List Value), vs = l.map (·.2) → (((l.map (·.1)).findIdx? fun k => decide (a = k)).bind fun i => vs[i]?.map fun v => (i, v)) = match aget l a with | none => none | some v => ((l.map (·.1)).findIdx? fun k => decide (a = k)).map fun i => (i, v) := by
    intro l
    induction l with
    | nil => intro vs h; simp [aget_nil]
    | cons p l ih =>
      intro vs h
      rw [aget_cons]
      obtain ⟨v0, vs, rfl⟩ : ∃ v0 vs', vs = v0 :: vs' := ⟨_, _, by rw [h, List.map_cons]⟩
      simp only [List.map_cons, List.cons.injEq] at h
      obtain ⟨rfl, h⟩ := h
      have ih := ih vs h
      simp only [List.map_cons, List.findIdx?_cons]
      by_cases e : a = p.1
      · simp [e]
      · simp only [e, decide_false, Bool.false_eq_true, if_false]
        cases hf : (l.map (·.1)).findIdx? (fun k => decide (a = k)) with
        | none => rw [hf] at ih; cases hg : aget l a <;> simp_all
        | some j =>
          rw [hf] at ih
          cases hg : aget l a with
          | none => rw [hg] at ih; simpa using ih
          | some v => rw [hg] at ih; simpa using ih
  rw [← key l (es.map (·.val)) hv]
  congr 1
  funext i
  simp [Function.comp_def]

theorem AMap.run_find {kt : TypeId} (K : KeyT P kt ke) {es : List MapEntry} (h : es.map (fun e => (e.key, e.val)) = l.map (fun p => (ke p.1, p.2))) (w : World) (a : κ) :
    (Instr.findKey kt (ke a) es).run P w = .ok (match aget l a with | none => none | some v => ((l.map (·.1)).findIdx? fun k => decide (a = k)).map fun i => (i, v)) w := by
  rw [K.find w a (l.map (·.1)) es (keys_of h), find_at h]

theorem find_some {a : κ} {v : Value} (h : aget l a = some v) : ∃ i, (l.map (·.1)).findIdx? (fun k => decide (a = k)) = some i := by
  have := aget_some_mem h
  cases hf : (l.map (·.1)).findIdx? (fun k => decide (a = k)) with
  | some i => exact ⟨i, rfl⟩
  | none =>
    rw [List.findIdx?_eq_none_iff] at hf
    have := hf a (List.mem_map.2 ⟨_, this, rfl⟩)
    simp at this

theorem AMap.run_lookup {kt et t : TypeId} (K : KeyT P kt ke) (ht : P.underlying t = some (.map kt et)) {z : Value} (hz : (zeroValue et).run P w = .ok z w) (h : AMap ke w b l) (a : κ) (ok : Bool) :
    (Instr.lookup t (.map (some b)) (ke a) ok).run P w = .ok (if ok then .tuple #[(aget l a).getD z, .bool (aget l a).isSome] else (aget l a).getD z) w := by
  obtain ⟨es, clock, hb, he, _⟩ := h
  unfold Instr.lookup
  simp only [Sem.run_bind, run_underlying ht, Result.andThen_ok, MapKept.run_getObj_map hb, K.check, AMap.run_find K he, Sem.run_pure]
  cases hg : aget l a with
  | none => simp [hz]
  | some v =>
    obtain ⟨i, hi⟩ := find_some hg
    simp [hi]

theorem AMap.run_update {kt et t : TypeId} (K : KeyT P kt ke) (ht : P.underlying t = some (.map kt et)) (h : AMap ke w b l) (a : κ) (v : Value) :
    ∃ w', (Instr.mapUpdate t (.map (some b)) (ke a) v).run P w = .ok () w' ∧ AMap ke w' b (aput l a v) ∧ w.grownBy w' (some b) ∧ w'.heap.size = w.heap.size := by
  obtain ⟨es, clock, hb, he, hn, hn2, hlt⟩ := h
  have hset : ∀ o, (setObj b o).run P w = .ok () (setBlock w b o) := fun o => by simp [setObj, Sem.run, hb, setBlock]
  have hgr : ∀ o, w.grownBy (setBlock w b o) (some b) := fun o => ⟨rfl, rfl, rfl, by simp [setBlock], fun i _ hi => ChangeMaps.heap_setBlock_other hb _ (fun e => hi (by rw [e]))⟩
  cases hg : aget l a with
  | none =>
    refine ⟨setBlock w b (.map (es.push { key := ke a, val := v, born := clock }) (clock + 1)), ?_, ⟨_, _, ChangeMaps.heap_setBlock_same hb _, ?_, ?_, ?_, ?_⟩, hgr _, by simp [setBlock]⟩
    · unfold Instr.mapUpdate
      simp only [Sem.run_bind, run_underlying ht, Result.andThen_ok, MapKept.run_getObj_map hb, K.check, AMap.run_find K he, hg, hset]
    · simp [aput, hg, he]
    · simp only [aput, hg, Option.isSome_none, Bool.false_eq_true, if_false, List.map_append, List.map_cons, List.map_nil]
      rw [List.nodup_append]
      refine ⟨hn, by simp, ?_⟩
      intro x hx y hy
      obtain ⟨p, hp, rfl⟩ := List.mem_map.1 hx
      have : y = a := by simpa using hy
      rw [this]
      exact aget_none.1 hg p hp
    · simp only [Array.toList_push, List.map_append, List.map_cons, List.map_nil]
      rw [List.nodup_append]
      refine ⟨hn2, by simp, ?_⟩
      intro x hx y hy
      obtain ⟨p, hp, rfl⟩ := List.mem_map.1 hx
      have : y = clock := by simpa using hy
      rw [this]
      have := hlt p hp
      omega
    · intro e he'
      have he2 : e ∈ es ∨ e = { key := ke a, val := v, born := clock } := by simpa using he'
      rcases he2 with h | h
      · have := hlt e (by simpa using h); omega
      · rw [h]; show clock < clock + 1; omega
  | some v0 =>
    obtain ⟨i, hi⟩ := find_some hg
    have hil : i < l.length ∧ ∀ h : i < l.length, a = (l[i]).1 := by
      rw [List.findIdx?_eq_some_iff_getElem] at hi
      obtain ⟨h1, h2, _⟩ := hi
      refine ⟨by simpa using h1, fun h => by simpa using h2⟩
    have hlen : es.toList.length = l.length := by have := congrArg List.length he; simpa using this
    have hie : i < es.size := by have := hil.1; simp at hlen; omega
    have hkey : es[i].key = ke a := by
      have h1 := congrArg (fun l : List (Value × Value) => l[i]?) he
      simp only [List.getElem?_map] at h1
      rw [List.getElem?_eq_getElem (by simpa using hie), List.getElem?_eq_getElem hil.1] at h1
      simp only [Option.map_some, Option.some.injEq, Prod.mk.injEq] at h1
      rw [hil.2 hil.1]
      simpa using h1.1
    have hk2 : ((es[i]?).map (·.key)).getD (ke a) = ke a := by rw [Array.getElem?_eq_getElem hie]; simp [hkey]
    refine ⟨setBlock w b (.map (es.modify i fun e => { e with key := ke a, val := v }) clock), ?_, ⟨_, _, ChangeMaps.heap_setBlock_same hb _, ?_, ?_, ?_, ?_⟩, hgr _, by simp [setBlock]⟩
    · unfold Instr.mapUpdate
      simp only [Sem.run_bind, run_underlying ht, Result.andThen_ok, MapKept.run_getObj_map hb, K.check, AMap.run_find K he, hg, hi, Option.map_some, hk2, K.stays, hset]
    · simp only [aput, hg, Option.isSome_some, if_true, Array.toList_modify]
      apply List.ext_getElem
      · simpa using hlen
      · intro j h1 h2
        have hj : j < es.size := by simpa using h1
        have hj2 : j < l.length := by simp at hlen; omega
        have hej : (es[j].key, es[j].val) = (ke l[j].1, l[j].2) := by
          have h1 := congrArg (fun l : List (Value × Value) => l[j]?) he
          simp only [List.getElem?_map] at h1
          rw [List.getElem?_eq_getElem (by simpa using hj), List.getElem?_eq_getElem hj2] at h1
          simpa using h1
        simp only [List.getElem_map, List.getElem_modify, Array.getElem_toList]
        by_cases e : i = j
        · subst e
          rw [if_pos rfl, if_pos (hil.2 hj2)]
          simp only [Prod.mk.injEq, and_true]
          rw [← hil.2 hj2]
        · rw [if_neg e, if_neg, hej]
          intro ea
          apply e
          have h3 := hil.2 hil.1
          have hnn := List.pairwise_iff_getElem.1 hn
          rcases Nat.lt_trichotomy i j with h4 | h4 | h4
          · exact absurd (h3.symm.trans ea) (by have := hnn i j (by simpa using hil.1) (by simpa using hj2) h4; rwa [List.getElem_map, List.getElem_map] at this)
          · exact h4
          · exact absurd (ea.symm.trans h3) (by have := hnn j i (by simpa using hj2) (by simpa using hil.1) h4; rwa [List.getElem_map, List.getElem_map] at this)
    · simp only [aput, hg, Option.isSome_some, if_true, List.map_map]
      have : (fun x : κ × Value => x.1) ∘ (fun p : κ × Value => if a = p.1 then (p.1, v) else p) = fun p => p.1 := by
        funext p; simp only [Function.comp]; split <;> rfl
      rw [this]; exact hn
    · have : (es.modify i fun e => { e with key := ke a, val := v }).toList.map (·.born) = es.toList.map (·.born) := by
        rw [Array.toList_modify]
        apply List.ext_getElem (by simp)
        intro j h1 h2
        simp only [List.getElem_map, List.getElem_modify]
        split <;> rfl
      rw [this]; exact hn2
    · intro e he'
      have : (es.modify i fun e => { e with key := ke a, val := v }).toList.map (·.born) = es.toList.map (·.born) := by
        rw [Array.toList_modify]
        apply List.ext_getElem (by simp)
        intro j h1 h2
        simp only [List.getElem_map, List.getElem_modify]
        split <;> rfl
      have hm : e.born ∈ es.toList.map (·.born) := by rw [← this]; exact List.mem_map.2 ⟨e, by simpa using he', rfl⟩
      obtain ⟨e', h1, h2⟩ := List.mem_map.1 hm
      rw [← h2]; exact hlt e' h1
end

/-! ### at the operation -/
section
variable {P : Program} {κ : Type} [DecidableEq κ] {ke : κ → Value} {b : Nat} {l : List (κ × Value)}
variable (w : World) {ops : Array Oper} {rest : List Oper} {o : Oper} {a : Act} {Q : Exit → Act → World → Prop}

theorem wpList_lookup_a (hg : o.guard = none) (m x : Operand) (t : TypeId) (hop : o.op = Op.lookup t m x false) (kt et : TypeId) (K : KeyT P kt ke) (ht : P.underlying t = some (.map kt et)) {z : Value} (hz : (zeroValue et).run P w = .ok z w)
    (hm : a.eval m = .map (some b)) (h : AMap ke w b l) (k : κ) (hx : a.eval x = ke k) (v : Value) (hv : (aget l k).getD z = v) (hK : wpList P ops Q rest (a.put o.dst v) w) : wpList P ops Q (o :: rest) a w := by
  refine wpList_plain hg fun K' hK' => ?_
  have hrun := AMap.run_lookup K ht hz h k false
  unfold Oper.wp
  simp [execOp, hop, hm, hx, hrun, Result.andThen, hv]
  exact hK' _ _ hK
theorem wpList_lookup_ok_a (hg : o.guard = none) (m x : Operand) (t : TypeId) (hop : o.op = Op.lookup t m x true) (kt et : TypeId) (K : KeyT P kt ke) (ht : P.underlying t = some (.map kt et)) {z : Value} (hz : (zeroValue et).run P w = .ok z w)
    (hm : a.eval m = .map (some b)) (h : AMap ke w b l) (k : κ) (hx : a.eval x = ke k) (v : Value) (hv : (aget l k).getD z = v) (y : Bool) (hy : (aget l k).isSome = y) (hK : wpList P ops Q rest (a.put o.dst (.tuple #[v, .bool y])) w) : wpList P ops Q (o :: rest) a w := by
  refine wpList_plain hg fun K' hK' => ?_
  have hrun := AMap.run_lookup K ht hz h k true
  unfold Oper.wp
  simp [execOp, hop, hm, hx, hrun, Result.andThen, hv, hy]
  exact hK' _ _ hK
theorem wpList_mapUpdate_a (hg : o.guard = none) (m x y : Operand) (t : TypeId) (hop : o.op = Op.mapUpdate t m x y) (kt et : TypeId) (K : KeyT P kt ke) (ht : P.underlying t = some (.map kt et))
    (hm : a.eval m = .map (some b)) (h : AMap ke w b l) (k : κ) (hx : a.eval x = ke k) (v : Value) (hv : a.eval y = v)
    (hK : ∀ w', AMap ke w' b (aput l k v) → w.grownBy w' (some b) → w'.heap.size = w.heap.size → wpList P ops Q rest (a.put o.dst undef) w') : wpList P ops Q (o :: rest) a w := by
  refine wpList_plain hg fun K' hK' => ?_
  obtain ⟨w', hrun, r1, r2, r3⟩ := AMap.run_update K ht h k v
  unfold Oper.wp
  simp [execOp, hop, hm, hx, hv, hrun, Result.andThen]
  exact hK' _ _ (hK w' r1 r2 r3)
end

/-! ### going through a map -/
/-- block r is an iterator over the map in block b, which holds l; 'left' are the entries that are still to come -/
def AIter {κ : Type} (ke : κ → Value) (w : World) (b r : Nat) (l left : List (κ × Value)) : Prop :=
  ∃ (es : Array MapEntry) (clock since c0 : Nat) (seen : Array Nat), w.heap[b]? = some (.map es clock) ∧ es.toList.map (fun e => (e.key, e.val)) = l.map (fun p => (ke p.1, p.2)) ∧
    (l.map (·.1)).Nodup ∧ (es.toList.map (·.born)).Nodup ∧ (∀ e ∈ es.toList, e.born < clock) ∧
    w.heap[r]? = some (.mapIter (some b) since seen c0) ∧ (∀ x ∈ es.toList, x.born < since) ∧ since ≤ c0 ∧ since ≤ clock ∧
    (leftOf es seen).toList.map (fun e => (e.key, e.val)) = left.map (fun p => (ke p.1, p.2)) ∧ left.Sublist l

section
variable {P : Program} {κ : Type} {ke : κ → Value} {w w' : World} {b r : Nat} {l left : List (κ × Value)}

theorem AIter.map (h : AIter ke w b r l left) : AMap ke w b l := by
  obtain ⟨es, clock, _, _, _, h1, h2, h3, h4, h5, _⟩ := h
  exact ⟨es, clock, h1, h2, h3, h4, h5⟩
theorem AIter.sub (h : AIter ke w b r l left) : left.Sublist l := by
  obtain ⟨_, _, _, _, _, _, _, _, _, _, _, _, _, _, _, h⟩ := h
  exact h
theorem AIter.lt (h : AIter ke w b r l left) : b < w.heap.size ∧ r < w.heap.size := by
  obtain ⟨es, clock, _, _, _, h1, _, _, _, _, h6, _⟩ := h
  exact ⟨(Array.getElem?_eq_some_iff.1 h1).1, (Array.getElem?_eq_some_iff.1 h6).1⟩
theorem AIter.ne (h : AIter ke w b r l left) : r ≠ b := by
  obtain ⟨es, clock, _, _, _, h1, _, _, _, _, h6, _⟩ := h
  intro e
  rw [e, h1] at h6
  cases h6
theorem AIter.of_block (h : AIter ke w b r l left) (hb : w'.heap[b]? = w.heap[b]?) (hr : w'.heap[r]? = w.heap[r]?) : AIter ke w' b r l left := by
  obtain ⟨es, clock, since, c0, seen, h1, h2, h3, h4, h5, h6, rest⟩ := h
  exact ⟨es, clock, since, c0, seen, hb.trans h1, h2, h3, h4, h5, hr.trans h6, rest⟩
theorem AIter.kept (h : AIter ke w b r l left) {row : Option Nat} (hg : w.grownBy w' row) (hb : some b ≠ row) (hr : some r ≠ row) : AIter ke w' b r l left := h.of_block (hg.block b h.lt.1 hb) (hg.block r h.lt.2 hr)
theorem AIter.below (h : AIter ke w b r l left) {B : Nat} (hB : Below B w w') (hb : b < B) (hr : r < B) : AIter ke w' b r l left := h.of_block (hB.block b hb) (hB.block r hr)
theorem AIter.drewN (h : AIter ke w b r l left) (n : Nat) : AIter ke (w.drewN n) b r l left := h

theorem AMap.run_range {kt et t : TypeId} (ht : P.underlying t = some (.map kt et)) (h : AMap ke w b l) :
    ∃ w', (Instr.range t (.map (some b))).run P w = .ok (.pointer (some ⟨w.heap.size, 0, none⟩)) w' ∧ AIter ke w' b w.heap.size l l ∧ w.grownBy w' none ∧ w'.heap.size = w.heap.size + 1 := by
  have hlt := h.lt
  obtain ⟨es, clock, hb, he, hn, hn2, hbl⟩ := h
  refine ⟨_, run_range_map w t kt et b es clock ht hb, ⟨es, clock, clock, clock, #[], (heap_alloc_old w _ hlt).trans hb, he, hn, hn2, hbl, heap_alloc_new w _, hbl, Nat.le_refl _, Nat.le_refl _, ?_, List.Sublist.refl _⟩, World.grownBy_alloc w _ none, by simp⟩
  have : (leftOf es #[]).toList = es.toList := by unfold leftOf; rw [Array.toList_filter, List.filter_eq_self]; simp
  rw [this]; exact he

theorem AIter.run_next (h : AIter ke w b r l left) (ty : TypeId) :
    (left = [] ∧ (Instr.next (.pointer (some ⟨r, 0, none⟩)) false ty).run P w = .ok (.tuple #[.bool false]) w) ∨
    ∃ pre k v post w', left = pre ++ (k, v) :: post ∧ (Instr.next (.pointer (some ⟨r, 0, none⟩)) false ty).run P w = .ok (.tuple #[.bool true, ke k, v]) w' ∧
      AIter ke w' b r l (pre ++ post) ∧ w.grownBy w' (some r) ∧ w'.heap.size = w.heap.size ∧ (Instr.entry (.pointer (some ⟨r, 0, none⟩))).run P w' = .ok (.tuple #[ke k, v]) w' := by
  have hne := h.ne
  obtain ⟨es, clock, since, c0, seen, hb, he, hn, hn2, hbl, hr, hold, hsc, hsk, hl, hsub⟩ := h
  rcases run_next_at (P := P) w ty r b since c0 seen es clock hr hb hold hsc with ⟨h0, hrun⟩ | ⟨e, hem, w1, hal, hrun⟩
  · left
    have : (leftOf es seen).toList = [] := List.eq_nil_of_length_eq_zero (by simpa using h0)
    rw [this] at hl
    exact ⟨by simpa using hl.symm, hrun⟩
  · right
    obtain ⟨p1, p2, hp⟩ := List.append_of_mem hem
    rw [hp] at hl
    simp only [List.map_append, List.map_cons] at hl
    obtain ⟨l1, l2, hll, hl1, hl2⟩ := List.map_eq_append_iff.1 hl.symm
    obtain ⟨⟨k, v⟩, l3, rfl, hkv, hl3⟩ := List.map_eq_cons_iff.1 hl2
    simp only [Prod.mk.injEq] at hkv
    obtain ⟨hk, hv⟩ := hkv
    have hr1 : w1.heap[r]? = some (.mapIter (some b) since seen c0) := by rcases hal with rfl | rfl <;> exact hr
    have hb1 : w1.heap[b]? = some (.map es clock) := by rcases hal with rfl | rfl <;> exact hb
    have hset : (setBlock w1 r (.mapIter (some b) since (seen.push e.born) clock)).heap[r]? = some (.mapIter (some b) since (seen.push e.born) clock) := by
      have := (Array.getElem?_eq_some_iff.1 hr1).1
      simp [setBlock, this]
    have hoth : ∀ i, i ≠ r → (setBlock w1 r (.mapIter (some b) since (seen.push e.born) clock)).heap[i]? = w1.heap[i]? := by
      intro i hi
      simp [setBlock, Ne.symm hi]
    have hes : e ∈ es.toList := by
      have : e ∈ (leftOf es seen).toList := hem
      unfold leftOf at this
      simp at this
      simpa using this.1
    have hleft' : (leftOf es (seen.push e.born)).toList = p1 ++ p2 := by
      have h1 : (leftOf es (seen.push e.born)).toList = (leftOf es seen).toList.filter (fun x => x.born ≠ e.born) := by
        unfold leftOf
        simp only [Array.toList_filter, List.filter_filter]
        refine List.filter_congr fun x _ => ?_
        simp [Bool.and_comm]
      rw [h1, hp]
      have hnd : ((p1 ++ e :: p2).map (·.born)).Nodup := by
        rw [← hp]
        unfold leftOf
        rw [Array.toList_filter]
        exact hn2.sublist (List.filter_sublist.map _)
      rw [List.map_append, List.map_cons, List.nodup_append, List.nodup_cons] at hnd
      obtain ⟨_, ⟨hd1, _⟩, hd2⟩ := hnd
      rw [List.filter_append, List.filter_cons]
      simp only [ne_eq, not_true_eq_false, decide_false, Bool.false_eq_true, if_false]
      congr 1
      · rw [List.filter_eq_self]
        intro x hx
        simp only [decide_eq_true_eq]
        exact hd2 _ (List.mem_map.2 ⟨x, hx, rfl⟩) _ (by simp)
      · rw [List.filter_eq_self]
        intro x hx
        simp only [decide_eq_true_eq]
        intro ex
        exact hd1 (by rw [← ex]; exact List.mem_map.2 ⟨x, hx, rfl⟩)
    refine ⟨l1, k, v, l3, _, hll, ?_, ⟨es, clock, since, clock, seen.push e.born, (hoth b (Ne.symm hne)).trans hb1, he, hn, hn2, hbl, hset, hold, hsk, hsk, ?_, ?_⟩, ?_, ?_, ?_⟩
    · rw [hk, hv]; exact hrun
    · rw [hleft', List.map_append, List.map_append, hl1, hl3]
    · refine List.Sublist.trans ?_ hsub
      rw [hll]
      exact (List.Sublist.refl l1).append (List.sublist_cons_self _ _)
    · refine ⟨?_, ?_, ?_, ?_, fun i _ hi => ?_⟩
      · rcases hal with rfl | rfl <;> rfl
      · rcases hal with rfl | rfl <;> rfl
      · rcases hal with rfl | rfl <;> rfl
      · rcases hal with rfl | rfl <;> simp [setBlock]
      · rw [hoth i (fun e => hi (by rw [e]))]
        rcases hal with rfl | rfl <;> rfl
    · rcases hal with rfl | rfl <;> simp [setBlock]
    · rw [hk, hv]
      exact run_entry_at _ r b since seen es clock e hset ((hoth b (Ne.symm hne)).trans hb1) hes hn2

variable {ops : Array Oper} {rest : List Oper} {o : Oper} {a : Act} {Q : Exit → Act → World → Prop}
theorem wpList_range_a (w : World) (hg : o.guard = none) (m : Operand) (t : TypeId) (hop : o.op = Op.range t m) (kt et : TypeId) (ht : P.underlying t = some (.map kt et)) (hm : a.eval m = .map (some b)) (h : AMap ke w b l)
    (hK : ∀ w', AIter ke w' b w.heap.size l l → w.grownBy w' none → w'.heap.size = w.heap.size + 1 → wpList P ops Q rest (a.put o.dst (.pointer (some ⟨w.heap.size, 0, none⟩))) w') : wpList P ops Q (o :: rest) a w := by
  refine wpList_plain hg fun K' hK' => ?_
  obtain ⟨w', hrun, r1, r2, r3⟩ := AMap.run_range ht h
  unfold Oper.wp
  simp [execOp, hop, hm, hrun, Result.andThen]
  exact hK' _ _ (hK w' r1 r2 r3)
/-- the step: done, or one of the entries that are left -/
theorem wpList_next_a (w : World) (hg : o.guard = none) (it : Operand) (hop : o.op = Op.next it false) (hit : a.eval it = .pointer (some ⟨r, 0, none⟩)) (h : AIter ke w b r l left)
    (hDone : left = [] → wpList P ops Q rest (a.put o.dst (.tuple #[.bool false])) w)
    (hMore : ∀ pre k v post w', left = pre ++ (k, v) :: post → AIter ke w' b r l (pre ++ post) → w.grownBy w' (some r) → w'.heap.size = w.heap.size → (Instr.entry (.pointer (some ⟨r, 0, none⟩))).run P w' = .ok (.tuple #[ke k, v]) w' →
      wpList P ops Q rest (a.put o.dst (.tuple #[.bool true, ke k, v])) w') : wpList P ops Q (o :: rest) a w := by
  refine wpList_plain hg fun K' hK' => ?_
  unfold Oper.wp
  rcases h.run_next (P := P) o.type with ⟨h0, hrun⟩ | ⟨pre, k, v, post, w', hl, hrun, h1, h2, h3, h4⟩
  · simp [execOp, hop, hit, hrun, Result.andThen]
    exact hK' _ _ (hDone h0)
  · simp [execOp, hop, hit, hrun, Result.andThen]
    exact hK' _ _ (hMore pre k v post w' hl h1 h2 h3 h4)
end
end
section
open Go.RowKit
section
variable {F : Fence} {nF : Nat} {P : Program} {κ : Type} [DecidableEq κ] {ke : κ → Value} {b : Nat} {l : List (κ × Value)}
variable (w : World) {ops : Array Oper} {rest : List Oper} {o : Oper} {a : Act} {Q : Exit → Act → World → Prop}

theorem wpListIn_lookup_a (hg : o.guard = none) (m x : Operand) (t : TypeId) (hop : o.op = Op.lookup t m x false) (kt et : TypeId) (K : KeyT P kt ke) (ht : P.underlying t = some (.map kt et)) {z : Value} (hz : (zeroValue et).run P w = .ok z w)
    (hm : a.eval m = .map (some b)) (h : AMap ke w b l) (k : κ) (hx : a.eval x = ke k) (v : Value) (hv : (aget l k).getD z = v) (hK : wpListIn F nF P ops Q rest (a.put o.dst v) w) : wpListIn F nF P ops Q (o :: rest) a w := by
  refine wpListIn_plain hg fun K' hK' => ?_
  have hrun := AMap.run_lookup K ht hz h k false
  unfold Oper.wpIn
  refine ⟨by simp [Oper.about, hop], ?_⟩
  rw [Oper.semAt_plain F _ _ (by rw [hop]; intro c hc'; cases hc')]
  simp [execOp, hop, hm, hx, hrun, Result.andThen, hv]
  exact hK' _ _ hK
theorem wpListIn_lookup_ok_a (hg : o.guard = none) (m x : Operand) (t : TypeId) (hop : o.op = Op.lookup t m x true) (kt et : TypeId) (K : KeyT P kt ke) (ht : P.underlying t = some (.map kt et)) {z : Value} (hz : (zeroValue et).run P w = .ok z w)
    (hm : a.eval m = .map (some b)) (h : AMap ke w b l) (k : κ) (hx : a.eval x = ke k) (v : Value) (hv : (aget l k).getD z = v) (y : Bool) (hy : (aget l k).isSome = y) (hK : wpListIn F nF P ops Q rest (a.put o.dst (.tuple #[v, .bool y])) w) : wpListIn F nF P ops Q (o :: rest) a w := by
  refine wpListIn_plain hg fun K' hK' => ?_
  have hrun := AMap.run_lookup K ht hz h k true
  unfold Oper.wpIn
  refine ⟨by simp [Oper.about, hop], ?_⟩
  rw [Oper.semAt_plain F _ _ (by rw [hop]; intro c hc'; cases hc')]
  simp [execOp, hop, hm, hx, hrun, Result.andThen, hv, hy]
  exact hK' _ _ hK
theorem wpListIn_mapUpdate_a (hg : o.guard = none) (m x y : Operand) (t : TypeId) (hop : o.op = Op.mapUpdate t m x y) (kt et : TypeId) (K : KeyT P kt ke) (ht : P.underlying t = some (.map kt et))
    (hm : a.eval m = .map (some b)) (h : AMap ke w b l) (k : κ) (hx : a.eval x = ke k) (v : Value) (hv : a.eval y = v)
    (hK : ∀ w', AMap ke w' b (aput l k v) → w.grownBy w' (some b) → w'.heap.size = w.heap.size → wpListIn F nF P ops Q rest (a.put o.dst undef) w') : wpListIn F nF P ops Q (o :: rest) a w := by
  refine wpListIn_plain hg fun K' hK' => ?_
  obtain ⟨w', hrun, r1, r2, r3⟩ := AMap.run_update K ht h k v
  unfold Oper.wpIn
  refine ⟨by simp [Oper.about, hop], ?_⟩
  rw [Oper.semAt_plain F _ _ (by rw [hop]; intro c hc'; cases hc')]
  simp [execOp, hop, hm, hx, hv, hrun, Result.andThen]
  exact hK' _ _ (hK w' r1 r2 r3)
end
end
end Go.Proofs.YtaapnflhjbdmlaaGreatDoor
