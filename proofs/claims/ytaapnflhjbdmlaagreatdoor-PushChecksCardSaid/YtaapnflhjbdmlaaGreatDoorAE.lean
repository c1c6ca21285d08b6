/- Maps that the call makes: an entry taken, and stored into after other steps. No condition. -/
import Derived.Test.YtaapnflhjbdmlaaGreatDoorAM
import Derived.WideKeyEntry
namespace Go.Proofs.YtaapnflhjbdmlaaGreatDoor
open Go.RowKit
open Go.ChangeMaps (setBlock)

theorem setBlock_twice (w : World) (b : Nat) (o o' : Obj) : setBlock (setBlock w b o) b o' = setBlock w b o' := by
  simp [setBlock]

section
variable {P : Program} {κ : Type} [DecidableEq κ] {ke : κ → Value} {w w' : World} {b : Nat} {l : List (κ × Value)}
theorem AMap.run_mapEntry {kt et t : TypeId} (K : KeyT P kt ke) (ht : P.underlying t = some (.map kt et)) {z : Value} (hz : (zeroValue et).run P w = .ok z w) (h : AMap ke w b l) (a : κ) :
    ∃ (w' : World) (st : Int), (Instr.mapEntry t (.map (some b)) (ke a)).run P w = .ok (.tuple #[(aget l a).getD z, goInt st]) w' ∧ w.grownBy w' (some b) ∧ w'.heap.size = w.heap.size ∧
      ∀ (w2 : World) (v : Value), w2.heap[b]? = w'.heap[b]? → ∃ w3, (Instr.entryStore t (.map (some b)) (goInt st) v).run P w2 = .ok () w3 ∧ AMap ke w3 b (aput l a v) ∧ w2.grownBy w3 (some b) ∧ w3.heap.size = w2.heap.size := by
  have h0 := h
  obtain ⟨es, clock, hb, he, hn, hn2, hlt⟩ := h
  have hset : ∀ (w : World) (es' clock' o) , w.heap[b]? = some (.map es' clock') → (setObj b o).run P w = .ok () (setBlock w b o) := fun w es' clock' o hb => by simp [setObj, Sem.run, hb, setBlock]
  have hgr : ∀ (w : World) (es' clock' o), w.heap[b]? = some (.map es' clock') → w.grownBy (setBlock w b o) (some b) := fun w es' clock' o hb => ⟨rfl, rfl, rfl, by simp [setBlock], fun i _ hi => ChangeMaps.heap_setBlock_other hb _ (fun e => hi (by rw [e]))⟩
  -- the store's world is that of an update where the map is as it was
  have upd : ∀ (w2 : World) (v : Value) (X : Obj) (es2 clock2), w2.heap[b]? = some (.map es2 clock2) → (Instr.mapUpdate t (.map (some b)) (ke a) v).run P (setBlock w2 b (.map es clock)) = .ok () (setBlock (setBlock w2 b (.map es clock)) b X) → AMap ke (setBlock w2 b X) b (aput l a v) := by
    intro w2 v X es2 clock2 h2 hrun
    have hA : AMap ke (setBlock w2 b (.map es clock)) b l := h0.of_block (by rw [ChangeMaps.heap_setBlock_same h2, hb])
    obtain ⟨w', hr, r1, _⟩ := AMap.run_update (P := P) K ht hA a v
    rw [hrun] at hr
    injection hr with _ e
    rw [setBlock_twice] at e
    rw [e]; exact r1
  cases hg : aget l a with
  | none =>
    refine ⟨setBlock w b (.map (es.push { key := ke a, val := z, born := clock }) (clock + 1)), clock, ?_, hgr w _ _ _ hb, by simp [setBlock], ?_⟩
    · unfold Instr.mapEntry
      simp only [Sem.run_bind, run_underlying ht, Result.andThen_ok, MapKept.run_getObj_map hb, K.check, AMap.run_find K he, hg, hz, hset w _ _ _ hb]
      rfl
    · intro w2 v h2
      rw [ChangeMaps.heap_setBlock_same hb] at h2
      have hidx : (es.push { key := ke a, val := z, born := clock }).findIdx? (fun e => ((e.born : Nat) : Int) == ((clock : Nat) : Int)) = some es.size := by
        rw [WideElems.findIdx_arr]
        have := WideElems.findIdx_born (l := (es.push { key := ke a, val := z, born := clock }).toList) (j := es.size) (e0 := { key := ke a, val := z, born := clock }) (by
          simp only [Array.toList_push, List.map_append, List.map_cons, List.map_nil]
          refine List.nodup_append.2 ⟨hn2, by simp, fun x hx c hc e1 => ?_⟩
          obtain ⟨p, hp, rfl⟩ := List.mem_map.1 hx
          have : c = clock := by simpa using hc
          have := hlt p hp
          omega) (by simp)
        simpa using this
      have hmod : (es.push { key := ke a, val := z, born := clock }).modify es.size (fun e => { e with val := v }) = es.push { key := ke a, val := v, born := clock } := by
        apply Array.ext'
        rw [Array.toList_modify, Array.toList_push, Array.toList_push, show es.size = es.toList.length by simp, WideElems.modify_last]
      refine ⟨setBlock w2 b (.map (es.push { key := ke a, val := v, born := clock }) (clock + 1)), ?_, ?_, hgr w2 _ _ _ h2, by simp [setBlock]⟩
      · unfold Instr.entryStore
        simp only [Sem.run_bind, Result.andThen_ok, MapKept.run_getObj_map h2]
        have hai : ∀ (x : Int), (asInt (.int .i64 x)).run P w2 = .ok x w2 := fun x => rfl
        simp only [goInt, hai, Result.andThen_ok, hidx, hmod, hset w2 _ _ _ h2]
      · refine upd w2 v _ _ _ h2 ?_
        have hb' := ChangeMaps.heap_setBlock_same h2 (.map es clock)
        unfold Instr.mapUpdate
        simp only [Sem.run_bind, run_underlying ht, Result.andThen_ok, MapKept.run_getObj_map hb', K.check, AMap.run_find K he, hg, hset _ _ _ _ hb']
  | some v0 =>
    obtain ⟨i, hi⟩ := find_some hg
    have hil : i < l.length ∧ ∀ h : i < l.length, a = (l[i]).1 := by
      rw [List.findIdx?_eq_some_iff_getElem] at hi
      obtain ⟨h1, h2, _⟩ := hi
      refine ⟨by simpa using h1, fun h => by simpa using h2⟩
    have hlen : es.toList.length = l.length := by have := congrArg List.length he; simpa using this
    have hie : i < es.size := by have := hil.1; simp at hlen; omega
    have hkey : es[i].key = ke a := by
      have h1 := congrArg (fun l : List (Value × Value) => l[i]?) he
      simp only [List.getElem?_map] at h1
      rw [List.getElem?_eq_getElem (by simpa using hie), List.getElem?_eq_getElem hil.1] at h1
      simp only [Option.map_some, Option.some.injEq, Prod.mk.injEq] at h1
      rw [hil.2 hil.1]
      simpa using h1.1
    have hk2 : ((es[i]?).map (·.key)).getD (ke a) = ke a := by rw [Array.getElem?_eq_getElem hie]; simp [hkey]
    have hst : ((es[i]?).map (fun x => (x.born : Int))).getD 0 = (es[i].born : Int) := by rw [Array.getElem?_eq_getElem hie]; simp
    have hmod0 : (es.modify i fun e => { e with key := ke a }) = es := by
      apply Array.ext (by simp)
      intro j h1 h2
      rw [Array.getElem_modify]
      split
      · rename_i e; subst e; simp only [← hkey]
      · rfl
    refine ⟨setBlock w b (.map es clock), es[i].born, ?_, hgr w _ _ _ hb, by simp [setBlock], ?_⟩
    · unfold Instr.mapEntry
      simp only [Sem.run_bind, run_underlying ht, Result.andThen_ok, MapKept.run_getObj_map hb, K.check, AMap.run_find K he, hg, hi, Option.map_some, hk2, K.stays, hmod0, hset w _ _ _ hb, hst, Option.getD_some]
      rfl
    · intro w2 v h2
      rw [ChangeMaps.heap_setBlock_same hb] at h2
      have hidx : es.findIdx? (fun e => ((e.born : Nat) : Int) == ((es[i].born : Nat) : Int)) = some i := by
        rw [WideElems.findIdx_arr]
        exact WideElems.findIdx_born hn2 (by rw [Array.getElem?_toList, Array.getElem?_eq_getElem hie])
      have hmod : (es.modify i fun e => { e with val := v }) = es.modify i fun e => { e with key := ke a, val := v } := by
        apply Array.ext (by simp)
        intro j h1 h2
        rw [Array.getElem_modify, Array.getElem_modify]
        split
        · rename_i e; subst e; simp only [← hkey]
        · rfl
      refine ⟨setBlock w2 b (.map (es.modify i fun e => { e with key := ke a, val := v }) clock), ?_, ?_, hgr w2 _ _ _ h2, by simp [setBlock]⟩
      · unfold Instr.entryStore
        simp only [Sem.run_bind, Result.andThen_ok, MapKept.run_getObj_map h2]
        have hai : ∀ (x : Int), (asInt (.int .i64 x)).run P w2 = .ok x w2 := fun x => rfl
        simp only [goInt, hai, Result.andThen_ok, hidx, hmod, hset w2 _ _ _ h2]
      · refine upd w2 v _ _ _ h2 ?_
        have hb' := ChangeMaps.heap_setBlock_same h2 (.map es clock)
        unfold Instr.mapUpdate
        simp only [Sem.run_bind, run_underlying ht, Result.andThen_ok, MapKept.run_getObj_map hb', K.check, AMap.run_find K he, hg, hi, Option.map_some, hk2, K.stays, hset _ _ _ _ hb']
end

section
variable {P : Program} {κ : Type} [DecidableEq κ] {ke : κ → Value} {b : Nat} {l : List (κ × Value)}
variable (w : World) {ops : Array Oper} {rest : List Oper} {o : Oper} {a : Act} {Q : Exit → Act → World → Prop}
/-- a map's entry may be stored into -/
def EntryAt (P : Program) (t : TypeId) (ke : κ → Value) (w' : World) (b : Nat) (l : List (κ × Value)) (k : κ) (st : Int) : Prop :=
  ∀ (w2 : World) (v : Value), w2.heap[b]? = w'.heap[b]? → ∃ w3, (Instr.entryStore t (.map (some b)) (goInt st) v).run P w2 = .ok () w3 ∧ AMap ke w3 b (aput l k v) ∧ w2.grownBy w3 (some b) ∧ w3.heap.size = w2.heap.size

theorem wpList_mapEntry_a (hg : o.guard = none) (m x : Operand) (t : TypeId) (hop : o.op = Op.mapEntry t m x) (kt et : TypeId) (K : KeyT P kt ke) (ht : P.underlying t = some (.map kt et)) {z : Value} (hz : (zeroValue et).run P w = .ok z w)
    (hm : a.eval m = .map (some b)) (h : AMap ke w b l) (k : κ) (hx : a.eval x = ke k) (v : Value) (hv : (aget l k).getD z = v)
    (hK : ∀ w' st, EntryAt P t ke w' b l k st → w.grownBy w' (some b) → w'.heap.size = w.heap.size → wpList P ops Q rest (a.put o.dst (.tuple #[v, goInt st])) w') : wpList P ops Q (o :: rest) a w := by
  refine wpList_plain hg fun K' hK' => ?_
  obtain ⟨w', st, hrun, r1, r2, r3⟩ := AMap.run_mapEntry K ht hz h k
  unfold Oper.wp
  simp [execOp, hop, hm, hx, hrun, Result.andThen, hv]
  exact hK' _ _ (hK w' st r3 r1 r2)
theorem wpList_entryStore_a (hg : o.guard = none) (m s y : Operand) (t : TypeId) (hop : o.op = Op.entryStore t m s y) (hm : a.eval m = .map (some b)) {w' : World} {k : κ} {st : Int} (h : EntryAt P t ke w' b l k st) (hb : w.heap[b]? = w'.heap[b]?) (hs : a.eval s = goInt st)
    (v : Value) (hv : a.eval y = v) (hK : ∀ w3, AMap ke w3 b (aput l k v) → w.grownBy w3 (some b) → w3.heap.size = w.heap.size → wpList P ops Q rest (a.put o.dst undef) w3) : wpList P ops Q (o :: rest) a w := by
  refine wpList_plain hg fun K' hK' => ?_
  obtain ⟨w3, hrun, r1, r2, r3⟩ := h w v hb
  unfold Oper.wp
  simp [execOp, hop, hm, hs, hv, hrun, Result.andThen]
  exact hK' _ _ (hK w3 r1 r2 r3)
end
end Go.Proofs.YtaapnflhjbdmlaaGreatDoor
