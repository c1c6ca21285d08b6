/- Tables of moves with their costs; sets: the moves from each head. No condition. -/
import Derived.Test.YtaapnflhjbdmlaaDoorW7
namespace Go.Proofs.YtaapnflhjbdmlaaDoor
open Go.RowKit

def ElI : El Int := ⟨1, fun x => [.int .i64 x], fun _ => rfl, fun x u hu => by
  simp only [List.mem_cons, List.mem_nil_iff, or_false] at hu
  rw [hu]; rfl, by decide⟩
theorem info3 : (Tryd.prog.info? 3).map (fun i => (i.zero, i.size, i.bytes)) = some (some (.int .i64 0), 1, 8) := by kernel_rfl
abbrev costV (c : Cost) : Value := .agg #[.int .i64 c.steps, .int .i64 c.rule, .int .i64 c.middle]
/-- what the list holds at a key -/
def cget (L : List (Key × Cost)) (k : Key) : Option Cost := (L.find? fun p => decide (k = p.1)).map (·.2)
def cval (L : List (Key × Cost)) : List (Key × Value) := L.map fun p => (p.1, costV p.2)
theorem aget_cval (L : List (Key × Cost)) (k : Key) : aget (cval L) k = (cget L k).map costV := by
  unfold aget cget cval
  rw [List.find?_map]
  simp only [Option.map_map]
  rfl
/-- block b is a table of moves -/
def MMap (w : World) (b : Nat) (L : List (Key × Cost)) : Prop := AMap mv w b (cval L)
theorem cval_keys (L : List (Key × Cost)) : (cval L).map (·.1) = L.map (·.1) := by simp [cval, List.map_map, Function.comp_def]
theorem cget_iff {L : List (Key × Cost)} {k : Key} : (∃ c, cget L k = some c) ↔ k ∈ L.map (·.1) := by
  unfold cget
  constructor
  · rintro ⟨c, h⟩
    obtain ⟨p, hp, rfl⟩ := Option.map_eq_some_iff.1 h
    have h1 := List.mem_of_find?_eq_some hp
    have h2 := List.find?_some hp
    simp only [decide_eq_true_eq] at h2
    rw [h2]
    exact List.mem_map.2 ⟨p, h1, rfl⟩
  · intro h
    obtain ⟨p, hp, rfl⟩ := List.mem_map.1 h
    cases e : L.find? (fun q => decide (p.1 = q.1)) with
    | some q => exact ⟨q.2, rfl⟩
    | none =>
      rw [List.find?_eq_none] at e
      have := e p hp
      simp at this

/-! ### how many entries are still to come -/
def iterLeft (b r : Nat) (w : World) : Nat := match w.heap[b]?, w.heap[r]? with
  | some (.map es _), some (.mapIter _ _ seen _) => (leftOf es seen).size
  | _, _ => 0
theorem AIter.count {κ : Type} {ke : κ → Value} {w : World} {b r : Nat} {l left : List (κ × Value)} (h : AIter ke w b r l left) : iterLeft b r w = left.length := by
  obtain ⟨es, clock, since, c0, seen, h1, _, _, _, _, h6, _, _, _, h9, _⟩ := h
  unfold iterLeft
  rw [h1, h6]
  have := congrArg List.length h9
  simpa using this

/-! ### the moves from each head -/
/-- the ends of the moves from a head, among some keys -/
def endsF (K : List Key) (h : Head) : List Int := (K.filter fun k => decide (k.1 = h.1 ∧ k.2.1 = h.2)).map (·.2.2)
theorem endsF_snoc (K : List Key) (p a q : Int) (h : Head) : endsF (K ++ [(p, a, q)]) h = if (p, a) = h then endsF K h ++ [q] else endsF K h := by
  unfold endsF
  rw [List.filter_append]
  obtain ⟨h1, h2⟩ := h
  by_cases e : (p, a) = (h1, h2)
  · rw [if_pos e]
    simp only [Prod.mk.injEq] at e
    simp [e]
  · rw [if_neg e]
    simp only [Prod.mk.injEq] at e
    simp [e]
theorem endsF_mem {K : List Key} {h : Head} {q : Int} : q ∈ endsF K h ↔ (h.1, h.2, q) ∈ K := by
  unfold endsF
  simp only [List.mem_map, List.mem_filter, decide_eq_true_eq]
  constructor
  · rintro ⟨⟨a, b, c⟩, ⟨h1, h2, h3⟩, rfl⟩
    dsimp only at h2 h3
    rw [← h2, ← h3]; exact h1
  · intro h1; exact ⟨_, ⟨h1, rfl, rfl⟩, rfl⟩
theorem endsF_len (K : List Key) (h : Head) : (endsF K h).length ≤ K.length := by
  unfold endsF
  rw [List.length_map]
  exact List.length_filter_le _ _

/-- block b is a map of the ends from each head, each slice owned -/
def SInv (lo : Nat) (w : World) (b : Nat) (f : Head → List Int) : Prop := ∃ S : List (Head × Value), AMap hv w b S ∧
  (∀ h, (f h = [] ∧ aget S h = none) ∨ ∃ v, aget S h = some v ∧ f h ≠ [] ∧ OwnE ElI 3 lo w v (f h)) ∧
  (∀ h h' v v', aget S h = some v → aget S h' = some v' → h ≠ h' → v.ownBlock ≠ v'.ownBlock)
theorem zero48 (w : World) : (zeroValue 48).run Tryd.prog w = .ok (.slice none 0 0) w := by kernel_rfl

theorem OwnE.some {α : Type} {E : El α} {e lo : Nat} {w : World} {v : Value} {l : List α} (h : OwnE E e lo w v l) (hl : l ≠ []) : ∃ g, v.ownBlock = some g ∧ lo ≤ g ∧ g < w.heap.size ∧ ∃ cur, w.heap[g]? = .some (.cells cur e (0, 0)) := by
  rcases h.2 with ⟨rfl, h0⟩ | ⟨g, cap, cur, rfl, hb, hgg, _⟩
  · exact absurd (List.eq_nil_of_length_eq_zero h0) hl
  · exact ⟨g, rfl, hb, (Array.getElem?_eq_some_iff.1 hgg).1, cur, hgg⟩
theorem OwnE.ne_obj {α : Type} {E : El α} {e lo : Nat} {w : World} {v : Value} {l : List α} (h : OwnE E e lo w v l) {r : Nat} {o : Obj} (hr : w.heap[r]? = .some o) (hc : ∀ cur, o ≠ .cells cur e (0, 0)) : v.ownBlock ≠ .some r := by
  intro hv
  rcases h.2 with ⟨rfl, _⟩ | ⟨g, cap, cur, rfl, _, hgg, _⟩
  · exact absurd hv (by simp [Value.ownBlock])
  · have : g = r := by simpa [Value.ownBlock] using hv
    subst this
    rw [hr] at hgg
    exact hc cur (Option.some.inj hgg)
theorem OwnE.ne_map {α : Type} {E : El α} {e lo : Nat} {w : World} {v : Value} {l : List α} (h : OwnE E e lo w v l) {κ : Type} {ke : κ → Value} {b : Nat} {L : List (κ × Value)} (hA : AMap ke w b L) : v.ownBlock ≠ .some b := by
  obtain ⟨es, cl, hb, _⟩ := hA
  exact h.ne_obj hb (fun _ h => by cases h)
/-- what the slice owns stays where its block stays -/
theorem OwnE.of_block {α : Type} {E : El α} {e lo : Nat} {w w' : World} {v : Value} {l : List α} (h : OwnE E e lo w v l) (hb : ∀ g, v.ownBlock = .some g → w'.heap[g]? = w.heap[g]?) : OwnE E e lo w' v l := by
  refine ⟨h.1, ?_⟩
  rcases h.2 with hn | ⟨g, cap, cur, rfl, hbb, hgg, rest⟩
  · exact .inl hn
  · exact .inr ⟨g, cap, cur, rfl, hbb, (hb g rfl).trans hgg, rest⟩

/-- a step that turns one block, which is no slice's and not the map -/
theorem SInv.step {lo : Nat} {w w' : World} {b : Nat} {f : Head → List Int} (h : SInv lo w b f) {row : Option Nat} (hg : w.grownBy w' row) (hb : some b ≠ row) (hr : ∀ r, row = some r → ∀ cur, w.heap[r]? ≠ some (.cells cur 3 (0, 0))) : SInv lo w' b f := by
  obtain ⟨S, hA, hf, hd⟩ := h
  refine ⟨S, hA.kept hg hb, fun x => ?_, hd⟩
  rcases hf x with h1 | ⟨v, h1, h2, h3⟩
  · exact .inl h1
  · refine .inr ⟨v, h1, h2, h3.of_block fun g hgv => ?_⟩
    obtain ⟨g', e1, _, hlt, cur, hc⟩ := h3.some h2
    have : g' = g := Option.some.inj (e1.symm.trans hgv)
    subst this
    exact hg.block g' hlt fun e => hr g' e.symm cur hc

theorem SInv.held {lo : Nat} {w : World} {f : Head → List Int} {S : List (Head × Value)} (hf : ∀ h, (f h = [] ∧ aget S h = none) ∨ ∃ v, aget S h = some v ∧ f h ≠ [] ∧ OwnE ElI 3 lo w v (f h)) (h : Head) :
    OwnE ElI 3 lo w ((aget S h).getD (.slice none 0 0)) (f h) := by
  rcases hf h with ⟨h1, h2⟩ | ⟨v, h1, h2, h3⟩
  · rw [h1, h2]; exact OwnE.nil _ _ _
  · rw [h1]; exact h3

theorem SInv.put {lo : Nat} {w wa w2 w3 : World} {b : Nat} {f : Head → List Int} {S : List (Head × Value)} (hA : AMap hv w b S)
    (hf : ∀ h, (f h = [] ∧ aget S h = none) ∨ ∃ v, aget S h = some v ∧ f h ≠ [] ∧ OwnE ElI 3 lo w v (f h))
    (hd : ∀ h h' v v', aget S h = some v → aget S h' = some v' → h ≠ h' → v.ownBlock ≠ v'.ownBlock)
    (hwa : ∀ g, g < w.heap.size → g ≠ b → wa.heap[g]? = w.heap[g]?) (hsz : w.heap.size ≤ wa.heap.size) {h0 : Head} {q : Int} {v' : Value}
    (ho : OwnE ElI 3 lo w2 v' (f h0 ++ [q])) (hg2 : wa.grownBy w2 ((aget S h0).getD (.slice none 0 0)).ownBlock) (hl : lies wa ((aget S h0).getD (.slice none 0 0)) v')
    (hA3 : AMap hv w3 b (aput S h0 v')) (hg3 : w2.grownBy w3 (some b)) : SInv lo w3 b (fun h => if h = h0 then f h0 ++ [q] else f h) := by
  have hbc : ∀ cur e, w.heap[b]? ≠ some (.cells cur e (0, 0)) := by
    obtain ⟨es, clock, hb, _⟩ := hA
    intro cur e h
    rw [hb] at h; cases h
  -- the block of a slice of S
  have blk : ∀ h v, aget S h = some v → ∃ g, v.ownBlock = some g ∧ g < w.heap.size ∧ g ≠ b ∧ OwnE ElI 3 lo w v (f h) := by
    intro h v hv'
    rcases hf h with ⟨_, h2⟩ | ⟨u, h1, h2, h3⟩
    · rw [h2] at hv'; cases hv'
    · rw [h1] at hv'
      cases hv'
      obtain ⟨g, e1, _, hlt, cur, hc⟩ := h3.some h2
      exact ⟨g, e1, hlt, fun e => hbc cur 3 (by rw [← e]; exact hc), h3⟩
  have hne' : f h0 ++ [q] ≠ [] := by simp
  obtain ⟨g', eg', _, hlt', cur', hc'⟩ := ho.some hne'
  have hg'b : g' ≠ b := by
    rcases hl with e | e
    · intro eb
      rw [eg'] at e
      cases hx : aget S h0 with
      | none => rw [hx] at e; cases e
      | some v =>
        rw [hx] at e
        obtain ⟨g, e1, _, h3, _⟩ := blk h0 v hx
        rw [Option.getD_some, e1] at e
        cases e
        exact h3 eb
    · intro eb
      rw [eg'] at e
      have : b < w.heap.size := hA.lt
      cases e
      omega
  refine ⟨_, hA3, fun h => ?_, ?_⟩
  · by_cases e : h = h0
    · subst e
      refine .inr ⟨v', by rw [aget_aput]; simp, by simp, ?_⟩
      dsimp only
      rw [if_pos rfl]
      refine ho.of_block fun g hg => ?_
      rw [eg'] at hg
      cases hg
      exact hg3.block g' hlt' (by intro e; cases e; exact hg'b rfl)
    · simp only [if_neg e]
      rcases hf h with ⟨h1, h2⟩ | ⟨v, h1, h2, h3⟩
      · exact .inl ⟨h1, by rw [aget_aput, if_neg e]; exact h2⟩
      · refine .inr ⟨v, by rw [aget_aput, if_neg e]; exact h1, h2, h3.of_block fun g hg => ?_⟩
        obtain ⟨g2, e2, hlt, hnb, _⟩ := blk h v h1
        rw [e2] at hg
        have hgg : g2 = g := Option.some.inj hg
        rw [← hgg]
        have hd2 : some g2 ≠ ((aget S h0).getD (.slice none 0 0)).ownBlock := by
          cases hx : aget S h0 with
          | none => intro e; cases e
          | some u =>
            rw [Option.getD_some, ← e2]
            exact hd h h0 v u h1 hx e
        rw [hg3.block g2 (by have := hg2.size; omega) (by intro e; cases e; exact hnb rfl), hg2.block g2 (by omega) hd2, hwa g2 hlt hnb]
  · have key : ∀ h v, h ≠ h0 → aget S h = some v → v.ownBlock ≠ v'.ownBlock := by
      intro h v hne hx
      obtain ⟨g2, e2, hlt, hnb, _⟩ := blk h v hx
      rcases hl with e | e
      · rw [e]
        cases hy : aget S h0 with
        | none => rw [e2]; intro e; cases e
        | some u => rw [Option.getD_some]; exact hd h h0 v u hx hy hne
      · rw [e, e2]
        intro e
        cases e
        omega
    intro h h' v u hv' hu hne
    rw [aget_aput] at hv' hu
    by_cases e1 : h = h0
    · rw [if_pos e1] at hv'
      cases hv'
      rw [if_neg (by rw [← e1]; exact fun e => hne e.symm)] at hu
      exact (key h' u (by rw [← e1]; exact fun e => hne e.symm) hu).symm
    · rw [if_neg e1] at hv'
      by_cases e2 : h' = h0
      · rw [if_pos e2] at hu
        cases hu
        exact key h v e1 hv'
      · rw [if_neg e2] at hu
        exact hd h h' v u hv' hu hne
end Go.Proofs.YtaapnflhjbdmlaaDoor
