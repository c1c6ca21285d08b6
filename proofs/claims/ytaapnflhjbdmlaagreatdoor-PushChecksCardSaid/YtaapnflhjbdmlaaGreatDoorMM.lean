/- Tables of moves with their costs; sets: the moves from each head. No condition. saturate's inner function: a cost that is less. No condition. sets: the walk. No condition. -/
import Derived.Test.YtaapnflhjbdmlaaGreatDoorW7
namespace Go.Proofs.YtaapnflhjbdmlaaGreatDoor
section
open Go.RowKit

def ElI : El Int := ⟨1, fun x => [.int .i64 x], fun _ => rfl, fun x u hu => by
  simp only [List.mem_cons, List.mem_nil_iff, or_false] at hu
  rw [hu]; rfl, by decide⟩
theorem info3 : (Tryz.prog.info? 3).map (fun i => (i.zero, i.size, i.bytes)) = some (some (.int .i64 0), 1, 8) := by kernel_rfl
abbrev costV (c : Cost) : Value := .agg #[.int .i64 c.steps, .int .i64 c.rule, .int .i64 c.middle]
/-- what the list holds at a key -/
def cget (L : List (Key × Cost)) (k : Key) : Option Cost := (L.find? fun p => decide (k = p.1)).map (·.2)
def cval (L : List (Key × Cost)) : List (Key × Value) := L.map fun p => (p.1, costV p.2)
theorem aget_cval (L : List (Key × Cost)) (k : Key) : aget (cval L) k = (cget L k).map costV := by
  unfold aget cget cval
  rw [List.find?_map]
  simp only [Option.map_map]
  rfl
/-- block b is a table of moves -/
def MMap (w : World) (b : Nat) (L : List (Key × Cost)) : Prop := AMap mv w b (cval L)
theorem cval_keys (L : List (Key × Cost)) : (cval L).map (·.1) = L.map (·.1) := by simp [cval, List.map_map, Function.comp_def]
theorem cget_iff {L : List (Key × Cost)} {k : Key} : (∃ c, cget L k = some c) ↔ k ∈ L.map (·.1) := by
  unfold cget
  constructor
  · rintro ⟨c, h⟩
    obtain ⟨p, hp, rfl⟩ := Option.map_eq_some_iff.1 h
    have h1 := List.mem_of_find?_eq_some hp
    have h2 := List.find?_some hp
    simp only [decide_eq_true_eq] at h2
    rw [h2]
    exact List.mem_map.2 ⟨p, h1, rfl⟩
  · intro h
    obtain ⟨p, hp, rfl⟩ := List.mem_map.1 h
    cases e : L.find? (fun q => decide (p.1 = q.1)) with
    | some q => exact ⟨q.2, rfl⟩
    | none =>
      rw [List.find?_eq_none] at e
      have := e p hp
      simp at this

/-! ### how many entries are still to come -/
def iterLeft (b r : Nat) (w : World) : Nat := match w.heap[b]?, w.heap[r]? with
  | some (.map es _), some (.mapIter _ _ seen _) => (leftOf es seen).size
  | _, _ => 0
theorem AIter.count {κ : Type} {ke : κ → Value} {w : World} {b r : Nat} {l left : List (κ × Value)} (h : AIter ke w b r l left) : iterLeft b r w = left.length := by
  obtain ⟨es, clock, since, c0, seen, h1, _, _, _, _, h6, _, _, _, h9, _⟩ := h
  unfold iterLeft
  rw [h1, h6]
  have := congrArg List.length h9
  simpa using this

/-! ### the moves from each head -/
/-- the ends of the moves from a head, among some keys -/
def endsF (K : List Key) (h : Head) : List Int := (K.filter fun k => decide (k.1 = h.1 ∧ k.2.1 = h.2)).map (·.2.2)
theorem endsF_snoc (K : List Key) (p a q : Int) (h : Head) : endsF (K ++ [(p, a, q)]) h = if (p, a) = h then endsF K h ++ [q] else endsF K h := by
  unfold endsF
  rw [List.filter_append]
  obtain ⟨h1, h2⟩ := h
  by_cases e : (p, a) = (h1, h2)
  · rw [if_pos e]
    simp only [Prod.mk.injEq] at e
    simp [e]
  · rw [if_neg e]
    simp only [Prod.mk.injEq] at e
    simp [e]
theorem endsF_mem {K : List Key} {h : Head} {q : Int} : q ∈ endsF K h ↔ (h.1, h.2, q) ∈ K := by
  unfold endsF
  simp only [List.mem_map, List.mem_filter, decide_eq_true_eq]
  constructor
  · rintro ⟨⟨a, b, c⟩, ⟨h1, h2, h3⟩, rfl⟩
    dsimp only at h2 h3
    rw [← h2, ← h3]; exact h1
  · intro h1; exact ⟨_, ⟨h1, rfl, rfl⟩, rfl⟩
theorem endsF_len (K : List Key) (h : Head) : (endsF K h).length ≤ K.length := by
  unfold endsF
  rw [List.length_map]
  exact List.length_filter_le _ _

/-- block b is a map of the ends from each head, each slice owned -/
def SInv (lo : Nat) (w : World) (b : Nat) (f : Head → List Int) : Prop := ∃ S : List (Head × Value), AMap hv w b S ∧
  (∀ h, (f h = [] ∧ aget S h = none) ∨ ∃ v, aget S h = some v ∧ f h ≠ [] ∧ OwnE ElI 3 lo w v (f h)) ∧
  (∀ h h' v v', aget S h = some v → aget S h' = some v' → h ≠ h' → v.ownBlock ≠ v'.ownBlock)
theorem zero48 (w : World) : (zeroValue 26).run Tryz.prog w = .ok (.slice none 0 0) w := by kernel_rfl

theorem OwnE.some {α : Type} {E : El α} {e lo : Nat} {w : World} {v : Value} {l : List α} (h : OwnE E e lo w v l) (hl : l ≠ []) : ∃ g, v.ownBlock = some g ∧ lo ≤ g ∧ g < w.heap.size ∧ ∃ cur, w.heap[g]? = .some (.cells cur e (0, 0)) := by
  rcases h.2 with ⟨rfl, h0⟩ | ⟨g, cap, cur, rfl, hb, hgg, _⟩
  · exact absurd (List.eq_nil_of_length_eq_zero h0) hl
  · exact ⟨g, rfl, hb, (Array.getElem?_eq_some_iff.1 hgg).1, cur, hgg⟩
theorem OwnE.ne_obj {α : Type} {E : El α} {e lo : Nat} {w : World} {v : Value} {l : List α} (h : OwnE E e lo w v l) {r : Nat} {o : Obj} (hr : w.heap[r]? = .some o) (hc : ∀ cur, o ≠ .cells cur e (0, 0)) : v.ownBlock ≠ .some r := by
  intro hv
  rcases h.2 with ⟨rfl, _⟩ | ⟨g, cap, cur, rfl, _, hgg, _⟩
  · exact absurd hv (by simp [Value.ownBlock])
  · have : g = r := by simpa [Value.ownBlock] using hv
    subst this
    rw [hr] at hgg
    exact hc cur (Option.some.inj hgg)
theorem OwnE.ne_map {α : Type} {E : El α} {e lo : Nat} {w : World} {v : Value} {l : List α} (h : OwnE E e lo w v l) {κ : Type} {ke : κ → Value} {b : Nat} {L : List (κ × Value)} (hA : AMap ke w b L) : v.ownBlock ≠ .some b := by
  obtain ⟨es, cl, hb, _⟩ := hA
  exact h.ne_obj hb (fun _ h => by cases h)
/-- what the slice owns stays where its block stays -/
theorem OwnE.of_block {α : Type} {E : El α} {e lo : Nat} {w w' : World} {v : Value} {l : List α} (h : OwnE E e lo w v l) (hb : ∀ g, v.ownBlock = .some g → w'.heap[g]? = w.heap[g]?) : OwnE E e lo w' v l := by
  refine ⟨h.1, ?_⟩
  rcases h.2 with hn | ⟨g, cap, cur, rfl, hbb, hgg, rest⟩
  · exact .inl hn
  · exact .inr ⟨g, cap, cur, rfl, hbb, (hb g rfl).trans hgg, rest⟩

/-- a step that turns one block, which is no slice's and not the map -/
theorem SInv.step {lo : Nat} {w w' : World} {b : Nat} {f : Head → List Int} (h : SInv lo w b f) {row : Option Nat} (hg : w.grownBy w' row) (hb : some b ≠ row) (hr : ∀ r, row = some r → ∀ cur, w.heap[r]? ≠ some (.cells cur 3 (0, 0))) : SInv lo w' b f := by
  obtain ⟨S, hA, hf, hd⟩ := h
  refine ⟨S, hA.kept hg hb, fun x => ?_, hd⟩
  rcases hf x with h1 | ⟨v, h1, h2, h3⟩
  · exact .inl h1
  · refine .inr ⟨v, h1, h2, h3.of_block fun g hgv => ?_⟩
    obtain ⟨g', e1, _, hlt, cur, hc⟩ := h3.some h2
    have : g' = g := Option.some.inj (e1.symm.trans hgv)
    subst this
    exact hg.block g' hlt fun e => hr g' e.symm cur hc

theorem SInv.held {lo : Nat} {w : World} {f : Head → List Int} {S : List (Head × Value)} (hf : ∀ h, (f h = [] ∧ aget S h = none) ∨ ∃ v, aget S h = some v ∧ f h ≠ [] ∧ OwnE ElI 3 lo w v (f h)) (h : Head) :
    OwnE ElI 3 lo w ((aget S h).getD (.slice none 0 0)) (f h) := by
  rcases hf h with ⟨h1, h2⟩ | ⟨v, h1, h2, h3⟩
  · rw [h1, h2]; exact OwnE.nil _ _ _
  · rw [h1]; exact h3

theorem SInv.put {lo : Nat} {w wa w2 w3 : World} {b : Nat} {f : Head → List Int} {S : List (Head × Value)} (hA : AMap hv w b S)
    (hf : ∀ h, (f h = [] ∧ aget S h = none) ∨ ∃ v, aget S h = some v ∧ f h ≠ [] ∧ OwnE ElI 3 lo w v (f h))
    (hd : ∀ h h' v v', aget S h = some v → aget S h' = some v' → h ≠ h' → v.ownBlock ≠ v'.ownBlock)
    (hwa : ∀ g, g < w.heap.size → g ≠ b → wa.heap[g]? = w.heap[g]?) (hsz : w.heap.size ≤ wa.heap.size) {h0 : Head} {q : Int} {v' : Value}
    (ho : OwnE ElI 3 lo w2 v' (f h0 ++ [q])) (hg2 : wa.grownBy w2 ((aget S h0).getD (.slice none 0 0)).ownBlock) (hl : lies wa ((aget S h0).getD (.slice none 0 0)) v')
    (hA3 : AMap hv w3 b (aput S h0 v')) (hg3 : w2.grownBy w3 (some b)) : SInv lo w3 b (fun h => if h = h0 then f h0 ++ [q] else f h) := by
  have hbc : ∀ cur e, w.heap[b]? ≠ some (.cells cur e (0, 0)) := by
    obtain ⟨es, clock, hb, _⟩ := hA
    intro cur e h
    rw [hb] at h; cases h
  -- the block of a slice of S
  have blk : ∀ h v, aget S h = some v → ∃ g, v.ownBlock = some g ∧ g < w.heap.size ∧ g ≠ b ∧ OwnE ElI 3 lo w v (f h) := by
    intro h v hv'
    rcases hf h with ⟨_, h2⟩ | ⟨u, h1, h2, h3⟩
    · rw [h2] at hv'; cases hv'
    · rw [h1] at hv'
      cases hv'
      obtain ⟨g, e1, _, hlt, cur, hc⟩ := h3.some h2
      exact ⟨g, e1, hlt, fun e => hbc cur 3 (by rw [← e]; exact hc), h3⟩
  have hne' : f h0 ++ [q] ≠ [] := by simp
  obtain ⟨g', eg', _, hlt', cur', hc'⟩ := ho.some hne'
  have hg'b : g' ≠ b := by
    rcases hl with e | e
    · intro eb
      rw [eg'] at e
      cases hx : aget S h0 with
      | none => rw [hx] at e; cases e
      | some v =>
        rw [hx] at e
        obtain ⟨g, e1, _, h3, _⟩ := blk h0 v hx
        rw [Option.getD_some, e1] at e
        cases e
        exact h3 eb
    · intro eb
      rw [eg'] at e
      have : b < w.heap.size := hA.lt
      cases e
      omega
  refine ⟨_, hA3, fun h => ?_, ?_⟩
  · by_cases e : h = h0
    · subst e
      refine .inr ⟨v', by rw [aget_aput]; simp, by simp, ?_⟩
      dsimp only
      rw [if_pos rfl]
      refine ho.of_block fun g hg => ?_
      rw [eg'] at hg
      cases hg
      exact hg3.block g' hlt' (by intro e; cases e; exact hg'b rfl)
    · simp only [if_neg e]
      rcases hf h with ⟨h1, h2⟩ | ⟨v, h1, h2, h3⟩
      · exact .inl ⟨h1, by rw [aget_aput, if_neg e]; exact h2⟩
      · refine .inr ⟨v, by rw [aget_aput, if_neg e]; exact h1, h2, h3.of_block fun g hg => ?_⟩
        obtain ⟨g2, e2, hlt, hnb, _⟩ := blk h v h1
        rw [e2] at hg
        have hgg : g2 = g := Option.some.inj hg
        rw [← hgg]
        have hd2 : some g2 ≠ ((aget S h0).getD (.slice none 0 0)).ownBlock := by
          cases hx : aget S h0 with
          | none => intro e; cases e
          | some u =>
            rw [Option.getD_some, ← e2]
            exact hd h h0 v u h1 hx e
        rw [hg3.block g2 (by have := hg2.size; omega) (by intro e; cases e; exact hnb rfl), hg2.block g2 (by omega) hd2, hwa g2 hlt hnb]
  · have key : ∀ h v, h ≠ h0 → aget S h = some v → v.ownBlock ≠ v'.ownBlock := by
      intro h v hne hx
      obtain ⟨g2, e2, hlt, hnb, _⟩ := blk h v hx
      rcases hl with e | e
      · rw [e]
        cases hy : aget S h0 with
        | none => rw [e2]; intro e; cases e
        | some u => rw [Option.getD_some]; exact hd h h0 v u hx hy hne
      · rw [e, e2]
        intro e
        cases e
        omega
    intro h h' v u hv' hu hne
    rw [aget_aput] at hv' hu
    by_cases e1 : h = h0
    · rw [if_pos e1] at hv'
      cases hv'
      rw [if_neg (by rw [← e1]; exact fun e => hne e.symm)] at hu
      exact (key h' u (by rw [← e1]; exact fun e => hne e.symm) hu).symm
    · rw [if_neg e1] at hv'
      by_cases e2 : h' = h0
      · rw [if_pos e2] at hu
        cases hu
        exact key h v e1 hv'
      · rw [if_neg e2] at hu
        exact hd h h' v u hv' hu hne
end
section
open Go.RowKit
attribute [local go_sem] Oper.semAt_some

/-- nothing that lay has turned but some blocks -/
structure BX (xs : List Nat) (w w' : World) : Prop where
  os : w'.os = w.os
  tape : w'.tape = w.tape
  output : w'.output = w.output
  size : w.heap.size ≤ w'.heap.size
  block : ∀ k, k < w.heap.size → k ∉ xs → w'.heap[k]? = w.heap[k]?
theorem BX.refl (xs : List Nat) (w : World) : BX xs w w := ⟨rfl, rfl, rfl, Nat.le_refl _, fun _ _ _ => rfl⟩
theorem BX.trans {xs : List Nat} {a b c : World} (h : BX xs a b) (h2 : BX xs b c) : BX xs a c :=
  ⟨h2.os.trans h.os, h2.tape.trans h.tape, h2.output.trans h.output, Nat.le_trans h.size h2.size, fun k hk hx => (h2.block k (Nat.lt_of_lt_of_le hk h.size) hx).trans (h.block k hk hx)⟩
theorem BX.of_below {xs : List Nat} {w w' : World} (h : Below w.heap.size w w') : BX xs w w' := ⟨h.os, h.tape, h.output, h.size, fun k hk _ => h.block k hk⟩
theorem BX.of_grown {xs : List Nat} {w w' : World} {b : Nat} (h : w.grownBy w' (some b)) (hb : b ∈ xs) : BX xs w w' := ⟨h.os, h.tape, h.output, h.size, fun k hk hx => h.block k hk (by intro e; cases e; exact hx hb)⟩
theorem BX.below {xs : List Nat} {w w' : World} (h : BX xs w w') {B : Nat} (hB : B ≤ w.heap.size) (hx : ∀ x ∈ xs, B ≤ x) : Below B w w' := ⟨h.os, h.tape, h.output, h.size, fun k hk => h.block k (by omega) (fun hm => by have := hx k hm; omega)⟩
theorem BX.cell {xs : List Nat} {w w' : World} (h : BX xs w w') {p : Addr} {c : Value} (hc : w.cell? p = some c) (hx : p.block ∉ xs) : w'.cell? p = some c := (World.cell?_of_block (h.block p.block (lt_of_cell hc) hx)).trans hc
theorem BX.set {xs : List Nat} {w w' : World} (h : BX xs w w') {p : Addr} (hp : p.block ∈ xs) (u : Value) : BX xs w (w'.setCell p u) :=
  ⟨h.os, h.tape, h.output, by simpa [World.setCell] using h.size, fun k hk hx => (Below.heap_setCell w' p u k (fun e => hx (by rw [e]; exact hp))).trans (h.block k hk hx)⟩
theorem Blk.bx {xs : List Nat} {w w' : World} {g t : Nat} {cs : Array Value} (h : Blk w g t cs) (hb : BX xs w w') (hx : g ∉ xs) : Blk w' g t cs := (hb.block g h.lt hx).trans h
theorem BX.mono {xs ys : List Nat} {w w' : World} (h : BX xs w w') (hs : ∀ x ∈ xs, x ∈ ys) : BX ys w w' := ⟨h.os, h.tape, h.output, h.size, fun k hk hx => h.block k hk (fun hm => hx (hs k hm))⟩

/-- the list behind a store -/
def cput (L : List (Key × Cost)) (k : Key) (c : Cost) : List (Key × Cost) := if (cget L k).isSome then L.map (fun p => if k = p.1 then (p.1, c) else p) else L ++ [(k, c)]
theorem aput_cval (L : List (Key × Cost)) (k : Key) (c : Cost) : aput (cval L) k (costV c) = cval (cput L k c) := by
  unfold aput cput
  rw [aget_cval]
  by_cases h : (cget L k).isSome = true
  · rw [if_pos (by simpa using h), if_pos h]
    unfold cval
    rw [List.map_map, List.map_map]
    refine List.map_congr_left fun p _ => ?_
    simp only [Function.comp]
    split <;> rfl
  · rw [if_neg (by simpa using h), if_neg h]
    simp [cval]
theorem costV_inj {a b : Cost} (h : costV a = costV b) : a = b := by
  obtain ⟨a1, a2, a3⟩ := a
  obtain ⟨b1, b2, b3⟩ := b
  simp at h
  obtain ⟨rfl, rfl, rfl⟩ := h
  rfl
theorem cget_cput (L : List (Key × Cost)) (k k' : Key) (c : Cost) : cget (cput L k c) k' = if k' = k then some c else cget L k' := by
  have h := aget_aput (cval L) k k' (costV c)
  rw [aput_cval, aget_cval, aget_cval] at h
  by_cases e : k' = k
  · rw [if_pos e] at h ⊢
    cases hx : cget (cput L k c) k' with
    | none => rw [hx] at h; cases h
    | some d => rw [hx] at h; exact congrArg some (costV_inj (Option.some.inj h))
  · rw [if_neg e] at h ⊢
    cases hx : cget (cput L k c) k' with
    | none => rw [hx] at h; cases hy : cget L k' with
      | none => rfl
      | some d => rw [hy] at h; cases h
    | some d =>
      rw [hx] at h
      cases hy : cget L k' with
      | none => rw [hy] at h; cases h
      | some d' => rw [hy] at h; exact congrArg some (costV_inj (Option.some.inj h))

/-- whether a cost is less than what is known, and the table then -/
def isLess (L : List (Key × Cost)) (k : Key) (c : Cost) : Bool := match cget L k with
  | none => true
  | some d => decide (c.steps < d.steps)
def lessL (L : List (Key × Cost)) (k : Key) (c : Cost) : List (Key × Cost) := if isLess L k c then cput L k ⟨min c.steps far, c.rule, c.middle⟩ else L

theorem zero96 (w : World) : (zeroValue 106).run Tryz.prog w = .ok (costV ⟨0, 0, 0⟩) w := by kernel_rfl

set_option maxHeartbeats 2000000 in
theorem less_any (w : World) (Bm Bc b : Nat) (L : List (Key × Cost)) (k1 k2 k3 s r m : Int) (v0 : Bool) (hm : w.cell? ⟨Bm, 0, none⟩ = some (.map (some b))) (hc : Blk w Bc 4 #[.bool v0]) (hL : MMap w b L)
    (hfar : ∀ d, cget L (k1, k2, k3) = some d → d.steps ≤ far) (hbc : b ≠ Bc) (hbm : b ≠ Bm ∧ Bc ≠ Bm) :
    Calls Tryz.prog 58 #[mv (k1, k2, k3), costV ⟨s, r, m⟩, .pointer (some ⟨Bm, 0, none⟩), .pointer (some ⟨Bc, 0, none⟩)] w fun e w' => e = .returned (.tuple #[]) ∧ MMap w' b (lessL L (k1, k2, k3) ⟨s, r, m⟩) ∧ Blk w' Bc 4 #[.bool (v0 || isLess L (k1, k2, k3) ⟨s, r, m⟩)] ∧ BX [b, Bc] w w' := by
  unfold MMap at *
  have B3 : ∀ o1 o2 o3, Below w.heap.size w (((w.alloc o1).alloc o2).alloc o3) := fun o1 o2 o3 => bthen (below1 _ _) (bthen (below1 _ _) (below1 _ _))
  have hL2 := Lib.hid (fun o1 o2 => AMap.below hL (bthen (below1 w o1) (below1 _ o2)) (AMap.lt hL))
  have hL3 := Lib.hid (fun o1 o2 o3 => AMap.below hL (B3 o1 o2 o3) (AMap.lt hL))
  have hm2 := fun o1 o2 => cell_below hm (bthen (below1 w o1) (below1 _ o2))
  have hm3 := fun o1 o2 o3 => cell_below hm (B3 o1 o2 o3)
  have hc3 := Lib.hid (fun o1 o2 o3 => Blk.below hc (B3 o1 o2 o3) hc.lt)
  replace B3 := Lib.hid B3
  have hltc := hc.lt
  clear hL hc hm
  have hag := aget_cval L (k1, k2, k3)
  cases hg : cget L (k1, k2, k3) with
  | none =>
    have hi := Lib.hid (show isLess L (k1, k2, k3) ⟨s, r, m⟩ = true by unfold isLess; rw [hg])
    rw [hg] at hag
    replace hag := Lib.hid hag
    have hput := Lib.hid (aput_cval L (k1, k2, k3) ⟨min s far, r, m⟩)
    go_enter Tryz.func58, Tryz.ntmps58
    go_wp2_with (first
      | (at_lookup; refine wpList_lookup_ok_a _ rfl (.tmp 9) (.tmp 10) 81 rfl 104 106 key94 Tryz.underlying81 (zero96 _) rfl (hL2.out _ _) (k1, k2, k3) rfl (costV ⟨0, 0, 0⟩) (by rw [hag.out]; rfl) false (by rw [hag.out]; rfl) ?_)
      | (at_mapUpdate; refine wpList_mapUpdate_a _ rfl (.tmp 35) (.tmp 36) (.tmp 37) 81 rfl 104 106 key94 Tryz.underlying81 rfl (hL3.out _ _ _) (k1, k2, k3) rfl (costV ⟨min s far, r, m⟩) rfl ?_; intro w2 hA2 hg2 hs2; have kc : Blk w2 Bc 4 #[.bool v0] := (hg2.block _ (hc3.out _ _ _).lt (by simp; omega)).trans (hc3.out _ _ _); have c0 := kc.cell 0; have f0 := kc.free 0; simp at c0; have kc := Lib.hid kc; have hA2 := Lib.hid hA2; have hbx := Lib.hid ((BX.of_below (xs := [b, Bc]) (B3.out _ _ _)).trans (BX.of_grown hg2 (by simp))); clear hg2 hs2))
    go_end0
    refine ⟨rfl, ?_, ?_, hbx.out.set (by simp) _⟩
    · unfold lessL
      rw [hi.out, if_pos rfl, ← hput.out]
      exact hA2.out.setCell _ _
    · have := kc.out.set 0 (.bool true)
      rw [hi.out, Bool.or_true]
      simpa using this
  | some d =>
    have hd := hfar d hg
    rw [hg] at hag
    replace hag := Lib.hid hag
    obtain ⟨d1, d2, d3⟩ := d
    dsimp only at hd
    unfold far at hd
    have hput := Lib.hid (aput_cval L (k1, k2, k3) ⟨min s far, r, m⟩)
    by_cases hlt : s < d1
    · have hne : (min s 1099511627776 == d1) = false := by simp; omega
      have hi := Lib.hid (show isLess L (k1, k2, k3) ⟨s, r, m⟩ = true by unfold isLess; rw [hg]; simp [hlt])
      go_enter Tryz.func58, Tryz.ntmps58
      go_wp2_with (first
        | (at_lookup; refine wpList_lookup_ok_a _ rfl (.tmp 9) (.tmp 10) 81 rfl 104 106 key94 Tryz.underlying81 (zero96 _) rfl (hL2.out _ _) (k1, k2, k3) rfl (costV ⟨d1, d2, d3⟩) (by rw [hag.out]; rfl) true (by rw [hag.out]; rfl) ?_)
        | (at_mapUpdate; refine wpList_mapUpdate_a _ rfl (.tmp 35) (.tmp 36) (.tmp 37) 81 rfl 104 106 key94 Tryz.underlying81 rfl (hL3.out _ _ _) (k1, k2, k3) rfl (costV ⟨min s far, r, m⟩) rfl ?_; intro w2 hA2 hg2 hs2; have kc : Blk w2 Bc 4 #[.bool v0] := (hg2.block _ (hc3.out _ _ _).lt (by simp; omega)).trans (hc3.out _ _ _); have c0 := kc.cell 0; have f0 := kc.free 0; simp at c0; have kc := Lib.hid kc; have hA2 := Lib.hid hA2; have hbx := Lib.hid ((BX.of_below (xs := [b, Bc]) (B3.out _ _ _)).trans (BX.of_grown hg2 (by simp))); clear hg2 hs2))
      go_end0
      refine ⟨rfl, ?_, ?_, hbx.out.set (by simp) _⟩
      · unfold lessL
        rw [hi.out, if_pos rfl, ← hput.out]
        exact hA2.out.setCell _ _
      · have := kc.out.set 0 (.bool true)
        rw [hi.out, Bool.or_true]
        simpa using this
    · have hi := Lib.hid (show isLess L (k1, k2, k3) ⟨s, r, m⟩ = false by unfold isLess; rw [hg]; simp; omega)
      go_enter Tryz.func58, Tryz.ntmps58
      go_wp2_with (first
        | (at_lookup; refine wpList_lookup_ok_a _ rfl (.tmp 9) (.tmp 10) 81 rfl 104 106 key94 Tryz.underlying81 (zero96 _) rfl (hL2.out _ _) (k1, k2, k3) rfl (costV ⟨d1, d2, d3⟩) (by rw [hag.out]; rfl) true (by rw [hag.out]; rfl) ?_))
      go_end0
      refine ⟨rfl, ?_, ?_, BX.of_below (B3.out _ _ _)⟩
      · unfold lessL
        rw [hi.out]; exact hL3.out _ _ _
      · rw [hi.out, Bool.or_false]; exact hc3.out _ _ _
end
section
open Go.RowKit
attribute [local go_sem] Oper.semAt_some

/-- the ends of the moves in L, from each head -/
def EndsOk (L : List (Key × Cost)) (f : Head → List Int) : Prop := (∀ h q, q ∈ f h ↔ (h.1, h.2, q) ∈ L.map (·.1)) ∧ ∀ h, (f h).length ≤ L.length
/-- block b is a map of the ends of the moves in L, from each head -/
def SetsOk (lo : Nat) (w : World) (b : Nat) (L : List (Key × Cost)) : Prop := ∃ f : Head → List Int, SInv lo w b f ∧ EndsOk L f

theorem keys_left {w : World} {b r : Nat} {l left : List (Key × Value)} (h : AIter mv w b r l left) : ∀ x ∈ left, x ∈ l := fun _ hx => h.sub.subset hx

theorem ex_mem {α β : Type} {l : List (α × β)} {k : α} : (∃ x, (k, x) ∈ l) ↔ k ∈ l.map (·.1) := by
  constructor
  · rintro ⟨x, h⟩; exact List.mem_map.2 ⟨_, h, rfl⟩
  · intro h; obtain ⟨⟨a, b⟩, h2, rfl⟩ := List.mem_map.1 h; exact ⟨b, h2⟩

set_option maxHeartbeats 2000000 in
theorem sets_any (w : World) (b : Nat) (L : List (Key × Cost)) (h : MMap w b L) (hlen : L.length ≤ 900000) :
    Calls Tryz.prog 55 #[.map (some b)] w fun e w' => ∃ b2, e = .returned (.map (some b2)) ∧ w.heap.size ≤ b2 ∧ SetsOk w.heap.size w' b2 L ∧ Below w.heap.size w w' := by
  unfold MMap at h
  have hbl := h.lt
  obtain ⟨W, hW⟩ : ∃ W, w.alloc (.map #[] 0) = W := ⟨_, rfl⟩
  have hB : Below w.heap.size w W := by rw [← hW]; exact below1 _ _
  have hA2 : AMap hv W w.heap.size [] := by rw [← hW]; exact AMap.made hv w
  have h1 : AMap mv W b (cval L) := h.below hB hbl
  have hz : W.heap.size = w.heap.size + 1 := by rw [← hW, alloc_size]
  have hS : SInv w.heap.size W w.heap.size (endsF []) := ⟨[], hA2, fun h => .inl ⟨rfl, rfl⟩, fun h h' v v' e => by cases e⟩
  replace hS := Lib.hid hS
  replace hB := Lib.hid hB
  replace h1 := Lib.hid h1
  replace hbl := Lib.hid hbl
  clear h hA2
  have hmk : (Instr.makeMap 114 none).run Tryz.prog w = .ok (.map (some w.heap.size)) W := by rw [← hW]; kernel_rfl
  go_enter Tryz.func55, Tryz.ntmps55
  go_wp2_with (at_range; refine wpList_range_a _ rfl (.tmp 6) 81 rfl 104 106 Tryz.underlying81 rfl h1.out ?_; intro w1 hit hg1 hs1)
  have hS1 := Lib.hid (hS.out.step hg1 (by simp) (by intro r e; cases e))
  have hB1 := Lib.hid (hB.out.trans (below_of_grown hg1 hB.out.size (by intro k e; cases e)))
  clear hS hmk hW
  go_frame
  go_loopw [8] (fun _ wr => ∃ (left : List (Key × Value)) (K : List Key), Hid (AIter mv wr b W.heap.size (cval L) left) ∧ Hid (SInv w.heap.size wr w.heap.size (endsF K)) ∧ Hid (∀ k, (k ∈ K ∨ k ∈ left.map (·.1)) ↔ k ∈ L.map (·.1)) ∧
      Hid (K.length + left.length = L.length) ∧ Hid (Below w.heap.size w wr)) (fun _ wr => iterLeft b W.heap.size wr)
  case atStart => exact ⟨cval L, [], hit, hS1, fun k => by rw [cval_keys]; simp, by unfold Hid; simp [cval], hB1⟩
  case round =>
    obtain ⟨left, K, hI, hS, hk, hl, hBr⟩ := hrel
    have hcnt := Lib.hid hI.out.count
    go_wp2_with (at_next; refine wpList_next_a _ rfl (.tmp 7) rfl rfl hI.out ?_ ?_)
    · intro h0
      have hfin := Lib.hid (show ∀ h q, q ∈ endsF K h ↔ (h.1, h.2, q) ∈ L.map (·.1) from fun h q => by
        rw [endsF_mem, ← hk.out, h0]; simp)
      have hfin2 := Lib.hid (show ∀ h, (endsF K h).length ≤ L.length from fun h => by
        have h1 := endsF_len K h
        have h2 := hl.out
        omega)
      clear h0
      go_wp2
      go_ret
      exact ⟨_, rfl, Nat.le_refl _, ⟨_, hS.out, hfin.out, hfin2.out⟩, hBr.out⟩
    · intro pre p a q v post w' hleft hI2 hg2 hs2 hent
      have hit0 : ∀ cur, wr.heap[w.heap.size + 1]? ≠ some (.cells cur 3 (0, 0)) := by
        obtain ⟨_, _, _, _, _, _, _, _, _, _, h6, _⟩ := hI.out
        intro cur h
        rw [hz] at h6
        rw [h6] at h
        cases h
      have hS2 := hS.out.step hg2 (by simp) (by intro r e; cases e; exact hit0)
      have hB2 := hBr.out.trans (below_of_grown hg2 hBr.out.size (by intro k e; cases e; omega))
      obtain ⟨o1, ho1⟩ : ∃ o1 : Obj, o1 = .cells #[.int .i64 p, .int .u8 a, .int .i64 q] 104 := ⟨_, rfl⟩
      obtain ⟨o2, ho2⟩ : ∃ o2 : Obj, o2 = .cells #[.int .i64 q] 3 := ⟨_, rfl⟩
      have hS3 := (hS2.step (World.grownBy_alloc w' o1 none) (by simp) (by intro r e; cases e)).step (World.grownBy_alloc _ o2 none) (by simp) (by intro r e; cases e)
      have hBA : Below w'.heap.size w' ((w'.alloc o1).alloc o2) := bthen (below1 _ _) (below1 _ _)
      have hzA : ((w'.alloc o1).alloc o2).heap.size = w'.heap.size + 1 + 1 := by rw [alloc_size, alloc_size]
      have kn : Blk ((w'.alloc o1).alloc o2) (w'.heap.size + 1) 3 #[.int .i64 q] := by rw [ho2]; have := Blk.new (w'.alloc o1) 3 #[.int .i64 q]; rwa [alloc_size] at this
      obtain ⟨S, hA, hf, hd⟩ := hS3
      obtain ⟨v0, hv0⟩ : ∃ v0, (aget S (p, a)).getD (.slice none 0 0) = v0 := ⟨_, rfl⟩
      have how := SInv.held hf (p, a)
      rw [hv0] at how
      have hbr : w.heap.size + 1 < w'.heap.size := by have := hI2.lt.2; omega
      have hall := Lib.hid (And.intro hA (And.intro hf (And.intro hd (And.intro how (And.intro hB2 (And.intro hBA kn))))))
      replace hleft := Lib.hid hleft
      replace hI2 := Lib.hid hI2
      replace hv0 := Lib.hid hv0
      clear hA hf hd how hB2 hBA kn hS2 hg2 hit0
      unfold mv at hent
      replace hs2 := Lib.hid hs2
      go_wp2_with (first
        | (refine wpList_mapEntry_a _ rfl (.tmp 12) (.tmp 14) 114 rfl 102 26 key77 Tryz.underlying114 (zero48 _) rfl (by rw [← ho1, ← ho2]; exact hall.out.1) (p, a) rfl v0 hv0.out ?_; intro w2 st hE hg3 hs3; rw [← ho1, ← ho2] at hg3 hs3; have hE := Lib.hid hE; have hg3 := Lib.hid hg3; have hs3 := Lib.hid hs3)
        | (at_builtin; refine wpList_append_els (E := ElI) _ rfl (.tmp 15) (.tmp 18) 26 rfl w.heap.size Tryz.underlying26 info3 rfl rfl (by decide) v0 (endsF K (p, a)) rfl ?ho (.slice (some ⟨w'.heap.size + 1, 0, none⟩) 1 1) rfl [q] ?hn ?hl ?hs ?_; rotate_left 4; intro v2 w3 ho3 hb3 hg4 hl4; obtain ⟨A2, n2, c2, rfl, hn2⟩ := OwnE.shape ho3; have ho3 := Lib.hid ho3; have hb3 := Lib.hid hb3; have hg4 := Lib.hid hg4; have hl4 := Lib.hid hl4)
        | (refine wpList_entryStore_a _ rfl (.tmp 12) (.tmp 21) (.tmp 20) 114 rfl rfl hE.out ?hb rfl (.slice A2 n2 c2) rfl ?_; rotate_left 1; intro w4 hA4 hg5 hs5))
      case ho =>
        obtain ⟨hA, hf, hd, how, hB2, hBA, kn⟩ := hall.out
        exact how.of_block fun g hg => hg3.out.block g (how.lt g hg).2 fun e => how.ne_map hA (by rw [hg, e])
      case hn =>
        obtain ⟨hA, hf, hd, how, hB2, hBA, kn⟩ := hall.out
        exact els_one (E := ElI) (t := 3) (cs := #[.int .i64 q]) ((hg3.out.block _ kn.lt (by simp; omega)).trans kn) rfl
      case hl =>
        have := endsF_len K (p, a)
        have := hl.out
        omega
      case hs =>
        obtain ⟨hA, hf, hd, how, hB2, hBA, kn⟩ := hall.out
        omega
      case hb =>
        obtain ⟨hA, hf, hd, how, hB2, hBA, kn⟩ := hall.out
        have hlt := hA.lt
        exact hg4.out.block _ (by have := hg3.out.size; omega) fun e => how.ne_map hA e.symm
      obtain ⟨hA, hf, hd, how, hB2, hBA, kn⟩ := hall.out
      have hnew := SInv.put hA hf hd (wa := w2) (fun g hg hne => hg3.out.block g hg (by intro e; cases e; exact hne rfl)) hg3.out.size ho3.out (by rw [hv0.out]; exact hg4.out) (by rw [hv0.out]; exact hl4.out) hA4 hg5
      have hfe : (fun h => if h = (p, a) then endsF K (p, a) ++ [q] else endsF K h) = endsF (K ++ [(p, a, q)]) := by
        funext h
        rw [endsF_snoc]
        by_cases e : h = (p, a)
        · rw [if_pos e, if_pos e.symm, e]
        · rw [if_neg e, if_neg (fun e' => e e'.symm)]
      rw [hfe] at hnew
      have hbb : b < w.heap.size := hbl.out
      have hBX : Below w.heap.size w' w4 := by
        have x1 := hBA.mono (B' := w.heap.size) (by omega)
        have x2 := below_of_grown hg3.out (B := w.heap.size) (by omega) (by intro k e; cases e; omega)
        have x3 := hb3.out
        have x4 := below_of_grown hg5 (B := w.heap.size) (by have := hg3.out.size; have := hg4.out.size; omega) (by intro k e; cases e; omega)
        exact ((x1.trans x2).trans x3).trans x4
      have hrr : w4.heap[w.heap.size + 1]? = w'.heap[w.heap.size + 1]? := by
        have hne : v0.ownBlock ≠ some (w.heap.size + 1) := by
          obtain ⟨_, _, _, _, _, _, _, _, _, _, h6, _⟩ := hI2.out
          exact how.ne_obj ((hBA.block _ hbr).trans h6) (fun _ h => by cases h)
        rw [hg5.block _ (by have := hg3.out.size; have := hg4.out.size; omega) (by simp), hg4.out.block _ (by have := hg3.out.size; omega) (fun e => hne e.symm), hg3.out.block _ (by omega) (by simp), hBA.block _ hbr]
      have hI4 : AIter mv w4 b (w.heap.size + 1) (cval L) (pre ++ post) := by
        exact hI2.out.of_block (hBX.block b hbb) hrr
      refine ⟨⟨pre ++ post, hI4, K ++ [(p, a, q)], hnew, ?_, ?_, hB2.trans hBX⟩, ?_⟩
      · intro x1 x2 x3
        have h1 := hk.out (x1, x2, x3)
        rw [hleft.out] at h1
        rw [ex_mem (l := L), ← h1]
        rw [ex_mem (l := pre ++ post)]
        simp only [List.mem_append, List.map_append, List.map_cons, List.mem_cons]
        generalize (x1, x2, x3) = k
        simp only [List.not_mem_nil, or_false]
        constructor
        · rintro ((h | h) | h | h) <;> simp [h]
        · rintro (h | h | h | h) <;> simp [h]
      · have h1 := hl.out
        rw [hleft.out] at h1
        show (K ++ [(p, a, q)]).length + (pre ++ post).length = L.length
        simp at h1 ⊢
        omega
      · rw [hI4.count]
        have h1 := hcnt.out
        rw [hz] at h1
        rw [h1, hleft.out]
        simp only [List.length_append, List.length_cons]
        omega
end
end Go.Proofs.YtaapnflhjbdmlaaGreatDoor
