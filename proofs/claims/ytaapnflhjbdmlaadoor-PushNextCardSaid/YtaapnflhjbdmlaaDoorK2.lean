/- Run's inner function: the rules of a move, one after the other. No condition. -/
import Derived.Test.YtaapnflhjbdmlaaDoorK1
namespace Go.Proofs.YtaapnflhjbdmlaaDoor
open Go.RowKit Go.Shelf
attribute [local go_sem] Oper.semAt_some

/-- what stays and what the slice in block Bo has become -/
structure FolKeep (Bo : Nat) (w w' : World) (v v' : Value) : Prop where
  size : w.heap.size ≤ w'.heap.size
  block : ∀ k, k < w.heap.size → k ≠ Bo → v.ownBlock ≠ some k → w'.heap[k]? = w.heap[k]?
  own : v'.ownBlock = v.ownBlock ∨ ∃ g, v'.ownBlock = some g ∧ w.heap.size ≤ g
theorem FolKeep.refl (Bo : Nat) (w : World) (v : Value) : FolKeep Bo w w v v := ⟨Nat.le_refl _, fun _ _ _ _ => rfl, .inl rfl⟩
theorem FolKeep.trans {Bo : Nat} {a b c : World} {u v x : Value} (h : FolKeep Bo a b u v) (h2 : FolKeep Bo b c v x) : FolKeep Bo a c u x := by
  refine ⟨Nat.le_trans h.size h2.size, fun k hk h1 h3 => ?_, ?_⟩
  · refine (h2.block k (Nat.lt_of_lt_of_le hk h.size) h1 fun e => ?_).trans (h.block k hk h1 h3)
    rcases h.own with h4 | ⟨g, h4, h5⟩
    · exact h3 (h4.symm.trans e)
    · rw [h4] at e; cases e; omega
  · rcases h2.own with h4 | ⟨g, h4, h5⟩
    · rcases h.own with h6 | ⟨g, h6, h7⟩
      · exact .inl (h4.trans h6)
      · exact .inr ⟨g, h4.trans h6, h7⟩
    · exact .inr ⟨g, h4, Nat.le_trans h.size h5⟩
theorem FolKeep.below {Bo : Nat} {a b c : World} {u v : Value} (h : FolKeep Bo a b u v) (hb : Below b.heap.size b c) : FolKeep Bo a c u v :=
  h.trans ⟨hb.size, fun k hk _ _ => hb.block k hk, .inl rfl⟩
theorem FolKeep.cell {Bo : Nat} {w w' : World} {v v' : Value} (h : FolKeep Bo w w' v v') {p : Addr} {c : Value} (hc : w.cell? p = some c) (h1 : p.block ≠ Bo) (h2 : v.ownBlock ≠ some p.block) : w'.cell? p = some c :=
  (World.cell?_of_block (w := w) (h.block _ (lt_of_cell hc) h1 h2)).trans hc
theorem FolKeep.blk {Bo : Nat} {w w' : World} {v v' : Value} (h : FolKeep Bo w w' v v') {g t : Nat} {cs : Array Value} (hc : Blk w g t cs) (h1 : g ≠ Bo) (h2 : v.ownBlock ≠ some g) : Blk w' g t cs :=
  (h.block _ hc.lt h1 h2).trans hc
theorem FolKeep.append {Bo : Nat} {w w' : World} {v v' : Value} (hg : w.grownBy w' v.ownBlock) (hl : lies w v v') : FolKeep Bo w w' v v' := by
  refine ⟨(below_of_grown hg (B := 0) (Nat.zero_le _) (fun _ _ => Nat.zero_le _)).size, fun k hk _ h => hg.block k hk fun e => h e.symm, ?_⟩
  rcases hl with h | h
  · exact .inl h
  · exact .inr ⟨_, h, Nat.le_refl _⟩

abbrev folV (Bm Bo Bs Bf : Nat) : Value := .func (.func 36) #[] #[.pointer (some ⟨Bm, 0, none⟩), .pointer (some ⟨Bo, 0, none⟩), .pointer (some ⟨Bs, 0, none⟩), .pointer (some ⟨Bf, 0, none⟩)]
/-- what follow finds: W0 is the world ahead of 'out' -/
structure FolEnv (W0 : World) (Bm Bs b : Nat) (L : List (Key × Cost)) (A : Option Addr) (n cap : Nat) (l : List RuleB) : Prop where
  m : W0.cell? ⟨Bm, 0, none⟩ = some (.map (some b))
  map : MMap W0 b L
  s : W0.cell? ⟨Bs, 1, none⟩ = some (.slice A n cap)
  rls : Rls W0 (.slice A n cap) l
structure FolSt (W0 : World) (Bm Bs : Nat) (w : World) (v : Value) (out : List Int) : Prop where
  bel : Below W0.heap.size W0 w
  var : Blk w W0.heap.size 48 #[v]
  own : OwnE ElI 3 (W0.heap.size + 2) w v out
  fol : Blk w (W0.heap.size + 1) 92 #[folV Bm W0.heap.size Bs (W0.heap.size + 1)]

/-- why a move is in the table, told for the walk -/
inductive FWhy (l : List RuleB) (L : List (Key × Cost)) (k : Key) (c : Cost) : Prop
  | base (h : c.rule = -1)
  | pop (i : Nat) (hi : i < l.length) (hr : c.rule = i) (hf : (rAt l i).fr = k.1) (ht : (rAt l i).top = k.2.1) (hp : (rAt l i).put.size = 0) (hq : k.2.2 = (rAt l i).to) (h1 : 1 ≤ c.steps)
  | one (i : Nat) (hi : i < l.length) (hr : c.rule = i) (hf : (rAt l i).fr = k.1) (ht : (rAt l i).top = k.2.1) (hp : (rAt l i).put.size = 1) (c1 : Cost) (h1 : cget L ((rAt l i).to, ch (rAt l i).put 0, k.2.2) = some c1) (hs : 1 + c1.steps ≤ c.steps)
  | two (i : Nat) (hi : i < l.length) (hr : c.rule = i) (hf : (rAt l i).fr = k.1) (ht : (rAt l i).top = k.2.1) (hp : (rAt l i).put.size = 2) (c1 c2 : Cost) (h1 : cget L ((rAt l i).to, ch (rAt l i).put 0, c.middle) = some c1) (h2 : cget L (c.middle, ch (rAt l i).put 1, k.2.2) = some c2) (hs : 1 + c1.steps + c2.steps ≤ c.steps)
theorem cs_sz {s : ByteArray} {x : List Int} (h : cs s = x) : s.size = x.length := by rw [← cs_length, h]
theorem fwhy {l : List RuleB} {L : List (Key × Cost)} {B : Int → Int → Int → Prop} (h : Inv (l.map RuleB.plain) B (cget L)) {k : Key} {c : Cost} (hk : cget L k = some c) (hc : c.steps ≤ 1000) : FWhy l L k c := by
  rcases h.why k c hk with ⟨h1, _⟩ | ⟨i, r, hr, h1, h2, h3, h4⟩
  · exact .base h1
  rw [List.getElem?_map] at hr
  obtain ⟨q, hq, rfl⟩ := Option.map_eq_some_iff.1 hr
  obtain ⟨hi, hq'⟩ := List.getElem?_eq_some_iff.1 hq
  obtain rfl : q = rAt l i := by rw [rAt_eq hi, hq']
  have hfar : far = 1099511627776 := rfl
  rcases h4 with ⟨h5, h6, h7⟩ | ⟨b, c1, h5, h6, h7⟩ | ⟨b, x, c1, c2, h5, h6, h7, h8⟩
  · exact .pop i hi h1 h2 h3 (cs_sz h5) h6 h7
  · have hz : (rAt l i).put.size = 1 := cs_sz h5
    have hb : b = ch (rAt l i).put 0 := by
      have h5' : cs (rAt l i).put = [b] := h5
      rw [cs_one hz] at h5'
      simpa using h5'.symm
    refine .one i hi h1 h2 h3 hz c1 (by rw [← hb]; exact h6) ?_
    omega
  · have hz : (rAt l i).put.size = 2 := cs_sz h5
    have hb : b = ch (rAt l i).put 0 ∧ x = ch (rAt l i).put 1 := by
      have h5' : cs (rAt l i).put = [b, x] := h5
      rw [cs_two hz] at h5'
      simpa [eq_comm] using h5'
    refine .two i hi h1 h2 h3 hz c1 c2 (by rw [← hb.1]; exact h6) (by rw [← hb.2]; exact h7) ?_
    omega
theorem FWhy.d {l : List RuleB} {B : Int → Int → Int → Prop} {k : Key} {i : Nat} (hi : i < l.length) (hf : (rAt l i).fr = k.1) (ht : (rAt l i).top = k.2.1) :
    ((rAt l i).put.size = 0 → k.2.2 = (rAt l i).to → D (l.map RuleB.plain) B k.1 k.2.1 k.2.2 [i]) ∧
    ((rAt l i).put.size = 1 → ∀ rs, D (l.map RuleB.plain) B (rAt l i).to (ch (rAt l i).put 0) k.2.2 rs → D (l.map RuleB.plain) B k.1 k.2.1 k.2.2 (i :: rs)) ∧
    ((rAt l i).put.size = 2 → ∀ m rs rs2, D (l.map RuleB.plain) B (rAt l i).to (ch (rAt l i).put 0) m rs → D (l.map RuleB.plain) B m (ch (rAt l i).put 1) k.2.2 rs2 → D (l.map RuleB.plain) B k.1 k.2.1 k.2.2 (i :: (rs ++ rs2))) := by
  have hr : (l.map RuleB.plain)[i]? = some (rAt l i).plain := by rw [List.getElem?_map, List.getElem?_eq_getElem hi, rAt_eq hi]; rfl
  refine ⟨fun h0 e => ?_, fun h1 rs hd => ?_, fun h2 m rs rs2 hd hd2 => ?_⟩
  · rw [← hf, ← ht, e]; exact D.pop hr (cs_zero h0)
  · rw [← hf, ← ht]; exact D.one hr (cs_one h1) hd
  · rw [← hf, ← ht]; exact D.two hr (cs_two h2) hd hd2
end Go.Proofs.YtaapnflhjbdmlaaDoor
