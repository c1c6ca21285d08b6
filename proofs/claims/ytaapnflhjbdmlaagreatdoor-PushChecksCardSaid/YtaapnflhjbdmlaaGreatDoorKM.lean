/- Reaches. No condition. Run's inner function: the rules of a move, one after the other. No condition. Run's inner function: the walk. No condition. Run: the walk. No condition. -/
import Derived.Test.YtaapnflhjbdmlaaGreatDoorJ4
import Derived.Test.YtaapnflhjbdmlaaGreatDoorW7
import Derived.Laws.EntriesVeiled
namespace Go.Proofs.YtaapnflhjbdmlaaGreatDoor
section
open Go.RowKit Go.Shelf
attribute [local go_sem] Oper.semAt_some

theorem els_blk {α : Type} {E : El α} {w : World} {g : Nat} {t : TypeId} {l : List α} {cs : Array Value} {n : Nat} (h : Blk w g t cs) (hcs : cs.toList = flatE E l) (hn : n = l.length) (hm : n ≤ 1000) : Els E w (.slice (some ⟨g, 0, none⟩) n n) l := by
  subst hn
  refine ⟨_, l.length, rfl, Nat.le_refl _, by unfold maxLen; omega, (fun h => by cases h), fun i hi => ⟨g, 0, rfl, fun j u hu => ?_⟩⟩
  have h2 := flatE_get E l i hi j u hu
  rw [h.cell, Nat.zero_add, ← h2, ← hcs, Array.getElem?_toList]

/-- whether a configuration is reached -/
def ReachP (R : List Rule) (x : Int) (s : List Int) (y : Int) (t : List Int) : Prop := ∃ n, Steps R x s n y t
open Classical in
noncomputable def reachB (l : List RuleB) (x : Int) (s : ByteArray) (y : Int) (t : ByteArray) : Bool := decide (ReachP (l.map RuleB.plain) x (cs s) y (cs t))
theorem reachB_iff {l : List RuleB} {x : Int} {s : ByteArray} {y : Int} {t : ByteArray} : reachB l x s y t = true ↔ ReachP (l.map RuleB.plain) x (cs s) y (cs t) := by unfold reachB; simp

theorem rulesOk_of {C : Int} {l : List RuleB} (h : sysB C l = true) : RulesOk C (l.map RuleB.plain) := by
  obtain ⟨_, _, _, h4⟩ := sysB_iff.1 h
  intro i r hr
  rw [List.getElem?_map] at hr
  obtain ⟨q, hq, rfl⟩ := Option.map_eq_some_iff.1 hr
  have hi := (List.getElem?_eq_some_iff.1 hq).1
  have h5 := h4 i hi
  rw [rOk, rAt_eq hi, (List.getElem?_eq_some_iff.1 hq).2] at h5
  simp only [ruleB, ctlB, Bool.and_eq_true, decide_eq_true_eq, Bool.not_eq_true', decide_eq_false_iff_not] at h5
  obtain ⟨⟨⟨⟨⟨⟨⟨a, b⟩, c, d⟩, e⟩, f⟩, g⟩, k⟩, _⟩ := h5
  refine ⟨a, b, c, d, ?_⟩
  show (cs q.put).length ≤ 2
  rw [cs_length]
  omega
theorem WayOk.no {C : Int} {l : List RuleB} {x : Int} {s : ByteArray} {y : Int} {t : ByteArray} {w' : World} {v : Value} {bm : Nat} {L : List (Key × Cost)} (h : WayOk C l x s y t w' v bm L false) (hsys : sysB C l = true) : ¬ ReachP (l.map RuleB.plain) x (cs s) y (cs t) := by
  rintro ⟨n, hn⟩
  obtain ⟨_, hI, hcl, _, _, _, _, _, _, hF⟩ := h
  obtain ⟨ks, hk, _⟩ := (path_of_run (rulesOk_of hsys) hn).chain hI hcl
  exact hF rfl ks hk
theorem WayOk.yes {C : Int} {l : List RuleB} {x : Int} {s : ByteArray} {y : Int} {t : ByteArray} {w' : World} {v : Value} {bm : Nat} {L : List (Key × Cost)} (h : WayOk C l x s y t w' v bm L true) (hsys : sysB C l = true) (hx : x < C) (hy : y < C) : ReachP (l.map RuleB.plain) x (cs s) y (cs t) := by
  obtain ⟨_, hI, hcl, _, _, _, _, _, hT, _⟩ := h
  obtain ⟨ks, _, hk, _⟩ := hT rfl
  obtain ⟨n, hp, _⟩ := hk.path hI
  exact ⟨n, run_of_path hy (rulesOk_of hsys) hx hp⟩
theorem WayOk.reach {C : Int} {l : List RuleB} {x : Int} {s : ByteArray} {y : Int} {t : ByteArray} {w' : World} {v : Value} {bm : Nat} {L : List (Key × Cost)} {ok : Bool} (h : WayOk C l x s y t w' v bm L ok) (hsys : sysB C l = true) (hx : x < C) (hy : y < C) : ok = reachB l x s y t := by
  cases ok with
  | true => exact (reachB_iff.2 (h.yes hsys hx hy)).symm
  | false =>
    cases e : reachB l x s y t with
    | false => rfl
    | true => exact absurd (reachB_iff.1 e) (h.no hsys)
theorem allE_two {C : Int} {l : List RuleB} {c d : ConfB} (h : allE C l [c, d] = 0) : sysB C l = true ∧ properB C c = true ∧ properB C d = true := by
  unfold allE at h
  split at h
  · rename_i h1
    split at h
    · rename_i h2
      simpa [h1] using h2
    · cases h
  · cases h
theorem properB_iff {C : Int} {c : ConfB} : properB C c = true ↔ 0 ≤ c.ctl ∧ c.ctl < C ∧ Word (cs c.st) ∧ c.st.size ≤ 20 := by
  unfold properB ctlB
  simp only [Bool.and_eq_true, decide_eq_true_eq, word_iff]
  constructor
  · rintro ⟨⟨⟨a, b⟩, c⟩, d⟩; exact ⟨a, b, c, d⟩
  · rintro ⟨a, b, c, d⟩; exact ⟨⟨⟨a, b⟩, c⟩, d⟩

set_option maxHeartbeats 1000000 in
theorem Reaches_any (w : World) (C x y : Int) (v : Value) (l : List RuleB) (s t : ByteArray) (h : Rls w v l) (hs : ∀ r ∈ l, r.put.size ≤ 9223372036854775807) (hss : s.size ≤ 9223372036854775807) (htt : t.size ≤ 9223372036854775807) :
    Calls Tryz.prog 24 #[sv C v, cv ⟨x, s⟩, cv ⟨y, t⟩] w fun e w' => e = .returned (.tuple #[.bool (decide (allE C l [⟨x, s⟩, ⟨y, t⟩] = 0) && reachB l x s y t), .int .i64 (allE C l [⟨x, s⟩, ⟨y, t⟩])]) ∧ Below w.heap.size w w' := by
  obtain ⟨A, n, cap, rfl, hn⟩ := Els.shape h
  obtain ⟨W, hW⟩ : ∃ W, (((w.alloc (.cells #[.int .i64 C, .slice A n cap] 40)).alloc (.cells #[.int .i64 x, .string s] 60)).alloc (.cells #[.int .i64 y, .string t] 60)).alloc (.cells #[.int .i64 x, .string s, .int .i64 y, .string t] 60) = W := ⟨_, rfl⟩
  have hBW : Below w.heap.size w W := by rw [← hW]; exact bthen (below1 _ _) (bthen (below1 _ _) (bthen (below1 _ _) (below1 _ _)))
  have kS : Blk W w.heap.size 40 #[.int .i64 C, .slice A n cap] := by rw [← hW]; exact (((Blk.new w 40 _).alloc _).alloc _).alloc _
  have kc : Blk W (w.heap.size + 1) 60 #[.int .i64 x, .string s] := by rw [← hW]; have := Blk.new (w.alloc (.cells #[.int .i64 C, .slice A n cap] 40)) 60 #[.int .i64 x, .string s]; rw [alloc_size] at this; exact (this.alloc _).alloc _
  have kd : Blk W (w.heap.size + 1 + 1) 60 #[.int .i64 y, .string t] := by rw [← hW]; have := Blk.new ((w.alloc (.cells #[.int .i64 C, .slice A n cap] 40)).alloc (.cells #[.int .i64 x, .string s] 60)) 60 #[.int .i64 y, .string t]; rw [alloc_size, alloc_size] at this; exact this.alloc _
  have k4 : Blk W (w.heap.size + 1 + 1 + 1) 60 #[.int .i64 x, .string s, .int .i64 y, .string t] := by rw [← hW]; have := Blk.new (((w.alloc (.cells #[.int .i64 C, .slice A n cap] 40)).alloc (.cells #[.int .i64 x, .string s] 60)).alloc (.cells #[.int .i64 y, .string t] 60)) 60 #[.int .i64 x, .string s, .int .i64 y, .string t]; rw [alloc_size, alloc_size, alloc_size] at this; exact this
  have H := Lib.hid (checkAll_any W C (.slice A n cap) (.slice (some ⟨w.heap.size + 1 + 1 + 1, 0, none⟩) 2 2) l [⟨x, s⟩, ⟨y, t⟩] (Els.then h hBW) (els_blk (E := ElC) k4 rfl rfl (by omega)) hs (by simp; exact ⟨hss, htt⟩))
  have c0 : W.cell? ⟨w.heap.size, 0, none⟩ = some (.int .i64 C) := kS.cell 0
  have c1 : W.cell? ⟨w.heap.size, 1, none⟩ = some (.slice A n cap) := kS.cell 1
  have c2 : W.cell? ⟨w.heap.size + 1 + 1, 0, none⟩ = some (.int .i64 y) := kd.cell 0
  have c3 : W.cell? ⟨w.heap.size + 1 + 1, 1, none⟩ = some (.string t) := kd.cell 1
  have c4 : W.cell? ⟨w.heap.size + 1, 0, none⟩ = some (.int .i64 x) := kc.cell 0
  have c5 : W.cell? ⟨w.heap.size + 1, 1, none⟩ = some (.string s) := kc.cell 1
  have hrW := Lib.hid (show Rls W (.slice A n cap) l from Els.then h hBW)
  replace hBW := Lib.hid hBW
  have hall := Lib.hid (fun e : allE C l [⟨x, s⟩, ⟨y, t⟩] = 0 => allE_two e)
  clear h hs hss htt kS kc kd k4
  generalize hEE : allE C l [⟨x, s⟩, ⟨y, t⟩] = E at H hall ⊢
  replace hEE := Lib.hid hEE
  by_cases hE : E = 0
  · subst hE
    obtain ⟨hsys, h1, h2⟩ := hall.out rfl
    obtain ⟨_, hx, _, hs20⟩ := properB_iff.1 h1
    obtain ⟨_, hy, _, ht20⟩ := properB_iff.1 h2
    dsimp only at hx hy hs20 ht20
    have hres := Lib.hid (fun w' v bm L ok (hh : WayOk C l x s y t w' v bm L ok) => hh.reach hsys hx hy)
    replace hsys := Lib.hid hsys
    clear hall h1 h2
    go_enter Tryz.func24, Tryz.ntmps24
    go_wp2_with (first
      | (go_at_call 46; refine H.out.mono ?_; rintro e w1 ⟨rfl, hb⟩; replace c0 := cell_below c0 hb; replace c1 := cell_below c1 hb; replace c2 := cell_below c2 hb; replace c3 := cell_below c3 hb; replace c4 := cell_below c4 hb; replace c5 := cell_below c5 hb; replace hb := Lib.hid hb)
      | (go_at_call 47; refine (way_any w1 C _ l x y s t (Els.then hrW.out hb.out) hsys.out (by omega) (by omega)).mono ?_; rintro e w2 ⟨pv, bm, L, ok, rfl, hok, hb2⟩; obtain rfl := hres.out _ _ _ _ _ hok; obtain ⟨_, _, _, st, A2, n2, cap2, rfl, _⟩ := hok; replace hb2 := Lib.hid hb2))
    exact bodyPost_ret (v := .tuple #[.bool (reachB l x s y t), .int .i64 0]) (by simp [results, Tryz.results24, go_sem]) rfl ⟨by simp, bthen hBW.out (bthen hb.out (bthen hb2.out (below1 _ _)))⟩
  · have hne : (E != 0) = true := by simpa using hE
    have hfin := Lib.hid (show (decide (E = 0) && reachB l x s y t) = false by simp [hE])
    clear hall
    replace hE := Lib.hid hE
    go_enter Tryz.func24, Tryz.ntmps24
    go_wp2_with (go_at_call 46; refine H.out.mono ?_; rintro e w1 ⟨rfl, hb⟩; replace hb := Lib.hid hb)
    exact bodyPost_ret (v := .tuple #[.bool false, .int .i64 E]) (by simp [results, Tryz.results24, go_sem]) rfl ⟨by rw [hfin.out], bthen hBW.out hb.out⟩
end
section
open Go.RowKit Go.Shelf
attribute [local go_sem] Oper.semAt_some

/-- what stays and what the slice in block Bo has become -/
structure FolKeep (Bo : Nat) (w w' : World) (v v' : Value) : Prop where
  size : w.heap.size ≤ w'.heap.size
  block : ∀ k, k < w.heap.size → k ≠ Bo → v.ownBlock ≠ some k → w'.heap[k]? = w.heap[k]?
  own : v'.ownBlock = v.ownBlock ∨ ∃ g, v'.ownBlock = some g ∧ w.heap.size ≤ g
theorem FolKeep.refl (Bo : Nat) (w : World) (v : Value) : FolKeep Bo w w v v := ⟨Nat.le_refl _, fun _ _ _ _ => rfl, .inl rfl⟩
theorem FolKeep.trans {Bo : Nat} {a b c : World} {u v x : Value} (h : FolKeep Bo a b u v) (h2 : FolKeep Bo b c v x) : FolKeep Bo a c u x := by
  refine ⟨Nat.le_trans h.size h2.size, fun k hk h1 h3 => ?_, ?_⟩
  · refine (h2.block k (Nat.lt_of_lt_of_le hk h.size) h1 fun e => ?_).trans (h.block k hk h1 h3)
    rcases h.own with h4 | ⟨g, h4, h5⟩
    · exact h3 (h4.symm.trans e)
    · rw [h4] at e; cases e; omega
  · rcases h2.own with h4 | ⟨g, h4, h5⟩
    · rcases h.own with h6 | ⟨g, h6, h7⟩
      · exact .inl (h4.trans h6)
      · exact .inr ⟨g, h4.trans h6, h7⟩
    · exact .inr ⟨g, h4, Nat.le_trans h.size h5⟩
theorem FolKeep.below {Bo : Nat} {a b c : World} {u v : Value} (h : FolKeep Bo a b u v) (hb : Below b.heap.size b c) : FolKeep Bo a c u v :=
  h.trans ⟨hb.size, fun k hk _ _ => hb.block k hk, .inl rfl⟩
theorem FolKeep.cell {Bo : Nat} {w w' : World} {v v' : Value} (h : FolKeep Bo w w' v v') {p : Addr} {c : Value} (hc : w.cell? p = some c) (h1 : p.block ≠ Bo) (h2 : v.ownBlock ≠ some p.block) : w'.cell? p = some c :=
  (World.cell?_of_block (w := w) (h.block _ (lt_of_cell hc) h1 h2)).trans hc
theorem FolKeep.blk {Bo : Nat} {w w' : World} {v v' : Value} (h : FolKeep Bo w w' v v') {g t : Nat} {cs : Array Value} (hc : Blk w g t cs) (h1 : g ≠ Bo) (h2 : v.ownBlock ≠ some g) : Blk w' g t cs :=
  (h.block _ hc.lt h1 h2).trans hc
theorem FolKeep.append {Bo : Nat} {w w' : World} {v v' : Value} (hg : w.grownBy w' v.ownBlock) (hl : lies w v v') : FolKeep Bo w w' v v' := by
  refine ⟨(below_of_grown hg (B := 0) (Nat.zero_le _) (fun _ _ => Nat.zero_le _)).size, fun k hk _ h => hg.block k hk fun e => h e.symm, ?_⟩
  rcases hl with h | h
  · exact .inl h
  · exact .inr ⟨_, h, Nat.le_refl _⟩

abbrev folV (Bm Bo Bs Bf : Nat) : Value := .func (.func 49) #[] #[.pointer (some ⟨Bm, 0, none⟩), .pointer (some ⟨Bo, 0, none⟩), .pointer (some ⟨Bs, 0, none⟩), .pointer (some ⟨Bf, 0, none⟩)]
/-- what follow finds: W0 is the world ahead of 'out' -/
structure FolEnv (W0 : World) (Bm Bs b : Nat) (L : List (Key × Cost)) (A : Option Addr) (n cap : Nat) (l : List RuleB) : Prop where
  m : W0.cell? ⟨Bm, 0, none⟩ = some (.map (some b))
  map : MMap W0 b L
  s : W0.cell? ⟨Bs, 1, none⟩ = some (.slice A n cap)
  rls : Rls W0 (.slice A n cap) l
structure FolSt (W0 : World) (Bm Bs : Nat) (w : World) (v : Value) (out : List Int) : Prop where
  bel : Below W0.heap.size W0 w
  var : Blk w W0.heap.size 26 #[v]
  own : OwnE ElI 3 (W0.heap.size + 2) w v out
  fol : Blk w (W0.heap.size + 1) 100 #[folV Bm W0.heap.size Bs (W0.heap.size + 1)]

/-- why a move is in the table, told for the walk -/
inductive FWhy (l : List RuleB) (L : List (Key × Cost)) (k : Key) (c : Cost) : Prop
  | base (h : c.rule = -1)
  | pop (i : Nat) (hi : i < l.length) (hr : c.rule = i) (hf : (rAt l i).fr = k.1) (ht : (rAt l i).top = k.2.1) (hp : (rAt l i).put.size = 0) (hq : k.2.2 = (rAt l i).to) (h1 : 1 ≤ c.steps)
  | one (i : Nat) (hi : i < l.length) (hr : c.rule = i) (hf : (rAt l i).fr = k.1) (ht : (rAt l i).top = k.2.1) (hp : (rAt l i).put.size = 1) (c1 : Cost) (h1 : cget L ((rAt l i).to, ch (rAt l i).put 0, k.2.2) = some c1) (hs : 1 + c1.steps ≤ c.steps)
  | two (i : Nat) (hi : i < l.length) (hr : c.rule = i) (hf : (rAt l i).fr = k.1) (ht : (rAt l i).top = k.2.1) (hp : (rAt l i).put.size = 2) (c1 c2 : Cost) (h1 : cget L ((rAt l i).to, ch (rAt l i).put 0, c.middle) = some c1) (h2 : cget L (c.middle, ch (rAt l i).put 1, k.2.2) = some c2) (hs : 1 + c1.steps + c2.steps ≤ c.steps)
theorem cs_sz {s : ByteArray} {x : List Int} (h : cs s = x) : s.size = x.length := by rw [← cs_length, h]
theorem fwhy {l : List RuleB} {L : List (Key × Cost)} {B : Int → Int → Int → Prop} (h : Inv (l.map RuleB.plain) B (cget L)) {k : Key} {c : Cost} (hk : cget L k = some c) (hc : c.steps ≤ 1000) : FWhy l L k c := by
  rcases h.why k c hk with ⟨h1, _⟩ | ⟨i, r, hr, h1, h2, h3, h4⟩
  · exact .base h1
  rw [List.getElem?_map] at hr
  obtain ⟨q, hq, rfl⟩ := Option.map_eq_some_iff.1 hr
  obtain ⟨hi, hq'⟩ := List.getElem?_eq_some_iff.1 hq
  obtain rfl : q = rAt l i := by rw [rAt_eq hi, hq']
  have hfar : far = 1099511627776 := rfl
  rcases h4 with ⟨h5, h6, h7⟩ | ⟨b, c1, h5, h6, h7⟩ | ⟨b, x, c1, c2, h5, h6, h7, h8⟩
  · exact .pop i hi h1 h2 h3 (cs_sz h5) h6 h7
  · have hz : (rAt l i).put.size = 1 := cs_sz h5
    have hb : b = ch (rAt l i).put 0 := by
      have h5' : cs (rAt l i).put = [b] := h5
      rw [cs_one hz] at h5'
      simpa using h5'.symm
    refine .one i hi h1 h2 h3 hz c1 (by rw [← hb]; exact h6) ?_
    omega
  · have hz : (rAt l i).put.size = 2 := cs_sz h5
    have hb : b = ch (rAt l i).put 0 ∧ x = ch (rAt l i).put 1 := by
      have h5' : cs (rAt l i).put = [b, x] := h5
      rw [cs_two hz] at h5'
      simpa [eq_comm] using h5'
    refine .two i hi h1 h2 h3 hz c1 c2 (by rw [← hb.1]; exact h6) (by rw [← hb.2]; exact h7) ?_
    omega
theorem FWhy.d {l : List RuleB} {B : Int → Int → Int → Prop} {k : Key} {i : Nat} (hi : i < l.length) (hf : (rAt l i).fr = k.1) (ht : (rAt l i).top = k.2.1) :
    ((rAt l i).put.size = 0 → k.2.2 = (rAt l i).to → D (l.map RuleB.plain) B k.1 k.2.1 k.2.2 [i]) ∧
    ((rAt l i).put.size = 1 → ∀ rs, D (l.map RuleB.plain) B (rAt l i).to (ch (rAt l i).put 0) k.2.2 rs → D (l.map RuleB.plain) B k.1 k.2.1 k.2.2 (i :: rs)) ∧
    ((rAt l i).put.size = 2 → ∀ m rs rs2, D (l.map RuleB.plain) B (rAt l i).to (ch (rAt l i).put 0) m rs → D (l.map RuleB.plain) B m (ch (rAt l i).put 1) k.2.2 rs2 → D (l.map RuleB.plain) B k.1 k.2.1 k.2.2 (i :: (rs ++ rs2))) := by
  have hr : (l.map RuleB.plain)[i]? = some (rAt l i).plain := by rw [List.getElem?_map, List.getElem?_eq_getElem hi, rAt_eq hi]; rfl
  refine ⟨fun h0 e => ?_, fun h1 rs hd => ?_, fun h2 m rs rs2 hd hd2 => ?_⟩
  · rw [← hf, ← ht, e]; exact D.pop hr (cs_zero h0)
  · rw [← hf, ← ht]; exact D.one hr (cs_one h1) hd
  · rw [← hf, ← ht]; exact D.two hr (cs_two h2) hd hd2
end
section
open Go.RowKit Go.Shelf
attribute [local go_sem] Oper.semAt_some

/-- what follow does -/
def FolPost (W0 : World) (Bm Bs : Nat) (l : List RuleB) (B : Int → Int → Int → Prop) (k : Key) (w : World) (v : Value) (out : List Int) (st : Int) (e : Ending) (w' : World) : Prop :=
  e = .returned (.tuple #[]) ∧ ∃ (v' : Value) (rs : List Nat), FolSt W0 Bm Bs w' v' (out ++ rs.map (fun (i : Nat) => (i : Int))) ∧ D (l.map RuleB.plain) B k.1 k.2.1 k.2.2 rs ∧ (rs.length : Int) ≤ st ∧ FolKeep W0.heap.size w w' v v'

theorem FolSt.below {W0 : World} {Bm Bs : Nat} {w w' : World} {v : Value} {out : List Int} (h : FolSt W0 Bm Bs w v out) (hb : Below w.heap.size w w') : FolSt W0 Bm Bs w' v out :=
  ⟨bthen h.bel hb, h.var.below hb h.var.lt, h.own.then hb, h.fol.below hb h.fol.lt⟩
theorem field96r (w : World) (s r m : Int) : (Instr.field 106 (.agg #[.int .i64 s, .int .i64 r, .int .i64 m]) 1).run Tryz.prog w = .ok (.int .i64 r) w := by kernel_rfl
theorem cell0 {w : World} {W0 : World} (h : Below W0.heap.size W0 w) {p : Addr} {c : Value} (hc : W0.cell? p = some c) : w.cell? p = some c := cell_below hc h


theorem fol_mid {W0 W1 wx w2 : World} {Bm Bs B1 : Nat} {v v2 : Value} {out : List Int} {x : Int} {o : Obj} (hst1 : FolSt W0 Bm Bs W1 v out) (hz : W1.heap.size = B1 + 1 + 1) (hv : ∀ g, v.ownBlock = some g → g < B1) (_ : W0.heap.size + 1 < B1) (hx : W1.alloc o = wx)
    (ho : OwnE ElI 3 (W0.heap.size + 2) w2 v2 (out ++ [x])) (hb : Below (W0.heap.size + 2) wx w2) (hg : wx.grownBy w2 v.ownBlock) (hl : lies wx v v2) :
    w2.cell? ⟨W0.heap.size, 0, none⟩ = some v ∧ w2.frozen? ⟨W0.heap.size, 0, none⟩ = false ∧ ∃ W3, w2.setCell ⟨W0.heap.size, 0, none⟩ v2 = W3 ∧ FolSt W0 Bm Bs W3 v2 (out ++ [x]) ∧ FolKeep W0.heap.size W1 W3 v v2 ∧ (∀ g, v2.ownBlock = some g → g < W3.heap.size ∧ g ≠ B1 ∧ g ≠ B1 + 1) ∧ B1 + 1 < W3.heap.size ∧ (∀ g, v.ownBlock = some g → g ≠ B1 ∧ g ≠ B1 + 1) := by
  have hzx : wx.heap.size = B1 + 1 + 1 + 1 := by rw [← hx, alloc_size, hz]
  have hBx : Below W1.heap.size W1 wx := by rw [← hx]; exact below1 _ _
  have hx1 := hst1.below hBx
  have k2 : Blk w2 W0.heap.size 26 #[v] := hx1.var.below hb (by omega)
  have k3 := hx1.fol.below hb (by omega)
  refine ⟨k2.cell 0, k2.free 0, _, rfl, ⟨?_, ?_, ?_, ?_⟩, ?_, ?_, ?_, ?_⟩
  · exact (hx1.bel.trans (hb.mono (by omega))).setCell (by simp) _
  · have := k2.set 0 v2
    simpa using this
  · exact ho.far (by show W0.heap.size < _; omega) _
  · exact k3.far (by show W0.heap.size + 1 ≠ W0.heap.size; omega) _
  · refine (((FolKeep.refl _ _ _).below hBx).trans (FolKeep.append hg hl)).trans ⟨by simp, fun k hk h1 h2 => Below.heap_setCell _ _ _ _ h1, .inl rfl⟩
  · intro g h
    refine ⟨by simpa using (ho.lt g h).2, ?_⟩
    rcases hl with h2 | h2
    · rw [h2] at h; have := hv g h; omega
    · rw [h2] at h; cases h; omega
  · have := hb.size
    have e : (w2.setCell ⟨W0.heap.size, 0, none⟩ v2).heap.size = w2.heap.size := by simp
    omega
  · intro g h
    have := hv g h
    omega
theorem rls_cells {W0 w : World} {n cap b off : Nat} {l : List RuleB} (h : Rls W0 (.slice (some ⟨b, off, none⟩) n cap) l) (hb : Below W0.heap.size W0 w) {i : Nat} (hi : i < l.length) {q : RuleB} (hq : rAt l i = q) :
    w.cell? ⟨b, off + i * 4, none⟩ = some (.int .i64 q.fr) ∧ w.cell? ⟨b, off + i * 4 + 1, none⟩ = some (.int .u8 q.top) ∧ w.cell? ⟨b, off + i * 4 + 2, none⟩ = some (.int .i64 q.to) ∧ w.cell? ⟨b, off + i * 4 + 3, none⟩ = some (.string q.put) := by
  subst hq
  obtain ⟨b', off', e, h2⟩ := Rls.at (Els.then h hb) hi
  cases e
  exact h2
theorem rls_at {W0 w : World} {A : Option Addr} {n cap : Nat} {l : List RuleB} (h : Rls W0 (.slice A n cap) l) (hb : Below W0.heap.size W0 w) {i : Nat} (hi : i < l.length) : i < n ∧ ∃ b off, A = some ⟨b, off, none⟩ ∧
    w.cell? ⟨b, off + i * 4, none⟩ = some (.int .i64 (rAt l i).fr) ∧ w.cell? ⟨b, off + i * 4 + 1, none⟩ = some (.int .u8 (rAt l i).top) ∧ w.cell? ⟨b, off + i * 4 + 2, none⟩ = some (.int .i64 (rAt l i).to) ∧ w.cell? ⟨b, off + i * 4 + 3, none⟩ = some (.string (rAt l i).put) := by
  have h2 := Rls.at (Els.then h hb) hi
  exact ⟨by rw [(Els.len h).1]; exact hi, h2⟩

set_option maxHeartbeats 4000000 in
theorem follow_all (W0 : World) (Bm Bs b : Nat) (L : List (Key × Cost)) (A : Option Addr) (n cap : Nat) (l : List RuleB) (B : Int → Int → Int → Prop) (he : FolEnv W0 Bm Bs b L A n cap l) (hI : Inv (l.map RuleB.plain) B (cget L)) :
    ∀ (N : Nat) (k1 k2 k3 : Int) (c : Cost) (w : World) (v : Value) (out : List Int), cget L (k1, k2, k3) = some c → c.steps < N → N ≤ 1001 → FolSt W0 Bm Bs w v out → out.length + c.steps ≤ 2000 →
      Calls Tryz.prog 49 #[mv (k1, k2, k3), .pointer (some ⟨Bm, 0, none⟩), .pointer (some ⟨W0.heap.size, 0, none⟩), .pointer (some ⟨Bs, 0, none⟩), .pointer (some ⟨W0.heap.size + 1, 0, none⟩)] w (FolPost W0 Bm Bs l B (k1, k2, k3) w v out c.steps) := by
  intro N
  induction N with
  | zero =>
    intro k1 k2 k3 c w v out hk hcN
    have hcost := hI.cost _ _ hk
    omega
  | succ N ih =>
    intro k1 k2 k3 c w v out hk hcN hN hst hlen
    have hw := fwhy hI hk (by omega)
    have hcost := hI.cost _ _ hk
    replace ih := Lib.hid ih
    obtain ⟨s, r, m⟩ := c
    dsimp only at hcN hlen hcost
    have hBm := lt_of_cell he.m
    have hBs := lt_of_cell he.s
    have hb := AMap.lt he.map
    dsimp only at hBm hBs
    obtain ⟨W, hW⟩ : ∃ W, (w.alloc (.cells #[.int .i64 k1, .int .u8 k2, .int .i64 k3] 104)) = W := ⟨_, rfl⟩
    have hB1 : Below w.heap.size w W := by rw [← hW]; exact below1 _ _
    have hzW : W.heap.size = w.heap.size + 1 := by rw [← hW, alloc_size]
    have kK : Blk W w.heap.size 104 #[.int .i64 k1, .int .u8 k2, .int .i64 k3] := by rw [← hW]; exact Blk.new _ _ _
    have hz0 : W0.heap.size + 1 < w.heap.size := hst.fol.lt
    have hmW : MMap W b L := AMap.below (AMap.below he.map hst.bel hb) hB1 (by omega)
    have c0 : W.cell? ⟨Bm, 0, none⟩ = some (.map (some b)) := cell_below (cell0 hst.bel he.m) hB1
    have j0 : W.cell? ⟨w.heap.size, 0, none⟩ = some (.int .i64 k1) := kK.cell 0
    have j1 : W.cell? ⟨w.heap.size, 1, none⟩ = some (.int .u8 k2) := kK.cell 1
    have j2 : W.cell? ⟨w.heap.size, 2, none⟩ = some (.int .i64 k3) := kK.cell 2
    obtain ⟨W1, hW1⟩ : ∃ W1, W.alloc (.cells #[.int .i64 s, .int .i64 r, .int .i64 m] 106) = W1 := ⟨_, rfl⟩
    have hB2 : Below w.heap.size w W1 := by rw [← hW1]; exact bthen hB1 (below1 _ _)
    have hzW1 : W1.heap.size = w.heap.size + 1 + 1 := by rw [← hW1, alloc_size, hzW]
    have kC : Blk W1 (w.heap.size + 1) 106 #[.int .i64 s, .int .i64 r, .int .i64 m] := by rw [← hW1, ← hzW]; exact Blk.new _ _ _
    have kK1 : Blk W1 w.heap.size 104 #[.int .i64 k1, .int .u8 k2, .int .i64 k3] := by rw [← hW1]; exact kK.alloc _
    have hst1 : FolSt W0 Bm Bs W1 v out := hst.below hB2
    have hkeep1 : FolKeep W0.heap.size w W1 v v := (FolKeep.refl _ _ _).below hB2
    have e1 : W1.cell? ⟨w.heap.size + 1, 1, none⟩ = some (.int .i64 r) := kC.cell 1
    have hkL : (aget (cval L) (k1, k2, k3)).getD (costV ⟨0, 0, 0⟩) = costV ⟨s, r, m⟩ := by rw [aget_cval, hk]; rfl
    have hvo : ∀ g, v.ownBlock = some g → g < w.heap.size := fun g h => (hst.own.lt g h).2
    have hDw := hI.why _ _ hk
    obtain ⟨Av, nv, cv', rfl, hnv⟩ := OwnE.shape hst1.own
    have e2 : W1.cell? ⟨W0.heap.size, 0, none⟩ = some (.slice Av nv cv') := hst1.var.cell 0
    replace hst1 := Lib.hid hst1
    replace hkeep1 := Lib.hid hkeep1
    replace hkL := Lib.hid hkL
    replace hmW := Lib.hid hmW
    replace hvo := Lib.hid hvo
    replace kC := Lib.hid kC
    replace kK1 := Lib.hid kK1
    clear hk hst kK
    cases hw with
    | base hr =>
      dsimp only at hr
      subst hr
      have hD : s = 0 ∧ B k1 k2 k3 := by
        rcases hDw with ⟨_, h1, h2⟩ | ⟨i, _, _, h1, _⟩
        · exact ⟨h2, h1⟩
        · dsimp only at h1; omega
      have hres : FolPost W0 Bm Bs l B (k1, k2, k3) w (.slice Av nv cv') out s (.returned (.tuple #[])) W1 := ⟨rfl, _, [], by simpa using hst1.out, .base hD.2, by simp; omega, hkeep1.out⟩
      replace hres := Lib.hid hres
      clear hD hst1 hkeep1 kK1 kC hI he ih hDw
      go_enter Tryz.func49, Tryz.ntmps49
      go_wp2_with (at_lookup; refine wpList_lookup_a _ rfl (.tmp 8) (.tmp 9) 81 rfl 104 106 key94 Tryz.underlying81 (zero96 _) rfl hmW.out (k1, k2, k3) rfl _ hkL.out ?_)
      go_end0
      exact hres.out
    | pop i hi hr hf ht hp hq h1 =>
      dsimp only at hq
      dsimp only at hr
      subst hr
      have hnotneg : ¬ (i : Int) < 0 := by omega
      have hd := Lib.hid (FWhy.d (B := B) (k := (k1, k2, k3)) hi hf ht)
      obtain ⟨hin, br, offr, rfl, hcells⟩ := rls_at (w := W1) he.rls hst1.out.bel hi
      replace hcells := Lib.hid hcells
      have hrlsz : br < W0.heap.size := by
        obtain ⟨_, b', off', e, h0, _⟩ := rls_at (w := W0) he.rls (Below.refl _ _) hi
        cases e
        exact lt_of_cell h0
      have hs1 : W1.cell? ⟨Bs, 1, none⟩ = some (.slice (some ⟨br, offr, none⟩) n cap) := cell0 hst1.out.bel he.s
      replace he := Lib.hid he
      replace hI := Lib.hid hI
      generalize hrr : rAt l i = q at *
      replace hrr := Lib.hid hrr
      obtain ⟨fr, tp, to, p⟩ := q
      dsimp only at hcells hp
      clear hf ht hDw
      obtain ⟨wx, hwx⟩ : ∃ wx, W1.alloc (.cells #[.int .i64 (i : Int)] 3) = wx := ⟨_, rfl⟩
      have hEl := Lib.hid (show Els ElI wx (.slice (some ⟨w.heap.size + 1 + 1, 0, none⟩) 1 1) [(i : Int)] by rw [← hwx, ← hzW1]; exact els_one (E := ElI) (Blk.new W1 3 #[.int .i64 (i : Int)]) rfl)
      have hOx := Lib.hid (show OwnE ElI 3 (W0.heap.size + 2) wx (.slice Av nv cv') out by rw [← hwx]; exact hst1.out.own.then (below1 _ _))
      have hzx := Lib.hid (show W0.heap.size + 2 ≤ wx.heap.size by rw [← hwx, alloc_size]; omega)
      replace hq := Lib.hid hq
      have g1 : ((p.size : Int) == 1) = false := by rw [hp]; rfl
      have g2 : ((p.size : Int) == 2) = false := by rw [hp]; rfl
      replace hp := Lib.hid hp
      go_enter Tryz.func49, Tryz.ntmps49
      go_wp2_with (first
        | (at_lookup; refine wpList_lookup_a _ rfl (.tmp 8) (.tmp 9) 81 rfl 104 106 key94 Tryz.underlying81 (zero96 _) rfl hmW.out (k1, k2, k3) rfl _ hkL.out ?_)
        | (at_builtin; refine wpList_append_els (E := ElI) _ rfl (.tmp 14) (.tmp 17) 26 rfl (W0.heap.size + 2) Tryz.underlying26 info3 rfl rfl (by decide) _ out rfl hOx.out _ rfl [(i : Int)] hEl.out (by simp; omega) hzx.out ?_; intro v2 w2 ho2 hb2 hg2 hl2; obtain ⟨m1, m2, W3, hW3, hst3, hkeep3, hne3, hz3, hne1⟩ := fol_mid hst1.out hzW1 hvo.out hz0 hwx ho2 hb2 hg2 hl2; clear ho2 hb2 hg2 hl2; obtain ⟨A2, n2, cap2, rfl, hn2⟩ := OwnE.shape hst3.own; have q1 := hkeep3.cell e1 (by simp; omega) (fun e => (hne1 _ e).2 rfl); have q2 := cell0 hst3.bel he.out.s; obtain ⟨x0, x1, x2, x3⟩ := rls_cells (w := W3) he.out.rls hst3.bel hi hrr.out; replace hst3 := Lib.hid hst3; replace hkeep3 := Lib.hid hkeep3; replace hne3 := Lib.hid hne3; replace hne1 := Lib.hid hne1))
      go_end0
      have hB4 := below1 W3 (.cells #[.int .i64 fr, .int .u8 tp, .int .i64 to, .string p] 79)
      exact ⟨rfl, _, [i], by simpa using hst3.out.below hB4, hd.out.1 hp.out hq.out, by simp; omega, (hkeep1.out.trans hkeep3.out).below hB4⟩
    | one i hi hr hf ht hp c1 h1 hs =>
      dsimp only at hr
      subst hr
      have hnotneg : ¬ (i : Int) < 0 := by omega
      have hd := Lib.hid (FWhy.d (B := B) (k := (k1, k2, k3)) hi hf ht)
      obtain ⟨hin, br, offr, rfl, hcells⟩ := rls_at (w := W1) he.rls hst1.out.bel hi
      replace hcells := Lib.hid hcells
      have hrlsz : br < W0.heap.size := by
        obtain ⟨_, b', off', e, h0, _⟩ := rls_at (w := W0) he.rls (Below.refl _ _) hi
        cases e
        exact lt_of_cell h0
      have hs1 : W1.cell? ⟨Bs, 1, none⟩ = some (.slice (some ⟨br, offr, none⟩) n cap) := cell0 hst1.out.bel he.s
      replace he := Lib.hid he
      replace hI := Lib.hid hI
      generalize hrr : rAt l i = q at *
      replace hrr := Lib.hid hrr
      obtain ⟨fr, tp, to, p⟩ := q
      dsimp only at hcells hp
      clear hf ht hDw
      obtain ⟨wx, hwx⟩ : ∃ wx, W1.alloc (.cells #[.int .i64 (i : Int)] 3) = wx := ⟨_, rfl⟩
      have hEl := Lib.hid (show Els ElI wx (.slice (some ⟨w.heap.size + 1 + 1, 0, none⟩) 1 1) [(i : Int)] by rw [← hwx, ← hzW1]; exact els_one (E := ElI) (Blk.new W1 3 #[.int .i64 (i : Int)]) rfl)
      have hOx := Lib.hid (show OwnE ElI 3 (W0.heap.size + 2) wx (.slice Av nv cv') out by rw [← hwx]; exact hst1.out.own.then (below1 _ _))
      have hzx := Lib.hid (show W0.heap.size + 2 ≤ wx.heap.size by rw [← hwx, alloc_size]; omega)
      have g1 : ((p.size : Int) == 1) = true := by rw [hp]; rfl
      have g2 : ((p.size : Int) == 2) = false := by rw [hp]; rfl
      have hz0p : 0 < p.size := by omega
      have hch := (ch_eq hz0p).symm
      replace hp := Lib.hid hp
      go_enter Tryz.func49, Tryz.ntmps49
      go_wp2_with (first
        | (at_lookup; refine wpList_lookup_a _ rfl (.tmp 8) (.tmp 9) 81 rfl 104 106 key94 Tryz.underlying81 (zero96 _) rfl hmW.out (k1, k2, k3) rfl _ hkL.out ?_)
        | (at_builtin; refine wpList_append_els (E := ElI) _ rfl (.tmp 14) (.tmp 17) 26 rfl (W0.heap.size + 2) Tryz.underlying26 info3 rfl rfl (by decide) _ out rfl hOx.out _ rfl [(i : Int)] hEl.out (by simp; omega) hzx.out ?_; intro v2 w2 ho2 hb2 hg2 hl2; obtain ⟨m1, m2, W3, hW3, hst3, hkeep3, hne3, hz3, hne1⟩ := fol_mid hst1.out hzW1 hvo.out hz0 hwx ho2 hb2 hg2 hl2; clear ho2 hb2 hg2 hl2; obtain ⟨A2, n2, cap2, rfl, hn2⟩ := OwnE.shape hst3.own; have q1 := hkeep3.cell e1 (by simp; omega) (fun e => (hne1 _ e).2 rfl); have q2 := cell0 hst3.bel he.out.s; obtain ⟨x0, x1, x2, x3⟩ := rls_cells (w := W3) he.out.rls hst3.bel hi hrr.out; replace hst3 := Lib.hid hst3; replace hkeep3 := Lib.hid hkeep3; replace hne3 := Lib.hid hne3; replace hne1 := Lib.hid hne1))
      obtain ⟨W4, hW4⟩ : ∃ W4, W3.alloc (.cells #[.int .i64 fr, .int .u8 tp, .int .i64 to, .string p] 79) = W4 := ⟨_, rfl⟩
      have hB4 : Below W3.heap.size W3 W4 := by rw [← hW4]; exact below1 _ _
      have kR : Blk W4 W3.heap.size 79 #[.int .i64 fr, .int .u8 tp, .int .i64 to, .string p] := by rw [← hW4]; exact Blk.new _ _ _
      rw [hW4]
      clear hW4 x0 x1 x2 x3 q1 q2 m1 m2
      have hst4 := hst3.out.below hB4
      have hkeep4 := hkeep3.out.below hB4
      have kK4 := hkeep4.blk kK1.out (by omega) (fun e => (hne1.out _ e).1 rfl)
      have kC4 := hkeep4.blk kC.out (by omega) (fun e => (hne1.out _ e).2 rfl)
      have g3 : ∀ g : Gr W4, g.w1.cell? ⟨W0.heap.size + 1, 0, none⟩ = some (folV Bm W0.heap.size Bs (W0.heap.size + 1)) := fun g => g.cell (hst4.fol.cell 0)
      have g4 : ∀ g : Gr W4, g.w1.cell? ⟨W3.heap.size, 2, none⟩ = some (.int .i64 to) := fun g => g.cell (kR.cell 2)
      have g5 : ∀ g : Gr W4, g.w1.cell? ⟨W3.heap.size, 3, none⟩ = some (.string p) := fun g => g.cell (kR.cell 3)
      have g6 : ∀ g : Gr W4, g.w1.cell? ⟨w.heap.size, 2, none⟩ = some (.int .i64 k3) := fun g => g.cell (kK4.cell 2)
      have g7 : ∀ g : Gr W4, g.w1.cell? ⟨w.heap.size + 1, 2, none⟩ = some (.int .i64 m) := fun g => g.cell (kC4.cell 2)
      replace kK4 := Lib.hid kK4
      replace kC4 := Lib.hid kC4
      replace kR := Lib.hid kR
      replace hst4 := Lib.hid hst4
      replace hkeep4 := Lib.hid hkeep4
      refine wp_region_growtail 10 (by kernel_rfl) (by kernel_rfl) ?_
      simp only [List.take_succ_cons, List.take_zero, List.drop_succ_cons, List.drop_zero]
      repeat (go_big_quiet_step (fail))
      refine wpQuiet_nil ?_
      rintro _ ⟨g, rfl⟩
      clear g3 g4 g5 g6 g7
      have hc1z := hI.out.cost _ _ h1
      have hcall := Lib.hid (ih.out _ _ _ c1 g.w1 _ _ h1 (by omega) (by omega) (hst4.out.below g.h) (by simp; omega))
      go_wp2_with (go_at_call 49; refine hcall.out.mono ?_; rintro e w5 ⟨rfl, v5, rs, hst5, hd5, hl5, hkeep5⟩; replace hst5 := Lib.hid hst5; replace hd5 := Lib.hid hd5; replace hl5 := Lib.hid hl5; replace hkeep5 := Lib.hid hkeep5)
      go_end0
      refine ⟨rfl, v5, i :: rs, ?_, hd.out.2.1 hp.out rs hd5.out, ?_, hkeep1.out.trans ((hkeep4.out.below g.h).trans hkeep5.out)⟩
      · simpa using hst5.out
      · have := hl5.out
        simp only [List.length_cons]
        omega
    | two i hi hr hf ht hp c1 c2 h1 h2 hs =>
      dsimp only at hr
      subst hr
      have hnotneg : ¬ (i : Int) < 0 := by omega
      have hd := Lib.hid (FWhy.d (B := B) (k := (k1, k2, k3)) hi hf ht)
      obtain ⟨hin, br, offr, rfl, hcells⟩ := rls_at (w := W1) he.rls hst1.out.bel hi
      replace hcells := Lib.hid hcells
      have hrlsz : br < W0.heap.size := by
        obtain ⟨_, b', off', e, h0, _⟩ := rls_at (w := W0) he.rls (Below.refl _ _) hi
        cases e
        exact lt_of_cell h0
      have hs1 : W1.cell? ⟨Bs, 1, none⟩ = some (.slice (some ⟨br, offr, none⟩) n cap) := cell0 hst1.out.bel he.s
      replace he := Lib.hid he
      replace hI := Lib.hid hI
      generalize hrr : rAt l i = q at *
      replace hrr := Lib.hid hrr
      obtain ⟨fr, tp, to, p⟩ := q
      dsimp only at hcells hp
      clear hf ht hDw
      obtain ⟨wx, hwx⟩ : ∃ wx, W1.alloc (.cells #[.int .i64 (i : Int)] 3) = wx := ⟨_, rfl⟩
      have hEl := Lib.hid (show Els ElI wx (.slice (some ⟨w.heap.size + 1 + 1, 0, none⟩) 1 1) [(i : Int)] by rw [← hwx, ← hzW1]; exact els_one (E := ElI) (Blk.new W1 3 #[.int .i64 (i : Int)]) rfl)
      have hOx := Lib.hid (show OwnE ElI 3 (W0.heap.size + 2) wx (.slice Av nv cv') out by rw [← hwx]; exact hst1.out.own.then (below1 _ _))
      have hzx := Lib.hid (show W0.heap.size + 2 ≤ wx.heap.size by rw [← hwx, alloc_size]; omega)
      have g1 : ((p.size : Int) == 1) = false := by rw [hp]; rfl
      have g2 : ((p.size : Int) == 2) = true := by rw [hp]; rfl
      have hz0p : 0 < p.size := by omega
      have hch := (ch_eq hz0p).symm
      have hz1p : 1 < p.size := by omega
      have hch1 := (ch_eq hz1p).symm
      replace hp := Lib.hid hp
      go_enter Tryz.func49, Tryz.ntmps49
      go_wp2_with (first
        | (at_lookup; refine wpList_lookup_a _ rfl (.tmp 8) (.tmp 9) 81 rfl 104 106 key94 Tryz.underlying81 (zero96 _) rfl hmW.out (k1, k2, k3) rfl _ hkL.out ?_)
        | (at_builtin; refine wpList_append_els (E := ElI) _ rfl (.tmp 14) (.tmp 17) 26 rfl (W0.heap.size + 2) Tryz.underlying26 info3 rfl rfl (by decide) _ out rfl hOx.out _ rfl [(i : Int)] hEl.out (by simp; omega) hzx.out ?_; intro v2 w2 ho2 hb2 hg2 hl2; obtain ⟨m1, m2, W3, hW3, hst3, hkeep3, hne3, hz3, hne1⟩ := fol_mid hst1.out hzW1 hvo.out hz0 hwx ho2 hb2 hg2 hl2; clear ho2 hb2 hg2 hl2; obtain ⟨A2, n2, cap2, rfl, hn2⟩ := OwnE.shape hst3.own; have q1 := hkeep3.cell e1 (by simp; omega) (fun e => (hne1 _ e).2 rfl); have q2 := cell0 hst3.bel he.out.s; obtain ⟨x0, x1, x2, x3⟩ := rls_cells (w := W3) he.out.rls hst3.bel hi hrr.out; replace hst3 := Lib.hid hst3; replace hkeep3 := Lib.hid hkeep3; replace hne3 := Lib.hid hne3; replace hne1 := Lib.hid hne1))
      obtain ⟨W4, hW4⟩ : ∃ W4, W3.alloc (.cells #[.int .i64 fr, .int .u8 tp, .int .i64 to, .string p] 79) = W4 := ⟨_, rfl⟩
      have hB4 : Below W3.heap.size W3 W4 := by rw [← hW4]; exact below1 _ _
      have kR : Blk W4 W3.heap.size 79 #[.int .i64 fr, .int .u8 tp, .int .i64 to, .string p] := by rw [← hW4]; exact Blk.new _ _ _
      rw [hW4]
      clear hW4 x0 x1 x2 x3 q1 q2 m1 m2
      have hst4 := hst3.out.below hB4
      have hkeep4 := hkeep3.out.below hB4
      have kK4 := hkeep4.blk kK1.out (by omega) (fun e => (hne1.out _ e).1 rfl)
      have kC4 := hkeep4.blk kC.out (by omega) (fun e => (hne1.out _ e).2 rfl)
      have g3 : ∀ g : Gr W4, g.w1.cell? ⟨W0.heap.size + 1, 0, none⟩ = some (folV Bm W0.heap.size Bs (W0.heap.size + 1)) := fun g => g.cell (hst4.fol.cell 0)
      have g4 : ∀ g : Gr W4, g.w1.cell? ⟨W3.heap.size, 2, none⟩ = some (.int .i64 to) := fun g => g.cell (kR.cell 2)
      have g5 : ∀ g : Gr W4, g.w1.cell? ⟨W3.heap.size, 3, none⟩ = some (.string p) := fun g => g.cell (kR.cell 3)
      have g6 : ∀ g : Gr W4, g.w1.cell? ⟨w.heap.size, 2, none⟩ = some (.int .i64 k3) := fun g => g.cell (kK4.cell 2)
      have g7 : ∀ g : Gr W4, g.w1.cell? ⟨w.heap.size + 1, 2, none⟩ = some (.int .i64 m) := fun g => g.cell (kC4.cell 2)
      replace kK4 := Lib.hid kK4
      replace kC4 := Lib.hid kC4
      replace kR := Lib.hid kR
      replace hst4 := Lib.hid hst4
      replace hkeep4 := Lib.hid hkeep4
      refine wp_region_growtail 10 (by kernel_rfl) (by kernel_rfl) ?_
      simp only [List.take_succ_cons, List.take_zero, List.drop_succ_cons, List.drop_zero]
      repeat (go_big_quiet_step (fail))
      refine wpQuiet_nil ?_
      rintro _ ⟨g, rfl⟩
      clear g3 g4 g5 g6 g7
      have hc2z := hI.out.cost _ _ h2
      have hc1z := hI.out.cost _ _ h1
      have hcall := Lib.hid (ih.out _ _ _ c1 g.w1 _ _ h1 (by omega) (by omega) (hst4.out.below g.h) (by simp; omega))

      go_wp2_with (go_at_call 49; refine hcall.out.mono ?_; rintro e w5 ⟨rfl, v5, rs, hst5, hd5, hl5, hkeep5⟩; replace hst5 := Lib.hid hst5; replace hd5 := Lib.hid hd5; replace hl5 := Lib.hid hl5; replace hkeep5 := Lib.hid hkeep5)
      have kK5 := hkeep5.out.blk (kK4.out.below g.h kK4.out.lt) (by omega) (fun e => (hne3.out _ e).2.1 rfl)
      have kC5 := hkeep5.out.blk (kC4.out.below g.h kC4.out.lt) (by omega) (fun e => (hne3.out _ e).2.2 rfl)
      have kR5 := hkeep5.out.blk (kR.out.below g.h kR.out.lt) (by omega) (fun e => absurd (hne3.out _ e).1 (by omega))
      have g3 : ∀ g : Gr w5, g.w1.cell? ⟨W0.heap.size + 1, 0, none⟩ = some (folV Bm W0.heap.size Bs (W0.heap.size + 1)) := fun g => g.cell (hst5.out.fol.cell 0)
      have g5 : ∀ g : Gr w5, g.w1.cell? ⟨W3.heap.size, 3, none⟩ = some (.string p) := fun g => g.cell (kR5.cell 3)
      have g6 : ∀ g : Gr w5, g.w1.cell? ⟨w.heap.size, 2, none⟩ = some (.int .i64 k3) := fun g => g.cell (kK5.cell 2)
      have g7 : ∀ g : Gr w5, g.w1.cell? ⟨w.heap.size + 1, 2, none⟩ = some (.int .i64 m) := fun g => g.cell (kC5.cell 2)
      clear kK5 kC5 kR5
      have hkk := Lib.hid (hkeep1.out.trans ((hkeep4.out.below g.h).trans hkeep5.out))
      clear hcall
      refine wp_region_growtail 10 (by kernel_rfl) (by kernel_rfl) ?_
      simp only [List.take_succ_cons, List.take_zero, List.drop_succ_cons, List.drop_zero]
      repeat (go_big_quiet_step (fail))
      refine wpQuiet_nil ?_
      rintro _ ⟨g9, rfl⟩
      clear g3 g5 g6 g7
      have hl5' := hl5.out
      have hcall := Lib.hid (ih.out _ _ _ c2 g9.w1 _ _ h2 (by omega) (by omega) (hst5.out.below g9.h) (by simp; omega))
      go_wp2_with (go_at_call 49; refine hcall.out.mono ?_; rintro e w6 ⟨rfl, v6, rs6, hst6, hd6, hl6, hkeep6⟩; replace hst6 := Lib.hid hst6; replace hd6 := Lib.hid hd6; replace hl6 := Lib.hid hl6; replace hkeep6 := Lib.hid hkeep6)
      go_end0
      refine ⟨rfl, v6, i :: (rs ++ rs6), ?_, hd.out.2.2 hp.out m rs rs6 hd5.out hd6.out, ?_, (hkk.out.below g9.h).trans hkeep6.out⟩
      · simpa using hst6.out
      · have := hl6.out
        simp only [List.length_cons, List.length_append]
        omega
end
section
open Go.RowKit Go.Shelf
attribute [local go_sem] Oper.semAt_some

/-- the rules of some moves, one behind the other -/
inductive Acc (R : List Rule) (B : Int → Int → Int → Prop) (T : Key → Option Cost) : List Key → List Nat → Prop
  | nil : Acc R B T [] []
  | snoc {ks o k c rs} : Acc R B T ks o → T k = some c → D R B k.1 k.2.1 k.2.2 rs → (rs.length : Int) ≤ c.steps → Acc R B T (ks ++ [k]) (o ++ rs)
theorem Acc.len {R : List Rule} {B : Int → Int → Int → Prop} {T : Key → Option Cost} {ks : List Key} {o : List Nat} (h : Acc R B T ks o) : (o.length : Int) ≤ csum T ks := by
  induction h with
  | nil => simp [csum]
  | snoc h1 h2 h3 h4 ih =>
    rw [csum_append, csum_one _ _ h2, List.length_append]
    omega
theorem Acc.snoc_inv {R : List Rule} {B : Int → Int → Int → Prop} {T : Key → Option Cost} {ks : List Key} {k : Key} {o : List Nat} (h : Acc R B T (ks ++ [k]) o) : ∃ o' rs, o = o' ++ rs ∧ Acc R B T ks o' ∧ D R B k.1 k.2.1 k.2.2 rs := by
  generalize e : ks ++ [k] = x at h
  cases h with
  | nil => simp at e
  | snoc h1 h2 h3 h4 =>
    obtain ⟨rfl, e2⟩ := List.append_inj' e rfl
    cases e2
    exact ⟨_, _, rfl, h1, h3⟩
theorem Acc.path {R : List Rule} {B : Int → Int → Int → Prop} {T : Key → Option Cost} {p q : Int} {w : List Int} {ks : List Key} (hc : Chain T p w ks q) : ∀ {o : List Nat}, Acc R B T ks o → Path R B p w q o := by
  induction hc with
  | nil =>
    intro o h
    generalize e : ([] : List Key) = x at h
    cases h with
    | nil => exact .nil _
    | snoc => simp at e
  | snoc h1 h2 ih =>
    intro o h
    obtain ⟨o', rs, rfl, h3, h4⟩ := h.snoc_inv
    exact (ih h3).join (Path.one_iff.2 h4)
theorem csum_take_le {T : Key → Option Cost} (hc : ∀ k c, T k = some c → 0 ≤ c.steps) (ks : List Key) (j : Nat) : csum T (ks.take j) ≤ csum T ks := by
  have h : csum T ks = csum T (ks.take j) + csum T (ks.drop j) := by rw [← csum_append, List.take_append_drop]
  have := Chain.csum_nonneg (T := T) hc (ks.drop j)
  omega
theorem Chain.mem {T : Key → Option Cost} {p q : Int} {w : List Int} {ks : List Key} (h : Chain T p w ks q) : ∀ k ∈ ks, ∃ c, T k = some c := by
  induction h with
  | nil => intro k hk; cases hk
  | snoc h1 h2 ih =>
    intro k hk
    rw [List.mem_append] at hk
    rcases hk with hk | hk
    · exact ih k hk
    · simp only [List.mem_cons, List.not_mem_nil, or_false] at hk
      subst hk; exact ⟨_, h2⟩
/-- what Run hands back -/
def RunRes (l : List RuleB) (x : Int) (s : ByteArray) (y : Int) (t : ByteArray) (lo : Nat) (e : Ending) (w' : World) : Prop :=
  (¬ ReachP (l.map RuleB.plain) x (cs s) y (cs t) ∧ e = .returned (.tuple #[.slice none 0 0, .bool false, .int .i64 0])) ∨
  (ReachP (l.map RuleB.plain) x (cs s) y (cs t) ∧ (∀ n, Steps (l.map RuleB.plain) x (cs s) n y (cs t) → 1000 < n.length) ∧ e = .returned (.tuple #[.slice none 0 0, .bool false, .int .i64 22])) ∨
  (∃ (rs : List Nat) (v' : Value), Steps (l.map RuleB.plain) x (cs s) rs y (cs t) ∧ rs.length ≤ 1000 ∧ e = .returned (.tuple #[v', .bool true, .int .i64 0]) ∧ OwnE ElI 3 lo w' v' (rs.map fun (i : Nat) => (i : Int)))

set_option maxHeartbeats 4000000 in
theorem Run_any (w : World) (C x y : Int) (v : Value) (l : List RuleB) (s t : ByteArray) (h : Rls w v l) (hs : ∀ r ∈ l, r.put.size ≤ 9223372036854775807) (hss : s.size ≤ 9223372036854775807) (htt : t.size ≤ 9223372036854775807) (he : allE C l [⟨x, s⟩, ⟨y, t⟩] = 0) :
    Calls Tryz.prog 27 #[sv C v, cv ⟨x, s⟩, cv ⟨y, t⟩] w fun e w' => RunRes l x s y t w.heap.size e w' ∧ Below w.heap.size w w' := by
  obtain ⟨A, n, cap, rfl, hn⟩ := Els.shape h
  obtain ⟨W, hW⟩ : ∃ W, (((w.alloc (.cells #[.int .i64 C, .slice A n cap] 40)).alloc (.cells #[.int .i64 x, .string s] 60)).alloc (.cells #[.int .i64 y, .string t] 60)).alloc (.cells #[.int .i64 x, .string s, .int .i64 y, .string t] 60) = W := ⟨_, rfl⟩
  have hBW : Below w.heap.size w W := by rw [← hW]; exact bthen (below1 _ _) (bthen (below1 _ _) (bthen (below1 _ _) (below1 _ _)))
  have kS : Blk W w.heap.size 40 #[.int .i64 C, .slice A n cap] := by rw [← hW]; exact (((Blk.new w 40 _).alloc _).alloc _).alloc _
  have kc : Blk W (w.heap.size + 1) 60 #[.int .i64 x, .string s] := by rw [← hW]; have := Blk.new (w.alloc (.cells #[.int .i64 C, .slice A n cap] 40)) 60 #[.int .i64 x, .string s]; rw [alloc_size] at this; exact (this.alloc _).alloc _
  have kd : Blk W (w.heap.size + 1 + 1) 60 #[.int .i64 y, .string t] := by rw [← hW]; have := Blk.new ((w.alloc (.cells #[.int .i64 C, .slice A n cap] 40)).alloc (.cells #[.int .i64 x, .string s] 60)) 60 #[.int .i64 y, .string t]; rw [alloc_size, alloc_size] at this; exact this.alloc _
  have k4 : Blk W (w.heap.size + 1 + 1 + 1) 60 #[.int .i64 x, .string s, .int .i64 y, .string t] := by rw [← hW]; have := Blk.new (((w.alloc (.cells #[.int .i64 C, .slice A n cap] 40)).alloc (.cells #[.int .i64 x, .string s] 60)).alloc (.cells #[.int .i64 y, .string t] 60)) 60 #[.int .i64 x, .string s, .int .i64 y, .string t]; rw [alloc_size, alloc_size, alloc_size] at this; exact this
  have H := checkAll_any W C (.slice A n cap) (.slice (some ⟨w.heap.size + 1 + 1 + 1, 0, none⟩) 2 2) l [⟨x, s⟩, ⟨y, t⟩] (Els.then h hBW) (els_blk (E := ElC) k4 rfl rfl (by omega)) hs (by simp; exact ⟨hss, htt⟩)
  have c0 : W.cell? ⟨w.heap.size, 0, none⟩ = some (.int .i64 C) := kS.cell 0
  have c1 : W.cell? ⟨w.heap.size, 1, none⟩ = some (.slice A n cap) := kS.cell 1
  have c2 : W.cell? ⟨w.heap.size + 1 + 1, 0, none⟩ = some (.int .i64 y) := kd.cell 0
  have c3 : W.cell? ⟨w.heap.size + 1 + 1, 1, none⟩ = some (.string t) := kd.cell 1
  have c4 : W.cell? ⟨w.heap.size + 1, 0, none⟩ = some (.int .i64 x) := kc.cell 0
  have c5 : W.cell? ⟨w.heap.size + 1, 1, none⟩ = some (.string s) := kc.cell 1
  have hrW := Lib.hid (show Rls W (.slice A n cap) l from Els.then h hBW)
  replace hBW := Lib.hid hBW
  obtain ⟨hsys, h1, h2⟩ := allE_two he
  rw [he] at H
  replace H := Lib.hid H
  obtain ⟨_, hx, _, hs20⟩ := properB_iff.1 h1
  obtain ⟨_, hy, _, ht20⟩ := properB_iff.1 h2
  dsimp only at hx hy hs20 ht20
  replace hsys := Lib.hid hsys
  replace kS := Lib.hid kS
  clear h hs hss htt kc kd k4 h1 h2 he
  go_enter Tryz.func27, Tryz.ntmps27
  go_wp2_with (first
    | (go_at_call 46; refine H.out.mono ?_; rintro e w1 ⟨rfl, hb⟩; replace c0 := cell_below c0 hb; replace c1 := cell_below c1 hb; replace c2 := cell_below c2 hb; replace c3 := cell_below c3 hb; replace c4 := cell_below c4 hb; replace c5 := cell_below c5 hb; replace hb := Lib.hid hb)
    | (go_at_call 47; refine (way_any w1 C _ l x y s t (Els.then hrW.out hb.out) hsys.out (by omega) (by omega)).mono ?_; rintro e w2 ⟨pv, bm, L, ok, rfl, hok, hb2⟩; obtain ⟨st, A2, n2, cap2, rfl⟩ : ∃ st A2 n2 cap2, pv = .agg #[.int .i64 st, .slice A2 n2 cap2] := (by obtain ⟨_, _, _, st, A2, n2, cap2, e, _⟩ := hok; exact ⟨st, A2, n2, cap2, e⟩); replace hok := Lib.hid hok; replace hb2 := Lib.hid hb2))
  · obtain rfl : ok = false := by simpa using (by assumption : (!ok) = true)
    have hno := hok.out.no hsys.out
    exact bodyPost_ret (v := .tuple #[.slice none 0 0, .bool false, .int .i64 0]) (by simp [results, Tryz.results27, go_sem]) rfl ⟨.inl ⟨hno, rfl⟩, bthen hBW.out (bthen hb.out (bthen hb2.out (bthen (below1 _ _) (below1 _ _))))⟩
  · have hlt : 1000 < st := by assumption
    obtain rfl : ok = true := by simpa using (by assumption : (!ok) = false)
    have hyes := hok.out.yes hsys.out hx hy
    have hmin : ∀ n, Steps (l.map RuleB.plain) x (cs s) n y (cs t) → 1000 < n.length := fun n hn => by
      obtain ⟨_, hI, hcl, st', _, _, _, e, hT, _⟩ := hok.out
      cases e
      obtain ⟨ks, _, _, _, hle⟩ := hT rfl
      obtain ⟨ks', hk', hl'⟩ := (path_of_run (rulesOk_of hsys.out) hn).chain hI hcl
      have := hle ks' hk'
      omega
    exact bodyPost_ret (v := .tuple #[.slice none 0 0, .bool false, .int .i64 22]) (by simp [results, Tryz.results27, go_sem]) rfl ⟨.inr (.inl ⟨hyes, hmin, rfl⟩), bthen hBW.out (bthen hb.out (bthen hb2.out (bthen (below1 _ _) (below1 _ _))))⟩
  · have hle : st ≤ 1000 := by assumption
    obtain rfl : ok = true := by simpa using (by assumption : (!ok) = false)
    obtain ⟨hm2, hI, _, st', _, _, _, e, hT, _⟩ := hok.out
    cases e
    obtain ⟨ks, hE, hch, hst, _⟩ := hT rfl
    have hfar : far = 1099511627776 := rfl
    have hcs : csum (cget L) ks ≤ 1000 := by omega
    obtain ⟨W0, hW0⟩ : ∃ W0, (w2.alloc (.cells #[.int .i64 st, .slice A2 n2 cap2] 96)).alloc (.cells #[.map (some bm)] 81) = W0 := ⟨_, rfl⟩
    have hz0 : W0.heap.size = w2.heap.size + 1 + 1 := by rw [← hW0, alloc_size, alloc_size]
    have hB0 : Below w2.heap.size w2 W0 := by rw [← hW0]; exact bthen (below1 _ _) (below1 _ _)
    have kM : Blk W0 (w2.heap.size + 1) 81 #[.map (some bm)] := by rw [← hW0]; have := Blk.new (w2.alloc (.cells #[.int .i64 st, .slice A2 n2 cap2] 96)) 81 #[.map (some bm)]; rw [alloc_size] at this; exact this
    have hrls0 : Rls W0 (.slice A n cap) l := ((hrW.out.then hb.out).then hb2.out).then hB0
    have henv : FolEnv W0 (w2.heap.size + 1) w.heap.size bm L A n cap l := ⟨kM.cell 0, AMap.below hm2 hB0 (AMap.lt hm2), cell_below (cell_below (cell_below (kS.out.cell 1) hb.out) hb2.out) hB0, hrls0⟩
    have hE0 := Lib.hid (hE.then hB0)
    have hfol := Lib.hid (fun N => follow_all W0 (w2.heap.size + 1) w.heap.size bm L A n cap l (Just C y (cs t)) henv hI N)
    have hcost := Lib.hid (fun k c hk => (hI.cost k c hk).1)
    have hmem := Lib.hid hch.mem
    have hks := Lib.hid (Els.len hE).1
    rw [hW0]
    obtain ⟨W1, hW1⟩ : ∃ W1, (W0.alloc (.cells #[.slice none 0 0] 26)).alloc (.cells #[folV (w2.heap.size + 1) (w2.heap.size + 1 + 1) w.heap.size (w2.heap.size + 1 + 1 + 1)] 100) = W1 := ⟨_, rfl⟩
    have hst1 : FolSt W0 (w2.heap.size + 1) w.heap.size W1 (.slice none 0 0) [] := by
      rw [← hW1]
      refine ⟨bthen (below1 _ _) (below1 _ _), (Blk.new _ _ _).alloc _, OwnE.nil _ _ _, ?_⟩
      have := Blk.new (W0.alloc (.cells #[.slice none 0 0] 26)) 100 #[folV (w2.heap.size + 1) (w2.heap.size + 1 + 1) w.heap.size (w2.heap.size + 1 + 1 + 1)]
      rw [alloc_size] at this
      rw [hz0] at this ⊢
      exact this
    have hBw := Lib.hid (bthen hBW.out (bthen hb.out (bthen hb2.out hB0)))
    have hsys' := rulesOk_of hsys.out
    replace hch := Lib.hid hch
    replace hI := Lib.hid hI
    replace hst1 := Lib.hid hst1
    replace hsys' := Lib.hid hsys'
    change Code.wp Tryz.prog _ _ _ ((W0.alloc (.cells #[.slice none 0 0] 26)).alloc (.cells #[folV (w2.heap.size + 1) (w2.heap.size + 1 + 1) w.heap.size (w2.heap.size + 1 + 1 + 1)] 100))
    rw [hW1]
    clear hW1 hW0 hE hm2 hT hst hB0 kM hrls0 henv c0 c1 c2 c3 c4 c5
    rw [← hz0]
    have hn20 : n2 ≤ 20 := by rw [hks.out, hch.out.len, cs_length]; exact hs20
    simp only [Bool.not_true]
    have hz0h := Lib.hid hz0
    clear hz0 hfar
    go_loopw [42] (fun c wr => ∃ (j : Nat) (v : Value) (out : List Nat), j ≤ n2 ∧ c = .int .i64 (j : Int) ∧ Hid (FolSt W0 (w2.heap.size + 1) w.heap.size wr v (out.map fun (i : Nat) => (i : Int))) ∧ Hid (Acc (l.map RuleB.plain) (Just C y (cs t)) (cget L) (ks.take j) out)) (fun c _ => n2 - (intOf c).toNat)
    case atStart => exact ⟨0, _, [], Nat.zero_le _, rfl, hst1.out, .nil⟩
    case round =>
      obtain ⟨j, v, out, hj, rfl, hstr, hacc⟩ := hrel
      have hlen := hacc.out.len
      have hle2 := csum_take_le hcost.out ks j
      by_cases hlt : j < n2
      case neg =>
        obtain rfl : j = n2 := by omega
        have htk : ks.take j = ks := List.take_of_length_le (by rw [hks.out]; exact Nat.le_refl _)
        have hres : RunRes l x s y t w.heap.size (.returned (.tuple #[v, .bool true, .int .i64 0])) wr := by
          have hacc' := hacc.out
          rw [htk] at hacc'
          refine .inr (.inr ⟨out, v, run_of_path hy hsys'.out hx (hacc'.path hch.out), by omega, rfl, ?_⟩)
          have := hBw.out.size
          have := hz0h.out
          exact hstr.out.own.lo_le (by omega)
        have c6 : wr.cell? ⟨W0.heap.size, 0, none⟩ = some v := hstr.out.var.cell 0
        obtain ⟨Av, nv, cv', rfl, _⟩ := OwnE.shape hstr.out.own
        have hfin := Lib.hid (And.intro hres (bthen hBw.out hstr.out.bel))
        clear hres htk
        go_wp2
        exact bodyPost_ret (v := .tuple #[.slice Av nv cv', .bool true, .int .i64 0]) (by simp [results, Tryz.results27, go_sem]) rfl hfin.out
      have hjl : j < ks.length := by have := hks.out; omega
      obtain ⟨bk, offk, rfl, hat⟩ := Els.cell hE0.out (by omega)
      have e0 := cell0 hstr.out.bel (hat j hjl 0 _ rfl)
      have e1 := cell0 hstr.out.bel (hat j hjl 1 _ rfl)
      have e2 := cell0 hstr.out.bel (hat j hjl 2 _ rfl)
      have htk : ks.take (j + 1) = ks.take j ++ [ks[j]] := List.take_succ_eq_append_getElem hjl
      obtain ⟨c, hc⟩ := hmem.out ks[j] (List.getElem_mem hjl)
      have hle3 := csum_take_le hcost.out ks (j + 1)
      rw [htk, csum_append, csum_one _ _ hc] at hle3
      clear hat
      generalize ks[j] = k at *
      obtain ⟨k1, k2, k3⟩ := k
      change wr.cell? ⟨bk, offk + j * 3 + 0, none⟩ = some (.int .i64 k1) at e0
      change wr.cell? ⟨bk, offk + j * 3 + 1, none⟩ = some (.int .u8 k2) at e1
      change wr.cell? ⟨bk, offk + j * 3 + 2, none⟩ = some (.int .i64 k3) at e2
      rw [Nat.add_zero] at e0
      have hnn := Chain.csum_nonneg (T := cget L) hcost.out (ks.take j)
      have hcst := hcost.out _ _ hc
      have hB5 := below1 wr (.cells #[.int .i64 k1, .int .u8 k2, .int .i64 k3] 104)
      have hcall := Lib.hid (hfol.out 1001 k1 k2 k3 c _ v _ hc (by omega) (by omega) (hstr.out.below hB5) (by simp; omega))
      have f0 : (wr.alloc (.cells #[.int .i64 k1, .int .u8 k2, .int .i64 k3] 104)).cell? ⟨W0.heap.size + 1, 0, none⟩ = some (folV (w2.heap.size + 1) W0.heap.size w.heap.size (W0.heap.size + 1)) := cell_below (hstr.out.fol.cell 0) hB5
      have htk' := Lib.hid htk
      have hc' := Lib.hid hc
      clear htk hc hB5
      go_wp2_with (go_at_call 49; refine hcall.out.mono ?_; rintro e w5 ⟨rfl, v5, rs, hst5, hd5, hl5, hkeep5⟩; replace hst5 := Lib.hid hst5; replace hd5 := Lib.hid hd5; replace hl5 := Lib.hid hl5; replace hkeep5 := Lib.hid hkeep5)
      go_roundw
      case rel =>
        refine ⟨j + 1, v5, out ++ rs, by omega, by go_num, ?_, ?_⟩
        · show FolSt _ _ _ _ _ _
          rw [List.map_append]
          exact hst5.out
        · show Acc _ _ _ _ _
          rw [htk'.out]
          exact .snoc hacc.out hc'.out hd5.out hl5.out
      case measure => simp [intOf]; omega
end
end Go.Proofs.YtaapnflhjbdmlaaGreatDoor
