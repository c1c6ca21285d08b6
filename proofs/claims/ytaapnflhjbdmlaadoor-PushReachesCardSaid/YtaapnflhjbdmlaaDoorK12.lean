/- Endless's inner function: a head that comes up. No condition. -/
import Derived.Test.YtaapnflhjbdmlaaDoorKB
import Derived.Test.YtaapnflhjbdmlaaDoorOO
namespace Go.Proofs.YtaapnflhjbdmlaaDoor
open Go.RowKit Go.Shelf
attribute [local go_sem] Oper.semAt_some

/-- what stays, but some blocks and what the value owns -/
structure VKeep (xs : List Nat) (w w' : World) (v v' : Value) : Prop where
  size : w.heap.size ≤ w'.heap.size
  block : ∀ k, k < w.heap.size → k ∉ xs → v.ownBlock ≠ some k → w'.heap[k]? = w.heap[k]?
  own : v'.ownBlock = v.ownBlock ∨ ∃ g, v'.ownBlock = some g ∧ w.heap.size ≤ g
  os : w'.os = w.os
  tape : w'.tape = w.tape
  output : w'.output = w.output
theorem VKeep.refl (xs : List Nat) (w : World) (v : Value) : VKeep xs w w v v := ⟨Nat.le_refl _, fun _ _ _ _ => rfl, .inl rfl, rfl, rfl, rfl⟩
theorem VKeep.trans {xs : List Nat} {a b c : World} {u v x : Value} (h : VKeep xs a b u v) (h2 : VKeep xs b c v x) : VKeep xs a c u x := by
  refine ⟨Nat.le_trans h.size h2.size, fun k hk h1 h3 => ?_, ?_, h2.os.trans h.os, h2.tape.trans h.tape, h2.output.trans h.output⟩
  · refine (h2.block k (Nat.lt_of_lt_of_le hk h.size) h1 fun e => ?_).trans (h.block k hk h1 h3)
    rcases h.own with h4 | ⟨g, h4, h5⟩
    · exact h3 (h4.symm.trans e)
    · rw [h4] at e; cases e; omega
  · rcases h2.own with h4 | ⟨g, h4, h5⟩
    · rcases h.own with h6 | ⟨g, h6, h7⟩
      · exact .inl (h4.trans h6)
      · exact .inr ⟨g, h4.trans h6, h7⟩
    · exact .inr ⟨g, h4, Nat.le_trans h.size h5⟩
theorem VKeep.of_below {xs : List Nat} {b c : World} {v : Value} (hb : Below b.heap.size b c) : VKeep xs b c v v := ⟨hb.size, fun k hk _ _ => hb.block k hk, .inl rfl, hb.os, hb.tape, hb.output⟩
theorem VKeep.below {xs : List Nat} {a b c : World} {u v : Value} (h : VKeep xs a b u v) (hb : Below b.heap.size b c) : VKeep xs a c u v := h.trans (.of_below hb)
theorem VKeep.blk {xs : List Nat} {w w' : World} {v v' : Value} (h : VKeep xs w w' v v') {g t : Nat} {cs : Array Value} (hc : Blk w g t cs) (h1 : g ∉ xs) (h2 : v.ownBlock ≠ some g) : Blk w' g t cs :=
  (h.block _ hc.lt h1 h2).trans hc
theorem VKeep.of_grown {xs : List Nat} {w w' : World} {b : Nat} (v : Value) (hg : w.grownBy w' (some b)) (hb : b ∈ xs) : VKeep xs w w' v v :=
  ⟨hg.size, fun k hk h _ => hg.block k hk fun e => h (by cases e; exact hb), .inl rfl, hg.os, hg.tape, hg.output⟩
theorem VKeep.append {xs : List Nat} {w w' : World} {v v' : Value} (hg : w.grownBy w' v.ownBlock) (hl : lies w v v') : VKeep xs w w' v v' :=
  ⟨hg.size, fun k hk _ h => hg.block k hk fun e => h e.symm, by rcases hl with h | h; exact .inl h; exact .inr ⟨_, h, Nat.le_refl _⟩, hg.os, hg.tape, hg.output⟩
theorem VKeep.set {xs : List Nat} (w : World) (v : Value) {p : Addr} (hp : p.block ∈ xs) (u : Value) : VKeep xs w (w.setCell p u) v v :=
  ⟨by simp, fun k hk h _ => Below.heap_setCell w p u k (by rintro rfl; exact h hp), .inl rfl, rfl, rfl, rfl⟩
theorem VKeep.to_below {xs : List Nat} {w w' : World} {v v' : Value} (h : VKeep xs w w' v v') {B : Nat} (hB : B ≤ w.heap.size) (hx : ∀ x ∈ xs, B ≤ x) (hv : ∀ k, v.ownBlock = some k → B ≤ k) : Below B w w' :=
  ⟨h.os, h.tape, h.output, h.size, fun k hk => h.block k (by omega) (fun hm => by have := hx k hm; omega) (fun e => by have := hv k e; omega)⟩

def marks (H : List Head) : List (Head × Value) := H.map fun h => (h, .bool true)
theorem aget_marks (H : List Head) (h : Head) : aget (marks H) h = if h ∈ H then some (.bool true) else none := by
  unfold marks
  induction H with
  | nil => rfl
  | cons x H ih =>
    rw [List.map_cons, aget_cons, ih]
    by_cases e : h = x
    · subst e; simp
    · simp [e]
theorem aput_marks {H : List Head} {h : Head} (hn : h ∉ H) : aput (marks H) h (.bool true) = marks (H ++ [h]) := by
  unfold aput
  rw [aget_marks, if_neg hn]
  unfold marks
  simp
def addH (H : List Head) (h : Head) : List Head := if h ∈ H then H else H ++ [h]
theorem mem_addH {H : List Head} {h x : Head} : x ∈ addH H h ↔ x ∈ H ∨ x = h := by
  unfold addH
  split
  · rename_i hm
    constructor
    · exact .inl
    · rintro (h1 | rfl)
      · exact h1
      · exact hm
  · simp
/-- the heads that have come up -/
structure HSt (w : World) (Bs Bh b lo : Nat) (v : Value) (H : List Head) : Prop where
  seen : Blk w Bs 75 #[.map (some b)]
  map : AMap hv w b (marks H)
  var : Blk w Bh 74 #[v]
  own : OwnE ElH 77 lo w v H
theorem HSt.then {w w' : World} {Bs Bh b lo : Nat} {v : Value} {H : List Head} (h : HSt w Bs Bh b lo v H) (hb : Below w.heap.size w w') : HSt w' Bs Bh b lo v H :=
  ⟨h.seen.below hb h.seen.lt, h.map.below hb h.map.lt, h.var.below hb h.var.lt, h.own.then hb⟩
theorem Blk.ne_of {w : World} {g g' t t' : Nat} {cs cs' : Array Value} (h : Blk w g t cs) (h' : Blk w g' t' cs') (ht : t ≠ t') : g ≠ g' := by
  rintro rfl
  unfold Blk at h h'
  rw [h] at h'
  cases h'
  exact ht rfl
theorem AMap.ne_blk {κ : Type} {ke : κ → Value} {w : World} {b g t : Nat} {cs : Array Value} {L : List (κ × Value)} (h : AMap ke w b L) (h' : Blk w g t cs) : b ≠ g := by
  rintro rfl
  obtain ⟨_, _, h1, _⟩ := h
  unfold Blk at h'
  rw [h1] at h'
  cases h'
theorem OwnE.ne_blk {α : Type} {E : El α} {e lo : Nat} {w : World} {v : Value} {l : List α} (h : OwnE E e lo w v l) {g t : Nat} {cs : Array Value} (h' : Blk w g t cs) (ht : t ≠ e) : v.ownBlock ≠ Option.some g :=
  h.ne_obj (show w.heap[g]? = Option.some (.cells cs t (0, 0)) from h') (fun cur e' => ht (by cases e'; rfl))
theorem HSt.ne {w : World} {Bs Bh b lo : Nat} {v : Value} {H : List Head} (h : HSt w Bs Bh b lo v H) : Bs ≠ Bh ∧ b ≠ Bs ∧ b ≠ Bh ∧ v.ownBlock ≠ some Bs ∧ v.ownBlock ≠ some Bh ∧ v.ownBlock ≠ some b :=
  ⟨h.seen.ne_of h.var (by decide), h.map.ne_blk h.seen, h.map.ne_blk h.var, h.own.ne_blk h.seen (by decide), h.own.ne_blk h.var (by decide), h.own.ne_map h.map⟩
theorem zero4 (w : World) : (zeroValue 4).run Tryd.prog w = .ok (.bool false) w := by kernel_rfl

set_option maxHeartbeats 2000000 in
theorem come_any (w : World) (Bs Bh b lo : Nat) (p t : Int) (v : Value) (H : List Head) (hst : HSt w Bs Bh b lo v H) (hlen : H.length ≤ 1000) (hlo : lo ≤ w.heap.size) :
    Calls Tryd.prog 31 #[hv (p, t), .pointer (some ⟨Bs, 0, none⟩), .pointer (some ⟨Bh, 0, none⟩)] w fun e w' => e = .returned (.tuple #[]) ∧ ∃ v', HSt w' Bs Bh b lo v' (addH H (p, t)) ∧ VKeep [b, Bh] w w' v v' := by
  obtain ⟨W, hW⟩ : ∃ W, w.alloc (.cells #[.int .i64 p, .int .u8 t] 77) = W := ⟨_, rfl⟩
  have hB : Below w.heap.size w W := by rw [← hW]; exact below1 _ _
  have kh : Blk W w.heap.size 77 #[.int .i64 p, .int .u8 t] := by rw [← hW]; exact Blk.new _ _ _
  have hst1 := hst.then hB
  have hvo : ∀ g, v.ownBlock = some g → g < w.heap.size := fun g h => (hst.own.lt g h).2
  have hk1 : VKeep [b, Bh] w W v v := .of_below hB
  obtain ⟨n1, n2, n3, n4, n5, n6⟩ := hst1.ne
  have c0 : W.cell? ⟨Bs, 0, none⟩ = some (.map (some b)) := hst1.seen.cell 0
  have c1 : W.cell? ⟨w.heap.size, 0, none⟩ = some (.int .i64 p) := kh.cell 0
  have c2 : W.cell? ⟨w.heap.size, 1, none⟩ = some (.int .u8 t) := kh.cell 1
  have hwW : w.heap.size ≤ W.heap.size := hB.size
  have hwz : lo ≤ W.heap.size := by omega
  have hbh := hst.var.lt
  have hb' := hst.map.lt
  have hbs := hst.seen.lt
  obtain ⟨Av, nv, cv', rfl, hnv⟩ := OwnE.shape hst.own
  have hm1 := Lib.hid hst1.map
  replace hst1 := Lib.hid hst1
  replace hvo := Lib.hid hvo
  replace n4 := Lib.hid n4
  replace n5 := Lib.hid n5
  replace n6 := Lib.hid n6
  by_cases hin : (p, t) ∈ H
  · have hg := Lib.hid (show (aget (marks H) (p, t)).getD (.bool false) = .bool true by rw [aget_marks, if_pos hin]; rfl)
    have hadd := Lib.hid (show addH H (p, t) = H by unfold addH; rw [if_pos hin])
    replace hin := Lib.hid hin
    clear hst kh
    go_enter Tryd.func31, Tryd.ntmps31
    go_wp2_with (at_lookup; refine wpList_lookup_a _ rfl (.tmp 4) (.tmp 5) 75 rfl 77 4 key77 Tryd.underlying75 (zero4 _) rfl hm1.out (p, t) rfl _ hg.out ?_)
    go_end0
    exact ⟨rfl, _, by rw [hadd.out]; exact hst1.out, hk1⟩
  · have hg := Lib.hid (show (aget (marks H) (p, t)).getD (.bool false) = .bool false by rw [aget_marks, if_neg hin]; rfl)
    have hadd := Lib.hid (show addH H (p, t) = H ++ [(p, t)] by unfold addH; rw [if_neg hin])
    have hput := Lib.hid (aput_marks hin)
    replace hin := Lib.hid hin
    clear hst
    replace kh := Lib.hid kh
    go_enter Tryd.func31, Tryd.ntmps31
    go_wp2_with (first
      | (at_lookup; refine wpList_lookup_a _ rfl (.tmp 4) (.tmp 5) 75 rfl 77 4 key77 Tryd.underlying75 (zero4 _) rfl hm1.out (p, t) rfl _ hg.out ?_)
      | (at_mapUpdate; refine wpList_mapUpdate_a _ rfl (.tmp 8) (.tmp 9) (.const (.bool true)) 75 rfl 77 4 key77 Tryd.underlying75 rfl hm1.out (p, t) rfl (.bool true) rfl ?_; intro w2 hA2 hg2 hs2; rw [hput.out] at hA2; have kh2 : Blk w2 w.heap.size 77 #[.int .i64 p, .int .u8 t] := (hg2.block _ kh.out.lt (by simp; omega)).trans kh.out; have kv2 : Blk w2 Bh 74 #[.slice Av nv cv'] := (hg2.block _ hst1.out.var.lt (by simp; omega)).trans hst1.out.var; have d1 := kh2.cell 0; have d2 := kh2.cell 1; have d3 := kv2.cell 0; simp at d1 d2 d3; have kh2 := Lib.hid kh2; have kv2 := Lib.hid kv2; have hA2 := Lib.hid hA2; have hg2 := Lib.hid hg2; clear hs2)
      | (at_builtin; refine wpList_append_els (E := ElH) _ rfl (.tmp 10) (.tmp 12) 74 rfl lo Tryd.underlying74 info77 rfl rfl (by decide) _ H rfl ?_ _ rfl [(p, t)] ?_ ?_ ?_ ?_))
    · exact (hst1.out.own.of_block fun g hg => hg2.out.block g (hst1.out.own.lt g hg).2 fun e => n6.out (by rw [hg, e])).then (below1 _ _)
    · exact els_one (E := ElH) (Blk.new _ _ _) rfl
    · simp; omega
    · have := hg2.out.size
      simp; omega
    intro v3 w3 ho3 hb3 hg3 hl3
    obtain ⟨A3, n3', c3, rfl, _⟩ := OwnE.shape ho3
    have hB2 := below1 w2 (.cells #[.int .i64 p, .int .u8 t] 77)
    have hsz2 := hg2.out.size
    have kv3 : Blk w3 Bh 74 #[.slice Av nv cv'] := (hg3.block _ (by simp; omega) (fun e => n5.out e.symm)).trans (kv2.out.below hB2 kv2.out.lt)
    have ks3 : Blk w3 Bs 75 #[.map (some b)] := (hg3.block _ (by simp; omega) (fun e => n4.out e.symm)).trans (Blk.below (show Blk w2 Bs 75 #[.map (some b)] from (hg2.out.block _ hst1.out.seen.lt (by simp; omega)).trans hst1.out.seen) hB2 (by omega))
    have hA3 : AMap hv w3 b (marks (H ++ [(p, t)])) := (hA2.out.below hB2 hA2.out.lt).kept hg3 (fun e => n6.out e.symm)
    have hk3 : VKeep [b, Bh] w w3 (.slice Av nv cv') (.slice A3 n3' c3) := ((hk1.trans (.of_grown _ hg2.out (by simp))).below hB2).trans (.append hg3 hl3)
    have m1 := kv3.cell 0
    have m2 := kv3.free 0
    simp at m1
    have ho3 := Lib.hid ho3
    clear hb3 hg3 hl3
    replace ks3 := Lib.hid ks3
    replace hA3 := Lib.hid hA3
    replace hk3 := Lib.hid hk3
    replace kv3 := Lib.hid kv3
    (try go_frame)
    go_wp2
    go_end0
    have hown : OwnE ElH 77 lo (w3.setCell ⟨Bh, 0, none⟩ (.slice A3 n3' c3)) (.slice A3 n3' c3) (H ++ [(p, t)]) := ho3.out.of_block fun g hg => Below.heap_setCell _ _ _ _ fun e => ho3.out.ne_blk kv3.out (by decide) (by rw [hg, e])
    exact ⟨rfl, .slice A3 n3' c3, by rw [hadd.out]; exact ⟨ks3.out.far n1 _, hA3.out.setCell _ _, by have := kv3.out.set 0 (.slice A3 n3' c3); simpa using this, hown⟩, hk3.out.trans (.set _ _ (by simp) _)⟩
end Go.Proofs.YtaapnflhjbdmlaaDoor
