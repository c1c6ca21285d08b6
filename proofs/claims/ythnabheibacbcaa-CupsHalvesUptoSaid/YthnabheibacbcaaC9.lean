/- What loops over links keep; Edges. No condition. -/
import Derived.Test.YthnabheibacbcaaC8
namespace Go.Proofs.Ythnabheibacbcaa
open Go.RowKit Go.Shelf
attribute [local go_sem] Oper.semAt_some

/-- cells are as they were -/
structure CK (W W' : World) : Prop where
  size : W.heap.size ≤ W'.heap.size
  same : ∀ (b : Nat) (o : Obj), W.heap[b]? = some o → o.isCells = true → W'.heap[b]? = some o
theorem ck_put {W : World} {D : Nat} {o o' : Obj} (h : W.heap[D]? = some o) (hc : o.isCells = false) : CK W (W.putObj D o') :=
  ⟨(grownBy_putObj' W D o').size, fun b o2 hb ho => (World.putObj_heap_other (fun e => by subst e; rw [h] at hb; cases hb; rw [hc] at ho; cases ho)).trans hb⟩
theorem own_ck {β : Type} {B : Nat} {I : β → World → Prop} (h : ∀ s W W', I s W → CK W W' → I s W') : OwnFrom B I := by
  intro s W W' row hs hg hr
  refine h s W W' hs ⟨hg.size, fun b o hb ho => ?_⟩
  rw [← hb]
  refine hg.block b (Array.getElem?_eq_some_iff.1 hb).1 fun e => ?_
  obtain ⟨_, o', ho', hc⟩ := hr b e.symm
  rw [hb] at ho'; cases ho'; rw [ho] at hc; cases hc
section
variable {W W' : World}
theorem Blk.ck {g t : Nat} {cs : Array Value} (h : Blk W g t cs) (k : CK W W') : Blk W' g t cs := k.same _ _ h rfl
theorem TB.ck {g : Nat} {v o : Value} {T : Nat → Nat → Nat → Int} (h : TB W g v T o) (k : CK W W') : TB W' g v T o := by
  obtain ⟨cs, hb, rest⟩ := h
  exact ⟨cs, hb.ck k, rest⟩
theorem OwnL.ck {α : Type} {lo e : Nat} {R : Value → α → Prop} {v : Value} {xs : List α} (h : OwnL lo e R W v xs) (k : CK W W') : OwnL lo e R W' v xs := by
  obtain ⟨cs, hl, h, hR⟩ := h
  refine ⟨cs, hl, ⟨h.1, ?_⟩, hR⟩
  rcases h.2 with hn | ⟨g, cap, cur, rfl, hbb, hgg, rest⟩
  · exact .inl hn
  · exact .inr ⟨g, cap, cur, rfl, hbb, k.same _ _ hgg rfl, rest⟩
theorem cell_ck {p : Addr} {c : Value} (h : W.cell? p = some c) (k : CK W W') : W'.cell? p = some c := by
  have hh := h
  unfold World.cell? at h
  cases hb : W.heap[p.block]? with
  | none => rw [hb] at h; cases h
  | some o =>
    have ho : o.isCells = true := by
      rw [hb] at h
      cases o <;> first | rfl | cases h
    exact (World.cell?_of_block (a := p) ((k.same _ _ hb ho).trans hb.symm)).trans hh
theorem Pts.ck {v : Value} {l : List Pt} (h : Pts W v l) (k : CK W W') : Pts W' v l := by
  obtain ⟨A, cap, rfl, hl, hm, hn, hat⟩ := h
  refine ⟨A, cap, rfl, hl, hm, hn, fun i hi => ?_⟩
  obtain ⟨b, off, hA, hx, hy⟩ := hat i hi
  exact ⟨b, off, hA, cell_ck hx k, cell_ck hy k⟩
end

/-- cells are as they were, but in some blocks -/
structure CX (q : Nat → Prop) (W W' : World) : Prop where
  size : W.heap.size ≤ W'.heap.size
  same : ∀ (b : Nat) (o : Obj), ¬ q b → W.heap[b]? = some o → o.isCells = true → W'.heap[b]? = some o
theorem CX.refl (q : Nat → Prop) (W : World) : CX q W W := ⟨Nat.le_refl _, fun _ _ _ h _ => h⟩
theorem CX.trans {q : Nat → Prop} {A B C : World} (h : CX q A B) (k : CX q B C) : CX q A C := ⟨Nat.le_trans h.size k.size, fun b o hb ho hc => k.same b o hb (h.same b o hb ho hc) hc⟩
theorem own_cx {β : Type} {B : Nat} {q : Nat → Prop} {W0 : World} : OwnFrom (β := β) B (fun _ W => CX q W0 W) := by
  intro s W W' row hs hg hr
  refine ⟨Nat.le_trans hs.size hg.size, fun b o hq hb ho => ?_⟩
  have h1 := hs.same b o hq hb ho
  refine (hg.block b (Array.getElem?_eq_some_iff.1 h1).1 fun e => ?_).trans h1
  obtain ⟨_, o', ho', hc⟩ := hr b e.symm
  rw [h1] at ho'; cases ho'; rw [ho] at hc; cases hc
section
variable {q : Nat → Prop} {W W' : World}
theorem CX.below {B : Nat} (h : Below B W W') (hq : ∀ b, ¬ q b → b < W.heap.size → b < B) : CX q W W' := ⟨h.size, fun b _ hb ho _ => (h.block b (hq b hb (Array.getElem?_eq_some_iff.1 ho).1)).trans ho⟩
theorem CX.then (h : Below W.heap.size W W') : CX q W W' := .below h fun _ _ h => h
theorem CX.set {g : Nat} (hg : q g) (i : Nat) (v : Value) : CX q W (W.setCell ⟨g, i, none⟩ v) := ⟨by simp, fun b o hb ho _ => (Below.heap_setCell W _ _ _ (fun e => hb (by cases e; exact hg))).trans ho⟩
theorem CX.blk {g t : Nat} {cs : Array Value} (k : CX q W W') (h : Blk W g t cs) (hq : ¬ q g) : Blk W' g t cs := k.same _ _ hq h rfl
theorem CX.cell {p : Addr} {c : Value} (k : CX q W W') (h : W.cell? p = some c) (hq : ¬ q p.block) : W'.cell? p = some c := by
  have hh := h
  unfold World.cell? at h
  cases hb : W.heap[p.block]? with
  | none => rw [hb] at h; cases h
  | some o =>
    have ho : o.isCells = true := by
      rw [hb] at h
      cases o <;> first | rfl | cases h
    exact (World.cell?_of_block (a := p) ((k.same _ _ hq hb ho).trans hb.symm)).trans hh
theorem CX.tb {g : Nat} {v o : Value} {T : Nat → Nat → Nat → Int} (k : CX q W W') (h : TB W g v T o) (hq : ¬ q g) : TB W' g v T o := by
  obtain ⟨cs, hb, rest⟩ := h
  exact ⟨cs, k.blk hb hq, rest⟩
theorem CX.own {α : Type} {lo e : Nat} {R : Value → α → Prop} {v : Value} {xs : List α} (k : CX q W W') (h : OwnL lo e R W v xs) (hq : ∀ b, v.ownBlock = some b → ¬ q b) : OwnL lo e R W' v xs := by
  obtain ⟨cs, hl, h, hR⟩ := h
  refine ⟨cs, hl, ⟨h.1, ?_⟩, hR⟩
  rcases h.2 with hn | ⟨g, cap, cur, rfl, hbb, hgg, rest⟩
  · exact .inl hn
  · exact .inr ⟨g, cap, cur, rfl, hbb, k.same _ _ (hq g rfl) hgg rfl, rest⟩
theorem CX.pts {v : Value} {l : List Pt} (k : CX q W W') (h : Pts W v l) (hq : ∀ b, b < W.heap.size → ¬ q b) : Pts W' v l := by
  obtain ⟨A, cap, rfl, hl, hm, hn, hat⟩ := h
  refine ⟨A, cap, rfl, hl, hm, hn, fun i hi => ?_⟩
  obtain ⟨b, off, hA, hx, hy⟩ := hat i hi
  exact ⟨b, off, hA, k.cell hx (hq _ (lt_of_cell hx)), k.cell hy (hq _ (lt_of_cell hy))⟩
end
theorem own_ownT {β : Type} {B lo N cap g : Nat} (f : β → Nat → Int) : OwnFrom B (fun s W => OwnT lo 3 W g N cap (f s)) := own_ck fun _ _ _ h k => OwnL.ck h k

theorem PObj.then {w w' : World} {g : Nat} {l : List Pt} {os : List Nat} (h : PObj w g l os) (hb : Below w.heap.size w w') : PObj w' g l os := by
  obtain ⟨v, o, h1, h2, h3⟩ := h
  exact ⟨v, o, h1.then hb, h2.then hb, OwnL.below h3 (Nat.le_refl _) hb⟩
theorem PObj.ck {w w' : World} {g : Nat} {l : List Pt} {os : List Nat} (h : PObj w g l os) (k : CK w w') : PObj w' g l os := by
  obtain ⟨v, o, h1, h2, h3⟩ := h
  exact ⟨v, o, h1.ck k, h2.ck k, OwnL.ck h3 k⟩
/-- how many points are on the left of a link -/
def leftN (l : List Pt) (i j : Nat) : Nat → Nat
  | 0 => 0
  | k + 1 => leftN l i j k + if 0 < tur l i j k then 1 else 0
def leftAll (l : List Pt) (i j : Nat) : Nat := leftN l i j l.length
/-- on how many a link's emptier side has -/
def edgeK (l : List Pt) (p : Nat × Nat) : Nat := min (leftAll l p.1 p.2) (l.length - 2 - leftAll l p.1 p.2)
/-- how many links have k -/
def edgeC (l : List Pt) (ps : List (Nat × Nat)) (k : Nat) : Int := (ps.countP fun p => decide (edgeK l p = k) : Nat)
theorem edgeC_snoc (l : List Pt) (ps : List (Nat × Nat)) (p : Nat × Nat) : edgeC l (ps ++ [p]) = upd (edgeC l ps) (edgeK l p) (edgeC l ps (edgeK l p) + 1) := by
  funext k
  unfold upd edgeC
  rw [List.countP_append]
  by_cases h : k = edgeK l p
  · subst h; simp
  · rw [if_neg h]
    have : edgeK l p ≠ k := fun e => h e.symm
    simp [this]

theorem tur_self1 (l : List Pt) (i j : Nat) : tur l i j i = 0 := by unfold tur; rw [trn_zero]; unfold det; grind
theorem tur_self2 (l : List Pt) (i j : Nat) : tur l i j j = 0 := by unfold tur; rw [trn_zero]; unfold det; grind
theorem tur_self3 (l : List Pt) (i k : Nat) : tur l i i k = 0 := by unfold tur; rw [trn_zero]; unfold det; grind
theorem leftN_le (l : List Pt) (i j : Nat) (h : i ≠ j) : ∀ k, leftN l i j k + (if i < k then 1 else 0) + (if j < k then 1 else 0) ≤ k
  | 0 => by simp [leftN]
  | k + 1 => by
    have ih := leftN_le l i j h k
    simp only [leftN]
    by_cases e1 : i = k
    · subst e1
      rw [tur_self1]
      have e3 : ¬ i < i := Nat.lt_irrefl _
      rw [if_neg e3] at ih
      rw [if_pos (Nat.lt_succ_self i), if_neg (by omega)]
      split at ih
      · rw [if_pos (by omega)]; omega
      · split <;> omega
    by_cases e2 : j = k
    · subst e2
      rw [tur_self2]
      rw [if_neg (Nat.lt_irrefl j)] at ih
      rw [if_pos (Nat.lt_succ_self j), if_neg (by omega)]
      split at ih
      · rw [if_pos (by omega)]; omega
      · split <;> omega
    split at ih <;> split at ih <;> split <;> split <;> split <;> omega
theorem leftN_le0 (l : List Pt) (i j : Nat) : ∀ k, leftN l i j k ≤ k
  | 0 => by simp [leftN]
  | k + 1 => by have := leftN_le0 l i j k; simp only [leftN]; split <;> omega
theorem leftN_self (l : List Pt) (i : Nat) : ∀ k, leftN l i i k = 0
  | 0 => rfl
  | k + 1 => by simp [leftN, leftN_self l i k, tur_self3]
theorem leftAll_le {l : List Pt} {i j : Nat} (hi : i < l.length) (hj : j < l.length) : leftAll l i j ≤ l.length - 2 := by
  unfold leftAll
  by_cases h : i = j
  · subst h; rw [leftN_self]; omega
  · have := leftN_le l i j h l.length
    rw [if_pos hi, if_pos hj] at this
    omega

set_option maxRecDepth 100000 in
set_option maxHeartbeats 2000000 in
theorem Edges_ok (w : World) (v : Value) (l : List Pt) (h : Pts w v l) (hc : checkB l = true) (hg : genB l = true) (h2 : 2 ≤ l.length) :
    Calls Try.prog 25 #[v] w fun e w' => ∃ v' os, e = .returned (.tuple #[v', .int .i64 0]) ∧ Ordd l os ∧ OwnI w.heap.size 3 w' v' (tab ((l.length - 2) / 2 + 1) (edgeC l (linksL os))) ∧ Below w.heap.size w w' := by
  refine (callsIn_wide (n := 3)).1 ?_
  refine callsIn_of_wp_marks Try.func25 rfl trivial ?_ rfl
  simp only [Try.ntmps25, List.size_toArray, List.length_cons, List.length_nil, Nat.reduceAdd, Nat.reduceSub, Array.replicate_succ, Array.replicate_zero, List.push_toArray, List.append_toArray, List.nil_append, List.cons_append]
  refine (wpIn_wide (n := 3)).2 ?_
  obtain ⟨A, n, cap, rfl, hn⟩ := h.shape
  obtain ⟨W0, hW0⟩ : ∃ W0, w.alloc (.cells #[.slice A n cap] 31) = W0 := ⟨_, rfl⟩
  have k0 : Blk W0 w.heap.size 31 #[.slice A n cap] := by rw [← hW0]; exact Blk.new w 31 _
  have k0c : W0.cell? ⟨w.heap.size, 0, none⟩ = some (.slice A n cap) := by have := k0.cell 0; simpa using this
  have hB0 := Lib.hid (show Below w.heap.size w W0 by rw [← hW0]; exact below1 _ _)
  have hsz : w.heap.size < W0.heap.size := by rw [← hW0]; simp
  have H := Lib.hid (open_ok W0 _ l 1 (h.then hB0.out) hc hg (by omega))
  have hn2 : 2 ≤ n := by rw [hn.out]; exact h2
  have hn14 : n ≤ 14 := by rw [hn.out]; unfold checkB at hc; simp at hc; exact hc.1.2
  replace h := Lib.hid h
  replace k0 := Lib.hid k0
  clear hc hg h2
  have hm : ¬ (n : Int) < 2 := by omega
  have hq : ((n : Int) - 2) / 2 + 1 = (((n - 2) / 2 + 1 : Nat) : Int) := by omega
  go_wp2_with (first
    | (go_at_call 54; refine H.out.mono ?_; rintro e w1 ⟨g, os, rfl, hg1, hord, hP, hb⟩; obtain ⟨v1, o1, hT, hp, ho⟩ := hP; have hgl := hT.lt; have hol := OwnL.lt ho; obtain ⟨W2, hW2⟩ : ∃ W2, w1.alloc (.cells #[.pointer (some ⟨g, 0, none⟩)] 66) = W2 := ⟨_, rfl⟩; have hB2 := (show Below w1.heap.size w1 W2 by rw [← hW2]; exact below1 _ _); have k2b := Lib.hid ((k0.out.then hb).then hB2); have k2c := cell_below (cell_below k0c hb) hB2; have kp2 := (show Blk W2 w1.heap.size 66 #[.pointer (some ⟨g, 0, none⟩)] by rw [← hW2]; exact Blk.new _ _ _); have kp2c := (show W2.cell? ⟨w1.heap.size, 0, none⟩ = some (.pointer (some ⟨g, 0, none⟩)) by have := kp2.cell 0; simpa using this); have hz1 := hb.size; have hz2 := (show w1.heap.size < W2.heap.size by rw [← hW2]; simp); replace hT := Lib.hid (hT.then hB2); replace ho := Lib.hid (OwnL.below ho (Nat.le_refl _) hB2); replace hol := Lib.hid hol; replace hord := Lib.hid hord; replace hb := Lib.hid (bthen hB0.out (bthen hb hB2)); replace kp2 := Lib.hid kp2; clear hB2 hp)
    | (at_make; refine wpList_make_ints rfl (.tmp 26) (.tmp 26) 33 rfl w.heap.size 3 Try.underlying33 info3 ((n - 2) / 2 + 1) rfl rfl (by omega) hb.out.size _ rfl ?_; intro w3 hT3 hB3 hz3; obtain ⟨W4, hW4⟩ : ∃ W4, w3.alloc (.cells #[.slice (some ⟨W2.heap.size, 0, none⟩) ((n - 2) / 2 + 1) ((n - 2) / 2 + 1)] 33) = W4 := ⟨_, rfl⟩; have hB4 := (show Below w3.heap.size w3 W4 by rw [← hW4]; exact below1 _ _); have hB4' := bthen hB3 hB4; replace k2b := Lib.hid (k2b.out.then hB4'); replace k2c := cell_below k2c hB4'; replace kp2 := Lib.hid (kp2.out.then hB4'); replace kp2c := cell_below kp2c hB4'; replace hT := Lib.hid (hT.out.then hB4'); replace ho := Lib.hid (OwnL.below ho.out (Nat.le_refl _) hB4'); have ko4 := (show Blk W4 w3.heap.size 33 #[.slice (some ⟨W2.heap.size, 0, none⟩) ((n - 2) / 2 + 1) ((n - 2) / 2 + 1)] by rw [← hW4]; exact Blk.new _ _ _); replace ko4 := Lib.hid ko4; replace hT3 := Lib.hid (hT3.below (Nat.le_refl _) hB4); have hz4 := (show w3.heap.size < W4.heap.size by rw [← hW4]; simp); replace hb := Lib.hid (bthen hb.out hB4'); clear hB4 hB4' hB3)
    | (go_at_call 64; refine (links_any _ _).mono ?_; rintro e w5 ⟨rfl, rfl⟩))
  obtain ⟨W5, hW5⟩ : ∃ W5, W4.alloc (.cells #[.pointer (some ⟨g, 0, none⟩)] 66) = W5 := ⟨_, rfl⟩
  rw [hW5]
  have hB5 : Below W4.heap.size W4 W5 := by rw [← hW5]; exact below1 _ _
  have hz5 : W4.heap.size < W5.heap.size := by rw [← hW5]; simp
  have k5 : Blk W5 W4.heap.size 66 #[.pointer (some ⟨g, 0, none⟩)] := by rw [← hW5]; exact Blk.new _ _ _
  have k5c : W5.cell? ⟨W4.heap.size, 0, none⟩ = some (.pointer (some ⟨g, 0, none⟩)) := by have := k5.cell 0; simpa using this
  have c1 := cell_below k2c hB5
  have c4 := cell_below kp2c hB5
  have c6 : W5.cell? ⟨w3.heap.size, 0, none⟩ = some (.slice (some ⟨W2.heap.size, 0, none⟩) ((n - 2) / 2 + 1) ((n - 2) / 2 + 1)) := by have := (ko4.out.then hB5).cell 0; simpa using this
  replace hT := hT.out.then hB5
  replace ho := OwnL.below ho.out (Nat.le_refl _) hB5
  replace hT3 := hT3.out.below (Nat.le_refl _) hB5
  replace hb := bthen hb.out hB5
  have hos : ∀ k ∈ os, k < n := fun k hk => by have := hord.out.1.mem_iff.1 hk; rw [hn.out]; simpa using this
  have hoslen : os.length = n := by rw [hord.out.1.length_eq, List.length_range, hn.out]
  refine (wpIn_wide (n := 3)).1 ?_
  refine' wpIn_rangeFunc_ownF (n := 3) rfl (by omega) (gf := 86) (lb := #[.pointer (some ⟨W4.heap.size, 0, none⟩)]) rfl trivial (enters_of Try.func86 (by kernel_rfl) rfl)
    (links1_stops 2 (by omega) W4.heap.size g (g + 1) o1 os n hos (by omega) W5 k5c hT.order ho) (fun h k => h.trans k)
    (fun W l o o' hl h hc hw b hb' => World.putObj_heap_other (by rcases hb' with rfl | rfl | hb'; omega; omega; have := hol.out b hb'; omega)) (Below.refl _ _) (fun _ => rfl)
    (fun pre W => CX (fun b => b = W2.heap.size) W5 W ∧ OwnT w.heap.size 3 W W2.heap.size ((n - 2) / 2 + 1) ((n - 2) / 2 + 1) (edgeC l (pre.map (·.1))) ∧ Below w.heap.size w W)
    (fun _ _ _ => False)
    (own_cx.and ((own_ownT (fun pre : List (Lk n) => edgeC l (pre.map (·.1)))).and (ownFrom_below (Nat.le_refl _) (by have := hb.size; omega))))
    (fun _ _ _ _ _ h _ _ => h)
    ⟨.refl _ _, hT3, hb⟩
    _ ?assign ?body ?done ?stop
  case assign =>
    intro l x W K hK
    replace hK := Lib.hid hK
    unfold encLk
    gi_wp2
    exact hK.out
  case stop =>
    rintro D c pre W _ _ h _
    exact h.elim
  case body =>
    rintro l' pre ⟨⟨x, y⟩, hx, hy⟩ W ⟨hX, hO, hB⟩ hpl
    dsimp only at hx hy
    have m1 := hX.cell c1 (by simp; omega)
    have m4 := hX.cell c4 (by simp; omega)
    have m6 := hX.cell c6 (by simp; omega)
    have hTW := hX.tb hT (by omega)
    have mt : ∀ k, k < n → W.cell? ⟨g, 1 + x * 196 + y * 14 + k, none⟩ = some (.int .i8 (tur l x y k)) := fun k hk => by
      have := hTW.turn x y k (by omega) (by omega) (by omega)
      rwa [if_pos ⟨by have := hn.out; omega, by have := hn.out; omega, by have := hn.out; omega⟩] at this
    replace mt := Lib.hid mt
    have hh := Lib.hid (And.intro hX (And.intro hO hB))
    replace hb := Lib.hid hb
    clear hX hTW hO hB c1 c4 c6 hT ho hT3 k5 k5c
    gi_wp2
    gi_loopw [9, 34] (fun c9 c34 wr => ∃ k, k ≤ n ∧ c34 = .int .i64 (k : Int) ∧ c9 = .int .i64 ((leftN l x y k : Nat) : Int) ∧ wr = W) (fun _ c _ => n - (intOf c).toNat)
    case atStart => exact ⟨0, Nat.zero_le _, rfl, rfl, rfl⟩
    case round =>
      obtain ⟨k, hk, rfl, rfl, rfl⟩ := hrel
      by_cases hlt : k < n
      · have mk := mt.out k hlt
        have hkl : leftN l x y k ≤ k := leftN_le0 l x y k
        have hst := Lib.hid (show leftN l x y (k + 1) = leftN l x y k + if 0 < tur l x y k then 1 else 0 from rfl)
        by_cases ht : 0 < tur l x y k
        · gi_wp2
          go_roundw
          case rel => exact ⟨k + 1, by omega, by go_num, by rw [hst.out, if_pos ht]; go_num, trivial⟩
          case measure => simp [intOf]; omega
        · gi_wp2
          go_roundw
          case rel => exact ⟨k + 1, by omega, by go_num, by rw [hst.out, if_neg ht]; go_num, trivial⟩
          case measure => simp [intOf]; omega
      · obtain rfl : k = n := by omega
        have hle := leftAll_le (l := l) (i := x) (j := y) (by have := hn.out; omega) (by have := hn.out; omega)
        have hek : edgeK l (x, y) = min (leftAll l x y) (k - 2 - leftAll l x y) := by unfold edgeK; rw [hn.out]
        have hL : leftAll l x y = leftN l x y k := by unfold leftAll; rw [hn.out]
        rw [hL] at hek hle
        rw [← hn.out] at hle
        generalize hLn : leftN l x y k = L at *
        replace hLn := Lib.hid hLn
        obtain ⟨e, he⟩ : ∃ e, e = edgeK l (x, y) := ⟨_, rfl⟩
        have hek2 : e < (k - 2) / 2 + 1 := by rw [he, hek]; omega
        have hsub : IntKind.i64.wrap ((k : Int) - 2 - (L : Int)) = (k : Int) - 2 - (L : Int) := wrap_small _ (by omega) (by omega)
        have hmn : min (L : Int) ((k : Int) - 2 - (L : Int)) = (e : Int) := by rw [he, hek]; omega
        have hin : 0 ≤ (e : Int) ∧ (e : Int) < ((k - 2 : Nat) : Int) / 2 + 1 := by omega
        obtain ⟨hX, hO, hB⟩ := hh.out
        have mO := hO.at e hek2
        have mF := hO.free e (by omega)
        have hcb : 0 ≤ edgeC l (pre.map (·.1)) e ∧ edgeC l (pre.map (·.1)) e < 1000 := by
          unfold edgeC
          have h1 := List.countP_le_length (p := fun p => decide (edgeK l p = e)) (l := pre.map (·.1))
          rw [List.length_map] at h1
          omega
        have hst := Lib.hid (edgeC_snoc l (pre.map (·.1)) (x, y))
        rw [← he] at hst
        generalize hcv : edgeC l (pre.map (·.1)) e = c at *
        replace hcv := Lib.hid hcv
        clear hX hO hB hek hL he hle
        gi_wp2
        obtain ⟨hX, hO, hB⟩ := hh.out
        refine ⟨KeepsOthers.setCell _ _ _, fun b hb' => Below.heap_setCell _ _ _ _ (fun e' => ?_), hX.trans (.set (g := W2.heap.size) (q := fun b => b = W2.heap.size) rfl _ _), ?_, hB.setCell (p := ⟨W2.heap.size, e, none⟩) (by have := hsz; show w.heap.size ≤ W2.heap.size; omega) _⟩
        · dsimp only at e'
          rcases hb' with rfl | rfl | hb'
          · omega
          · omega
          · have := hol.out b hb'; omega
        · rw [List.map_append]
          simp only [List.map_cons, List.map_nil]
          rw [hst.out]
          have := hO.set e (c + 1)
          rw [← hcv.out]
          rw [← hcv.out] at this
          exact this
  case done =>
    rintro D xs W hD hxs ⟨hX, hO, hB⟩ hK
    have m6 := hX.cell c6 (by simp; omega)
    have hh := Lib.hid (And.intro hO (And.intro hB hK))
    replace hb := Lib.hid hb
    replace hxs := Lib.hid hxs
    clear hX hO hB hK c1 c4 c6 hT ho hT3 k5 k5c
    go_wp2
    obtain ⟨hO, hB, hK⟩ := hh.out
    refine ⟨by simp, .inl ⟨_, _, rfl, run_takeDeferred hK, ?_⟩⟩
    refine ⟨_, by simp [results, Try.results25, go_sem]; rfl, _, os, rfl, hord.out, ?_, hB.trans (belowK_b (w := w) (Nat.le_refl _) W D _ _ (by omega) hK rfl rfl)⟩
    rw [← hxs.out, ← hn.out]
    exact OwnL.ck hO (ck_put hK rfl)
end Go.Proofs.Ythnabheibacbcaa
