/- Plain: the search for a longest chain of corners, with what is cut off. No condition. The search's memory: what it reads, what it writes. No condition. The search's closure (polygon$2). No condition. Sorting numbers that the call owns, where the order is one only among them; sorting none. No condition. Plain: the best of the searches from each first corner. No condition. -/
import Derived.Test.YthnabheibacbcaaG3
import Derived.Test.YthnabheibacbcaaC12
import Derived.Test.YthnabheibacbcaaFB
import Derived.Deep.CutRange
import Derived.Deep.RegionHeld3
import Derived.IntWalk
import Derived.Test.YthnabheibacbcaaSrt
namespace Go.Proofs.Ythnabheibacbcaa
section
section
variable (t : Nat → Nat → Nat → Int) (iE : Nat → Nat → Nat → Bool) (E : Bool) (f : Nat)
/-- may i follow? -/
def addOk (xs : List Nat) (i : Nat) : Bool :=
  decide (xs.length ≤ 1) || (decide (0 < t (natAt xs (xs.length - 2)) (natAt xs (xs.length - 1)) i) && (!E || iE f (natAt xs (xs.length - 1)) i))
def Ext : List Nat → List Nat → Prop
  | _, [] => True
  | xs, i :: r => addOk t iE E f xs i = true ∧ Ext (xs ++ [i]) r
/-- is it closed? -/
def closedB (xs : List Nat) : Bool :=
  decide (3 ≤ xs.length) && (decide (0 < t (natAt xs (xs.length - 2)) (natAt xs (xs.length - 1)) f) && decide (0 < t (natAt xs (xs.length - 1)) f (natAt xs 1)))
/-- ys is found on the way from xs on, among those of B from k on -/
def Found (B xs : List Nat) (k : Nat) (ys : List Nat) : Prop := ∃ r, r.Sublist (B.drop k) ∧ Ext t iE E f xs r ∧ closedB t f (xs ++ r) = true ∧ ys = xs ++ r

/-- what a whole search from xs on brings -/
structure GP (B xs : List Nat) (k : Nat) (ys ys' : List Nat) : Prop where
  val : ys' = ys ∨ Found t iE E f B xs k ys'
  mono : ys.length ≤ ys'.length
  max : ∀ r, r.Sublist (B.drop k) → Ext t iE E f xs r → closedB t f (xs ++ r) = true → (xs ++ r).length ≤ ys'.length
/-- what it has brought ahead of number j -/
structure LP (B xs : List Nat) (k j : Nat) (ys ys' : List Nat) : Prop where
  kj : k ≤ j
  val : ys' = ys ∨ Found t iE E f B xs k ys'
  mono : ys.length ≤ ys'.length
  max0 : closedB t f xs = true → xs.length ≤ ys'.length
  max : ∀ i r, k ≤ i → i < j → r.Sublist (B.drop (i + 1)) → Ext t iE E f xs (natAt B i :: r) → closedB t f (xs ++ natAt B i :: r) = true → (xs ++ natAt B i :: r).length ≤ ys'.length
end

section
variable {t : Nat → Nat → Nat → Int} {iE : Nat → Nat → Nat → Bool} {E : Bool} {f : Nat} {B xs ys ys' ys'' : List Nat} {k j : Nat}
theorem drop_at {B : List Nat} {k : Nat} (h : k < B.length) : B.drop k = natAt B k :: B.drop (k + 1) := by
  rw [natAt_eq h]; exact List.drop_eq_getElem_cons h
theorem sub_first {x : Nat} {r B : List Nat} : ∀ (d k : Nat), B.length - k = d → (x :: r).Sublist (B.drop k) → ∃ i, k ≤ i ∧ i < B.length ∧ natAt B i = x ∧ r.Sublist (B.drop (i + 1))
  | 0, k, hd, h => by rw [List.drop_eq_nil_of_le (by omega)] at h; cases h
  | d + 1, k, hd, h => by
    rw [drop_at (by omega)] at h
    cases h with
    | cons _ h =>
      obtain ⟨i, h1, h2⟩ := sub_first d (k + 1) (by omega) h
      exact ⟨i, by omega, h2⟩
    | cons_cons _ h => exact ⟨k, Nat.le_refl _, by omega, rfl, h⟩
theorem GP.len (h : GP t iE E f B xs k ys ys') : ys'.length ≤ ys.length ∨ ys'.length ≤ xs.length + (B.length - k) := by
  rcases h.val with e | ⟨r, hs, _, _, e⟩
  · exact .inl (by rw [e]; exact Nat.le_refl _)
  · have := hs.length_le
    rw [List.length_drop] at this
    exact .inr (by rw [e, List.length_append]; omega)
theorem LP.start (hnl : closedB t f xs = true → xs.length ≤ ys'.length) (hv : ys' = ys ∨ (closedB t f xs = true ∧ ys' = xs)) (hm : ys.length ≤ ys'.length) : LP t iE E f B xs k k ys ys' :=
  ⟨Nat.le_refl _, hv.imp id fun ⟨h1, h2⟩ => ⟨[], List.nil_sublist _, trivial, by rwa [List.append_nil], by rw [List.append_nil]; exact h2⟩, hm, hnl, fun i r h1 h2 => by omega⟩
theorem LP.skip (h : LP t iE E f B xs k j ys ys') (hno : addOk t iE E f xs (natAt B j) = false) : LP t iE E f B xs k (j + 1) ys ys' :=
  ⟨by have := h.kj; omega, h.val, h.mono, h.max0, fun i r h1 h2 hs he hc => by
    by_cases e : i = j
    · subst e; rw [he.1] at hno; cases hno
    · exact h.max i r h1 (by omega) hs he hc⟩
theorem drop_sub {B : List Nat} {i j : Nat} (h : i ≤ j) : (B.drop j).Sublist (B.drop i) := by
  have e : B.drop j = (B.drop i).drop (j - i) := by rw [List.drop_drop]; congr 1; omega
  rw [e]; exact List.drop_sublist _ _
theorem LP.recur (h : LP t iE E f B xs k j ys ys') (hj : j < B.length) (hyes : addOk t iE E f xs (natAt B j) = true) (hg : GP t iE E f B (xs ++ [natAt B j]) (j + 1) ys' ys'') : LP t iE E f B xs k (j + 1) ys ys'' := by
  have hkj := h.kj
  refine ⟨by omega, ?_, Nat.le_trans h.mono hg.mono, fun hc => Nat.le_trans (h.max0 hc) hg.mono, fun i r h1 h2 hs he hc => ?_⟩
  · rcases hg.val with e | ⟨r, hs, he, hc, e⟩
    · rw [e]; exact h.val
    · refine .inr ⟨natAt B j :: r, ?_, ⟨hyes, he⟩, by simpa using hc, by simpa using e⟩
      refine List.Sublist.trans ?_ (drop_sub hkj)
      rw [drop_at hj]
      exact hs.cons_cons _
  · by_cases e : i = j
    · subst e
      have := hg.max r hs he.2 (by simpa using hc)
      simpa using this
    · exact Nat.le_trans (h.max i r h1 (by omega) hs he hc) hg.mono
theorem LP.stop (h : LP t iE E f B xs k j ys ys') (hj : j = B.length ∨ xs.length + (B.length - j) ≤ ys'.length) : GP t iE E f B xs k ys ys' := by
  refine ⟨h.val, h.mono, fun r hs he hc => ?_⟩
  match r, hs, he, hc with
  | [], _, _, hc => rw [List.append_nil] at hc ⊢; exact h.max0 hc
  | x :: r, hs, he, hc =>
    obtain ⟨i, h1, h2, rfl, h4⟩ := sub_first _ k rfl hs
    by_cases c : i < j
    · exact h.max i r h1 c h4 he hc
    · have h5 := h4.length_le
      rw [List.length_drop] at h5
      simp only [List.length_append, List.length_cons]
      omega
end
end
section
open Go.RowKit Go.Shelf

def okG (M BL BO b : Nat) : Prop := b < M ∧ b ≠ BL ∧ b ≠ BO
/-- all blocks below M but two are as they were -/
structure Keep (M BL BO : Nat) (w w' : World) : Prop where
  os : w'.os = w.os
  tape : w'.tape = w.tape
  output : w'.output = w.output
  size : w.heap.size ≤ w'.heap.size
  block : ∀ b, okG M BL BO b → w'.heap[b]? = w.heap[b]?
section
variable {M BL BO : Nat} {w w' w'' : World}
theorem Keep.refl (M BL BO : Nat) (w : World) : Keep M BL BO w w := ⟨rfl, rfl, rfl, Nat.le_refl _, fun _ _ => rfl⟩
theorem Keep.trans (h : Keep M BL BO w w') (k : Keep M BL BO w' w'') : Keep M BL BO w w'' :=
  ⟨k.os.trans h.os, k.tape.trans h.tape, k.output.trans h.output, Nat.le_trans h.size k.size, fun b hb => (k.block b hb).trans (h.block b hb)⟩
theorem Keep.ofBelow {B : Nat} (h : Below B w w') (hM : M ≤ B) : Keep M BL BO w w' :=
  ⟨h.os, h.tape, h.output, h.size, fun b hb => h.block b (by have := hb.1; omega)⟩
theorem Keep.setL (M BL BO i : Nat) (w : World) (v : Value) : Keep M BL BO w (w.setCell ⟨BL, i, none⟩ v) :=
  ⟨rfl, rfl, rfl, by simp, fun b hb => Below.heap_setCell w _ _ _ hb.2.1⟩
theorem Keep.setO (M BL BO i : Nat) (w : World) (v : Value) : Keep M BL BO w (w.setCell ⟨BO, i, none⟩ v) :=
  ⟨rfl, rfl, rfl, by simp, fun b hb => Below.heap_setCell w _ _ _ hb.2.2⟩
theorem Keep.ofGrown {row : Option Nat} (h : w.grownBy w' row) (hM : M ≤ w.heap.size) (hr : ∀ k, row = some k → M ≤ k) : Keep M BL BO w w' :=
  ⟨h.os, h.tape, h.output, h.size, fun b hb => h.block b (by have := hb.1; omega) (fun e => by have := hr b e.symm; have := hb.1; omega)⟩
theorem Keep.cell (h : Keep M BL BO w w') {p : Addr} {c : Value} (hp : okG M BL BO p.block) (hc : w.cell? p = some c) : w'.cell? p = some c :=
  (World.cell?_of_block (h.block _ hp)).trans hc
end

/-- what the search reads -/
structure GEnv (w : World) (M g L BL BO Bp Bf Bb Be Bg : Nat) (t : Nat → Nat → Nat → Int) (os B : List Nat) (f : Nat) (E : Bool) (vo vb : Value) : Prop where
  og : okG M BL BO g
  op : okG M BL BO Bp
  of : okG M BL BO Bf
  ob : okG M BL BO Bb
  oe : okG M BL BO Be
  og2 : okG M BL BO Bg
  T : ∀ i j k, i < L → j < L → k < L → w.cell? ⟨g, 1 + i * 196 + j * 14 + k, none⟩ = some (.int .i8 (t i j k))
  O : w.cell? ⟨g, 2745, none⟩ = some vo
  cp : w.cell? ⟨Bp, 0, none⟩ = some (.pointer (some ⟨g, 0, none⟩))
  cf : w.cell? ⟨Bf, 0, none⟩ = some (.int .i64 (f : Int))
  cb : w.cell? ⟨Bb, 0, none⟩ = some vb
  ce : w.cell? ⟨Be, 0, none⟩ = some (.bool E)
  cg : w.cell? ⟨Bg, 0, none⟩ = some (.func (.func 94) #[] #[.pointer (some ⟨BL, 0, none⟩), .pointer (some ⟨BO, 0, none⟩), .pointer (some ⟨Bp, 0, none⟩), .pointer (some ⟨Bf, 0, none⟩), .pointer (some ⟨Bb, 0, none⟩), .pointer (some ⟨Be, 0, none⟩), .pointer (some ⟨Bg, 0, none⟩)])
  sos : Slc (okG M BL BO) isI w vo (nats os)
  sB : Slc (okG M BL BO) isI w vb (nats B)
section
variable {w w' : World} {M g L BL BO Bp Bf Bb Be Bg : Nat} {t : Nat → Nat → Nat → Int} {os B : List Nat} {f : Nat} {E : Bool} {vo vb : Value}
theorem GEnv.keep (h : GEnv w M g L BL BO Bp Bf Bb Be Bg t os B f E vo vb) (k : Keep M BL BO w w') : GEnv w' M g L BL BO Bp Bf Bb Be Bg t os B f E vo vb :=
  ⟨h.og, h.op, h.of, h.ob, h.oe, h.og2, fun i j c a b d => k.cell h.og (h.T i j c a b d), k.cell h.og h.O, k.cell h.op h.cp, k.cell h.of h.cf, k.cell h.ob h.cb, k.cell h.oe h.ce, k.cell h.og2 h.cg,
    Slc.keep h.sos (fun b hb _ => ⟨hb, k.block b hb⟩) (fun _ _ _ h => h), Slc.keep h.sB (fun b hb _ => ⟨hb, k.block b hb⟩) (fun _ _ _ h => h)⟩
theorem GEnv.ios (h : GEnv w M g L BL BO Bp Bf Bb Be Bg t os B f E vo vb) : Ints w vo (nats os) := Slc.keep h.sos (fun _ _ _ => ⟨trivial, rfl⟩) (fun _ _ _ h => h)
theorem GEnv.iB (h : GEnv w M g L BL BO Bp Bf Bb Be Bg t os B f E vo vb) : Ints w vb (nats B) := Slc.keep h.sB (fun _ _ _ => ⟨trivial, rfl⟩) (fun _ _ _ h => h)
end

/-- what the search writes: the way l, the best one -/
def GVar (w : World) (M BL BO : Nat) (xs ys : List Nat) : Prop :=
  ∃ vl vo, Blk w BL 33 #[vl] ∧ Blk w BO 33 #[vo] ∧ OwnI M 3 w vl (nats xs) ∧ OwnI (BO + 1) 3 w vo (nats ys) ∧ ∀ b, vl.ownBlock = some b → vo.ownBlock ≠ some b
section
variable {w w' : World} {M BL BO : Nat} {xs ys : List Nat}
theorem Blk.below1 {g t : Nat} {cs : Array Value} (h : Blk w g t cs) (hb : Below w.heap.size w w') : Blk w' g t cs := h.below hb h.lt
theorem GVar.below (h : GVar w M BL BO xs ys) (hb : Below w.heap.size w w') : GVar w' M BL BO xs ys := by
  obtain ⟨vl, vo, h1, h2, h3, h4, h5⟩ := h
  exact ⟨vl, vo, h1.below1 hb, h2.below1 hb, OwnL.below h3 (Nat.le_refl _) hb, OwnL.below h4 (Nat.le_refl _) hb, h5⟩
/-- a block of one cell of slices is no row of numbers -/
theorem OwnI.ne_blk {lo : Nat} {v : Value} {zs : List Int} (h : OwnI lo 3 w v zs) {b : Nat} {cs : Array Value} (hb : Blk w b 33 cs) : v.ownBlock ≠ some b := by
  intro e
  obtain ⟨c, hl, h, hR⟩ := h
  rcases h.2 with ⟨rfl, _⟩ | ⟨g, cap, cur, rfl, _, hg, _⟩
  · simp [Value.ownBlock] at e
  · have e' : g = b := by simpa [Value.ownBlock] using e
    subst e'
    unfold Blk at hb
    rw [hg] at hb
    injection hb with hb
    injection hb with _ hb _
    exact absurd hb (by decide)
/-- storing a slice leaves rows of numbers alone -/
theorem OwnI.setBlk {lo : Nat} {v : Value} {zs : List Int} (h : OwnI lo 3 w v zs) {b i : Nat} {cs : Array Value} {u : Value} (hb : Blk w b 33 cs) : OwnI lo 3 (w.setCell ⟨b, i, none⟩ u) v zs :=
  OwnL.kept h (gset w b i u) (.inr (h.ne_blk hb))
/-- a better one is stored -/
theorem GVar.best (h : GVar w M BL BO xs ys) (hb : Below w.heap.size w w') {v : Value} {zs : List Nat} (hne : BL ≠ BO) (hO : BO < w.heap.size) (hv : OwnI w.heap.size 3 w' v (nats zs)) :
    GVar (w'.setCell ⟨BO, 0, none⟩ v) M BL BO xs zs := by
  obtain ⟨vl, vo, h1, h2, h3, h4, h5⟩ := h
  refine ⟨vl, v, (h1.below1 hb).far hne v, by simpa using (h2.below1 hb).set 0 v, OwnI.setBlk (OwnL.below h3 (Nat.le_refl _) hb) (h2.below1 hb), OwnI.setBlk (OwnL.lo_le hv (by omega)) (h2.below1 hb), fun b e1 e2 => ?_⟩
  have a1 := (OwnL.lt h3 b e1).2
  have a2 := (OwnL.lt hv b e2).1
  omega
/-- one more corner -/
theorem GVar.push {vl vo v' : Value} {i : Nat} (hne : BL ≠ BO) (hLM : BL < M) (hOM : BO < M) (h1 : Blk w BL 33 #[vl]) (h2 : Blk w BO 33 #[vo]) (h4 : OwnI (BO + 1) 3 w vo (nats ys)) (h5 : ∀ b, vl.ownBlock = some b → vo.ownBlock ≠ some b)
    (hv : OwnI M 3 w' v' (nats xs ++ [(i : Int)])) (hb : Below M w w') (hg : w.grownBy w' vl.ownBlock) (hl : v'.ownBlock = vl.ownBlock ∨ ∃ b, v'.ownBlock = some b ∧ w.heap.size ≤ b) :
    GVar (w'.setCell ⟨BL, 0, none⟩ v') M BL BO (xs ++ [i]) ys := by
  have h1' := h1.below hb hLM
  have h2' := h2.below hb hOM
  have h4' : OwnI (BO + 1) 3 w' vo (nats ys) := OwnL.kept h4 hg (by
    rcases e : vl.ownBlock with _ | b
    · exact Classical.em _
    · exact .inr (h5 b e))
  refine ⟨v', vo, by simpa using h1'.set 0 v', h2'.far (fun e => hne e.symm) v', OwnI.setBlk (by rw [nats_append]; exact hv) h1', OwnI.setBlk h4' h1', fun b e1 e2 => ?_⟩
  rcases hl with e | ⟨c, e, hc⟩
  · exact h5 b (e ▸ e1) e2
  · rw [e] at e1
    injection e1 with e1
    subst e1
    have := (OwnL.lt h4 c e2).2
    omega
/-- the last corner is gone -/
theorem GVar.pop {vo : Value} {b n c i : Nat} (hne : BL ≠ BO) (hn : n = xs.length) (h1 : Blk w BL 33 #[.slice (some ⟨b, 0, none⟩) (n + 1) c]) (h2 : Blk w BO 33 #[vo]) (h3 : OwnI M 3 w (.slice (some ⟨b, 0, none⟩) (n + 1) c) (nats (xs ++ [i])))
    (h4 : OwnI (BO + 1) 3 w vo (nats ys)) (h5 : vo.ownBlock ≠ some b) : GVar (w.setCell ⟨BL, 0, none⟩ (.slice (some ⟨b, 0, none⟩) n c)) M BL BO xs ys := by
  have h := OwnI.take h3 n (by omega)
  rw [nats_append, List.take_left' (by rw [nats_length, hn])] at h
  exact ⟨_, vo, by simpa using h1.set 0 _, h2.far (fun e => hne e.symm) _, OwnI.setBlk h h1, OwnI.setBlk h4 h1, fun b' e1 e2 => by
    have e1' : b = b' := by simpa [Value.ownBlock] using e1
    exact h5 (e1' ▸ e2)⟩
end
/-- as wpList_append_int, and where the new row lies -/
theorem wpList_append_int2 {P : Program} {ops : Array Oper} {rest : List Oper} {o : Oper} {a : Act} {Q : Exit → Act → World → Prop} {w : World} (hgd : o.guard = none) (s x : Operand) (t : TypeId)
    (ho : o.op = .call { callee := .builtin .append, args := #[s, x], argTypes := #[t, t] })
    (lo : Nat) (e : TypeId) (ht : P.underlying t = some (.slice e)) (hinfo : (P.info? e).map (fun i => (i.zero, i.size, i.bytes)) = some (some (.int .i64 0), 1, 8))
    (v : Value) (xs : List Int) (hs : a.eval s = v) {W : World} {y : Int} {g : Nat} (hw : w = W.alloc (.cells #[.int .i64 y] e)) (hown : OwnI lo e W v xs) (hx : a.eval x = .slice (some ⟨g, 0, none⟩) 1 1) (hg : g = W.heap.size)
    (hb : xs.length + 1 ≤ 1000000) (hlo : lo ≤ W.heap.size)
    (h : ∀ v' w', OwnI lo e w' v' (xs ++ [y]) → Below lo W w' → W.grownBy w' v.ownBlock → (v'.ownBlock = v.ownBlock ∨ ∃ b, v'.ownBlock = some b ∧ W.heap.size ≤ b) → wpList P ops Q rest (a.put o.dst v') w') : wpList P ops Q (o :: rest) a w := by
  subst hg
  have hB : Below W.heap.size W (W.alloc (.cells #[.int .i64 y] e)) := (Below.refl _ _).alloc (Nat.le_refl _) _
  have hh : W.grownBy w v.ownBlock := by rw [hw]; exact World.grownBy_alloc W _ _
  rw [← hw] at hB
  refine wpList_append_slc w hgd s x t ho lo e ht hinfo rfl (by omega) isI_one v xs hs (OwnL.below hown (Nat.le_refl _) hB) _ hx [y] (slc_one (w := w) (c := .int .i64 y) ?_ rfl) (by simpa using hb) (Nat.le_trans hlo hB.size) ?_
  · rw [hw]; exact cell_one_new W _ e 0 _ rfl
  · intro v' w' h1 h2 h3 h4
    exact h v' w' h1 ((hB.mono hlo).trans h2) ⟨h3.os.trans hh.os, h3.tape.trans hh.tape, h3.output.trans hh.output, Nat.le_trans hh.size h3.size, fun k hk hn => (h3.block k (Nat.lt_of_lt_of_le hk hh.size) hn).trans (hh.block k hk hn)⟩
      (h4.imp id fun e => ⟨_, e, hB.size⟩)
end
section
open Go.RowKit Go.Shelf

def iEO (t : Nat → Nat → Nat → Int) (os : List Nat) (f a i : Nat) : Bool := !os.any (insB t [f, a, i])

theorem ints_three (w : World) (a b c : Nat) : Ints (w.alloc (.cells #[.int .i64 (a : Int), .int .i64 (b : Int), .int .i64 (c : Int)] 3)) (.slice (some ⟨w.heap.size, 0, none⟩) 3 3) (nats [a, b, c]) := by
  refine ⟨_, 3, rfl, Nat.le_refl _, by decide, (fun h => by cases h), fun i hi => ?_⟩
  have hB := Blk.new w 3 #[.int .i64 (a : Int), .int .i64 (b : Int), .int .i64 (c : Int)]
  rcases (show i = 0 ∨ i = 1 ∨ i = 2 by simp [nats] at hi; omega) with rfl | rfl | rfl
  · exact ⟨_, _, _, rfl, trivial, hB.cell 0, rfl⟩
  · exact ⟨_, _, _, rfl, trivial, hB.cell 1, rfl⟩
  · exact ⟨_, _, _, rfl, trivial, hB.cell 2, rfl⟩

theorem drewB (w : World) : Below w.heap.size w w.drew := below_drewN (Below.refl _ _) 1
theorem S5keep {wc w' : World} {p1 p2 p3 p4 p5 : Addr} {v1 v2 v3 v4 v5 : Value} (c1 : wc.cell? p1 = some v1) (c2 : wc.cell? p2 = some v2) (c3 : wc.cell? p3 = some v3) (c4 : wc.cell? p4 = some v4) (c5 : wc.cell? p5 = some v5) (hb : Below wc.heap.size wc w') :
    w'.cell? p1 = some v1 ∧ w'.cell? p2 = some v2 ∧ w'.cell? p3 = some v3 ∧ w'.cell? p4 = some v4 ∧ w'.cell? p5 = some v5 :=
  ⟨cell_below c1 hb, cell_below c2 hb, cell_below c3 hb, cell_below c4 hb, cell_below c5 hb⟩

set_option maxRecDepth 100000 in
set_option maxHeartbeats 4000000 in
theorem grow_any {M g L BL BO Bp Bf Bb Be Bg : Nat} {t : Nat → Nat → Nat → Int} {os B : List Nat} {f : Nat} {E : Bool} {vo vb : Value} (hL : L ≤ 14) (hosL : ∀ k ∈ os, k < L) (hBL : ∀ k ∈ B, k < L) (hf : f < L) (hB14 : B.length ≤ 14)
    (hne : BL ≠ BO) (hLM : BL < M) (hOM : BO < M) : ∀ (d k : Nat), B.length - k = d → k ≤ B.length → ∀ (w : World) (xs ys : List Nat), M ≤ w.heap.size → GEnv w M g L BL BO Bp Bf Bb Be Bg t os B f E vo vb → GVar w M BL BO xs ys →
      1 ≤ xs.length → xs.length ≤ k + 1 → ys.length ≤ 15 → (∀ x ∈ xs, x < L) →
    Calls Try.prog 94 #[.int .i64 (k : Int), .pointer (some ⟨BL, 0, none⟩), .pointer (some ⟨BO, 0, none⟩), .pointer (some ⟨Bp, 0, none⟩), .pointer (some ⟨Bf, 0, none⟩), .pointer (some ⟨Bb, 0, none⟩), .pointer (some ⟨Be, 0, none⟩), .pointer (some ⟨Bg, 0, none⟩)] w
      fun e w' => ∃ ys', e = .returned (.tuple #[]) ∧ GP t (iEO t os) E f B xs k ys ys' ∧ GVar w' M BL BO xs ys' ∧ Keep M BL BO w w' := by
  intro d
  induction d using Nat.strongRecOn with
  | _ d ih =>
  intro k hd hk w xs ys hMw hE hV hn1 hnk hq15 hxs
  have IH := Lib.hid ih
  clear ih
  have hE' := Lib.hid hE
  have hV' := Lib.hid hV
  obtain ⟨vl, vq, hb1, hb2, hol, hoq, hap⟩ := hV
  obtain ⟨bl, cl, rfl, hbl1, hbl2, hlc, hlm, hlat, _⟩ := OwnI.open hol (by rw [nats_length]; omega)
  obtain ⟨Aq, q, cq, rfl, hq⟩ := OwnL.shape hoq
  rw [nats_length] at hq
  have k1 := hb1.cell 0
  have k2 := hb2.cell 0
  simp only [nats_length] at k1 hlc hlat
  obtain ⟨n, hn⟩ : ∃ n, xs.length = n := ⟨_, rfl⟩
  rw [nats_length] at hol
  rw [hn] at k1 hlc hlat hn1 hnk hol
  have hq15' : q ≤ 15 := by rw [hq.out]; exact hq15
  have hlat' := Lib.hid (show ∀ i, i < n → w.cell? ⟨bl, i, none⟩ = some (.int .i64 ((natAt xs i : Nat) : Int)) from fun i hi => by have := hlat i hi; rwa [at0_nats] at this)
  clear hlat
  unfold maxLen at hlm
  have cp := hE.cp
  have cf := hE.cf
  have hxL := Lib.hid (show ∀ i, i < n → natAt xs i < L from fun i hi => hxs _ (by rw [natAt_eq (by omega)]; exact List.getElem_mem _))
  have hT := Lib.hid hE.T
  have hcl := Lib.hid (show closedB t f xs = (decide (3 ≤ n) && (decide (0 < t (natAt xs (n - 2)) (natAt xs (n - 1)) f) && decide (0 < t (natAt xs (n - 1)) f (natAt xs 1)))) by unfold closedB; rw [hn])
  replace hn := Lib.hid hn
  have hxs' := Lib.hid hxs
  replace hd := Lib.hid hd
  have hosL' := Lib.hid hosL
  have hBL' := Lib.hid hBL
  have hol' := Lib.hid hol
  have hb2' := Lib.hid hb2
  clear hE hb1 hb2 hol hoq hap hxs hosL hBL
  go_enter Try.func94, Try.ntmps94
  go_wp2
  go_step3
  go_wp2
  go_cut [61] from 14 (fun c61 wx => c61 = .bool (decide (q < n) && closedB t f xs) ∧ ∃ r, wx = w.drewN r)
  case first =>
    by_cases c1 : q < n
    · by_cases c2 : 3 ≤ n
      · have l1 := hlat'.out (n - 2) (by omega)
        have l2 := hlat'.out (n - 1) (by omega)
        have l3 := hlat'.out 1 (by omega)
        have x1 := hxL.out (n - 2) (by omega)
        have x2 := hxL.out (n - 1) (by omega)
        have x3 := hxL.out 1 (by omega)
        have t1 := hT.out _ _ _ x1 x2 hf
        have t2 := hT.out _ _ _ x2 hf x3
        have e2 : ((n : Int) - 2).toNat = n - 2 := by omega
        have e1 : ((n : Int) - 1).toNat = n - 1 := by omega
        generalize natAt xs (n - 2) = a1 at *
        generalize natAt xs (n - 1) = a2 at *
        generalize natAt xs 1 = a3 at *
        generalize t a1 a2 f = T1 at *
        generalize t a2 f a3 = T2 at *
        have d1 : decide (q < n) = true := by simpa using c1
        have d2 : decide (3 ≤ n) = true := by simpa using c2
        have d2' : (3 : Int) ≤ (n : Int) := by omega
        have d1' : (q : Int) < (n : Int) := by omega
        by_cases c3 : 0 < T1
        · by_cases c4 : 0 < T2
          · go_quiet (fail)
            go_wp2
            go_meet
            exact ⟨by rw [hcl.out]; simp [d1, d2, c3, c4], _, rfl⟩
          · have d4 : decide (0 < T2) = false := by simpa using c4
            go_quiet (fail)
            go_wp2
            go_meet
            exact ⟨by rw [hcl.out]; simp [d1, d2, c3, d4], _, rfl⟩
        · have d3 : decide (0 < T1) = false := by simpa using c3
          go_quiet (fail)
          go_wp2
          go_meet
          exact ⟨by rw [hcl.out]; simp [d1, d2, d3], _, rfl⟩
      · have d1 : decide (q < n) = true := by simpa using c1
        have d1' : (q : Int) < (n : Int) := by omega
        have d2 : decide (3 ≤ n) = false := by simpa using c2
        have d2' : decide ((3 : Int) ≤ (n : Int)) = false := by simp; omega
        go_quiet (fail)
        go_wp2
        go_meet
        exact ⟨by rw [hcl.out]; simp [d1, d2], _, rfl⟩
    · have d1 : decide (q < n) = false := by simpa using c1
      go_quiet (fail)
      go_wp2
      go_meet
      exact ⟨by rw [hcl.out]; simp [d1], _, rfl⟩
  case rest =>
    obtain ⟨rfl, r, hwc⟩ := hcut
    have hbw := Lib.hid (show Below w.heap.size w wc by rw [hwc]; exact below_drewN (Below.refl _ _) r)
    clear hwc
    have hVc := Lib.hid (hV'.out.below hbw.out)
    have hMc := Nat.le_trans hMw hbw.out.size
    replace k1 := cell_below k1 hbw.out
    replace k2 := cell_below k2 hbw.out
    have hcl1 := Lib.hid (clone_any wc _ _ (Ints.below (OwnI.ints hol'.out) (Nat.le_refl _) hbw.out) (by rw [nats_length, hn.out]; omega))
    have hfr := Lib.hid (fun W (hb : Below wc.heap.size wc W) => show W.frozen? ⟨BO, 0, none⟩ = false from (((hb2'.out.below1 hbw.out).below1 hb).free 0))
    go_upto_if 61 with (fail)
    go_cut [9] from 61 (fun c9 wx => c9 = .int .i64 (n : Int) ∧ ∃ ys1, Hid (LP t (iEO t os) E f B xs k k ys ys1) ∧ Hid (GVar wx M BL BO xs ys1) ∧ Hid (Keep M BL BO w wx) ∧ ys1.length ≤ 15)
    case first =>
      obtain ⟨bv, hbv⟩ : ∃ bv, (decide (q < n) && closedB t f xs) = bv := ⟨_, rfl⟩
      rw [hbv]
      replace hbv := Lib.hid hbv
      cases bv with
      | false =>
        go_wp2
        go_meet
        refine ⟨rfl, ys, Lib.hid (LP.start (fun hc => ?_) (.inl rfl) (Nat.le_refl _)), hVc, Lib.hid (Keep.ofBelow hbw.out hMw), hq15⟩
        have := hbv.out
        rw [hc, Bool.and_true, decide_eq_false_iff_not] at this
        rw [hn.out, ← hq.out]; omega
      | true =>
        go_wp2_with (go_at_call 59; refine hcl1.out.mono ?_; rintro e w2 ⟨v2, rfl, ho2, hb2⟩; obtain ⟨A2, n2, c2', rfl, -⟩ := OwnL.shape ho2; have c2 := cell_below k2 hb2; have f2 := hfr.out w2 hb2; replace ho2 := Lib.hid ho2; replace hb2 := Lib.hid hb2)
        go_meet
        have hb := hbv.out
        rw [Bool.and_eq_true, decide_eq_true_eq] at hb
        refine ⟨rfl, xs, Lib.hid (LP.start (fun _ => Nat.le_refl _) (.inr ⟨hb.2, rfl⟩) (by rw [hn.out, ← hq.out]; omega)), Lib.hid (hVc.out.best hb2.out hne (by omega) ho2.out), Lib.hid (((Keep.ofBelow hbw.out hMw).trans (Keep.ofBelow hb2.out hMc)).trans (Keep.setO _ _ _ _ _ _)), by rw [hn.out]; omega⟩
    case rest =>
      obtain ⟨rfl, ys1, hLP, hG, hK, hy15⟩ := hcut
      clear k1 k2 hbw hVc hMc hcl1 hfr hlat' cp cf hol' hb2'
      go_wp2
      go_step3
      go_wp2
      obtain ⟨m, hm⟩ : ∃ m, B.length = m := ⟨_, rfl⟩
      rw [hm] at hB14 hk
      have hMc : M ≤ wc.heap.size := Nat.le_trans hMw hK.out.size
      replace hm := Lib.hid hm
      go_loopg [10] (m - k) (fun gh c wr => ∃ (j : Nat) (ys2 : List Nat), j + gh = m ∧ k ≤ j ∧ j ≤ m ∧ c = .int .i64 (j : Int) ∧ ys2.length ≤ 15 ∧ Hid (LP t (iEO t os) E f B xs k j ys ys2) ∧ Hid (GVar wr M BL BO xs ys2) ∧ Hid (Keep M BL BO w wr))
      case atStart => exact ⟨k, ys1, by omega, Nat.le_refl _, hk, rfl, hy15, hLP, hG, hK⟩
      case round =>
        clear hLP hG hK hMc
        obtain ⟨j, ys2, hjg, hkj, hj, rfl, hy2, hLP, hG, hK⟩ := hrel
        have hEr := hE'.out.keep hK.out
        have hMr : M ≤ wr.heap.size := Nat.le_trans hMw hK.out.size
        obtain ⟨vl2, vq2, hb1, hb2, hol, hoq, hap⟩ := hG.out
        obtain ⟨bl2, cl2, rfl, hbl1', hbl2', hlc2, hlm2, hlat, _⟩ := OwnI.open hol (by rw [nats_length, hn.out]; omega)
        obtain ⟨Aq2, q2, cq2, rfl, hq2⟩ := OwnL.shape hoq
        rw [nats_length] at hq2
        rw [nats_length, hn.out] at hol hb1
        have k1 := hb1.cell 0
        have k2 := hb2.cell 0
        simp only [nats_length, hn.out] at hlc2 hlat
        have hq2' : q2 ≤ 15 := by rw [hq2.out]; exact hy2
        have hlat' := Lib.hid (show ∀ i, i < n → wr.cell? ⟨bl2, i, none⟩ = some (.int .i64 ((natAt xs i : Nat) : Int)) from fun i hi => by have := hlat i hi; rwa [at0_nats] at this)
        clear hlat
        unfold maxLen at hlm2
        have cp := hEr.cp
        have cf := hEr.cf
        have cb := hEr.cb
        have ce := hEr.ce
        have cg := hEr.cg
        obtain ⟨Ab, cpb, rfl, hbl, hbm, _, hbat⟩ := (hEr.iB).open
        rw [nats_length, hm.out] at cb hbl
        unfold maxLen at hbm
        have hbat' := Lib.hid (show ∀ i, i < m → ∃ b off, Ab = some ⟨b, off, none⟩ ∧ wr.cell? ⟨b, off + i, none⟩ = some (.int .i64 ((natAt B i : Nat) : Int)) from fun i hi => by
          obtain ⟨b, off, hA, hc⟩ := hbat i (by rw [nats_length, hm.out]; exact hi)
          exact ⟨b, off, hA, by rwa [at0_nats] at hc⟩)
        clear hbat
        by_cases hlt : j < m
        case neg =>
          have hmj : m = j := by omega
          subst hmj
          clear hbat' hlat' hEr hb1 hb2 hol hoq hap
          go_wp2
          rw [Exit.noGoto_normal]
          go_end0
          exact ⟨ys2, rfl, hLP.out.stop (.inl hm.out.symm), hG.out, hK.out⟩
        obtain ⟨bB, oB, rfl, hcB⟩ := hbat'.out j hlt
        have hiL := hBL'.out (natAt B j) (by rw [natAt_eq (by rw [hm.out]; exact hlt)]; exact List.getElem_mem _)
        have hskip := Lib.hid (fun h => hLP.out.skip h)
        have hrec := Lib.hid (fun ys3 h1 h2 => LP.recur (ys'' := ys3) hLP.out (by rw [hm.out]; exact hlt) h1 h2)
        have hadd := Lib.hid (show addOk t (iEO t os) E f xs (natAt B j) = (decide (n ≤ 1) || (decide (0 < t (natAt xs (n - 2)) (natAt xs (n - 1)) (natAt B j)) && (!E || iEO t os f (natAt xs (n - 1)) (natAt B j)))) by unfold addOk; rw [hn.out])
        obtain ⟨i, hi⟩ : ∃ i, natAt B j = i := ⟨_, rfl⟩
        rw [hi] at hiL hskip hrec hadd hcB
        replace hi := Lib.hid hi
        by_cases hpr : n + (m - j) ≤ q2
        · have hpr' : (n : Int) + (m : Int) - (j : Int) ≤ (q2 : Int) := by omega
          clear hbat' hlat' hEr hb1 hb2 hol hoq hap
          go_wp2
          rw [Exit.noGoto_normal]
          go_end0
          exact ⟨ys2, rfl, hLP.out.stop (.inr (by rw [hn.out, hm.out, ← hq2.out]; exact hpr)), hG.out, hK.out⟩
        have hpr' : decide ((n : Int) + (m : Int) - (j : Int) ≤ (q2 : Int)) = false := by simp; omega
        go_upto_region 8 with (fail)
        obtain ⟨b8, hb8⟩ : ∃ b8, (decide (1 < n) && decide (t (natAt xs (n - 2)) (natAt xs (n - 1)) i ≤ 0)) = b8 := ⟨_, rfl⟩
        replace hb8 := Lib.hid hb8
        have hT' := Lib.hid (fun a b c h1 h2 h3 => hEr.T a b c h1 h2 h3)
        go_cut [106] from 84 to 135 (fun c wx => c = .bool b8 ∧ Hid (Below wr.heap.size wr wx))
        case first =>
          by_cases c1 : 1 < n
          · have l1 := hlat'.out (n - 2) (by omega)
            have l2 := hlat'.out (n - 1) (by omega)
            have t1 := hT'.out _ _ i (hxL.out (n - 2) (by omega)) (hxL.out (n - 1) (by omega)) hiL
            have x1 := hxL.out (n - 2) (by omega)
            have x2 := hxL.out (n - 1) (by omega)
            have e2 : ((n : Int) - 2).toNat = n - 2 := by omega
            have e1 : ((n : Int) - 1).toNat = n - 1 := by omega
            have d1 : decide (1 < n) = true := by simpa using c1
            have d1' : (1 : Int) < (n : Int) := by omega
            generalize natAt xs (n - 2) = a1 at *
            generalize natAt xs (n - 1) = a2 at *
            generalize t a1 a2 i = T1 at *
            by_cases c3 : T1 ≤ 0
            · go_quiet (fail)
              go_wp2
              go_meet
              exact ⟨by rw [← hb8.out]; simp [d1, c3], Lib.hid (below_drewN (Below.refl _ _) _)⟩
            · have d3 : decide (T1 ≤ 0) = false := by simpa using c3
              go_quiet (fail)
              go_wp2
              go_meet
              exact ⟨by rw [← hb8.out]; simp [d1, d3], Lib.hid (below_drewN (Below.refl _ _) _)⟩
          · have d1 : decide (1 < n) = false := by simpa using c1
            have d1' : decide ((1 : Int) < (n : Int)) = false := by simp; omega
            go_quiet (fail)
            go_wp2
            go_meet
            exact ⟨by rw [← hb8.out]; simp [d1], Lib.hid (below_drewN (Below.refl _ _) _)⟩
        case rest =>
          obtain ⟨rfl, hbw8⟩ := hcut
          cases b8 with
          | true =>
            go_wp2
            go_roundg (gk - 1)
            case measure => omega
            case rel =>
              have h8 := hb8.out
              rw [Bool.and_eq_true, decide_eq_true_eq, decide_eq_true_eq] at h8
              exact ⟨j + 1, ys2, by omega, by omega, by omega, by go_num, hy2, Lib.hid (hskip.out (by rw [hadd.out, decide_eq_false (show ¬ n ≤ 1 by omega), decide_eq_false (show ¬ 0 < t (natAt xs (n - 2)) (natAt xs (n - 1)) i by omega)]; rfl)), Lib.hid (hG.out.below hbw8.out), Lib.hid (hK.out.trans (Keep.ofBelow hbw8.out hMr))⟩
          | false =>
            have hEc := hEr.keep (Keep.ofBelow hbw8.out hMr)
            have hIs := Lib.hid (fun (W : World) (v : Value) (a : Nat) (ha : a < L) (hb : Below wc.heap.size wc W) (hv : Ints W v (nats [f, a, i])) =>
              isEmpty_any W g L t v vo [f, a, i] os (hEc.keep (Keep.ofBelow hb (Nat.le_trans hMr hbw8.out.size))).O (hEc.keep (Keep.ofBelow hb (Nat.le_trans hMr hbw8.out.size))).T hL hv (fun k hk => by simp at hk; rcases hk with rfl | rfl | rfl; exact hf; exact ha; exact hiL) (by simp) (hEc.keep (Keep.ofBelow hb (Nat.le_trans hMr hbw8.out.size))).ios hosL'.out)
            obtain ⟨b9, hb9⟩ : ∃ b9, (decide (1 < n) && (E && !iEO t os f (natAt xs (n - 1)) i)) = b9 := ⟨_, rfl⟩
            replace hb9 := Lib.hid hb9
            have q1 := fun (g9 : Gr wc) => Gr.cell (cell_below k1 hbw8.out) g9
            have q3 := fun (g9 : Gr wc) => Gr.cell (cell_below cp hbw8.out) g9
            have q4 := fun (g9 : Gr wc) => Gr.cell (cell_below cf hbw8.out) g9
            have q6 := fun (g9 : Gr wc) => Gr.cell (cell_below ce hbw8.out) g9
            have hla := Lib.hid (fun (i : Nat) (hi : i < n) (g9 : Gr wc) => Gr.cell (cell_below (hlat'.out i hi) hbw8.out) g9)
            go_upto_region 9 with (fail)
            go_cut [124] from 107 to 135 (fun c wx => c = .bool b9 ∧ Hid (Below wc.heap.size wc wx))
            case first =>
              by_cases c1 : 1 < n
              · have l2 := hla.out (n - 1) (by omega)
                have x2 := hxL.out (n - 1) (by omega)
                have e1 : ((n : Int) - 1).toNat = n - 1 := by omega
                have d1 : decide (1 < n) = true := by simpa using c1
                have d1' : (1 : Int) < (n : Int) := by omega
                generalize natAt xs (n - 1) = a2 at *
                cases E with
                | false =>
                  clear q1 q3 q4 l2
                  refine wp_region_grow (by kernel_rfl) (by kernel_rfl) ?_
                  repeat (go_big_quiet_step (fail))
                  refine wpQuiet_nil ?_
                  rintro _ ⟨g9, rfl⟩
                  go_wp2
                  go_meet
                  exact ⟨by rw [← hb9.out]; simp, Lib.hid g9.h⟩
                | true =>
                  have r1 := q1 ⟨wc, Below.refl _ _⟩
                  have r3 := q3 ⟨wc, Below.refl _ _⟩
                  have r4 := q4 ⟨wc, Below.refl _ _⟩
                  have r6 := q6 ⟨wc, Below.refl _ _⟩
                  have r2 := l2 ⟨wc, Below.refl _ _⟩
                  clear q1 q3 q4 q6 l2
                  dsimp only at r1 r3 r4 r6 r2
                  have ew : IntKind.i64.wrap ((n : Int) - 1) = (n : Int) - 1 := IntWalk.i64_in _ (by omega)
                  have ew0 : (0 : Int) ≤ (n : Int) - 1 := by omega
                  have ew1 : (n : Int) - 1 < (n : Int) := by omega
                  have ew2 : (1 : Int) ≤ (n : Int) := by omega
                  have ew3 : n - 1 < n := by omega
                  go_region_held3 (fun w' => w'.cell? ⟨Be, 0, none⟩ = some (.bool true) ∧ w'.cell? ⟨Bp, 0, none⟩ = some (.pointer (some ⟨g, 0, none⟩)) ∧ w'.cell? ⟨Bf, 0, none⟩ = some (.int .i64 (f : Int)) ∧ w'.cell? ⟨BL, 0, none⟩ = some (.slice (some ⟨bl2, 0, none⟩) n cl2) ∧ w'.cell? ⟨bl2, n - 1, none⟩ = some (.int .i64 (a2 : Int)))
                    (first | exact S5keep r6 r3 r4 r1 r2 (drewB _) | exact S5keep r6 r3 r4 r1 r2 (bthen (below1 wc _) (drewB _)) | exact S5keep r6 r3 r4 r1 r2 (‹Hid (Below wc.heap.size wc _)›).out)
                    (first | (go_at_call 76; refine (hIs.out _ _ a2 x2 (bthen (below1 wc _) (drewB _)) (ints_three wc f a2 i)).mono ?_; rintro e w76 ⟨rfl, hb76⟩; replace hb76 := Lib.hid (bthen (bthen (below1 wc _) (drewB _)) hb76)))
                  all_goals
                    go_wp2
                    go_meet
                    exact ⟨by rw [← hb9.out]; simp [d1, iEO], hb76⟩
              · have d1 : decide (1 < n) = false := by simpa using c1
                have d1' : decide ((1 : Int) < (n : Int)) = false := by simp; omega
                clear q1 q3 q4 q6
                refine wp_region_grow (by kernel_rfl) (by kernel_rfl) ?_
                repeat (go_big_quiet_step (fail))
                refine wpQuiet_nil ?_
                rintro _ ⟨g9, rfl⟩
                go_wp2
                go_meet
                exact ⟨by rw [← hb9.out]; simp [d1], Lib.hid g9.h⟩
            case rest =>
              obtain ⟨rfl, hbw9⟩ := hcut
              have hbw := Lib.hid (bthen hbw8.out hbw9.out)
              clear hIs q1 q3 q4 q6 hla
              cases b9 with
              | true =>
                go_wp2
                go_roundg (gk - 1)
                case measure => omega
                case rel =>
                  have h9 := hb9.out
                  simp only [Bool.and_eq_true, decide_eq_true_eq, Bool.not_eq_true'] at h9
                  exact ⟨j + 1, ys2, by omega, by omega, by omega, by go_num, hy2, Lib.hid (hskip.out (by rw [hadd.out, decide_eq_false (show ¬ n ≤ 1 by omega), h9.2.1, h9.2.2]; simp)), Lib.hid (hG.out.below hbw.out), Lib.hid (hK.out.trans (Keep.ofBelow hbw.out hMr))⟩
              | false =>
                have hyes := Lib.hid (show addOk t (iEO t os) E f xs i = true from by
                  have h8 := hb8.out
                  have h9 := hb9.out
                  rw [hadd.out]
                  by_cases c1 : n ≤ 1
                  · rw [decide_eq_true c1]; rfl
                  · have c1' : 1 < n := by omega
                    rw [decide_eq_true c1', Bool.true_and] at h8 h9
                    rw [decide_eq_false_iff_not] at h8
                    rw [decide_eq_false c1, decide_eq_true (show 0 < t (natAt xs (n - 2)) (natAt xs (n - 1)) i by omega), Bool.false_or, Bool.true_and]
                    revert h9
                    cases E <;> cases iEO t os f (natAt xs (n - 1)) i <;> simp)
                have hMcc : M ≤ wc.heap.size := Nat.le_trans hMr hbw.out.size
                have hKc := Lib.hid (hK.out.trans (Keep.ofBelow hbw.out hMr))
                have hEcc := Lib.hid (hE'.out.keep hKc.out)
                have hb1c := Lib.hid (hb1.below1 hbw.out)
                have hb2c := Lib.hid (hb2.below1 hbw.out)
                have holc := Lib.hid (OwnL.below hol (Nat.le_refl _) hbw.out)
                have hoqc := Lib.hid (OwnL.below hoq (Nat.le_refl _) hbw.out)
                have hapc := Lib.hid hap
                have j1 := hb1c.out.cell 0
                have hdj : m - (j + 1) < d := by rw [← hd.out, hm.out]; omega
                have hxi := Lib.hid (show ∀ x ∈ xs ++ [i], x < L from fun x hx => by
                  rcases List.mem_append.1 hx with h | h
                  · exact hxs'.out x h
                  · rw [List.mem_singleton.1 h]; exact hiL)
                have hcf : ∀ (args : Array Value) (W : World), (callFunc 94 args).run Try.prog W = .ok (.enter 94 args) W := fun args W => by simp [go_sem]
                clear hE' hEr hEc hb1 hb2 hol hoq hap hbw8 hbw9 hG hK hskip hadd hb8 hb9 hbat' hlat' k1 k2 cp cf cb ce cg hcB hT' hT hxL hcl hV'
                go_wp2_with (first
                  | (at_builtin; refine wpList_append_int2 rfl (.tmp 125) (.tmp 127) 33 rfl M 3 Try.underlying33 info3 _ _ rfl rfl holc.out rfl rfl (by rw [nats_length, hn.out]; omega) hMcc ?_; intro v3 w3 ho3 hB3 hg3 hl3; have hPush := Lib.hid (GVar.push (xs := xs) (ys := ys2) hne hLM hOM hb1c.out hb2c.out hoqc.out hapc.out ho3 hB3 hg3 hl3); obtain ⟨A3, n3, c3, rfl, -⟩ := OwnL.shape ho3; have z1 := (hb1c.out.below hB3 hLM).cell 0; have z2 := (hb1c.out.below hB3 hLM).free 0; obtain ⟨W4, hW4⟩ : ∃ W4, w3.setCell ⟨BL, 0, none⟩ (.slice A3 n3 c3) = W4 := ⟨_, rfl⟩; rw [hW4] at hPush; have hK4 := Lib.hid (show Keep M BL BO wc W4 from by rw [← hW4]; exact (Keep.ofBelow hB3 (Nat.le_refl _)).trans (Keep.setL _ _ _ _ _ _)); have zg := (hEcc.out.keep hK4.out).cg; have hRec := Lib.hid (IH.out (m - (j + 1)) hdj (j + 1) (by rw [hm.out]) (by rw [hm.out]; omega) W4 (xs ++ [i]) ys2 (Nat.le_trans hMcc hK4.out.size) (hEcc.out.keep hK4.out) hPush.out (by simp) (by rw [List.length_append, hn.out]; simp; omega) hy2 hxi.out); clear ho3 hB3 hg3 hl3)
                  | (go_at_call 94; refine hRec.out.mono ?_; rintro e w5 ⟨ys3, rfl, hGP, hG5, hK5⟩; obtain ⟨vl5, vo5, h51, h52, h53, h54, h55⟩ := hG5; obtain ⟨b5, c5, rfl, hb51, hb52, hc5, hm5, hat5, -⟩ := OwnI.open h53 (by simp [nats]); rw [nats_length, List.length_append, List.length_singleton, hn.out] at h51 h53 hc5; unfold maxLen at hm5; have y1 := h51.cell 0; have y2 := h51.free 0; have hc5' : (n : Int) ≤ (c5 : Int) := (by omega); have hPop := Lib.hid (GVar.pop (n := n) hne hn.out.symm h51 h52 h53 h54 (h55 b5 rfl)); have hK5 := Lib.hid (hKc.out.trans (hK4.out.trans hK5)); replace hGP := Lib.hid hGP; clear h51 h52 h53 h54 h55 hat5))
                go_roundg (gk - 1)
                case measure => omega
                case rel =>
                  have hlen : ys3.length ≤ 15 := by
                    have h3 := hGP.out.len
                    rw [List.length_append, hn.out, hm.out, List.length_singleton] at h3
                    omega
                  have hLP3 := hrec.out ys3 hyes.out hGP.out
                  refine ⟨j + 1, ys3, by omega, by omega, by omega, ?_, hlen, Lib.hid hLP3, ?_, ?_⟩
                  · go_num
                  · exact hPop
                  · exact Lib.hid (hK5.out.trans (Keep.setL _ _ _ _ _ _))
end
section
open Go.RowKit Go.Shelf Go.Sort

theorem sortP {lo : Nat} (w : World) (v : Value) (ks : List Nat) (P : Nat → Prop) (hn : ∀ k ∈ ks, P k) (hne : 0 < ks.length) (hlen : ks.length ≤ 1000000) (h : OwnI lo 3 w v (nats ks)) (g : Nat) (cb : Array Value)
    (eg : ∀ args w, (callFunc g args).run Try.prog w = .ok (.enter g args) w) (cf : Nat → Nat → Int)
    (hirr : ∀ x, P x → ¬ cf x x < 0) (htr : ∀ x y z, P x → P y → P z → cf x y < 0 → cf y z < 0 → cf x z < 0) (hnt : ∀ x y z, P x → P y → P z → ¬ cf x y < 0 → ¬ cf y z < 0 → ¬ cf x z < 0)
    (hcmp : ∀ W, (∀ b, b < w.heap.size → v.ownBlock ≠ some b → W.heap[b]? = w.heap[b]?) → ∀ x y, P x → P y → Calls Try.prog g (#[.int .i64 x, .int .i64 y] ++ cb) W fun e w' => e = .returned (.int .i64 (cf x y)) ∧ ∃ q, w' = W.drewN q) :
    Calls Try.prog 79 #[v, .func (.func g) #[] cb] w fun e w' => e = .returned (.tuple #[]) ∧ ∃ ks' : List Nat, ks'.Perm ks ∧ ks'.Pairwise (fun a b => ¬ cf b a < 0) ∧ OwnI lo 3 w' v (nats ks') ∧ w.grownBy w' v.ownBlock := by
  obtain ⟨k0, ks0, hks⟩ := List.exists_cons_of_length_pos hne
  letI : Inhabited {k : Nat // P k} := ⟨⟨k0, hn k0 (by rw [hks]; simp)⟩⟩
  obtain ⟨blk, cap, hv, hlo, hblk, hlc, hcm, hcells, hfree⟩ := OwnI.open h (by rw [nats_length]; exact hne)
  have hown := OwnI.cells h
  rw [nats_length] at hv hlc hcells hown
  let d : Array {k : Nat // P k} := (ks.pmap (fun k hk => (⟨k, hk⟩ : {k : Nat // P k})) hn).toArray
  have hds : d.size = ks.length := by simp [d]
  have hdv : ∀ j, j < ks.length → (d[j]!).1 = natAt ks j := by
    intro j hj
    rw [getElem!_pos d j (by rw [hds]; exact hj), natAt_eq hj]
    simp [d]
  have hH : Holds (fun k : {k : Nat // P k} => Value.int .i64 ((k.1 : Nat) : Int)) w blk 0 d := by
    intro j hj
    rw [hds] at hj
    refine ⟨?_, hfree _⟩
    have := hcells j (by simpa using hj)
    rw [Nat.zero_add, this, at0_nats]
    show _ = some (Value.int .i64 ((d[j]!).1 : Int))
    rw [hdv j hj]
  have hcmp' : CmpLays1 Try.prog g cb (fun k : {k : Nat // P k} => Value.int .i64 ((k.1 : Nat) : Int)) (fun x y => cf x.1 y.1) blk 0 d.size w := by
    refine CmpReads.lays fun m os dk hdk x y => ?_
    refine (hcmp _ (fun b hb hne => ?_) x.1 y.1 x.2 y.2)
    have hbb : b ≠ blk := by
      rintro rfl
      exact hne (by rw [hv]; rfl)
    unfold sortWorld
    rw [heap_grow_old _ _ (by simp [putRow, mapBlock, Go.Sort.ahead, hb])]
    unfold putRow mapBlock Go.Sort.ahead
    simp [Array.getElem?_modify, Ne.symm hbb]
  have hS : SWO (ltOf fun x y : {k : Nat // P k} => cf x.1 y.1) := by
    refine ⟨fun x => ?_, fun x y z h1 h2 => ?_, fun x y z h1 h2 => ?_⟩
    · simpa [ltOf] using hirr x.1 x.2
    · simp only [ltOf, decide_eq_true_eq] at *; exact htr _ _ _ x.2 y.2 z.2 h1 h2
    · simp only [ltOf, decide_eq_false_iff_not] at *; exact hnt _ _ _ x.2 y.2 z.2 h1 h2
  have hcon := Try.slices_SortFunc (fun k : {k : Nat // P k} => Value.int .i64 ((k.1 : Nat) : Int)) (fun _ => rfl) (fun x y => cf x.1 y.1) hS g cb blk 0 cap d w eg hcmp' hH hblk (by rw [hds]; omega)
  rw [hds] at hcon
  rw [hv]
  refine hcon.mono ?_
  rintro e w' ⟨he, d', m, os, ⟨hs', _, hperm⟩, hsorted, rfl⟩
  rw [hds] at hs'
  refine ⟨he, d'.toList.map (fun k : {k : Nat // P k} => k.1), ?_, ?_, ?_, ?_⟩
  · have e1 : (d'.extract 0 ks.length).toList = d'.toList := by rw [← hs']; simp
    have e2 : (d.extract 0 ks.length).toList = d.toList := by rw [← hds]; simp
    rw [e1, e2] at hperm
    have e3 : d.toList.map (fun k : {k : Nat // P k} => k.1) = ks := by simp [d, List.map_pmap]
    have := hperm.map (fun k : {k : Nat // P k} => k.1)
    rwa [e3] at this
  · rw [List.pairwise_iff_getElem]
    intro i j hi hj hij
    have hj' : j < d'.size := by simpa using hj
    have hi' : i < d'.size := by simpa using hi
    have := hsorted i j (Nat.zero_le _) hij (by omega)
    rw [getElem!_pos d' i hi', getElem!_pos d' j hj'] at this
    simpa [ltOf] using this
  · have hhd : Holds (fun k : {k : Nat // P k} => Value.int .i64 ((k.1 : Nat) : Int)) (sortWorld (fun k : {k : Nat // P k} => Value.int .i64 ((k.1 : Nat) : Int)) w blk 0 m d' os) blk 0 d' := by
      unfold sortWorld
      exact holds_grow _ _ _ _ _ _ (by simp [putRow, mapBlock, Go.Sort.ahead]; exact hblk) (holds_putRow _ _ _ _ d d' (holds_ahead _ _ _ _ _ _ hH) (by rw [hs', hds]))
    rw [← hv]
    refine OwnI.mk ?_
    rcases hown.2 with ⟨hnil, _⟩ | ⟨g', cap', cur, hv', hlo', hg', hnc, hcm', hcs, hct⟩
    · rw [hnil] at hv; cases hv
    · rw [hv'] at hv
      have hgb : g' = blk := by injection hv with h1; injection h1 with h1; injection h1
      have hcc : cap' = cap := by injection hv
      subst hgb hcc
      refine ⟨by simp, .inr ⟨g', cap', putCells (fun k : {k : Nat // P k} => Value.int .i64 ((k.1 : Nat) : Int)) 0 d' cur, ?_, hlo', ?_, ?_, hcm', by simp [putCells]; simpa using hcs, ?_⟩⟩
      · rw [hv', nats_length]; simp [hs']
      · unfold sortWorld
        rw [heap_grow_old _ _ (by simp [putRow, mapBlock, Go.Sort.ahead]; exact hblk)]
        unfold putRow mapBlock Go.Sort.ahead
        show (w.heap.modify g' _)[g']? = _
        rw [Array.getElem?_modify, if_pos rfl, hg']
        rfl
      · rw [nats_length]; simp [hs']; exact hnc
      · apply List.ext_getElem
        · simp [putCells, nats_length, hs']; simp at hcs; omega
        · intro j h1 h2
          have hj : j < d'.size := by simpa [nats_length] using h2
          simp only [List.getElem_take, Array.getElem_toList, putCells, Array.getElem_mapIdx, List.getElem_map, nats]
          rw [if_pos ⟨Nat.zero_le _, by omega⟩, Nat.sub_zero, getElem!_pos d' j hj]
  · refine ⟨rfl, rfl, rfl, ?_, fun i hi hne => ?_⟩
    · simp [sortWorld, grow, putRow, mapBlock, Go.Sort.ahead]
    · unfold sortWorld
      rw [heap_grow_old _ _ (by simp [putRow, mapBlock, Go.Sort.ahead]; exact hi)]
      unfold putRow mapBlock Go.Sort.ahead
      have : i ≠ blk := by rintro rfl; exact hne rfl
      simp [Array.getElem?_modify, Ne.symm this]

theorem sort0_ins (w : World) (A : Option Addr) (c : Nat) (v : Value) : Calls Try.prog 98 #[.slice A 0 c, .int .i64 0, .int .i64 0, v] w fun e w' => e = .returned (.tuple #[]) ∧ w = w' := by
  go_enter Try.func98, Try.ntmps98
  go_wp2
  go_loop [8] (fun c8 => c8 = .int .i64 1) (fun _ => 0)
  case atStart => exact rfl
  case round =>
    obtain rfl := hrel
    go_wp2
    go_end0
    exact ⟨rfl, rfl⟩
def AnyInt (w : World) (e : Ending) (w' : World) : Prop := ∃ n : Int, e = .returned (.int .i64 n) ∧ w = w'
theorem sort0_len64 (w : World) : Calls Try.prog 107 #[.int .u64 0] w (AnyInt w) := by
  go_enter Try.func107, Try.ntmps107
  go_wp2
  go_ret
  exact ⟨_, rfl, rfl⟩
theorem sort0_len (w : World) : Calls Try.prog 96 #[.int .u64 0] w (AnyInt w) := by
  go_enter Try.func96, Try.ntmps96
  go_wp2_with (go_at_call 107; refine (sort0_len64 _).mono ?_; rintro e w1 ⟨n, rfl, rfl⟩)
  go_ret
  exact ⟨_, rfl, rfl⟩
theorem sort0_pdq (w : World) (A : Option Addr) (c : Nat) (n : Int) (v : Value) : Calls Try.prog 95 #[.slice A 0 c, .int .i64 0, .int .i64 0, .int .i64 n, v] w fun e w' => e = .returned (.tuple #[]) ∧ w = w' := by
  go_enter Try.func95, Try.ntmps95
  go_wp2
  go_loop [1, 2, 3, 10, 11] (fun x y z a b => x = .int .i64 0 ∧ y = .int .i64 0 ∧ z = .int .i64 n ∧ a = .bool true ∧ b = .bool true) (fun _ _ _ _ _ => 0)
  case atStart => exact ⟨rfl, rfl, rfl, rfl, rfl⟩
  case round =>
    obtain ⟨rfl, rfl, rfl, rfl, rfl⟩ := hrel
    go_wp2_with (go_at_call 98; refine (sort0_ins _ _ _ _).mono ?_; rintro e w1 ⟨rfl, rfl⟩)
    refine bodyPost_ret (results_none rfl _ _ _) rfl ?_
    exact ⟨rfl, rfl⟩
theorem sort0 (w : World) (A : Option Addr) (c : Nat) (v : Value) : Calls Try.prog 79 #[.slice A 0 c, v] w fun e w' => e = .returned (.tuple #[]) ∧ w = w' := by
  go_enter Try.func79, Try.ntmps79
  go_wp2_with (first
    | (go_at_call 96; refine (sort0_len _).mono ?_; rintro e w1 ⟨n, rfl, rfl⟩)
    | (go_at_call 95; refine (sort0_pdq _ _ _ _ _).mono ?_; rintro e w1 ⟨rfl, rfl⟩))
  go_end0
  exact ⟨rfl, rfl⟩
end
section
theorem pw_sub {R : Nat → Nat → Prop} (hirr : ∀ a, ¬ R a a) (has : ∀ a b, R a b → ¬ R b a) : ∀ (B r : List Nat), r.Pairwise R → B.Pairwise R → (∀ x ∈ r, x ∈ B) → r.Sublist B
  | B, [], _, _, _ => List.nil_sublist B
  | [], a :: r, _, _, h => by have := h a (by simp); simp at this
  | b :: B, a :: r, hr, hB, h => by
    obtain ⟨r1, r2⟩ := List.pairwise_cons.1 hr
    obtain ⟨b1, b2⟩ := List.pairwise_cons.1 hB
    by_cases e : a = b
    · subst e
      refine (pw_sub hirr has B r r2 b2 fun x hx => ?_).cons_cons a
      rcases List.mem_cons.1 (h x (by simp [hx])) with e | e
      · exact absurd (e ▸ r1 x hx) (hirr _)
      · exact e
    · have ha : a ∈ B := by
        rcases List.mem_cons.1 (h a (by simp)) with e' | e'
        · exact absurd e' e
        · exact e'
      refine (pw_sub hirr has B (a :: r) hr b2 fun x hx => ?_).cons b
      rcases List.mem_cons.1 (h x hx) with e' | e'
      · subst e'
        rcases List.mem_cons.1 hx with e'' | e''
        · exact absurd e''.symm e
        · exact absurd (r1 x e'') (has _ _ (b1 a ha))
      · exact e'

/-- f and r are found: corners behind f, round it -/
structure GoodP (t : Nat → Nat → Nat → Int) (lt : Nat → Nat → Prop) (iE : Nat → Nat → Nat → Bool) (E : Bool) (os : List Nat) (f : Nat) (r : List Nat) : Prop where
  first : f ∈ os
  mem : ∀ x ∈ r, x ∈ os ∧ lt f x
  round : r.Pairwise fun a b => 0 < t f a b
  ext : Ext t iE E f [f] r
  closed : closedB t f (f :: r) = true
structure PolyUp (t : Nat → Nat → Nat → Int) (lt : Nat → Nat → Prop) (iE : Nat → Nat → Nat → Bool) (E : Bool) (os : List Nat) (a : Nat) (ys : List Nat) : Prop where
  val : ys = [] ∨ ∃ f r, GoodP t lt iE E os f r ∧ ys = f :: r
  max : ∀ i r, i < a → i < os.length → GoodP t lt iE E os (natAt os i) r → (natAt os i :: r).length ≤ ys.length
section
variable {S : Nat → Prop} {t : Nat → Nat → Nat → Int} {lt : Nat → Nat → Prop} {iE : Nat → Nat → Nat → Bool} {E : Bool} {os ys ys' B : List Nat} {a : Nat}
theorem PolyUp.start : PolyUp t lt iE E os 0 [] := ⟨.inl rfl, fun i r hi => by omega⟩
theorem Chi.same (h : Chi S t lt) (f a : Nat) : t f a a = 0 := by have := h.anti a a f; have e := h.cyc f a a; rw [e]; omega
theorem PolyUp.step (h : Chi S t lt) (hos : os.Pairwise lt) (hS : ∀ x ∈ os, S x) (ha : a < os.length) (hB : B.Perm (os.drop (a + 1))) (hBs : B.Pairwise fun x y => 0 < t (natAt os a) x y)
    (hP : PolyUp t lt iE E os a ys) (hg : GP t iE E (natAt os a) B [natAt os a] 0 ys ys') : PolyUp t lt iE E os (a + 1) ys' := by
  have hat : natAt os a = os[a] := natAt_eq ha
  have hpw := List.pairwise_iff_getElem.1 hos
  have hmem : ∀ x, x ∈ B ↔ x ∈ os ∧ lt (natAt os a) x := fun x => by
    rw [hB.mem_iff]
    constructor
    · intro hx
      obtain ⟨i, hi, e⟩ := List.getElem_of_mem hx
      rw [List.getElem_drop] at e
      refine ⟨e ▸ List.getElem_mem _, ?_⟩
      rw [hat, ← e]
      exact hpw a (a + 1 + i) ha (by rw [List.length_drop] at hi; omega) (by omega)
    · rintro ⟨hx, hl⟩
      obtain ⟨i, hi, e⟩ := List.getElem_of_mem hx
      rw [hat, ← e] at hl
      have hai : a < i := by
        rcases Nat.lt_trichotomy a i with c | c | c
        · exact c
        · subst c; exact absurd hl (h.irr _)
        · exact absurd hl (h.asym (hpw i a hi ha c))
      refine List.mem_iff_getElem.2 ⟨i - (a + 1), by rw [List.length_drop]; omega, ?_⟩
      rw [List.getElem_drop, ← e]
      congr 1; omega
  refine ⟨?_, fun i r hi hil hG => ?_⟩
  · rcases hg.val with e | ⟨r, hs, he, hc, e⟩
    · rw [e]; exact hP.val
    · rw [List.drop_zero] at hs
      exact .inr ⟨natAt os a, r, ⟨by rw [hat]; exact List.getElem_mem _, fun x hx => (hmem x).1 (hs.subset hx), hBs.sublist hs, he, hc⟩, e⟩
  · by_cases e : i = a
    · subst e
      have hsub : r.Sublist B := pw_sub (R := fun x y => 0 < t (natAt os i) x y) (fun x hx => by rw [h.same] at hx; omega) (fun x y h1 h2 => by rw [h.swap] at h2; omega) B r hG.round hBs fun x hx => (hmem x).2 (hG.mem x hx)
      exact hg.max r (by rw [List.drop_zero]; exact hsub) hG.ext hG.closed
    · exact Nat.le_trans (hP.max i r (by omega) hil hG) hg.mono
/-- the whole -/
structure BestP (t : Nat → Nat → Nat → Int) (lt : Nat → Nat → Prop) (iE : Nat → Nat → Nat → Bool) (E : Bool) (os ys : List Nat) : Prop where
  val : ys = [] ∨ ∃ f r, GoodP t lt iE E os f r ∧ ys = f :: r
  max : ∀ f r, GoodP t lt iE E os f r → (f :: r).length ≤ ys.length
theorem PolyUp.all (hP : PolyUp t lt iE E os os.length ys) : BestP t lt iE E os ys :=
  ⟨hP.val, fun f r hG => by
    obtain ⟨i, hi, e⟩ := List.getElem_of_mem hG.first
    rw [← natAt_eq hi] at e
    subst e
    exact hP.max i r hi hi hG⟩
end

/-- those behind f are in one order round it -/
theorem round_swo {l : List Pt} (hg : Gen l) (f : Nat) (hf : f < l.length) :
    (∀ x, (x < l.length ∧ befI l f x) → ¬ - tur l f x x < 0) ∧
    (∀ x y z, (x < l.length ∧ befI l f x) → (y < l.length ∧ befI l f y) → (z < l.length ∧ befI l f z) → - tur l f x y < 0 → - tur l f y z < 0 → - tur l f x z < 0) ∧
    (∀ x y z, (x < l.length ∧ befI l f x) → (y < l.length ∧ befI l f y) → (z < l.length ∧ befI l f z) → ¬ - tur l f x y < 0 → ¬ - tur l f y z < 0 → ¬ - tur l f x z < 0) := by
  have hC := chi_of hg
  have hpos : ∀ x y z, befI l f x → befI l f y → befI l f z → 0 < tur l f x y → 0 < tur l f y z → 0 < tur l f x z := fun x y z h1 h2 h3 h4 h5 => by
    unfold tur at *
    rw [trn_pos, ← crs_det] at *
    exact vec_pos (vpos_sub h1) (vpos_sub h2) (vpos_sub h3) h4 h5
  refine ⟨fun x _ => by rw [hC.same]; omega, fun x y z h1 h2 h3 h4 h5 => ?_, fun x y z h1 h2 h3 h4 h5 => ?_⟩
  · have := hpos x y z h1.2 h2.2 h3.2 (by omega) (by omega)
    omega
  · rcases Decidable.em (x = y) with e | e
    · subst e; exact h5
    rcases Decidable.em (y = z) with e2 | e2
    · subst e2; exact h4
    have n1 := hC.gen hf h1.1 h2.1 (hC.ne h1.2) e (hC.ne h2.2)
    have n2 := hC.gen hf h2.1 h3.1 (hC.ne h2.2) e2 (hC.ne h3.2)
    have s1 := hC.swap f x y
    have s2 := hC.swap f y z
    have s3 := hC.swap f x z
    have := hpos z y x h3.2 h2.2 h1.2 (by omega) (by omega)
    omega
end
end Go.Proofs.Ythnabheibacbcaa
