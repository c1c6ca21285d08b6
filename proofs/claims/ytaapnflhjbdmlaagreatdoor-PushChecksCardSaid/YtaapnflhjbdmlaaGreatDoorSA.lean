/- Rows and tables of costs in memory. No condition. The specification's read: a row of costs behind a letter. No condition. The specification's silent: moves without a letter. No condition. The specification's Of: an acceptor as a table of costs. No condition. -/
import Derived.Test.YtaapnflhjbdmlaaGreatDoorBA
import Derived.Test.YtaapnflhjbdmlaaGreatDoorLC
namespace Go.Proofs.YtaapnflhjbdmlaaGreatDoor
section
open Go.RowKit Go.Shelf

/-- a row of costs -/
def ils (n : Nat) (f : Nat → Int) : Array Value := ((List.range n).map fun i => Value.int .i64 (f i)).toArray
abbrev Il (w : World) (g n : Nat) (f : Nat → Int) : Prop := Blk w g 3 (ils n f)
theorem Il.cell {w : World} {g n : Nat} {f : Nat → Int} (h : Il w g n f) {i : Nat} (hi : i < n) : w.cell? ⟨g, i, none⟩ = some (.int .i64 (f i)) := by
  rw [Blk.cell h i]
  unfold ils
  simp [hi]
theorem Il.set {w : World} {g n : Nat} {f : Nat → Int} (h : Il w g n f) {i : Nat} (b : Int) : Il (w.setCell ⟨g, i, none⟩ (.int .i64 b)) g n (fun j => if j = i then b else f j) := by
  have := Blk.set h i (.int .i64 b)
  have e : (ils n f).setIfInBounds i (.int .i64 b) = ils n (fun j => if j = i then b else f j) := by
    apply Array.ext_getElem?
    intro k
    rw [Array.getElem?_setIfInBounds]
    unfold ils
    simp only [List.size_toArray, List.length_map, List.length_range, List.getElem?_toArray, List.getElem?_map]
    by_cases hk : k < n
    · by_cases hki : i = k
      · subst hki
        simp [hk]
      · have : ¬ k = i := fun h => hki h.symm
        simp [hki, this, List.getElem?_range hk]
    · by_cases hki : i = k
      · subst hki
        simp [hk]
      · simp [hki, hk]
  rwa [e] at this
theorem Il.congr {w : World} {g n : Nat} {f f' : Nat → Int} (h : Il w g n f) (hf : ∀ i, i < n → f i = f' i) : Il w g n f' := by
  have : ils n f = ils n f' := by
    unfold ils
    congr 1
    apply List.map_congr_left
    intro i hi
    rw [hf i (List.mem_range.1 hi)]
  unfold Il
  rw [← this]
  exact h
theorem ils_zero (n : Nat) : ils n (fun _ => 0) = Array.replicate n (.int .i64 0) := by
  apply Array.ext_getElem?
  intro k
  unfold ils
  simp only [List.getElem?_toArray, List.getElem?_map, Array.getElem?_replicate]
  by_cases hk : k < n
  · simp [hk]
  · simp [hk]
/-- 'make([]int, n)' -/
theorem wpList_make_row {P : Program} {w : World} {ops : Array Oper} {rest : List Oper} {o : Oper} {a : Act} {Q : Exit → Act → World → Prop}
    (hg : o.guard = none) (l c : Operand) (t : TypeId) (hop : o.op = Op.makeSlice t l c) (ht : P.underlying t = some (.slice 3))
    (hinfo : (P.info? 3).map (fun i => (i.zero, i.size, i.bytes)) = some (some (.int .i64 0), 1, 8)) (n : Nat) (hl : a.eval l = .int .i64 (n : Int)) (hc : a.eval c = .int .i64 (n : Int))
    (h1 : 1 ≤ n) (hn : n ≤ 1000000) (hK : ∀ w', Il w' w.heap.size n (fun _ => 0) → Below w.heap.size w w' → wpList P ops Q rest (a.put o.dst (.slice (some ⟨w.heap.size, 0, none⟩) n n)) w') :
    wpList P ops Q (o :: rest) a w := by
  obtain ⟨i, hi, hz0, hz1, hz2⟩ := info_parts hinfo
  refine wpList_make_full w hg l c t hop w.heap.size 3 i (.int .i64 0) 1 ht hi hz0 hz1 .i64 .i64 _ _ n hl hc rfl rfl (by rw [hz2]; omega) (by simp only [maxLen]; omega) (Nat.le_refl _) fun w' ho hgr => hK w' ?_ (below_of_grown hgr (Nat.le_refl _) (fun k hk => by cases hk))
  obtain ⟨_, h2 | ⟨g, cap, cur, h2, _, h3, _, _, h4, h5⟩⟩ := ho
  · exact absurd h2.2 (by omega)
  · injection h2 with e1 e2 e3
    injection e1 with e1
    injection e1 with e1
    subst e1
    subst e3
    rw [Nat.mul_one] at h4 h5
    unfold Il Blk
    rw [h3]
    congr 2
    rw [ils_zero]
    apply Array.toList_inj.1
    rw [List.take_of_length_le (by simp [h4])] at h5
    rw [h5]
    show (madeCells #[Value.int .i64 0] n).toList = _
    rw [toList_madeCells_one, Array.toList_replicate]

/-- a table of costs that may be read: state, letter (or none), state -/
def Cua (w : World) (v : Value) (n : Nat) (X : Nat → Nat → Nat → Int) : Prop :=
  ∃ b off cap, v = .slice (some ⟨b, off, none⟩) n cap ∧ n ≤ cap ∧ cap ≤ maxLen ∧ ∃ (r o k : Nat → Nat) (h : Nat → Nat → Nat),
    (∀ p, p < n → 6 ≤ k p ∧ k p ≤ maxLen ∧ w.cell? ⟨b, off + p, none⟩ = some (.slice (some ⟨r p, o p, none⟩) 6 (k p))) ∧
    (∀ p c, p < n → c < 6 → w.cell? ⟨r p, o p + c, none⟩ = some (.slice (some ⟨h p c, 0, none⟩) n n)) ∧
    ∀ p c q, p < n → c < 6 → q < n → w.cell? ⟨h p c, q, none⟩ = some (.int .i64 (X p c q))
/-- every cell stays -/
def KeepC (w w' : World) : Prop := ∀ p cv, w.cell? p = some cv → w'.cell? p = some cv
theorem KeepC.below {w w' : World} (h : Below w.heap.size w w') : KeepC w w' := fun _ _ hc => cell_below hc h
theorem KeepC.trans {a b c : World} (h : KeepC a b) (h2 : KeepC b c) : KeepC a c := fun p cv hc => h2 p cv (h p cv hc)
theorem KeepC.bx {w w' : World} {xs : List Nat} (h : BX xs w w') (hx : ∀ x ∈ xs, w.heap.size ≤ x) : KeepC w w' := fun p cv hc => h.cell hc fun hm => by have := lt_of_cell hc; have := hx _ hm; omega
theorem BX.old {w w' : World} {x : Nat} (h : BX [x] w w') (hx : w.heap.size ≤ x) : KeepC w w' := KeepC.bx h fun y hy => by
  simp only [List.mem_cons, List.mem_nil_iff, or_false] at hy
  omega
theorem Cub.keep {w w' : World} {v : Value} {n : Nat} {T : Nat → Nat → Nat → Bool} (h : Cub w v n T) (hb : KeepC w w') : Cub w' v n T := by
  obtain ⟨b, off, cap, rfl, h1, h2, r, o, k, g, h3, h4, h5⟩ := h
  refine ⟨b, off, cap, rfl, h1, h2, r, o, k, g, fun p hp => ?_, fun p c hp hc => hb _ _ (h4 p c hp hc), fun p c q hp hc hq => hb _ _ (h5 p c q hp hc hq)⟩
  obtain ⟨h6, h7, h8⟩ := h3 p hp
  exact ⟨h6, h7, hb _ _ h8⟩
theorem Els.keep {α : Type} {E : El α} {w w' : World} {v : Value} {l : List α} (h : Els E w v l) (hb : KeepC w w') : Els E w' v l := by
  obtain ⟨A, cap, rfl, h1, h2, h3, h4⟩ := h
  refine ⟨A, cap, rfl, h1, h2, h3, fun i hi => ?_⟩
  obtain ⟨b, off, hA, hc⟩ := h4 i hi
  exact ⟨b, off, hA, fun j u hu => hb _ _ (hc j u hu)⟩
theorem Cua.keep {w w' : World} {v : Value} {n : Nat} {X : Nat → Nat → Nat → Int} (h : Cua w v n X) (hb : KeepC w w') : Cua w' v n X := by
  obtain ⟨b, off, cap, rfl, h1, h2, r, o, k, g, h3, h4, h5⟩ := h
  refine ⟨b, off, cap, rfl, h1, h2, r, o, k, g, fun p hp => ?_, fun p c hp hc => hb _ _ (h4 p c hp hc), fun p c q hp hc hq => hb _ _ (h5 p c q hp hc hq)⟩
  obtain ⟨h6, h7, h8⟩ := h3 p hp
  exact ⟨h6, h7, hb _ _ h8⟩
theorem Cua.below {w w' : World} {v : Value} {n : Nat} {X : Nat → Nat → Nat → Int} (h : Cua w v n X) (hb : Below w.heap.size w w') : Cua w' v n X := h.keep (KeepC.below hb)
theorem Cua.shape {w : World} {v : Value} {n : Nat} {X : Nat → Nat → Nat → Int} (h : Cua w v n X) : ∃ b off cap, v = .slice (some ⟨b, off, none⟩) n cap := by
  obtain ⟨b, off, cap, h1, _⟩ := h
  exact ⟨b, off, cap, h1⟩
/-- where a row of the table lies -/
theorem Cua.row {w : World} {b off n cap : Nat} {X : Nat → Nat → Nat → Int} (h : Cua w (.slice (some ⟨b, off, none⟩) n cap) n X) {p c : Nat} (hp : p < n) (hc : c < 6) :
    n ≤ cap ∧ ∃ r o k g, 6 ≤ k ∧ w.cell? ⟨b, off + p, none⟩ = some (.slice (some ⟨r, o, none⟩) 6 k) ∧ w.cell? ⟨r, o + c, none⟩ = some (.slice (some ⟨g, 0, none⟩) n n) ∧ ∀ q, q < n → w.cell? ⟨g, q, none⟩ = some (.int .i64 (X p c q)) := by
  obtain ⟨b', off', cap', e, h1, h2, r, o, k, g, h3, h4, h5⟩ := h
  injection e with e1 e2 e3
  injection e1 with e1
  injection e1 with e1 e4
  subst e1
  subst e4
  subst e3
  exact ⟨h1, r p, o p, k p, g p c, (h3 p hp).1, (h3 p hp).2.2, h4 p c hp hc, fun q hq => h5 p c q hp hc hq⟩
/-- what of the table stays: the slices -/
def IStat (w : World) (n b off : Nat) (r o k : Nat → Nat) (h : Nat → Nat → Nat) : Prop :=
  (∀ p, p < n → 6 ≤ k p ∧ k p ≤ maxLen ∧ w.cell? ⟨b, off + p, none⟩ = some (.slice (some ⟨r p, o p, none⟩) 6 (k p))) ∧
  ∀ p c, p < n → c < 6 → w.cell? ⟨r p, o p + c, none⟩ = some (.slice (some ⟨h p c, 0, none⟩) n n)
/-- what of it changes -/
def IRow (w : World) (n : Nat) (h : Nat → Nat → Nat) (X : Nat → Nat → Nat → Int) : Prop := ∀ p c, p < n → c < 6 → Il w (h p c) n (X p c)
/-- the rows lie apart -/
def ISep (n b : Nat) (r : Nat → Nat) (h : Nat → Nat → Nat) : Prop :=
  (∀ p c, p < n → c < 6 → b ≠ h p c ∧ ∀ p', p' < n → r p' ≠ h p c) ∧ ∀ p c p' c', p < n → c < 6 → p' < n → c' < 6 → h p c = h p' c' → p = p' ∧ c = c'
theorem cua_of {w : World} {n b off cap : Nat} {r o k : Nat → Nat} {h : Nat → Nat → Nat} {X : Nat → Nat → Nat → Int} (hc : n ≤ cap) (hm : cap ≤ maxLen) (h1 : IStat w n b off r o k h) (h2 : IRow w n h X) : Cua w (.slice (some ⟨b, off, none⟩) n cap) n X :=
  ⟨b, off, cap, rfl, hc, hm, r, o, k, h, h1.1, h1.2, fun p c _q hp hc hq => (h2 p c hp hc).cell hq⟩
theorem IStat.bx {w w' : World} {n b off : Nat} {r o k : Nat → Nat} {h : Nat → Nat → Nat} {xs : List Nat} (h1 : IStat w n b off r o k h) (hb : BX xs w w') (hx : b ∉ xs) (hr : ∀ p, p < n → r p ∉ xs) : IStat w' n b off r o k h :=
  ⟨fun p hp => ⟨(h1.1 p hp).1, (h1.1 p hp).2.1, hb.cell (h1.1 p hp).2.2 hx⟩, fun p c hp hc => hb.cell (h1.2 p c hp hc) (hr p hp)⟩
theorem IRow.bx {w w' : World} {n : Nat} {h : Nat → Nat → Nat} {X : Nat → Nat → Nat → Int} {xs : List Nat} (h1 : IRow w n h X) (hb : BX xs w w') (hx : ∀ p c, p < n → c < 6 → h p c ∉ xs) : IRow w' n h X :=
  fun p c hp hc => (h1 p c hp hc).bx hb (hx p c hp hc)
def updX (X : Nat → Nat → Nat → Int) (p c : Nat) (f : Nat → Int) : Nat → Nat → Nat → Int := fun p' c' q => if p' = p ∧ c' = c then f q else X p' c' q
theorem IRow.set {w : World} {n b : Nat} {r : Nat → Nat} {h : Nat → Nat → Nat} {X : Nat → Nat → Nat → Int} (h1 : IRow w n h X) (hs : ISep n b r h) {p c : Nat} (hp : p < n) (hc : c < 6) (q : Nat) (u : Int) :
    IRow (w.setCell ⟨h p c, q, none⟩ (.int .i64 u)) n h (updX X p c fun j => if j = q then u else X p c j) := by
  intro p' c' hp' hc'
  by_cases he : p' = p ∧ c' = c
  · obtain ⟨rfl, rfl⟩ := he
    have : updX X p' c' (fun j => if j = q then u else X p' c' j) p' c' = fun j => if j = q then u else X p' c' j := by funext j; simp [updX]
    rw [this]
    exact (h1 p' c' hp hc).set u
  · have : updX X p c (fun j => if j = q then u else X p c j) p' c' = X p' c' := by funext j; simp [updX, he]
    rw [this]
    exact (h1 p' c' hp' hc').far (fun e => he (hs.2 p' c' p c hp' hc' hp hc e)) _
theorem IStat.set {w : World} {n b off : Nat} {r o k : Nat → Nat} {h : Nat → Nat → Nat} (h1 : IStat w n b off r o k h) (hs : ISep n b r h) {p c : Nat} (hp : p < n) (hc : c < 6) (q : Nat) (u : Value) : IStat (w.setCell ⟨h p c, q, none⟩ u) n b off r o k h :=
  h1.bx (xs := [h p c]) ((BX.refl _ w).set (by simp) u) (by simpa using (hs.1 p c hp hc).1) (fun p' hp' => by simpa using (hs.1 p c hp hc).2 p' hp')
def ElP (C : Nat) : El Nat := ⟨1, fun g => [.slice (some ⟨g, 0, none⟩) C C], fun _ => rfl, fun x u hu => by
  simp only [List.mem_cons, List.mem_nil_iff, or_false] at hu
  subst hu; rfl, by decide⟩
theorem OwnE.top1 {α : Type} {E : El α} {e lo : Nat} {w : World} {v : Value} {l : List α} (h : OwnE E e lo w v l) (hl : 0 < l.length) : ∃ g cap cs, v = .slice (Option.some ⟨g, 0, none⟩) l.length cap ∧ lo ≤ g ∧ Blk w g e cs ∧ l.length ≤ cap ∧ cap ≤ maxLen := by
  obtain ⟨_, h2 | ⟨g, cap, cur, h2, h3, h4, h5, h6, _⟩⟩ := h
  · exact absurd h2.2 (by omega)
  · exact ⟨g, cap, cur, h2, h3, h4, h5, h6⟩
def updH1 (H : Nat → Nat) (K g : Nat) : Nat → Nat := fun i => if i = K then g else H i
theorem info4 : (Tryz.prog.info? 4).map (fun i => (i.zero, i.size, i.bytes)) = some (some (.bool false), 1, 1) := by kernel_rfl
theorem range_push {α : Type} {f f' : Nat → α} {n : Nat} {x : α} (h : ∀ i, i < n → f' i = f i) (hx : f' n = x) : (List.range (n + 1)).map f' = (List.range n).map f ++ [x] := by
  rw [List.range_succ, List.map_append, List.map_cons, List.map_nil, hx]
  congr 1
  exact List.map_congr_left fun i hi => h i (List.mem_range.1 hi)
end
section
open Go.RowKit Go.Shelf
attribute [local go_sem] Oper.semAt_some

theorem rd_zero (row : Nat → Nat → Int) (now : Nat → Int) (k : Nat) : rd 0 row now k = 1073741824 := rfl
theorem rd_succ (row : Nat → Nat → Int) (now : Nat → Int) (n k : Nat) : rd (n + 1) row now k = if 1073741824 ≤ now n then rd n row now k else min (rd n row now k) (now n + row n k) := by
  unfold rd; rw [List.range_succ, List.foldl_append]; rfl
theorem rd_le (row : Nat → Nat → Int) (now : Nat → Int) (n k : Nat) : rd n row now k ≤ 1073741824 := (rd_gen row now k n).1
theorem rd_ge {row : Nat → Nat → Int} {now : Nat → Int} {n k : Nat} (h1 : ∀ i, i < n → 0 ≤ now i) (h2 : ∀ i, i < n → 0 ≤ row i k) : 0 ≤ rd n row now k := by
  induction n with
  | zero => rw [rd_zero]; decide
  | succ n ih =>
    rw [rd_succ]
    have a := ih (fun i hi => h1 i (by omega)) (fun i hi => h2 i (by omega))
    have b := h1 n (by omega)
    have c := h2 n (by omega)
    split <;> omega

set_option maxRecDepth 8000 in
set_option maxHeartbeats 4000000 in
theorem read_any (w : World) (n c gn gF : Nat) (vC : Value) (X : Nat → Nat → Nat → Int) (now : Nat → Int) (hn : 1 ≤ n) (hn4 : n ≤ 400) (hc : c < 6) (hX : Cua w vC n X) (hN : Il w gn n now)
    (hX0 : ∀ p q, p < n → q < n → 0 ≤ X p c q ∧ X p c q ≤ 1073741824) (hN0 : ∀ i, i < n → 0 ≤ now i ∧ now i ≤ 1073741824) :
    Calls Tryz.prog 42 #[.agg #[vC, .slice (some ⟨gF, 0, none⟩) n n], .slice (some ⟨gn, 0, none⟩) n n, .int .i64 c] w fun e w' =>
      ∃ g, e = .returned (.slice (some ⟨g, 0, none⟩) n n) ∧ w.heap.size ≤ g ∧ Il w' g n (fun k => rd n (fun i k => X i c k) now k) ∧ Below w.heap.size w w' := by
  obtain ⟨b, off, cap, rfl⟩ := hX.shape
  have hnI : (1 : Int) ≤ n := by omega
  have hnJ : (n : Int) ≤ 400 := by omega
  have hcJ : (c : Int) < 6 := by omega
  replace hX := Lib.hid hX
  replace hN := Lib.hid hN
  replace hX0 := Lib.hid hX0
  replace hN0 := Lib.hid hN0
  obtain ⟨W, hW⟩ : ∃ W, w.alloc (.cells #[.slice (some ⟨b, off, none⟩) n cap, .slice (some ⟨gF, 0, none⟩) n n] 49) = W := ⟨_, rfl⟩
  have hBW : Below w.heap.size w W := by rw [← hW]; exact below1 _ _
  have kA : Blk W w.heap.size 49 #[.slice (some ⟨b, off, none⟩) n cap, .slice (some ⟨gF, 0, none⟩) n n] := by rw [← hW]; exact Blk.new w 49 _
  have s0 : W.cell? ⟨w.heap.size, 0, none⟩ = some (.slice (some ⟨b, off, none⟩) n cap) := kA.cell 0
  have s1 : W.cell? ⟨w.heap.size, 1, none⟩ = some (.slice (some ⟨gF, 0, none⟩) n n) := kA.cell 1
  replace hBW := Lib.hid hBW
  clear kA
  go_enter Tryz.func42, Tryz.ntmps42
  go_upto_region 3 with (at_make; refine wpList_make_row rfl _ _ 26 rfl Tryz.underlying26 info3 n rfl rfl hn (by omega) ?_; intro w1 hB hb1; have hB := Lib.hid hB; have hb1 := Lib.hid hb1)
  obtain ⟨g, hg⟩ : ∃ g, W.heap.size = g := ⟨_, rfl⟩
  rw [hg] at hB ⊢
  replace hg := Lib.hid hg
  have hkW := Lib.hid (show ∀ wr, BX [g] w1 wr → KeepC W wr from fun wr hx => (KeepC.bx ((BX.of_below (xs := [g]) hb1.out).trans hx) fun x hm => by
    simp only [List.mem_cons, List.mem_nil_iff, or_false] at hm
    have := hg.out
    omega))
  go_wp2
  go_loopw [9] (fun c9 wr => ∃ i : Nat, i ≤ n ∧ c9 = .int .i64 (i : Int) ∧ Hid (Il wr g n (fun j => if j < i then 1073741824 else 0)) ∧ Hid (BX [g] w1 wr)) (fun c9 _ => n - (intOf c9).toNat)
  case atStart => exact ⟨0, Nat.zero_le _, rfl, hB.out.congr fun i _ => by simp, BX.refl _ _⟩
  case round =>
    obtain ⟨i, hi, rfl, hBr, hxr⟩ := hrel
    by_cases hlt : i < n
    case pos =>
      have hltI : (i : Int) < n := by omega
      have hfr := Blk.free hBr.out i
      have hce := Il.cell hBr.out hlt
      simp only [Nat.lt_irrefl, if_false] at hce
      have hnew := Lib.hid (show Il (wr.setCell ⟨g, i, none⟩ (.int .i64 1073741824)) g n (fun j => if j < i + 1 then 1073741824 else 0) from (Il.set hBr.out (i := i) 1073741824).congr fun j _ => by
        by_cases h1 : j = i
        · subst h1; simp
        · rw [if_neg h1]
          have : (j < i + 1) = (j < i) := by apply propext; omega
          simp only [this])
      have hxn := Lib.hid (hxr.out.set (p := ⟨g, i, none⟩) (by simp) (.int .i64 1073741824))
      go_wp2
      go_roundw
      case rel => exact ⟨i + 1, by omega, by go_num, hnew.out, hxn.out⟩
      case measure => simp [intOf]; omega
    have hge : ¬ (i : Int) < n := by omega
    have hfill := Lib.hid (show Il wr g n (fun k => rd 0 (fun i k => X i c k) now k) from hBr.out.congr fun j hj => by
      rw [if_pos (by omega), rd_zero])
    clear hlt hi
    go_wp2
    clear hge hBr
    go_loopw [10] (fun c10 wq => ∃ I : Nat, I ≤ n ∧ c10 = .int .i64 (I : Int) ∧ Hid (Il wq g n (fun k => rd I (fun i k => X i c k) now k)) ∧ Hid (BX [g] w1 wq)) (fun c10 _ => n - (intOf c10).toNat)
    case atStart => exact ⟨0, Nat.zero_le _, rfl, hfill.out, hxr.out⟩
    case round =>
      obtain ⟨I, hI, rfl, hBq, hxq⟩ := hrel
      have hk1 := hkW.out _ hxq.out
      have y0 := hk1 _ _ s0
      have hk0 : KeepC w wr := (KeepC.below hBW.out).trans hk1
      by_cases hlt : I < n
      case neg =>
        have hge2 : ¬ (I : Int) < n := by omega
        obtain rfl : I = n := by omega
        go_wp2
        go_ret
        refine ⟨g, rfl, ?_, hBq.out, ?_⟩
        · have := hg.out
          have := hBW.out.size
          omega
        · have h1 := hBW.out.size
          have h2 := hb1.out.size
          have h3 := hg.out
          exact (bthen hBW.out hb1.out).trans (hxq.out.below (by omega) (by simp; omega))
      have hltI : (I : Int) < n := by omega
      obtain ⟨hcap, r, o, k, gr, hk6, r2', r3', r4'⟩ := hX.out.row hlt hc
      have hgr := Lib.hid (show gr ≠ g from by
        have h1 := lt_of_cell (r4' 0 (by omega))
        have h2 := hBW.out.size
        have h3 := hg.out
        simp only at h1
        omega)
      have r2 := hk0 _ _ r2'
      have r3 := hk0 _ _ r3'
      have hrow := Lib.hid (fun q (hq : q < n) => hk0 _ _ (r4' q hq))
      have n0 := hk0 _ _ (hN.out.cell hlt)
      obtain ⟨hn0, hn1⟩ := hN0.out I hlt
      have hsucc := Lib.hid (rd_succ (fun i k => X i c k) now I)
      have hx0 := Lib.hid (fun q (hq : q < n) => hX0.out I q hlt hq)
      have hcapI : (n : Int) ≤ cap := by omega
      have hkI : (6 : Int) ≤ k := by omega
      clear r2' r3' r4' hk0 hk1
      obtain ⟨nI, hnI2⟩ : ∃ x, now I = x := ⟨_, rfl⟩
      rw [hnI2] at n0 hn0 hn1 hsucc
      replace hnI2 := Lib.hid hnI2
      by_cases hfar : 1073741824 ≤ nI
      · have hsame := Lib.hid (show Il wr g n (fun k => rd (I + 1) (fun i k => X i c k) now k) from hBq.out.congr fun j _ => by
          have := hsucc.out j
          rw [if_pos hfar] at this
          exact this.symm)
        clear r2 r3
        go_wp2
        go_roundw
        case rel => exact ⟨I + 1, by omega, by go_num, hsame.out, hxq.out⟩
        case measure => simp [intOf]; omega
      have hstart := Lib.hid (show Il wr g n (fun k => if k < 0 then rd (I + 1) (fun i k => X i c k) now k else rd I (fun i k => X i c k) now k) from hBq.out.congr fun j _ => by simp)
      go_wp2
      obtain ⟨V, hV⟩ : ∃ V, V = wr := ⟨_, rfl⟩
      subst hV
      clear r2 r3 y0
      replace n0 := Lib.hid n0
      go_loopw [12] (fun c12 wz => ∃ Q : Nat, Q ≤ n ∧ c12 = .int .i64 (Q : Int) ∧ Hid (Il wz g n (fun k => if k < Q then rd (I + 1) (fun i k => X i c k) now k else rd I (fun i k => X i c k) now k)) ∧ Hid (BX [g] V wz)) (fun c12 _ => n - (intOf c12).toNat)
      case atStart => exact ⟨0, Nat.zero_le _, rfl, hstart.out, BX.refl _ _⟩
      case round =>
        obtain ⟨Q, hQ, rfl, hBz, hxz⟩ := hrel
        by_cases hQn : Q < n
        case neg =>
          have hge2 : ¬ (Q : Int) < n := by omega
          have hdone := Lib.hid (show Il wr g n (fun k => rd (I + 1) (fun i k => X i c k) now k) from hBz.out.congr fun j hj => by rw [if_pos (by omega)])
          go_wp2
          go_roundw
          case rel => exact ⟨I + 1, by omega, by go_num, hdone.out, hxq.out.trans hxz.out⟩
          case measure => simp [intOf]; omega
        have hQI : (Q : Int) < n := by omega
        have m0 : wr.cell? ⟨gn, I, none⟩ = some (.int .i64 nI) := hxz.out.cell n0.out (by
          have h1 := lt_of_cell (hN.out.cell hlt)
          have h2 := hBW.out.size
          have h3 := hg.out
          simp only [List.mem_cons, List.mem_nil_iff, or_false] at h1 ⊢
          omega)
        have m1 : wr.cell? ⟨gr, Q, none⟩ = some (.int .i64 (X I c Q)) := hxz.out.cell (hrow.out Q hQn) (by simpa using hgr.out)
        have m2 := Il.cell hBz.out hQn
        have mf := Blk.free hBz.out Q
        simp only [Nat.lt_irrefl, if_false] at m2
        obtain ⟨hx1, hx2⟩ := hx0.out Q hQn
        have hold := rd_le (fun i k => X i c k) now I Q
        have hold0 : 0 ≤ rd I (fun i k => X i c k) now Q := rd_ge (fun i hi => (hN0.out i (by omega)).1) (fun i hi => (hX0.out i Q (by omega) hQn).1)
        have hs := hsucc.out Q
        rw [if_neg (by omega)] at hs
        have hnew := Lib.hid (show Il (wr.setCell ⟨g, Q, none⟩ (.int .i64 (min (rd I (fun i k => X i c k) now Q) (nI + X I c Q)))) g n (fun k => if k < Q + 1 then rd (I + 1) (fun i k => X i c k) now k else rd I (fun i k => X i c k) now k) from (Il.set hBz.out (i := Q) _).congr fun j _ => by
          by_cases h1 : j = Q
          · subst h1
            rw [if_pos rfl, if_pos (by omega), hs]
          · rw [if_neg h1]
            have : (j < Q + 1) = (j < Q) := by apply propext; omega
            simp only [this])
        have hxn := Lib.hid (hxz.out.set (p := ⟨g, Q, none⟩) (by simp) (.int .i64 (min (rd I (fun i k => X i c k) now Q) (nI + X I c Q))))
        clear hs
        generalize rd I (fun i k => X i c k) now Q = ov at *
        generalize X I c Q = xv at *
        go_wp2
        go_region
        all_goals go_wp2
        all_goals go_roundw
        all_goals first
          | exact ⟨Q + 1, by omega, by go_num, hnew.out.drewN 1, hxn.out.trans (BX.of_below (below_drew _))⟩
          | (simp [intOf]; omega)
end
section
open Go.RowKit Go.Shelf
attribute [local go_sem] Oper.semAt_some

/-- a cost that some moves without a letter give -/
inductive Sil (n : Nat) (E : Nat → Nat → Int) (now : Nat → Int) : Nat → Int → Prop
  | base {k : Nat} : k < n → Sil n E now k (now k)
  | step {i k : Nat} {c : Int} : i < n → k < n → Sil n E now i c → Sil n E now k (c + E i k)
/-- the sum of a row -/
def sumN (n : Nat) (f : Nat → Int) : Nat := ((List.range n).map fun k => (f k).toNat).sum
theorem sumN_succ (n : Nat) (f : Nat → Int) : sumN (n + 1) f = sumN n f + (f n).toNat := by
  unfold sumN; rw [List.range_succ, List.map_append, List.sum_append]; simp
theorem sumN_congr {n : Nat} {f g : Nat → Int} (h : ∀ k, k < n → f k = g k) : sumN n f = sumN n g := by
  induction n with
  | zero => rfl
  | succ n ih => rw [sumN_succ, sumN_succ, ih (fun k hk => h k (by omega)), h n (by omega)]
theorem sumN_lt {n : Nat} {f : Nat → Int} {K : Nat} {x : Int} (hK : K < n) (hx : 0 ≤ x) (hl : x < f K) : sumN n (fun k => if k = K then x else f k) < sumN n f := by
  induction n with
  | zero => omega
  | succ n ih =>
    rw [sumN_succ, sumN_succ]
    by_cases he : K = n
    · subst he
      rw [sumN_congr (g := f) (fun k hk => if_neg (by omega)), if_pos rfl]
      omega
    · have := ih (by omega)
      rw [if_neg (show n ≠ K by omega)]
      omega
/-- what holds in a pass, behind the place (I, K) -/
structure SPass (n : Nat) (E : Nat → Nat → Int) (now cur0 cur : Nat → Int) (a : Bool) (I K : Nat) : Prop where
  sound : ∀ k, k < n → Sil n E now k (cur k) ∧ 0 ≤ cur k ∧ cur k ≤ now k
  quiet : a = false → cur = cur0 ∧ ∀ i k, i < n → k < n → (i < I ∨ i = I ∧ k < K) → cur k ≤ cur i + E i k
  less : a = true → sumN n cur < sumN n cur0
/-- what comes out -/
structure SilR (n : Nat) (E : Nat → Nat → Int) (now cur : Nat → Int) : Prop where
  sound : ∀ k, k < n → Sil n E now k (cur k) ∧ 0 ≤ cur k ∧ cur k ≤ now k
  closed : ∀ i k, i < n → k < n → cur k ≤ cur i + E i k
theorem SPass.begin {n : Nat} {E : Nat → Nat → Int} {now cur : Nat → Int} (h : ∀ k, k < n → Sil n E now k (cur k) ∧ 0 ≤ cur k ∧ cur k ≤ now k) : SPass n E now cur cur false 0 0 :=
  ⟨h, fun _ => ⟨rfl, fun i k _ _ h => by omega⟩, fun h => by cases h⟩
theorem SPass.row {n : Nat} {E : Nat → Nat → Int} {now cur0 cur : Nat → Int} {a : Bool} {I : Nat} (h : SPass n E now cur0 cur a I n) : SPass n E now cur0 cur a (I + 1) 0 :=
  ⟨h.sound, fun e => ⟨(h.quiet e).1, fun i k hi hk hh => (h.quiet e).2 i k hi hk (by omega)⟩, h.less⟩
theorem SPass.old {n : Nat} {E : Nat → Nat → Int} {now cur0 cur : Nat → Int} {a : Bool} {I K : Nat} (h : SPass n E now cur0 cur a I K) (hx : ¬ cur I + E I K < cur K) : SPass n E now cur0 cur a I (K + 1) :=
  ⟨h.sound, fun e => ⟨(h.quiet e).1, fun i k hi hk hh => by
    by_cases he : i = I ∧ k = K
    · obtain ⟨rfl, rfl⟩ := he; omega
    · exact (h.quiet e).2 i k hi hk (by omega)⟩, h.less⟩
theorem SPass.new {n : Nat} {E : Nat → Nat → Int} {now cur0 cur : Nat → Int} {a : Bool} {I K : Nat} (h : SPass n E now cur0 cur a I K) (hI : I < n) (hK : K < n) (hE : 0 ≤ E I K) (hx : cur I + E I K < cur K) :
    SPass n E now cur0 (fun k => if k = K then cur I + E I K else cur k) true I (K + 1) := by
  refine ⟨fun k hk => ?_, (fun e => by cases e), fun _ => ?_⟩
  · by_cases hk2 : k = K
    · subst hk2
      simp only [if_true]
      have h1 := h.sound I hI
      have h2 := h.sound k hk
      exact ⟨.step hI hk h1.1, by omega, by omega⟩
    · simp only [hk2, if_false]
      exact h.sound k hk
  · have h1 := sumN_lt (f := cur) hK (by have := (h.sound I hI).2.1; omega) hx
    cases ha : a with
    | false => rw [(h.quiet ha).1] at h1 ⊢; exact h1
    | true => have := h.less ha; omega
theorem SPass.done {n : Nat} {E : Nat → Nat → Int} {now cur0 cur : Nat → Int} (h : SPass n E now cur0 cur false n 0) : SilR n E now cur :=
  ⟨h.sound, fun i k hi hk => (h.quiet rfl).2 i k hi hk (.inl hi)⟩
/-- where no move goes without a letter, nothing changes -/
theorem SilR.far {n : Nat} {E : Nat → Nat → Int} {now cur : Nat → Int} (h : SilR n E now cur) (hE : ∀ i k, i < n → k < n → E i k = 1073741824) (hN : ∀ i, i < n → 0 ≤ now i ∧ now i ≤ 1073741824) {k : Nat} (hk : k < n) : cur k = now k := by
  have key : ∀ k c, Sil n E now k c → k < n ∧ (c = now k ∨ 1073741824 ≤ c) ∧ 0 ≤ c := by
    intro k c hs
    induction hs with
    | @base k hk => exact ⟨hk, .inl rfl, (hN k hk).1⟩
    | @step i k c hi hk _ ih =>
      rw [hE i k hi hk]
      exact ⟨hk, .inr (by omega), by omega⟩
  obtain ⟨h1, h2, h3⟩ := h.sound k hk
  obtain ⟨_, h4, _⟩ := key k _ h1
  have := (hN k hk).2
  omega

set_option maxRecDepth 8000 in
set_option maxHeartbeats 4000000 in
theorem silent_any (w w0 : World) (n gn gF : Nat) (vC : Value) (X : Nat → Nat → Nat → Int) (now : Nat → Int) (hn : 1 ≤ n) (hn4 : n ≤ 400) (hX : Cua w0 vC n X) (hw0 : KeepC w0 w) (hgn : w0.heap.size ≤ gn) (hN : Il w gn n now)
    (hX0 : ∀ p q, p < n → q < n → 0 ≤ X p 5 q ∧ X p 5 q ≤ 1073741824) (hN0 : ∀ i, i < n → 0 ≤ now i ∧ now i ≤ 1073741824) :
    Calls Tryz.prog 67 #[.agg #[vC, .slice (some ⟨gF, 0, none⟩) n n], .slice (some ⟨gn, 0, none⟩) n n] w fun e w' =>
      e = .returned (.slice (some ⟨gn, 0, none⟩) n n) ∧ ∃ cur, SilR n (fun i k => X i 5 k) now cur ∧ Il w' gn n cur ∧ BX [gn] w w' ∧ ((∀ k, k < n → cur k = now k) → Below w.heap.size w w') := by
  obtain ⟨b, off, cap, rfl⟩ := hX.shape
  have hnI : (1 : Int) ≤ n := by omega
  have hnJ : (n : Int) ≤ 400 := by omega
  replace hX := Lib.hid hX
  replace hX0 := Lib.hid hX0
  replace hN0 := Lib.hid hN0
  obtain ⟨W, hW⟩ : ∃ W, w.alloc (.cells #[.slice (some ⟨b, off, none⟩) n cap, .slice (some ⟨gF, 0, none⟩) n n] 49) = W := ⟨_, rfl⟩
  have hBW : Below w.heap.size w W := by rw [← hW]; exact below1 _ _
  have kA := Lib.hid (show Blk W w.heap.size 49 #[.slice (some ⟨b, off, none⟩) n cap, .slice (some ⟨gF, 0, none⟩) n n] by rw [← hW]; exact Blk.new w 49 _)
  have hNW := Lib.hid (show Il W gn n now from Blk.below hN hBW (Blk.lt hN))
  have hgw := Lib.hid (show w.heap.size ∉ [gn] from by have := Blk.lt hN; simp; omega)
  replace hBW := Lib.hid hBW
  replace hw0 := Lib.hid hw0
  replace hgn := Lib.hid hgn
  clear hN
  go_enter Tryz.func67, Tryz.ntmps67
  have s0 : W.cell? ⟨w.heap.size, 0, none⟩ = some (.slice (some ⟨b, off, none⟩) n cap) := kA.out.cell 0
  have s1 : W.cell? ⟨w.heap.size, 1, none⟩ = some (.slice (some ⟨gF, 0, none⟩) n n) := kA.out.cell 1
  go_wp2
  clear s0 s1
  have hb0 := Lib.hid (show ∀ k, k < n → Sil n (fun i k => X i 5 k) now k (now k) ∧ 0 ≤ now k ∧ now k ≤ now k from fun k hk => ⟨.base hk, (hN0.out k hk).1, Int.le_refl _⟩)
  go_loopg [6] (2 * sumN n now + 1) (fun gk c6 wr => ∃ (cur : Nat → Int) (a : Bool), c6 = .bool a ∧ gk = 2 * sumN n cur + (if a then 1 else 0) ∧ Hid (∀ k, k < n → Sil n (fun i k => X i 5 k) now k (cur k) ∧ 0 ≤ cur k ∧ cur k ≤ now k) ∧ Hid (Il wr gn n cur) ∧ Hid (BX [gn] W wr) ∧
    Hid ((∀ k, k < n → cur k = now k) → Below W.heap.size W wr) ∧ Hid (a = false → SilR n (fun i k => X i 5 k) now cur))
  case atStart => exact ⟨now, true, rfl, rfl, hb0.out, hNW.out, BX.refl _ _, fun _ => Below.refl _ _, fun h => by cases h⟩
  case round =>
    obtain ⟨cur0, a0, rfl, hgk, hsnd, hI0, hx0, hq0, hfin⟩ := hrel
    cases a0 with
    | false =>
      replace hgk := Lib.hid hgk
      have hR := Lib.hid (hfin.out rfl)
      go_wp2
      go_ret
      refine ⟨rfl, cur0, hR.out, hI0.out, (BX.of_below hBW.out).trans hx0.out, fun e => bthen hBW.out (hq0.out e)⟩
    | true =>
      replace hgk := Lib.hid hgk
      clear hfin
      go_wp2
      go_loopw [6, 7] (fun c6 c7 wq => ∃ (cur : Nat → Int) (a : Bool) (I : Nat), I ≤ n ∧ c6 = .bool a ∧ c7 = .int .i64 (I : Int) ∧ Hid (SPass n (fun i k => X i 5 k) now cur0 cur a I 0) ∧ Hid (Il wq gn n cur) ∧ Hid (BX [gn] W wq) ∧ Hid ((∀ k, k < n → cur k = now k) → Below W.heap.size W wq)) (fun _ c7 _ => n - (intOf c7).toNat)
      case atStart => exact ⟨cur0, false, 0, Nat.zero_le _, rfl, rfl, SPass.begin hsnd.out, hI0.out, hx0.out, hq0.out⟩
      case round =>
        obtain ⟨cur, a, I, hI, rfl, rfl, hP, hIc, hxc, hqc⟩ := hrel
        by_cases hlt : I < n
        case neg =>
          have hge : ¬ (I : Int) < n := by omega
          have hIn : I = n := by omega
          rw [hIn] at hP
          have hless := Lib.hid (show 2 * sumN n cur + (if a then 1 else 0) < gk from by
            have h1 := hgk.out
            simp only [if_true] at h1
            cases ha : a with
            | false => rw [(hP.out.quiet ha).1]; simp; omega
            | true => have := hP.out.less ha; simp; omega)
          clear hIn
          go_wp2
          go_roundg (2 * sumN n cur + (if a then 1 else 0))
          case measure => exact hless.out
          case rel => exact ⟨cur, a, rfl, rfl, hP.out.sound, hIc.out, hxc.out, hqc.out, fun e => by subst e; exact hP.out.done⟩
        have hltI : (I : Int) < n := by omega
        obtain ⟨hcap, r, o, k, gr, hk6, r2', r3', r4'⟩ := hX.out.row (p := I) (c := 5) hlt (by decide)
        have hkeep := Lib.hid (show ∀ wz, BX [gn] W wz → KeepC w0 wz from fun wz hz p cv hp => hz.cell (cell_below (hw0.out _ _ hp) hBW.out) (by
          have h1 := lt_of_cell hp
          have h2 := hgn.out
          simp only [List.mem_cons, List.mem_nil_iff, or_false]
          omega))
        have hrow := Lib.hid r4'
        have r2 := hkeep.out _ hxc.out _ _ r2'
        have r3 := hkeep.out _ hxc.out _ _ r3'
        have t0 : wr.cell? ⟨w.heap.size, 0, none⟩ = some (.slice (some ⟨b, off, none⟩) n cap) := (kA.out.bx hxc.out hgw.out).cell 0
        have hcapI : (n : Int) ≤ cap := by omega
        have hkI : (6 : Int) ≤ k := by omega
        clear r2' r3' r4'
        go_wp2
        clear r2 r3 t0
        go_loopw [6, 9] (fun c6 c9 wz => ∃ (cur : Nat → Int) (a : Bool) (K : Nat), K ≤ n ∧ c6 = .bool a ∧ c9 = .int .i64 (K : Int) ∧ Hid (SPass n (fun i k => X i 5 k) now cur0 cur a I K) ∧ Hid (Il wz gn n cur) ∧ Hid (BX [gn] W wz) ∧ Hid ((∀ k, k < n → cur k = now k) → Below W.heap.size W wz)) (fun _ c9 _ => n - (intOf c9).toNat)
        case atStart => exact ⟨cur, a, 0, Nat.zero_le _, rfl, rfl, hP.out, hIc.out, hxc.out, hqc.out⟩
        case round =>
          obtain ⟨cur2, a2, K, hK, rfl, rfl, hP2, hI2, hx2, hq2⟩ := hrel
          by_cases hltK : K < n
          case neg =>
            have hge : ¬ (K : Int) < n := by omega
            have hKn : K = n := by omega
            rw [hKn] at hP2
            clear hKn
            go_wp2
            go_roundw
            case rel => exact ⟨cur2, a2, I + 1, by omega, rfl, by go_num, hP2.out.row, hI2.out, hx2.out, hq2.out⟩
            case measure => simp [intOf]; omega
          have hKI : (K : Int) < n := by omega
          have m0 := Il.cell hI2.out hlt
          have m1 := Il.cell hI2.out hltK
          have m2 : wr.cell? ⟨gr, K, none⟩ = some (.int .i64 (X I 5 K)) := hkeep.out _ hx2.out _ _ (hrow.out K hltK)
          have mf := Blk.free hI2.out K
          obtain ⟨hx1, hx3⟩ := hX0.out I K hlt hltK
          obtain ⟨_, ha0, ha1⟩ := hP2.out.sound I hlt
          obtain ⟨_, hb0', hb1⟩ := hP2.out.sound K hltK
          have hnn1 := (hN0.out I hlt).2
          have hnn2 := (hN0.out K hltK).2
          have haF : cur2 I ≤ 1073741824 := by omega
          have hbF : cur2 K ≤ 1073741824 := by omega
          clear ha1 hb1 hnn1 hnn2
          by_cases hx : cur2 I + X I 5 K < cur2 K
          · have hPn := Lib.hid (hP2.out.new hlt hltK hx1 hx)
            have hIn := Lib.hid (fun nq => Il.set (Blk.drewN hI2.out nq) (i := K) (cur2 I + X I 5 K))
            have hxn := Lib.hid (fun nq => (hx2.out.trans (BX.of_below (below_drewN (Below.refl _ _) nq))).set (p := ⟨gn, K, none⟩) (by simp) (.int .i64 (cur2 I + X I 5 K)))
            have hqn := Lib.hid (show (∀ k, k < n → (fun j => if j = K then cur2 I + X I 5 K else cur2 j) k = now k) → False from fun e => by
              have h1 := e K hltK
              simp only [if_true] at h1
              have h2 := (hP2.out.sound K hltK).2.2
              omega)
            generalize hA : cur2 I = vA at *
            generalize hB : cur2 K = vB at *
            generalize X I 5 K = vX at *
            replace hA := Lib.hid hA
            replace hB := Lib.hid hB
            go_wp2
            go_quiet (fail)
            go_wp2
            go_roundw
            case rel => exact ⟨_, true, K + 1, by omega, rfl, by go_num, hPn.out, hIn.out _, hxn.out _, fun e => (hqn.out e).elim⟩
            case measure => simp [intOf]; omega
          · have hPn := Lib.hid (hP2.out.old hx)
            generalize hA : cur2 I = vA at *
            generalize hB : cur2 K = vB at *
            generalize X I 5 K = vX at *
            replace hA := Lib.hid hA
            replace hB := Lib.hid hB
            go_wp2
            go_quiet (fail)
            go_wp2
            go_roundw
            case rel => exact ⟨_, a2, K + 1, by omega, rfl, by go_num, hPn.out, Blk.drewN hI2.out _, hx2.out.trans (BX.of_below (below_drewN (Below.refl _ _) _)), fun e => below_drewN (hq2.out e) _⟩
            case measure => simp [intOf]; omega
end
section
open Go.RowKit Go.Shelf
attribute [local go_sem] Oper.semAt_some

def ElQ6 : El (Nat × Nat) := ⟨1, fun x => [.slice (some ⟨x.1, 0, none⟩) 6 x.2], fun _ => rfl, fun x u hu => by
  simp only [List.mem_cons, List.mem_nil_iff, or_false] at hu
  subst hu; rfl, by decide⟩
/-- a move: state, letter, state -/
abbrev Mv := Nat × Nat × Nat
def ElM : El Mv := ⟨3, fun x => [.int .i64 x.1, .int .i64 x.2.1, .int .i64 x.2.2], fun _ => rfl, fun x u hu => by
  simp only [List.mem_cons, List.mem_nil_iff, or_false] at hu
  rcases hu with rfl | rfl | rfl <;> rfl, by decide⟩
def ElN : El Nat := ⟨1, fun x => [.int .i64 (x : Int)], fun _ => rfl, fun x u hu => by
  simp only [List.mem_cons, List.mem_nil_iff, or_false] at hu
  subst hu; rfl, by decide⟩
/-- the first K rows: far, in blocks one behind the other -/
def BI (w : World) (lo n K : Nat) (H : Nat → Nat) : Prop := (∀ i, i < K → lo ≤ H i ∧ Il w (H i) n (fun _ => 1073741824)) ∧ ∀ i j, i < j → j < K → H i < H j
theorem BI.below {w w' : World} {lo C K : Nat} {H : Nat → Nat} (h : BI w lo C K H) (hb : Below w.heap.size w w') : BI w' lo C K H := ⟨fun i hi => ⟨(h.1 i hi).1, (h.1 i hi).2.below hb (h.1 i hi).2.lt⟩, h.2⟩
theorem BI.bx {w w' : World} {lo C K : Nat} {H : Nat → Nat} {xs : List Nat} (h : BI w lo C K H) (hb : BX xs w w') (hx : ∀ i, i < K → H i ∉ xs) : BI w' lo C K H := ⟨fun i hi => ⟨(h.1 i hi).1, (h.1 i hi).2.bx hb (hx i hi)⟩, h.2⟩
theorem BI.push {w : World} {lo C K g : Nat} {H : Nat → Nat} (h : BI w lo C K H) (hg : Il w g C (fun _ => 1073741824)) (hlo : lo ≤ g) (hlt : ∀ i, i < K → H i < g) : BI w lo C (K + 1) (updH1 H K g) := by
  refine ⟨fun i hi => ?_, fun i j hij hj => ?_⟩
  · unfold updH1
    by_cases he : i = K
    · rw [if_pos he]; exact ⟨hlo, hg⟩
    · rw [if_neg he]; exact h.1 i (by omega)
  · unfold updH1
    rw [if_neg (show i ≠ K by omega)]
    by_cases he : j = K
    · rw [if_pos he]; exact hlt i (by omega)
    · rw [if_neg he]; exact h.2 i j hij (by omega)
theorem BI.congr {w : World} {lo C K : Nat} {H H' : Nat → Nat} (h : BI w lo C K H) (he : ∀ i, i < K → H' i = H i) : BI w lo C K H' := by
  refine ⟨fun i hi => by rw [he i hi]; exact h.1 i hi, fun i j hij hj => ?_⟩
  rw [he i (by omega), he j hj]
  exact h.2 i j hij hj
/-- the rows of the states below p -/
def RI (w : World) (lo C p : Nat) (r k H : Nat → Nat) : Prop := ∀ p', p' < p → lo ≤ r p' ∧ (∃ cs, Blk w (r p') 26 cs) ∧ 6 ≤ k p' ∧ k p' ≤ maxLen ∧ ∀ c, c < 6 → w.cell? ⟨r p', c, none⟩ = some (.slice (some ⟨H (p' * 6 + c), 0, none⟩) C C)
theorem RI.below {w w' : World} {lo C p : Nat} {r k H : Nat → Nat} (h : RI w lo C p r k H) (hb : Below w.heap.size w w') : RI w' lo C p r k H := fun p' hp' => by
  obtain ⟨h1, ⟨cs, h2⟩, h3, h4, h5⟩ := h p' hp'
  exact ⟨h1, ⟨cs, h2.below hb h2.lt⟩, h3, h4, fun c hc => cell_below (h5 c hc) hb⟩
theorem RI.bx {w w' : World} {lo C p : Nat} {r k H : Nat → Nat} {xs : List Nat} (h : RI w lo C p r k H) (hb : BX xs w w') (hx : ∀ p', p' < p → r p' ∉ xs) : RI w' lo C p r k H := fun p' hp' => by
  obtain ⟨h1, ⟨cs, h2⟩, h3, h4, h5⟩ := h p' hp'
  exact ⟨h1, ⟨cs, h2.bx hb (hx p' hp')⟩, h3, h4, fun c hc => hb.cell (h5 c hc) (hx p' hp')⟩
theorem info48 : (Tryz.prog.info? 26).map (fun i => (i.zero, i.size, i.bytes)) = some (some (.slice none 0 0), 1, 24) := by kernel_rfl
theorem info125 : (Tryz.prog.info? 89).map (fun i => (i.zero, i.size, i.bytes)) = some (some (.slice none 0 0), 1, 24) := by kernel_rfl

/-- the table of an acceptor -/
def ofX (ms : List Mv) : Nat → Nat → Nat → Int := fun p c q => if (p, c, q) ∈ ms then 0 else 1073741824
def ofF (fs : List Nat) : Nat → Bool := fun q => decide (q ∈ fs)
theorem ofX_nil : ofX [] = fun _ _ _ => 1073741824 := by funext p c q; simp [ofX]
theorem ofX_snoc (ms : List Mv) (m : Mv) : updX (ofX ms) m.1 m.2.1 (fun j => if j = m.2.2 then 0 else ofX ms m.1 m.2.1 j) = ofX (ms ++ [m]) := by
  funext p c q
  obtain ⟨a, b, d⟩ := m
  unfold updX ofX
  by_cases h1 : p = a ∧ c = b
  · obtain ⟨rfl, rfl⟩ := h1
    by_cases h2 : q = d
    · subst h2; simp
    · simp [h2]
  · rw [if_neg h1]
    have : ¬ (p, c, q) = (a, b, d) := fun e => h1 (by injection e with e1 e2; injection e2 with e2 e3; exact ⟨e1, e2⟩)
    simp [this]
theorem BX.then_below {xs : List Nat} {W a b : World} (h : BX xs W a) (hb : Below W.heap.size a b) : BX xs W b := ⟨hb.os.trans h.os, hb.tape.trans h.tape, hb.output.trans h.output, Nat.le_trans h.size hb.size, fun k hk hx => (hb.block k hk).trans (h.block k hk hx)⟩
/-- a table that may be written, in blocks of its own -/
def Iw (w : World) (lo : Nat) (v : Value) (n : Nat) (X : Nat → Nat → Nat → Int) (b cap : Nat) (r k : Nat → Nat) (h : Nat → Nat → Nat) : Prop :=
  v = .slice (some ⟨b, 0, none⟩) n cap ∧ n ≤ cap ∧ cap ≤ maxLen ∧ IStat w n b 0 r (fun _ => 0) k h ∧ IRow w n h X ∧ ISep n b r h ∧ lo ≤ b ∧ (∀ p c, p < n → c < 6 → lo ≤ h p c) ∧ (∃ cs, Blk w b 89 cs) ∧ ∀ p, p < n → ∃ cs, Blk w (r p) 26 cs

set_option maxRecDepth 8000 in
set_option maxHeartbeats 8000000 in
theorem Of_any (w : World) (st more n : Nat) (vm vf : Value) (ms : List Mv) (fs : List Nat) (hst : st + more = n) (hn : 1 ≤ n) (hn4 : n ≤ 400) (hm : Els ElM w vm ms) (hms : ∀ m ∈ ms, m.1 < n ∧ m.2.1 < 6 ∧ m.2.2 < n) (hf : Els ElN w vf fs) (hfs : ∀ f ∈ fs, f < n) :
    Calls Tryz.prog 18 #[.agg #[.int .i64 st, vm, vf], .int .i64 more] w fun e w' =>
      ∃ vC gF, e = .returned (.agg #[vC, .slice (some ⟨gF, 0, none⟩) n n]) ∧ (∃ b cap r k h, Iw w' w.heap.size vC n (ofX ms) b cap r k h) ∧ Bl w' gF n (ofF fs) ∧ w.heap.size ≤ gF ∧ Below w.heap.size w w' := by
  obtain ⟨Am, nm, capm, rfl, hnm⟩ := Els.shape hm
  obtain ⟨Af, nf, capf, rfl, hnf⟩ := Els.shape hf
  obtain ⟨W, hW⟩ : ∃ W, ((w.alloc (.cells #[.int .i64 st, .slice Am nm capm, .slice Af nf capf] 28)).alloc (.cells #[.slice none 0 0, .slice none 0 0] 49)).alloc (.cells #[.slice none 0 0, .slice none 0 0] 49) = W := ⟨_, rfl⟩
  have hBW : Below w.heap.size w W := by rw [← hW]; exact bthen (below1 _ _) (bthen (below1 _ _) (below1 _ _))
  have kS : Blk W w.heap.size 28 #[.int .i64 st, .slice Am nm capm, .slice Af nf capf] := by rw [← hW]; exact ((Blk.new w 28 _).alloc _).alloc _
  have k4 : Blk W (w.heap.size + 1) 49 #[.slice none 0 0, .slice none 0 0] := by rw [← hW]; have := Blk.new (w.alloc (.cells #[.int .i64 st, .slice Am nm capm, .slice Af nf capf] 28)) 49 #[.slice none 0 0, .slice none 0 0]; rw [alloc_size] at this; exact this.alloc _
  have k6 : Blk W (w.heap.size + 1 + 1) 49 #[.slice none 0 0, .slice none 0 0] := by rw [← hW]; have := Blk.new ((w.alloc (.cells #[.int .i64 st, .slice Am nm capm, .slice Af nf capf] 28)).alloc (.cells #[.slice none 0 0, .slice none 0 0] 49)) 49 #[.slice none 0 0, .slice none 0 0]; rw [alloc_size, alloc_size] at this; exact this
  have hWs : w.heap.size + 3 ≤ W.heap.size := k6.lt
  have s0 : (w.alloc (.cells #[.int .i64 st, .slice Am nm capm, .slice Af nf capf] 28)).cell? ⟨w.heap.size, 0, none⟩ = some (.int .i64 st) := (Blk.new w 28 _).cell 0
  have s00 : ((w.alloc (.cells #[.int .i64 st, .slice Am nm capm, .slice Af nf capf] 28)).alloc (.cells #[.slice none 0 0, .slice none 0 0] 49)).cell? ⟨w.heap.size, 0, none⟩ = some (.int .i64 st) := ((Blk.new w 28 _).alloc _).cell 0
  have hnI : (st : Int) + (more : Int) = n := by omega
  have hnmx : (nm : Int) ≤ 9223372036854775807 ∧ (nf : Int) ≤ 9223372036854775807 := by
    have h1 := Els.len hm
    have h2 := Els.len hf
    unfold maxLen at h1 h2
    omega
  obtain ⟨hnmx, hnfx⟩ := hnmx
  have hn1 : (1 : Int) ≤ n := by omega
  have hn2 : (n : Int) ≤ 400 := by omega
  have hst2 : (st : Int) ≤ 400 := by omega
  have hmo2 : (more : Int) ≤ 400 := by omega
  replace hBW := Lib.hid hBW
  replace kS := Lib.hid kS
  replace k4 := Lib.hid k4
  replace k6 := Lib.hid k6
  replace hm := Lib.hid hm
  replace hf := Lib.hid hf
  replace hms := Lib.hid hms
  replace hfs := Lib.hid hfs
  replace hst := Lib.hid hst
  go_enter Tryz.func18, Tryz.ntmps18
  go_wp2
  clear s0 s00
  go_loopw [7] (fun c7 wr => ∃ (p : Nat) (r k H : Nat → Nat) (v0 : Value), p ≤ n ∧ c7 = .int .i64 (p : Int) ∧ Hid (Blk wr (w.heap.size + 1 + 1) 49 #[v0, .slice none 0 0]) ∧ Hid (OwnE ElQ6 89 W.heap.size wr v0 ((List.range p).map fun p' => (r p', k p'))) ∧ Hid (RI wr W.heap.size n p r k H) ∧
    Hid (BI wr W.heap.size n (p * 6) H) ∧ Hid (BX [w.heap.size + 1 + 1] W wr)) (fun c7 _ => n - (intOf c7).toNat)
  case atStart => exact ⟨0, fun _ => 0, fun _ => 0, fun _ => 0, _, Nat.zero_le _, rfl, k6.out, OwnE.nil _ _ _, fun p' hp' => absurd hp' (by omega), ⟨fun i hi => absurd hi (by omega), fun i j _ hj => absurd hj (by omega)⟩, BX.refl _ _⟩
  case round =>
    obtain ⟨p, r, k, H, v0, hp, rfl, hB6, ho, hR, hB, hBr⟩ := hrel
    obtain ⟨A3, n3, cap3, rfl, hn3⟩ := OwnE.shape ho.out
    by_cases hlt : p < n
    case neg =>
      have hge : ¬ (p : Int) < n := by omega
      obtain rfl : p = n := by omega
      clear hlt hp
      obtain ⟨b, cap3', csb, e3, hb, hkb, hlb, hmb⟩ := OwnE.top1 ho.out (by simp; omega)
      simp at e3 hlb
      obtain ⟨rfl, hnC, rfl⟩ := e3
      rw [hnC] at ho hB6
      clear hn3 hnC
      obtain ⟨b', o', e3, hat⟩ := Els.cell ho.out.els (by simp; omega)
      obtain ⟨rfl, rfl⟩ : b = b' ∧ 0 = o' := by simpa using e3
      have hst0 : IStat wr p b 0 r (fun _ => 0) k (fun p c => H (p * 6 + c)) := by
        refine ⟨fun p' hp' => ?_, fun p' c hp' hc => ?_⟩
        · obtain ⟨_, _, h3, h4, _⟩ := hR.out p' hp'
          refine ⟨h3, h4, ?_⟩
          have := hat p' (by simpa using hp') 0 (.slice (some ⟨r p', 0, none⟩) 6 (k p')) (by simp [ElQ6])
          simpa [ElQ6] using this
        · simpa using (hR.out p' hp').2.2.2.2 c hc
      have hrow0 : IRow wr p (fun p c => H (p * 6 + c)) (ofX (ms.take 0)) := fun p' c hp' hc => by
        rw [List.take_zero, ofX_nil]
        exact (hB.out.1 _ (by omega)).2
      have hsep : ISep p b r (fun p c => H (p * 6 + c)) := by
        refine ⟨fun p' c hp' hc => ⟨hkb.ne_of (hrow0 p' c hp' hc) (by decide), fun p'' hp'' => ?_⟩, fun p1 c1 p2 c2 hp1 hc1 hp2 hc2 he => ?_⟩
        · obtain ⟨_, ⟨cs, h2⟩, _⟩ := hR.out p'' hp''
          exact h2.ne_of (hrow0 p' c hp' hc) (by decide)
        · rcases Nat.lt_trichotomy (p1 * 6 + c1) (p2 * 6 + c2) with hh | hh | hh
          · exact absurd he (Nat.ne_of_lt (hB.out.2 _ _ hh (by omega)))
          · omega
          · exact absurd he (Nat.ne_of_gt (hB.out.2 _ _ hh (by omega)))
      have hlo : ∀ p' c, p' < p → c < 6 → W.heap.size ≤ H (p' * 6 + c) := fun p' c hp' hc => (hB.out.1 _ (by omega)).1
      have hrk : ∀ p', p' < p → W.heap.size ≤ r p' ∧ ∃ cs, Blk wr (r p') 26 cs := fun p' hp' => ⟨(hR.out p' hp').1, (hR.out p' hp').2.1⟩
      have hgt : b < wr.heap.size ∧ (∀ p', p' < p → r p' < wr.heap.size) ∧ ∀ p' c, p' < p → c < 6 → H (p' * 6 + c) < wr.heap.size := ⟨hkb.lt, fun p' hp' => by obtain ⟨_, cs, h2⟩ := hrk p' hp'; exact h2.lt, fun p' c hp' hc => (hrow0 p' c hp' hc).lt⟩
      replace hst0 := Lib.hid hst0
      replace hrow0 := Lib.hid hrow0
      replace hsep := Lib.hid hsep
      replace hlo := Lib.hid hlo
      replace hrk := Lib.hid hrk
      replace hgt := Lib.hid hgt
      replace hkb := Lib.hid hkb
      clear ho hR hB hat e3
      generalize hh : (fun (p c : Nat) => H (p * 6 + c)) = h at *
      have hh' := Lib.hid (fun p' c => congrFun (congrFun hh p') c)
      clear hh
      have b60 := hB6.out.cell 0
      have b61 := hB6.out.cell 1
      simp at b60 b61
      have hcapn : p ≤ cap3 := hlb
      go_upto_region 19 with (at_make; refine wpList_make_bools rfl _ _ 47 rfl Tryz.underlying47 info4 p rfl rfl hn (by omega) ?_; intro w1 hN hb1; replace b61 := cell_below b61 hb1; have f61 := (Blk.below hB6.out hb1 hB6.out.lt).free 1; have hN := Lib.hid hN; have hb1 := Lib.hid hb1)
      clear b60 b61 f61 hge
      obtain ⟨gF, hgF⟩ : ∃ gF, wr.heap.size = gF := ⟨_, rfl⟩
      obtain ⟨Y, hY⟩ : ∃ Y, w1.setCell ⟨w.heap.size + 1 + 1, 1, none⟩ (.slice (some ⟨wr.heap.size, 0, none⟩) p p) = Y := ⟨_, rfl⟩
      rw [hY]
      have hsl := hBr.out.size
      have hxY : BX [w.heap.size + 1 + 1] wr Y := by rw [← hY]; exact (BX.of_below hb1.out).set (by simp) _
      have hWY : BX [w.heap.size + 1 + 1] W Y := hBr.out.trans hxY
      have hBoY := Lib.hid (show Blk Y (w.heap.size + 1 + 1) 49 #[.slice (some ⟨b, 0, none⟩) p cap3, .slice (some ⟨gF, 0, none⟩) p p] by
        rw [← hY, ← hgF]
        simpa using (Blk.below hB6.out hb1.out hB6.out.lt).set 1 (.slice (some ⟨wr.heap.size, 0, none⟩) p p))
      have hFY := Lib.hid (show Bl Y gF p (ofF (fs.take 0)) by
        rw [← hY, ← hgF]
        refine Bl.congr (Blk.far hN.out (p := ⟨w.heap.size + 1 + 1, 1, none⟩) (by show wr.heap.size ≠ w.heap.size + 1 + 1; omega) _) fun i _ => by simp [ofF])
      have hstY := Lib.hid (hst0.out.bx hxY (by simp; omega) (fun p' hp' hm => by have := (hrk.out p' hp').1; simp at hm; omega))
      have hrowY := Lib.hid (hrow0.out.bx hxY (fun p' c hp' hc hm => by have := hlo.out p' c hp' hc; rw [hh'.out] at this; simp at hm; omega))
      have kSY := Lib.hid (kS.out.bx hWY (by simp; omega))
      have k4Y := Lib.hid (k4.out.bx hWY (by simp))
      have hwY := Lib.hid (show Below w.heap.size w Y from hBW.out.trans (hWY.below (by omega) (by simp; omega)))
      have hfar := Lib.hid (show gF ≠ b ∧ (∀ p', p' < p → gF ≠ r p') ∧ (∀ p' c, p' < p → c < 6 → gF ≠ h p' c) ∧ w.heap.size + 3 ≤ gF from by
        obtain ⟨g1, g2, g3⟩ := hgt.out
        refine ⟨by omega, fun p' hp' => by have := g2 p' hp'; omega, fun p' c hp' hc => by have := g3 p' c hp' hc; have := hh'.out p' c; (try dsimp only at this); omega, by omega⟩)
      have hblkY := Lib.hid (show (∃ cs, Blk Y b 89 cs) ∧ ∀ p', p' < p → ∃ cs, Blk Y (r p') 26 cs from ⟨⟨_, hkb.out.bx hxY (by simp; omega)⟩, fun p' hp' => by
        obtain ⟨h1, cs, h2⟩ := hrk.out p' hp'
        exact ⟨cs, h2.bx hxY (by simp; omega)⟩⟩)
      replace hlo := Lib.hid (show ∀ p' c, p' < p → c < 6 → W.heap.size ≤ h p' c from fun p' c hp' hc => by have := hlo.out p' c hp' hc; rw [hh'.out] at this; exact this)
      replace hrk := Lib.hid (fun p' hp' => (hrk.out p' hp').1)
      have hfr := Lib.hid hgF
      rw [hgF]
      clear hY hxY hWY hgF hst0 hrow0 hgt hkb hB6 hBr hN hb1 hfr
      go_wp2
      have hnm0 := hnm.out
      have hnmI := Lib.hid hnm0
      clear hnm0
      go_loopw [13] (fun c13 wq => ∃ i : Nat, i ≤ nm ∧ c13 = .int .i64 (i : Int) ∧ Hid (IRow wq p h (ofX (ms.take i))) ∧ Hid (IStat wq p b 0 r (fun _ => 0) k h) ∧ Hid (Blk wq (w.heap.size + 1 + 1) 49 #[.slice (some ⟨b, 0, none⟩) p cap3, .slice (some ⟨gF, 0, none⟩) p p]) ∧
        Hid (Blk wq w.heap.size 28 #[.int .i64 st, .slice Am nm capm, .slice Af nf capf]) ∧ Hid (Blk wq (w.heap.size + 1) 49 #[.slice none 0 0, .slice none 0 0]) ∧ Hid (Bl wq gF p (ofF (fs.take 0))) ∧ Hid (Below w.heap.size w wq) ∧ Hid ((∃ cs, Blk wq b 89 cs) ∧ ∀ p', p' < p → ∃ cs, Blk wq (r p') 26 cs)) (fun c13 _ => nm - (intOf c13).toNat)
      case atStart => exact ⟨0, Nat.zero_le _, rfl, hrowY.out, hstY.out, hBoY.out, kSY.out, k4Y.out, hFY.out, hwY.out, hblkY.out⟩
      case round =>
        obtain ⟨i, hi, rfl, hrw, hst2, hBo, hkS, hk4, hFz, hbw, hbk⟩ := hrel
        clear hrowY hstY hBoY kSY k4Y hFY hwY hblkY
        have t1 := hkS.out.cell 1
        simp at t1
        by_cases hlt : i < nm
        case neg =>
          have hge : ¬ (i : Int) < nm := by omega
          have htk : ms.take i = ms := List.take_of_length_le (by rw [← hnmI.out]; omega)
          rw [htk] at hrw
          clear htk hlt hi
          go_wp2
          clear t1 hge
          have hnf0 := hnf.out
          have hnfI := Lib.hid hnf0
          clear hnf0
          have hkeep := Lib.hid (show ∀ wz, BX [gF] wr wz → IRow wz p h (ofX ms) ∧ IStat wz p b 0 r (fun _ => 0) k h ∧ Blk wz (w.heap.size + 1 + 1) 49 #[.slice (some ⟨b, 0, none⟩) p cap3, .slice (some ⟨gF, 0, none⟩) p p] ∧
            Blk wz w.heap.size 28 #[.int .i64 st, .slice Am nm capm, .slice Af nf capf] ∧ Blk wz (w.heap.size + 1) 49 #[.slice none 0 0, .slice none 0 0] ∧ Below w.heap.size w wz ∧ (∃ cs, Blk wz b 89 cs) ∧ ∀ p', p' < p → ∃ cs, Blk wz (r p') 26 cs from fun wz hz => by
            obtain ⟨f1, f2, f3, f4⟩ := hfar.out
            refine ⟨hrw.out.bx hz (fun p' c hp' hc hm => f3 p' c hp' hc (by simp at hm; omega)), hst2.out.bx hz (by simpa using f1.symm) (fun p' hp' => by simpa using (f2 p' hp').symm), hBo.out.bx hz (by simp; omega), hkS.out.bx hz (by simp; omega), hk4.out.bx hz (by simp; omega),
              hbw.out.trans (hz.below hbw.out.size (by simp; omega)), ?_, fun p' hp' => ?_⟩
            · obtain ⟨⟨cs, h1⟩, _⟩ := hbk.out
              exact ⟨cs, h1.bx hz (by simpa using f1.symm)⟩
            · obtain ⟨cs, h1⟩ := hbk.out.2 p' hp'
              exact ⟨cs, h1.bx hz (by simpa using (f2 p' hp').symm)⟩)
          obtain ⟨V, hV⟩ : ∃ V, V = wr := ⟨_, rfl⟩
          subst hV
          go_loopw [16] (fun c16 wz => ∃ j : Nat, j ≤ nf ∧ c16 = .int .i64 (j : Int) ∧ Hid (Bl wz gF p (ofF (fs.take j))) ∧ Hid (BX [gF] V wz)) (fun c16 _ => nf - (intOf c16).toNat)
          case atStart => exact ⟨0, Nat.zero_le _, rfl, hFz.out, BX.refl _ _⟩
          case round =>
            obtain ⟨j, hj, rfl, hFj, hxj⟩ := hrel
            obtain ⟨g1, g2, g3, g4, g5, g6, g7⟩ := hkeep.out _ hxj.out
            have t2 := g4.cell 2
            have bo1 := g3.cell 1
            simp at t2 bo1
            by_cases hlt : j < nf
            case neg =>
              have hge : ¬ (j : Int) < nf := by omega
              have htk : fs.take j = fs := List.take_of_length_le (by rw [← hnfI.out]; omega)
              rw [htk] at hFj
              clear htk hlt hj
              have bo0 := g3.cell 0
              have q0 := g5.cell 0
              have q1 := g5.cell 1
              have fq0 := g5.free 0
              have fq1 := g5.free 1
              simp at bo0 q0 q1
              have B2 := (g5.set 0 (.slice (some ⟨b, 0, none⟩) p cap3)).set 1 (.slice (some ⟨gF, 0, none⟩) p p)
              have e0 := B2.cell 0
              have e1 := B2.cell 1
              simp at e0 e1
              have hxe : BX [w.heap.size + 1] wr ((wr.setCell ⟨w.heap.size + 1, 0, none⟩ (.slice (some ⟨b, 0, none⟩) p cap3)).setCell ⟨w.heap.size + 1, 1, none⟩ (.slice (some ⟨gF, 0, none⟩) p p)) := ((BX.refl _ wr).set (by simp) _).set (by simp) _
              have hfin := Lib.hid (show ∀ WE, BX [w.heap.size + 1] wr WE → (∃ b' cap r k h, Iw WE w.heap.size (.slice (some ⟨b, 0, none⟩) p cap3) p (ofX ms) b' cap r k h) ∧ Bl WE gF p (ofF fs) ∧ w.heap.size ≤ gF ∧ Below w.heap.size w WE from fun WE hE => by
                obtain ⟨f1, f2, f3, f4⟩ := hfar.out
                refine ⟨⟨b, cap3, r, k, h, rfl, hlb, hmb, g2.bx hE (by simp; omega) (fun p' hp' hm => by have := hrk.out p' hp'; simp at hm; omega), g1.bx hE (fun p' c hp' hc hm => by have := hlo.out p' c hp' hc; simp at hm; omega), hsep.out, by omega, fun p' c hp' hc => by have := hlo.out p' c hp' hc; omega, ?_, fun p' hp' => ?_⟩, Blk.bx hFj.out hE (by simp; omega), by omega, g6.trans (hE.below g6.size (by simp))⟩
                · obtain ⟨cs, h1⟩ := g7.1
                  exact ⟨cs, h1.bx hE (by simp; omega)⟩
                · obtain ⟨cs, h1⟩ := g7.2 p' hp'
                  exact ⟨cs, h1.bx hE (by have := hrk.out p' hp'; simp; omega)⟩)
              replace hfin := Lib.hid (hfin.out _ hxe)
              clear B2 g1 g2 g3 g4 g5 g6 g7 hxe
              go_wp2
              exact bodyPost_ret (v := .agg #[.slice (some ⟨b, 0, none⟩) p cap3, .slice (some ⟨gF, 0, none⟩) p p]) (by simp [results, Tryz.results18, go_sem, e0, e1]) rfl ⟨_, gF, rfl, hfin.out⟩
            have hltI : (j : Int) < nf := by omega
            have hjl : j < fs.length := by rw [← hnfI.out]; exact hlt
            obtain ⟨bM, oM, rfl, hat⟩ := Els.cell (hf.out.then g6) (by omega)
            have z0 := hat j hjl 0 (.int .i64 fs[j]) rfl
            change wr.cell? ⟨bM, oM + j * 1, none⟩ = _ at z0
            rw [Nat.mul_one] at z0
            have hfj := hfs.out fs[j] (List.getElem_mem hjl)
            have htk := Lib.hid (show fs.take (j + 1) = fs.take j ++ [fs[j]] by rw [List.take_add_one, List.getElem?_eq_getElem hjl]; rfl)
            clear hat g1 g2 g3 g4 g5 g6 g7
            generalize fs[j] = f at *
            have hfI : (f : Int) < p := by omega
            have hce := Bl.cell hFj.out hfj
            have hfz := Blk.free hFj.out f
            have hnew := Lib.hid (show Bl (wr.setCell ⟨gF, f, none⟩ (.bool true)) gF p (ofF (fs.take (j + 1))) from (Bl.set hFj.out (i := f) true).congr fun q _ => by
              rw [htk.out]
              unfold ofF
              by_cases hq : q = f
              · rw [if_pos hq, hq]; simp
              · rw [if_neg hq]; simp [hq])
            have hxn := Lib.hid (hxj.out.set (p := ⟨gF, f, none⟩) (by simp) (.bool true))
            generalize ofF (fs.take j) f = fv at *
            go_wp2
            go_region
            all_goals go_wp2
            all_goals go_roundw
            all_goals first
              | exact ⟨j + 1, by omega, by go_num, Blk.drewN hnew.out 1, hxn.out.trans (BX.of_below (below_drew _))⟩
              | (simp [intOf]; omega)
        have hltI : (i : Int) < nm := by omega
        have hil : i < ms.length := by rw [← hnmI.out]; exact hlt
        obtain ⟨bM, oM, rfl, hat⟩ := Els.cell (hm.out.then hbw.out) (by omega)
        have z0 := hat i hil 0 (.int .i64 ms[i].1) rfl
        have z1 := hat i hil 1 (.int .i64 ms[i].2.1) rfl
        have z2 := hat i hil 2 (.int .i64 ms[i].2.2) rfl
        change wr.cell? ⟨bM, oM + i * 3, none⟩ = _ at z0
        change wr.cell? ⟨bM, oM + i * 3 + 1, none⟩ = _ at z1
        change wr.cell? ⟨bM, oM + i * 3 + 2, none⟩ = _ at z2
        obtain ⟨hm0, hm1, hm2⟩ := hms.out ms[i] (List.getElem_mem hil)
        have htk := Lib.hid (show ms.take (i + 1) = ms.take i ++ [ms[i]] by rw [List.take_add_one, List.getElem?_eq_getElem hil]; rfl)
        clear hat
        generalize ms[i] = mv at *
        obtain ⟨m0, m1, m2⟩ := mv
        dsimp only at z0 z1 z2 hm0 hm1 hm2
        go_upto_region 23 with (fail)
        obtain ⟨W2, hW2⟩ : ∃ W2, wr.alloc (.cells #[.int .i64 m0, .int .i64 m1, .int .i64 m2] 78) = W2 := ⟨_, rfl⟩
        obtain ⟨bu, hbu⟩ : ∃ bu, wr.heap.size = bu := ⟨_, rfl⟩
        have hb2 : Below wr.heap.size wr W2 := by rw [← hW2]; exact below1 _ _
        have kR := show Blk W2 bu 78 #[.int .i64 m0, .int .i64 m1, .int .i64 m2] by rw [← hW2, ← hbu]; exact Blk.new _ _ _
        have hst3 := Lib.hid (hst2.out.bx (xs := []) (BX.of_below hb2) (by simp) (by simp))
        have hrw3 := Lib.hid (hrw.out.bx (xs := []) (BX.of_below hb2) (by simp))
        have hBo3 := Lib.hid (Blk.below hBo.out hb2 hBo.out.lt)
        have hkS3 := Lib.hid (Blk.below hkS.out hb2 hkS.out.lt)
        have hk43 := Lib.hid (Blk.below hk4.out hb2 hk4.out.lt)
        have hF3 := Lib.hid (Blk.below hFz.out hb2 (Blk.lt hFz.out))
        have hbw3 := Lib.hid (bthen hbw.out hb2)
        have hbk3 := Lib.hid (show (∃ cs, Blk W2 b 89 cs) ∧ ∀ p', p' < p → ∃ cs, Blk W2 (r p') 26 cs from ⟨by obtain ⟨⟨cs, h1⟩, _⟩ := hbk.out; exact ⟨cs, h1.below hb2 h1.lt⟩, fun p' hp' => by
          obtain ⟨cs, h1⟩ := hbk.out.2 p' hp'; exact ⟨cs, h1.below hb2 h1.lt⟩⟩)
        have u0 := kR.cell 0
        have u1 := kR.cell 1
        have u2 := kR.cell 2
        simp at u0 u1 u2
        have bo0 := hBo3.out.cell 0
        simp at bo0
        have r0 := (hst3.out.1 m0 hm0).2.2
        have r1 := hst3.out.2 m0 m1 hm0 hm1
        have hk6 := (hst3.out.1 m0 hm0).1
        simp only [Nat.zero_add] at r0 r1
        have hm0I : (m0 : Int) < p := by omega
        have hm1I : (m1 : Int) < 6 := by omega
        have hm2I : (m2 : Int) < p := by omega
        rw [hW2, hbu]
        clear hW2 hbu hb2 z0 z1 z2 t1 kR hst2 hrw hBo hkS hk4 hFz hbw hbk
        have hce := Il.cell (hrw3.out m0 m1 hm0 hm1) hm2
        have hfz := Blk.free (hrw3.out m0 m1 hm0 hm1) m2
        have hnew := Lib.hid (fun nq => show IRow ((W2.drewN nq).setCell ⟨h m0 m1, m2, none⟩ (.int .i64 0)) p h (ofX (ms.take (i + 1))) from by
          rw [htk.out, ← ofX_snoc]
          exact IRow.set (fun p' c' hp' hc' => Blk.drewN (hrw3.out p' c' hp' hc') nq) hsep.out hm0 hm1 m2 0)
        have hxs := fun nq => show BX [h m0 m1] W2 ((W2.drewN nq).setCell ⟨h m0 m1, m2, none⟩ (.int .i64 0)) from (BX.of_below (below_drewN (Below.refl _ _) nq)).set (by simp) _
        have hL := hlo.out m0 m1 hm0 hm1
        have hstn := Lib.hid (fun nq => hst3.out.bx (hxs nq) (by simpa using (hsep.out.1 m0 m1 hm0 hm1).1) (fun p' hp' => by simpa using (hsep.out.1 m0 m1 hm0 hm1).2 p' hp'))
        have hBon := Lib.hid (fun nq => hBo3.out.bx (hxs nq) (by simp; omega))
        have hkSn := Lib.hid (fun nq => hkS3.out.bx (hxs nq) (by simp; omega))
        have hk4n := Lib.hid (fun nq => hk43.out.bx (hxs nq) (by simp; omega))
        have hFn := Lib.hid (fun nq => Blk.bx hF3.out (hxs nq) (by simpa using hfar.out.2.2.1 m0 m1 hm0 hm1))
        have hbwn := Lib.hid (fun nq => hbw3.out.trans ((hxs nq).below hbw3.out.size (by simp; omega)))
        have hbkn := Lib.hid (fun nq => show (∃ cs, Blk ((W2.drewN nq).setCell ⟨h m0 m1, m2, none⟩ (.int .i64 0)) b 89 cs) ∧ ∀ p', p' < p → ∃ cs, Blk ((W2.drewN nq).setCell ⟨h m0 m1, m2, none⟩ (.int .i64 0)) (r p') 26 cs from ⟨by
          obtain ⟨⟨cs, h1⟩, _⟩ := hbk3.out
          exact ⟨cs, h1.bx (hxs nq) (by simpa using (hsep.out.1 m0 m1 hm0 hm1).1)⟩, fun p' hp' => by
          obtain ⟨cs, h1⟩ := hbk3.out.2 p' hp'
          exact ⟨cs, h1.bx (hxs nq) (by simpa using (hsep.out.1 m0 m1 hm0 hm1).2 p' hp')⟩⟩)
        clear hxs hL
        generalize ofX (ms.take i) m0 m1 m2 = xv at *
        go_wp2
        go_quiet (fail)
        go_wp2
        go_roundw
        case rel => exact ⟨i + 1, by omega, by go_num, hnew.out _, hstn.out _, hBon.out _, hkSn.out _, hk4n.out _, hFn.out _, hbwn.out _, hbkn.out _⟩
        case measure => simp [intOf]; omega
    have hltI : (p : Int) < n := by omega
    go_wp2
    obtain ⟨V, hV⟩ : ∃ V, V = wr := ⟨_, rfl⟩
    subst hV
    go_loopw [8, 9] (fun c8 c9 wq => ∃ (c : Nat) (H' : Nat → Nat), c ≤ 6 ∧ c9 = .int .i64 (c : Int) ∧ Hid (∀ i, i < p * 6 → H' i = H i) ∧ Hid (OwnE (ElP n) 26 V.heap.size wq c8 ((List.range c).map fun c' => H' (p * 6 + c'))) ∧
      Hid (BI wq W.heap.size n (p * 6 + c) H') ∧ Hid (Below V.heap.size V wq)) (fun _ c9 _ => 6 - (intOf c9).toNat)
    case atStart => exact ⟨0, H, by omega, rfl, fun _ _ => rfl, OwnE.nil _ _ _, hB.out, Below.refl _ _⟩
    case round =>
      rename_i c8 c9 hd1
      obtain ⟨c, H', hc, rfl, hH, ho5, hB5, hBq⟩ := hrel
      obtain ⟨A5, n5, cap5, rfl, hn5⟩ := OwnE.shape ho5.out
      by_cases hc6 : c < 6
      case neg =>
        have hge : ¬ (c : Int) ≤ 5 := by omega
        obtain rfl : c = 6 := by omega
        obtain ⟨g5, cap5', cs5, e5, hg5, hk5, hl5, hm5⟩ := OwnE.top1 ho5.out (by simp)
        simp at e5
        obtain ⟨rfl, rfl, rfl⟩ := e5
        obtain ⟨b5, o5, e5, hat⟩ := Els.cell ho5.out.els (by simp)
        obtain ⟨rfl, rfl⟩ : g5 = b5 ∧ 0 = o5 := by simpa using e5
        have hat5 := Lib.hid (show ∀ c, c < 6 → wr.cell? ⟨g5, c, none⟩ = some (.slice (some ⟨H' (p * 6 + c), 0, none⟩) n n) from fun c hc => by
          have := hat c (by simpa using hc) 0 (.slice (some ⟨H' (p * 6 + c), 0, none⟩) n n) (by simp [ElP])
          simpa [ElP] using this)
        have hcap5 : 6 ≤ cap5 := by simpa using hl5
        have hzW := hBr.out.size
        have hzq := hBq.out.size
        have hRq := Lib.hid (hR.out.below hBq.out)
        have hoq := Lib.hid (ho.out.then hBq.out)
        have hB6q := Lib.hid (Blk.below hB6.out hBq.out hB6.out.lt)
        have b60 : wr.cell? ⟨w.heap.size + 1 + 1, 0, none⟩ = some (.slice A3 n3 cap3) := hB6q.out.cell 0
        replace hk5 := Lib.hid hk5
        clear hat e5 hl5 hge
        go_upto_region 17 with (fail)
        clear b60
        go_wp2_with (at_builtin; refine wpList_append_els (E := ElQ6) _ rfl (.tmp 46) (.tmp 48) 46 rfl W.heap.size Tryz.underlying46 info125 rfl rfl (by decide) _ ((List.range p).map fun p' => (r p', k p')) rfl (hoq.out.then (below1 _ _)) _ rfl [(g5, cap5)] ?_ ?_ ?_ ?_)
        · exact els_one (E := ElQ6) (x := (g5, cap5)) (Blk.new wr 89 _) rfl
        · (try simp); omega
        · (try simp); omega
        intro v2 w2 ho2 hb2 hg2 _
        obtain ⟨A6, n6, cap6, rfl, _⟩ := OwnE.shape ho2
        have hba := below1 wr (.cells #[.slice (some ⟨g5, 0, none⟩) 6 cap5] 89)
        have hoa := hoq.out.then hba
        have hBa := hB5.out.below hba
        have hRa := hRq.out.below hba
        have hka := hk5.out.below hba hk5.out.lt
        have hB6a := hB6q.out.below hba hB6q.out.lt
        have hbx := BX.of_grown' hg2
        have hBn := show BI w2 W.heap.size n ((p + 1) * 6) H' by
          rw [show (p + 1) * 6 = p * 6 + 6 by omega]
          exact hBa.bx hbx fun i hi hm => OwnE.ne_blk hoa (hBa.1 i hi).2 (by decide) (by simpa using hm)
        have hg5x : g5 ∉ (Value.slice A3 n3 cap3).ownBlock.toList := fun hm => OwnE.ne_blk hoa hka (by decide) (by simpa using hm)
        have hB6x : w.heap.size + 1 + 1 ∉ (Value.slice A3 n3 cap3).ownBlock.toList := fun hm => OwnE.ne_blk hoa hB6a (by decide) (by simpa using hm)
        have hRn := show RI w2 W.heap.size n (p + 1) (updH1 r p g5) (updH1 k p cap5) H' from fun p' hp' => by
          unfold updH1
          by_cases he : p' = p
          · subst he
            rw [if_pos rfl, if_pos rfl]
            exact ⟨by omega, ⟨_, hka.bx hbx hg5x⟩, hcap5, hm5, fun c hc => hbx.cell (cell_below (hat5.out c hc) hba) hg5x⟩
          · rw [if_neg he, if_neg he]
            have hpp : p' < p := by omega
            obtain ⟨h1, ⟨cs, h2⟩, h3, h4, h5⟩ := hRa p' hpp
            have hx : r p' ∉ (Value.slice A3 n3 cap3).ownBlock.toList := fun hm => OwnE.ne_blk hoa h2 (by decide) (by simpa using hm)
            refine ⟨h1, ⟨cs, h2.bx hbx hx⟩, h3, h4, fun c hc => ?_⟩
            rw [hH.out (p' * 6 + c) (by omega)]
            exact hbx.cell (h5 c hc) hx
        have hon := show OwnE ElQ6 89 W.heap.size w2 (.slice A6 n6 cap6) ((List.range (p + 1)).map fun p' => (updH1 r p g5 p', updH1 k p cap5 p')) by
          rw [range_push (f := fun p' => (r p', k p')) (x := (g5, cap5)) (fun i hi => by unfold updH1; rw [if_neg (by omega), if_neg (by omega)]) (by unfold updH1; rw [if_pos rfl, if_pos rfl])]
          exact ho2
        have hB62 := hB6a.bx hbx hB6x
        have hBrn := (hBr.out.then_below (((hBq.out.mono hzW).trans (hba.mono (by omega))).trans hb2)).set (p := ⟨w.heap.size + 1 + 1, 0, none⟩) (by simp) (.slice A6 n6 cap6)
        have hbs : BX [w.heap.size + 1 + 1] w2 (w2.setCell ⟨w.heap.size + 1 + 1, 0, none⟩ (.slice A6 n6 cap6)) := (BX.refl _ w2).set (by simp) _
        have hBn2 := Lib.hid (hBn.bx hbs fun i hi hm => by have := (hBn.1 i hi).1; simp at hm; omega)
        have hRn2 := Lib.hid (hRn.bx hbs fun p' hp' hm => by have := (hRn p' hp').1; simp at hm; omega)
        have hon2 := Lib.hid (hon.far (p := ⟨w.heap.size + 1 + 1, 0, none⟩) (show w.heap.size + 1 + 1 < W.heap.size by omega) (.slice A6 n6 cap6))
        have hB63 := Lib.hid (show Blk (w2.setCell ⟨w.heap.size + 1 + 1, 0, none⟩ (.slice A6 n6 cap6)) (w.heap.size + 1 + 1) 49 #[.slice A6 n6 cap6, .slice none 0 0] by simpa using hB62.set 0 (.slice A6 n6 cap6))
        have b60 := hB62.cell 0
        have f60 := hB62.free 0
        simp at b60
        replace hBrn := Lib.hid hBrn
        clear hBa hoa hRa hka hbx hg2 ho2 hb2 hba hg5x hB6x hBn hRn hon hbs hB62 hB6a
        (try go_frame)
        go_wp2
        go_roundw
        case rel => exact ⟨p + 1, _, _, H', _, by omega, by go_num, hB63.out, hon2.out, hRn2.out, hBn2.out, hBrn.out⟩
        case measure => simp [intOf]; omega
      have hcI : (c : Int) ≤ 5 := by omega
      have hzq := hBq.out.size
      go_upto_region 11 with (at_make; refine wpList_make_row rfl _ _ 26 rfl Tryz.underlying26 info3 n rfl rfl hn (by omega) ?_; intro w1 hN hb1; have hN := Lib.hid hN; have hb1 := Lib.hid hb1)
      obtain ⟨Y, hY⟩ : ∃ Y, Y = wr := ⟨_, rfl⟩
      subst hY
      go_wp2
      go_loopw [11] (fun c11 wz => ∃ i : Nat, i ≤ n ∧ c11 = .int .i64 (i : Int) ∧ Hid (Il wz Y.heap.size n (fun j => if j < i then 1073741824 else 0)) ∧ Hid (Below Y.heap.size Y wz)) (fun c11 _ => n - (intOf c11).toNat)
      case atStart => exact ⟨0, Nat.zero_le _, rfl, hN.out.congr fun i _ => by simp, hb1.out⟩
      case round =>
        obtain ⟨i, hi, rfl, hBz, hxz⟩ := hrel
        by_cases hlt2 : i < n
        case pos =>
          have hltI2 : (i : Int) < n := by omega
          have hfr := Blk.free hBz.out i
          have hce := Il.cell hBz.out hlt2
          simp only [Nat.lt_irrefl, if_false] at hce
          have hnew := Lib.hid (show Il (wr.setCell ⟨Y.heap.size, i, none⟩ (.int .i64 1073741824)) Y.heap.size n (fun j => if j < i + 1 then 1073741824 else 0) from (Il.set hBz.out (i := i) 1073741824).congr fun j _ => by
            by_cases h1 : j = i
            · subst h1; simp
            · rw [if_neg h1]
              have : (j < i + 1) = (j < i) := by apply propext; omega
              simp only [this])
          have hxn := Lib.hid (hxz.out.setCell (p := ⟨Y.heap.size, i, none⟩) (Nat.le_refl _) (.int .i64 1073741824))
          go_wp2
          go_roundw
          case rel => exact ⟨i + 1, by omega, by go_num, hnew.out, hxn.out⟩
          case measure => simp [intOf]; omega
        have hge2 : ¬ (i : Int) < n := by omega
        have hN2 := Lib.hid (show Il wr Y.heap.size n (fun _ => 1073741824) from hBz.out.congr fun j hj => by rw [if_pos (by omega)])
        clear hlt2 hi hBz
        go_wp2_with (at_builtin; refine wpList_append_els (E := ElP n) _ rfl (.tmp 40) (.tmp 42) 89 rfl V.heap.size Tryz.underlying89 info48 rfl rfl (by decide) _ ((List.range c).map fun c' => H' (p * 6 + c')) rfl ((ho5.out.then hxz.out).then (below1 _ _)) _ rfl [Y.heap.size] ?_ ?_ ?_ ?_)
        · exact els_one (E := ElP n) (x := Y.heap.size) (Blk.new wr 26 _) rfl
        · (try simp); omega
        · have := hxz.out.size
          have := hzq
          (try simp)
          omega
        intro v2 w2 ho2 hb2 hg2 _
        obtain ⟨A6, n6, cap6, rfl, _⟩ := OwnE.shape ho2
        have hzW := hBr.out.size
        have hBa := ((hB5.out.below hxz.out).push hN2.out (by omega) (fun i hi => (hB5.out.1 i hi).2.lt)).below (below1 wr (.cells #[.slice (some ⟨Y.heap.size, 0, none⟩) n n] 26))
        have hoa := (ho5.out.then hxz.out).then (below1 wr (.cells #[.slice (some ⟨Y.heap.size, 0, none⟩) n n] 26))
        have hBn := Lib.hid (hBa.bx (BX.of_grown' hg2) fun i hi hm => OwnE.ne_blk hoa (hBa.1 i hi).2 (by decide) (by simpa using hm))
        have hHn := Lib.hid (show ∀ i, i < p * 6 → updH1 H' (p * 6 + c) Y.heap.size i = H i from fun i hi => by unfold updH1; rw [if_neg (by omega)]; exact hH.out i hi)
        have hol := Lib.hid (show OwnE (ElP n) 26 V.heap.size w2 (.slice A6 n6 cap6) ((List.range (c + 1)).map fun c' => updH1 H' (p * 6 + c) Y.heap.size (p * 6 + c')) by
          rw [range_push (f := fun c' => H' (p * 6 + c')) (x := Y.heap.size) (fun i hi => by unfold updH1; rw [if_neg (by omega)]) (by unfold updH1; rw [if_pos rfl])]
          exact ho2)
        have hBqn := Lib.hid (hBq.out.trans (((bthen hxz.out (below1 _ _)).mono hzq).trans hb2))
        clear hBa hoa hg2 ho2 hb2
        (try go_frame)
        go_wp2
        go_roundw
        case rel => exact ⟨c + 1, _, by omega, by go_num, hHn.out, hol.out, hBn.out, hBqn.out⟩
        case measure => simp [intOf]; omega
end
end Go.Proofs.YtaapnflhjbdmlaaGreatDoor
