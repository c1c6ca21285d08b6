/- The specification's Before: a pass over the rules in plain words, and its table in memory. No condition. The specification's Before: the walk. No condition. The specification's Steps: the least number of steps, or none. No condition. -/
import Derived.Test.YtaapnflhjbdmlaaGreatDoorSB
namespace Go.Proofs.YtaapnflhjbdmlaaGreatDoor
section
open Go.RowKit Go.Shelf

def natSum (m : Nat) (f : Nat → Nat) : Nat := ((List.range m).map f).sum
theorem natSum_succ (m : Nat) (f : Nat → Nat) : natSum (m + 1) f = natSum m f + f m := by
  unfold natSum; rw [List.range_succ, List.map_append, List.sum_append]; simp
theorem natSum_congr {m : Nat} {f g : Nat → Nat} (h : ∀ k, k < m → f k = g k) : natSum m f = natSum m g := by
  induction m with
  | zero => rfl
  | succ m ih => rw [natSum_succ, natSum_succ, ih (fun k hk => h k (by omega)), h m (by omega)]
theorem natSum_lt {m : Nat} {f g : Nat → Nat} {K : Nat} (hK : K < m) (hl : g K < f K) (he : ∀ k, k ≠ K → g k = f k) : natSum m g < natSum m f := by
  induction m with
  | zero => omega
  | succ m ih =>
    rw [natSum_succ, natSum_succ]
    by_cases h : K = m
    · subst h
      rw [natSum_congr (g := f) (fun k hk => he k (by omega))]
      omega
    · have := ih (by omega)
      rw [he m (by omega)]
      omega
def sum3 (n : Nat) (X : Nat → Nat → Nat → Int) : Nat := natSum (n * 6) fun z => sumN n (X (z / 6) (z % 6))
theorem sum3_lt {n : Nat} {X : Nat → Nat → Nat → Int} {p c q : Nat} {u : Int} (hp : p < n) (hc : c < 6) (hq : q < n) (hu : 0 ≤ u) (hl : u < X p c q) : sum3 n (updX X p c fun j => if j = q then u else X p c j) < sum3 n X := by
  unfold sum3
  have e1 : (p * 6 + c) / 6 = p := by omega
  have e2 : (p * 6 + c) % 6 = c := by omega
  refine natSum_lt (K := p * 6 + c) (by omega) ?_ fun k hk => ?_
  · rw [e1, e2]
    have : updX X p c (fun j => if j = q then u else X p c j) p c = fun j => if j = q then u else X p c j := by funext j; simp [updX]
    rw [this]
    exact sumN_lt hq hu hl
  · have : updX X p c (fun j => if j = q then u else X p c j) (k / 6) (k % 6) = X (k / 6) (k % 6) := by
      funext j
      unfold updX
      rw [if_neg (fun h => hk (by obtain ⟨h1, h2⟩ := h; omega))]
    rw [this]

section
variable {R : List Rule} {B : Int → Int → Int → Prop} {n : Nat}
/-- what holds in a pass, behind i rules -/
structure RPass (R : List Rule) (B : Int → Int → Int → Prop) (n : Nat) (X0 X : Nat → Nat → Nat → Int) (a : Bool) (i : Nat) : Prop where
  inv : RInv R B n X
  eps : ∀ p q, p < n → q < n → X p 5 q = 1073741824
  quiet : a = false → X = X0 ∧ ∀ (j : Nat) r, j < i → R[j]? = some r → RClosedAt n X r
  less : a = true → sum3 n X < sum3 n X0
/-- within a rule, behind K states -/
structure RMid (R : List Rule) (B : Int → Int → Int → Prop) (n : Nat) (X0 X : Nat → Nat → Nat → Int) (a : Bool) (i p c : Nat) (now : Nat → Int) (r : Rule) (K : Nat) : Prop where
  inv : RInv R B n X
  eps : ∀ p q, p < n → q < n → X p 5 q = 1073741824
  quiet : a = false → X = X0 ∧ (∀ (j : Nat) r, j < i → R[j]? = some r → RClosedAt n X r) ∧ now = costs n X r.put (only1 r.to.toNat) ∧ ∀ k, k < K → now k < 1073741824 → X p c k ≤ min (now k + 1) 1001
  less : a = true → sum3 n X < sum3 n X0
  paths : ∀ k, k < n → now k < 1073741824 → 0 ≤ now k ∧ ∃ l, D R B p (97 + c) k l ∧ ((l.length : Int) ≤ min (now k + 1) 1001 ∨ 1001 ≤ min (now k + 1) 1001)
theorem RPass.begin {X : Nat → Nat → Nat → Int} (h : RInv R B n X) (he : ∀ p q, p < n → q < n → X p 5 q = 1073741824) : RPass R B n X X false 0 := ⟨h, he, fun _ => ⟨rfl, fun j r hj => by omega⟩, fun h => by cases h⟩
theorem RPass.mid {X0 X : Nat → Nat → Nat → Int} {a : Bool} {i p c : Nat} {r : Rule} (h : RPass R B n X0 X a i) (hr : R[i]? = some r) (hl : r.put.length ≤ 2) (hp : r.fr = p) (hc : r.top = 97 + c) (ht : 0 ≤ r.to ∧ r.to < n) (hw : Word r.put) :
    RMid R B n X0 X a i p c (costs n X r.put (only1 r.to.toNat)) r 0 := by
  refine ⟨h.inv, h.eps, fun e => ⟨(h.quiet e).1, (h.quiet e).2, rfl, fun k hk => by omega⟩, h.less, fun k hk hf => ?_⟩
  have h0 : ∀ i, i < n → 0 ≤ only1 r.to.toNat i := fun i _ => by unfold only1 farR; split <;> omega
  obtain ⟨i', l, h1, h2, h3, h4, h5⟩ := costs_sound h.inv r.put (only1 r.to.toNat) k hw h0 hk (by unfold farR; exact hf)
  have hi' : i' = r.to.toNat := by
    rcases Nat.decEq i' r.to.toNat with hne | he
    · unfold only1 at h2
      rw [if_neg hne] at h2
      exact absurd h2 (by omega)
    · exact he
  subst hi'
  rw [show ((r.to.toNat : Nat) : Int) = r.to by omega] at h3
  have hd := D.of_path hr hl h3
  rw [hp, hc] at hd
  rw [only1_self] at h5
  refine ⟨h4, _, hd, ?_⟩
  simp only [List.length_cons]
  omega
theorem RMid.old {X0 X : Nat → Nat → Nat → Int} {a : Bool} {i p c K : Nat} {now : Nat → Int} {r : Rule} (h : RMid R B n X0 X a i p c now r K) (hx : now K < 1073741824 → ¬ min (now K + 1) 1001 < X p c K) : RMid R B n X0 X a i p c now r (K + 1) :=
  ⟨h.inv, h.eps, fun e => ⟨(h.quiet e).1, (h.quiet e).2.1, (h.quiet e).2.2.1, fun k hk hf => by
    by_cases he : k = K
    · subst he; have := hx hf; omega
    · exact (h.quiet e).2.2.2 k (by omega) hf⟩, h.less, h.paths⟩
theorem RMid.new {X0 X : Nat → Nat → Nat → Int} {a : Bool} {i p c K : Nat} {now : Nat → Int} {r : Rule} (h : RMid R B n X0 X a i p c now r K) (hp : p < n) (hc : c < 5) (hK : K < n) (hf : now K < 1073741824) (hx : min (now K + 1) 1001 < X p c K) :
    RMid R B n X0 (updX X p c fun j => if j = K then min (now K + 1) 1001 else X p c j) true i p c now r (K + 1) := by
  obtain ⟨h0, l, hd, hl⟩ := h.paths K hK hf
  refine ⟨⟨fun p' c' q' h1 h2 h3 => ?_, fun p' c' q' h1 h2 h3 h4 => ?_, fun p' c' q' h1 h2 h3 h4 => ?_⟩, fun p' q' h1 h2 => ?_, (fun e => by cases e), fun _ => ?_, h.paths⟩
  · unfold updX
    split
    · dsimp only
      split
      · exact ⟨by omega, .inl (by omega)⟩
      · rename_i he _; obtain ⟨rfl, rfl⟩ := he; exact h.inv.range _ _ _ h1 h2 h3
    · exact h.inv.range _ _ _ h1 h2 h3
  · unfold updX at h4 ⊢
    split
    · rename_i he
      obtain ⟨rfl, rfl⟩ := he
      rw [if_pos ⟨rfl, rfl⟩] at h4
      dsimp only at h4 ⊢
      split
      · rename_i he2; subst he2; exact ⟨l, hd, hl⟩
      · rename_i he2; rw [if_neg he2] at h4; exact h.inv.sound _ _ _ h1 h2 h3 h4
    · rename_i he; rw [if_neg he] at h4; exact h.inv.sound _ _ _ h1 h2 h3 h4
  · have hb := h.inv.base _ _ _ h1 h2 h3 h4
    unfold updX
    split
    · rename_i he
      obtain ⟨rfl, rfl⟩ := he
      dsimp only
      split
      · rename_i he2; subst he2; omega
      · exact hb
    · exact hb
  · unfold updX
    rw [if_neg (by omega)]
    exact h.eps _ _ h1 h2
  · have h1 := sum3_lt (X := X) hp (show c < 6 by omega) hK (u := min (now K + 1) 1001) (by omega) hx
    cases ha : a with
    | false => rw [(h.quiet ha).1] at h1 ⊢; exact h1
    | true => have := h.less ha; omega
theorem RMid.done {X0 X : Nat → Nat → Nat → Int} {a : Bool} {i p c : Nat} {now : Nat → Int} {r : Rule} (h : RMid R B n X0 X a i p c now r n) (hr : R[i]? = some r) (hp : r.fr = p) (hc : r.top = 97 + c) : RPass R B n X0 X a (i + 1) :=
  ⟨h.inv, h.eps, fun e => ⟨(h.quiet e).1, fun j r' hj hr' => by
    by_cases he : j = i
    · subst he
      rw [hr] at hr'
      cases hr'
      intro k hk hf
      have h1 := (h.quiet e).2.2.2 k hk (by rw [(h.quiet e).2.2.1]; exact hf)
      rw [hp, hc, show ((p : Int).toNat) = p by omega, show ((97 + (c : Int)) - 97).toNat = c by omega]
      rw [(h.quiet e).2.2.1] at h1
      exact h1
    · exact (h.quiet e).2.1 j r' (by omega) hr'⟩, h.less⟩
end

/-- nothing is left to be done -/
def RCl (R : List Rule) (n : Nat) (X : Nat → Nat → Nat → Int) : Prop := ∀ (i : Nat) r, R[i]? = some r → RClosedAt n X r
/-- the moves of an acceptor -/
def Bof (ms : List Mv) : Int → Int → Int → Prop := fun p a q => ∃ m ∈ ms, p = (m.1 : Int) ∧ a = 97 + (m.2.1 : Int) ∧ q = (m.2.2 : Int)
theorem rinv_of {R : List Rule} {n : Nat} {ms : List Mv} : RInv R (Bof ms) n (ofX ms) := by
  refine ⟨fun p c q _ _ _ => ?_, fun p c q _ _ _ h => ?_, fun p c q _ _ _ h => ?_⟩
  · unfold ofX farR; split <;> omega
  · unfold ofX at h ⊢
    split at h
    · rename_i hm
      exact ⟨[], .base ⟨_, hm, rfl, rfl, rfl⟩, .inl (by simp [hm])⟩
    · unfold farR at h; omega
  · obtain ⟨⟨a, b, d⟩, hm, h1, h2, h3⟩ := h
    simp only at h1 h2 h3
    obtain rfl : p = a := by omega
    obtain rfl : c = b := by omega
    obtain rfl : q = d := by omega
    unfold ofX
    rw [if_pos hm]

/-- what Before's loops have in memory -/
def BM (w wq : World) (n b cap : Nat) (r k : Nat → Nat) (h : Nat → Nat → Nat) (X : Nat → Nat → Nat → Int) (Bs Bx B4 gF : Nat) (F : Nat → Bool) (cs : Array Value) : Prop :=
  IStat wq n b 0 r (fun _ => 0) k h ∧ IRow wq n h X ∧ Blk wq Bx 49 #[.slice (some ⟨b, 0, none⟩) n cap, .slice (some ⟨gF, 0, none⟩) n n] ∧ Blk wq Bs 24 cs ∧ Blk wq B4 49 #[.slice none 0 0, .slice none 0 0] ∧ Bl wq gF n F ∧ Below w.heap.size w wq
section
variable {w wq wq' : World} {n b cap Bs Bx B4 gF : Nat} {r k : Nat → Nat} {h : Nat → Nat → Nat} {X : Nat → Nat → Nat → Int} {F : Nat → Bool} {cs : Array Value}
theorem BM.below (hm : BM w wq n b cap r k h X Bs Bx B4 gF F cs) (hb : Below wq.heap.size wq wq') : BM w wq' n b cap r k h X Bs Bx B4 gF F cs := by
  obtain ⟨h1, h2, h3, h4, h5, h6, h7⟩ := hm
  exact ⟨h1.bx (xs := []) (BX.of_below hb) (by simp) (by simp), h2.bx (xs := []) (BX.of_below hb) (by simp), h3.below hb h3.lt, h4.below hb h4.lt, h5.below hb h5.lt, Blk.below h6 hb (Blk.lt h6), bthen h7 hb⟩
theorem BM.set (hm : BM w wq n b cap r k h X Bs Bx B4 gF F cs) (hs : ISep n b r h) (hlo : ∀ p c, p < n → c < 6 → w.heap.size ≤ h p c) {p c : Nat} (hp : p < n) (hc : c < 6) (q : Nat) (u : Int) :
    BM w (wq.setCell ⟨h p c, q, none⟩ (.int .i64 u)) n b cap r k h (updX X p c fun j => if j = q then u else X p c j) Bs Bx B4 gF F cs := by
  obtain ⟨h1, h2, h3, h4, h5, h6, h7⟩ := hm
  have hk := h2 p c hp hc
  exact ⟨h1.set hs hp hc q _, h2.set hs hp hc q u, h3.far (h3.ne_of hk (by decide)) _, h4.far (h4.ne_of hk (by decide)) _, h5.far (h5.ne_of hk (by decide)) _, Blk.far h6 (Blk.ne_of h6 hk (by decide)) _, h7.setCell (hlo p c hp hc) _⟩
theorem BM.cua (hm : BM w wq n b cap r k h X Bs Bx B4 gF F cs) (hc : n ≤ cap) (hx : cap ≤ maxLen) : Cua wq (.slice (some ⟨b, 0, none⟩) n cap) n X := cua_of hc hx hm.1 hm.2.1
end
end
section
open Go.RowKit Go.Shelf
attribute [local go_sem] Oper.semAt_some

theorem setCell_size (w : World) (p : Addr) (u : Value) : (w.setCell p u).heap.size = w.heap.size := by simp

set_option maxRecDepth 8000 in
set_option maxHeartbeats 8000000 in
theorem Before_any (w : World) (C n : Nat) (v vm vf : Value) (l : List RuleB) (ms : List Mv) (fs : List Nat) (h : Rls w v l) (hsys : sysB C l = true) (hCn : C ≤ n) (hn4 : n ≤ 400) (hm : Els ElM w vm ms) (hms : ∀ m ∈ ms, m.1 < n ∧ m.2.1 < 5 ∧ m.2.2 < n) (hf : Els ElN w vf fs) (hfs : ∀ f ∈ fs, f < n) :
    Calls Tryz.prog 19 #[sv C v, .agg #[.int .i64 n, vm, vf]] w fun e w' =>
      ∃ vC gF X, e = .returned (.agg #[vC, .slice (some ⟨gF, 0, none⟩) n n]) ∧ Cua w' vC n X ∧ Bl w' gF n (ofF fs) ∧ RInv (l.map RuleB.plain) (Bof ms) n X ∧ RCl (l.map RuleB.plain) n X ∧ (∀ p q, p < n → q < n → X p 5 q = 1073741824) ∧ Below w.heap.size w w' := by
  obtain ⟨A, nl, capl, rfl, hnl⟩ := Els.shape h
  obtain ⟨Am, nm, capm, rfl, hnm⟩ := Els.shape hm
  obtain ⟨Af, nf, capf, rfl, hnf⟩ := Els.shape hf
  obtain ⟨hC1, hC5, hl30, _⟩ := sysB_iff.1 hsys
  have hn : 1 ≤ n := by omega
  have hnI : (1 : Int) ≤ n := by omega
  have hnJ : (n : Int) ≤ 400 := by omega
  obtain ⟨W, hW⟩ : ∃ W, ((w.alloc (.cells #[.int .i64 C, .slice A nl capl] 24)).alloc (.cells #[.int .i64 n, .slice Am nm capm, .slice Af nf capf] 28)).alloc (.cells #[.slice none 0 0, .slice none 0 0] 49) = W := ⟨_, rfl⟩
  have hBW : Below w.heap.size w W := by rw [← hW]; exact bthen (below1 _ _) (bthen (below1 _ _) (below1 _ _))
  have kS := show Blk W w.heap.size 24 #[.int .i64 C, .slice A nl capl] by rw [← hW]; exact ((Blk.new w 24 _).alloc _).alloc _
  have kA := show Blk W (w.heap.size + 1) 28 #[.int .i64 n, .slice Am nm capm, .slice Af nf capf] by rw [← hW]; have := Blk.new (w.alloc (.cells #[.int .i64 C, .slice A nl capl] 24)) 28 #[.int .i64 n, .slice Am nm capm, .slice Af nf capf]; rw [alloc_size] at this; exact this.alloc _
  have k4 := show Blk W (w.heap.size + 1 + 1) 49 #[.slice none 0 0, .slice none 0 0] by rw [← hW]; have := Blk.new ((w.alloc (.cells #[.int .i64 C, .slice A nl capl] 24)).alloc (.cells #[.int .i64 n, .slice Am nm capm, .slice Af nf capf] 28)) 49 #[.slice none 0 0, .slice none 0 0]; rw [alloc_size, alloc_size] at this; exact this
  have s0 : W.cell? ⟨w.heap.size + 1, 0, none⟩ = some (.int .i64 n) := kA.cell 0
  have s1 : W.cell? ⟨w.heap.size + 1, 1, none⟩ = some (.slice Am nm capm) := kA.cell 1
  have s2 : W.cell? ⟨w.heap.size + 1, 2, none⟩ = some (.slice Af nf capf) := kA.cell 2
  have hof := Lib.hid (Of_any W n 0 n _ _ ms fs (by omega) hn hn4 (hm.then hBW) (fun m hm => by have := hms m hm; exact ⟨this.1, by omega, this.2.2⟩) (hf.then hBW) hfs)
  have hsz := Lib.hid k4.lt
  replace kS := Lib.hid kS
  replace kA := Lib.hid kA
  replace k4 := Lib.hid k4
  replace hBW := Lib.hid hBW
  replace hsys := Lib.hid hsys
  have hms5 := Lib.hid hms
  replace h := Lib.hid h
  clear hm hf hms hfs
  go_enter Tryz.func19, Tryz.ntmps19
  go_upto_region 2 with (go_at_call 18; refine hof.out.mono ?_; clear hof; rintro e w1 ⟨vC, gF, rfl, ⟨b, cap, r, k, hh, hI⟩, hF, hgF, hb1⟩; obtain ⟨rfl, hI1, hI2, hI3, hI4, hI5, hI6, hI7, hI8⟩ := hI; replace s0 := cell_below s0 hb1; clear s1 s2; have hI3 := Lib.hid hI3; have hI4 := Lib.hid hI4; have hI5 := Lib.hid hI5; have hI7 := Lib.hid hI7; have hI8 := Lib.hid hI8; have hF := Lib.hid hF; have hb1 := Lib.hid hb1)
  obtain ⟨V, hV⟩ : ∃ V, w1.alloc (.cells #[.slice (some ⟨b, 0, none⟩) n cap, .slice (some ⟨gF, 0, none⟩) n n] 49) = V := ⟨_, rfl⟩
  obtain ⟨Bx, hBx⟩ : ∃ Bx, w1.heap.size = Bx := ⟨_, rfl⟩
  have hb1V : Below w1.heap.size w1 V := by rw [← hV]; exact below1 _ _
  have hbWV := bthen hb1.out hb1V
  have hM := Lib.hid (show BM w V n b cap r k hh (ofX ms) w.heap.size Bx (w.heap.size + 1 + 1) gF (ofF fs) #[.int .i64 C, .slice A nl capl] from
    ⟨hI3.out.bx (xs := []) (BX.of_below hb1V) (by simp) (by simp), hI4.out.bx (xs := []) (BX.of_below hb1V) (by simp), by rw [← hV, ← hBx]; exact Blk.new _ _ _, kS.out.below hbWV kS.out.lt, k4.out.below hbWV k4.out.lt, Blk.below hF.out hb1V (Blk.lt hF.out), bthen hBW.out hbWV⟩)
  have hltV := Lib.hid (show ∀ p c, p < n → c < 6 → hh p c < V.heap.size from fun p c hp hc => (hM.out.2.1 p c hp hc).lt)
  have hlo := Lib.hid (show ∀ p c, p < n → c < 6 → w.heap.size ≤ hh p c from fun p c hp hc => by have := hI7.out p c hp hc; have := hBW.out.size; omega)
  have hVs := Lib.hid (show w.heap.size + 4 ≤ V.heap.size from by have := hsz.out; have := hb1.out.size; have e : V.heap.size = w1.heap.size + 1 := (by rw [← hV]; simp); omega)
  replace s0 := cell_below s0 hb1V
  have hM0 : RInv (l.map RuleB.plain) (Bof ms) n (ofX ms) := rinv_of
  have he0 : ∀ p q, p < n → q < n → ofX ms p 5 q = 1073741824 := fun p q _ _ => by
    unfold ofX
    rw [if_neg (fun hm => by have := (hms5.out _ hm).2.1; simp at this)]
  replace hM0 := Lib.hid hM0
  replace he0 := Lib.hid he0
  have hrb := Lib.hid (show b ≠ w.heap.size + 1 + 1 ∧ ∀ p', p' < n → r p' ≠ w.heap.size + 1 + 1 from by
    have hk := k4.out.below hb1.out k4.out.lt
    refine ⟨?_, fun p' hp' => ?_⟩
    · obtain ⟨⟨cs, h1⟩, _⟩ := hI8.out
      exact h1.ne_of hk (by decide)
    · obtain ⟨cs, h1⟩ := hI8.out.2 p' hp'
      exact h1.ne_of hk (by decide))
  rw [hV, hBx]
  clear hV hBx hb1V hbWV hI3 hI4 hI7 hI8 hF hb1 hBW kA k4
  have hlI := Lib.hid hnl.out
  go_wp2
  clear s0
  go_loopg [7] (2 * sum3 n (ofX ms) + 1) (fun gk c7 wr => ∃ (X : Nat → Nat → Nat → Int) (a : Bool), c7 = .bool a ∧ gk = 2 * sum3 n X + (if a then 1 else 0) ∧ Hid (BM w wr n b cap r k hh X w.heap.size Bx (w.heap.size + 1 + 1) gF (ofF fs) #[.int .i64 C, .slice A nl capl]) ∧
    Hid (RInv (l.map RuleB.plain) (Bof ms) n X) ∧ Hid (∀ p q, p < n → q < n → X p 5 q = 1073741824) ∧ Hid (V.heap.size ≤ wr.heap.size) ∧ Hid (a = false → RCl (l.map RuleB.plain) n X))
  case atStart => exact ⟨_, true, rfl, rfl, hM.out, hM0.out, he0.out, Nat.le_refl _, fun h => by cases h⟩
  case round =>
    obtain ⟨X0, a0, rfl, hgk, hMr, hRr, hEr, hVr, hcl⟩ := hrel
    clear hM hM0 he0
    cases a0 with
    | false =>
      have hC := Lib.hid (hcl.out rfl)
      replace hgk := Lib.hid hgk
      have hcua := Lib.hid (hMr.out.cua hI1 hI2)
      obtain ⟨_, _, kx, _, k4, hFz, hbz⟩ := hMr.out
      have r0 : wr.cell? ⟨Bx, 0, none⟩ = some (.slice (some ⟨b, 0, none⟩) n cap) := kx.cell 0
      have r1 : wr.cell? ⟨Bx, 1, none⟩ = some (.slice (some ⟨gF, 0, none⟩) n n) := kx.cell 1
      have q0 : wr.cell? ⟨w.heap.size + 1 + 1, 0, none⟩ = some (.slice none 0 0) := k4.cell 0
      have q1 : wr.cell? ⟨w.heap.size + 1 + 1, 1, none⟩ = some (.slice none 0 0) := k4.cell 1
      have f0 := k4.free 0
      have f1 := k4.free 1
      have B2 := (k4.set 0 (.slice (some ⟨b, 0, none⟩) n cap)).set 1 (.slice (some ⟨gF, 0, none⟩) n n)
      have e0 := B2.cell 0
      have e1 := B2.cell 1
      simp at e0 e1
      have hxe : BX [w.heap.size + 1 + 1] wr ((wr.setCell ⟨w.heap.size + 1 + 1, 0, none⟩ (.slice (some ⟨b, 0, none⟩) n cap)).setCell ⟨w.heap.size + 1 + 1, 1, none⟩ (.slice (some ⟨gF, 0, none⟩) n n)) := ((BX.refl _ wr).set (by simp) _).set (by simp) _
      have hfin := Lib.hid (show ∀ WE, BX [w.heap.size + 1 + 1] wr WE → Cua WE (.slice (some ⟨b, 0, none⟩) n cap) n X0 ∧ Bl WE gF n (ofF fs) ∧ RInv (l.map RuleB.plain) (Bof ms) n X0 ∧ RCl (l.map RuleB.plain) n X0 ∧ (∀ p q, p < n → q < n → X0 p 5 q = 1073741824) ∧ Below w.heap.size w WE from fun WE hE =>
        ⟨cua_of hI1 hI2 (hMr.out.1.bx hE (by simpa using hrb.out.1) (fun p' hp' => by simpa using hrb.out.2 p' hp')) (hMr.out.2.1.bx hE (fun p' c hp' hc hm => by
          have := (hMr.out.2.1 p' c hp' hc).ne_of k4 (by decide)
          exact this (by simpa using hm))), Blk.bx hFz hE (by have := Blk.ne_of hFz k4 (by decide); simpa using this), hRr.out, hC.out, hEr.out, hbz.trans (hE.below hbz.size (by simp; omega))⟩)
      replace hfin := Lib.hid (hfin.out _ hxe)
      clear kx k4 hFz hbz B2 hxe
      go_wp2
      exact bodyPost_ret (v := .agg #[.slice (some ⟨b, 0, none⟩) n cap, .slice (some ⟨gF, 0, none⟩) n n]) (by simp [results, Tryz.results19, go_sem, e0, e1]) rfl ⟨_, gF, rfl, X0, hfin.out⟩
    | true =>
      replace hgk := Lib.hid hgk
      clear hcl
      go_wp2
      go_loopw [7, 8] (fun c7 c8 wq => ∃ (X : Nat → Nat → Nat → Int) (a : Bool) (i : Nat), i ≤ nl ∧ c7 = .bool a ∧ c8 = .int .i64 (i : Int) ∧ Hid (RPass (l.map RuleB.plain) (Bof ms) n X0 X a i) ∧ Hid (BM w wq n b cap r k hh X w.heap.size Bx (w.heap.size + 1 + 1) gF (ofF fs) #[.int .i64 C, .slice A nl capl]) ∧ Hid (V.heap.size ≤ wq.heap.size)) (fun _ c8 _ => nl - (intOf c8).toNat)
      case atStart => exact ⟨X0, false, 0, Nat.zero_le _, rfl, rfl, RPass.begin hRr.out hEr.out, hMr.out, hVr.out⟩
      case round =>
        obtain ⟨X, a, i, hi, rfl, rfl, hP, hMq, hVq⟩ := hrel
        clear hMr hRr hEr hVr
        have s1 : wr.cell? ⟨w.heap.size, 1, none⟩ = some (.slice A nl capl) := hMq.out.2.2.2.1.cell 1
        by_cases hlt : i < nl
        case neg =>
          have hge : ¬ (i : Int) < nl := by omega
          have hin : i = (l.map RuleB.plain).length := by rw [List.length_map, ← hlI.out]; omega
          have hless := Lib.hid (show 2 * sum3 n X + (if a then 1 else 0) < gk from by
            have h1 := hgk.out
            simp only [if_true] at h1
            cases ha : a with
            | false => rw [(hP.out.quiet ha).1]; simp; omega
            | true => have := hP.out.less ha; simp; omega)
          have hfin := Lib.hid (show a = false → RCl (l.map RuleB.plain) n X from fun ha j r hr => by
            exact (hP.out.quiet ha).2 j r (by rw [hin]; exact (List.getElem?_eq_some_iff.1 hr).1) hr)
          clear hin
          go_wp2
          go_roundg (2 * sum3 n X + (if a then 1 else 0))
          case measure => exact hless.out
          case rel => exact ⟨X, a, rfl, rfl, hMq.out, hP.out.inv, hP.out.eps, hVq.out, hfin.out⟩
        have hltI : (i : Int) < nl := by omega
        have hil : i < l.length := by rw [← hlI.out]; exact hlt
        obtain ⟨bR, oR, rfl, hatR⟩ := Els.cell (h.out.then hMq.out.2.2.2.2.2.2) (by omega)
        have hcell := rAt_eq hil
        have z0 := hatR i hil 0 (.int .i64 (rAt l i).fr) (by rw [hcell]; rfl)
        have z1 := hatR i hil 1 (.int .u8 (rAt l i).top) (by rw [hcell]; rfl)
        have z2 := hatR i hil 2 (.int .i64 (rAt l i).to) (by rw [hcell]; rfl)
        have z3 := hatR i hil 3 (.string (rAt l i).put) (by rw [hcell]; rfl)
        change wr.cell? ⟨bR, oR + i * 4, none⟩ = _ at z0
        change wr.cell? ⟨bR, oR + i * 4 + 1, none⟩ = _ at z1
        change wr.cell? ⟨bR, oR + i * 4 + 2, none⟩ = _ at z2
        change wr.cell? ⟨bR, oR + i * 4 + 3, none⟩ = _ at z3
        have hplain := Lib.hid ((plain_get (l := l) (n := i)).2 ⟨hil, rfl⟩)
        clear hatR hcell
        generalize rAt l i = R1 at *
        obtain ⟨f, tp, tz, pt⟩ := R1
        dsimp only at z0 z1 z2 z3
        go_upto_region 10 with (fail)
        obtain ⟨hf0, hf1, ht0, ht1, htp0, htp1, hword⟩ := (rulesIn_of hsys.out).2 i _ hplain.out
        have hps : pt.size ≤ 2 := by have := (rulesOk_of hsys.out i _ hplain.out).2.2.2.2; simpa [RuleB.plain, cs_length] using this
        simp only [RuleB.plain] at hf0 hf1 ht0 ht1 htp0 htp1 hword
        obtain ⟨fN, rfl⟩ : ∃ m : Nat, f = m := ⟨f.toNat, by omega⟩
        obtain ⟨tN, rfl⟩ : ∃ m : Nat, tz = m := ⟨tz.toNat, by omega⟩
        obtain ⟨cN, rfl⟩ : ∃ m : Nat, tp = 97 + m := ⟨(tp - 97).toNat, by omega⟩
        have hfC : fN < n := by have : fN < C := (by simpa using hf1); omega
        have htC : tN < n := by have : tN < C := (by simpa using ht1); omega
        have hcN : cN < 5 := by omega
        clear hf0 hf1 ht0 ht1 htp0 htp1
        have htI : (tN : Int) < n := by omega
        have hfI : (fN : Int) < n := by omega
        have hcI : (cN : Int) < 6 := by omega
        replace hword := Lib.hid hword
        obtain ⟨W2, hW2⟩ : ∃ W2, wr.alloc (.cells #[.int .i64 fN, .int .u8 (97 + cN), .int .i64 tN, .string pt] 76) = W2 := ⟨_, rfl⟩
        obtain ⟨bu, hbu⟩ : ∃ bu, wr.heap.size = bu := ⟨_, rfl⟩
        have hb2 : Below wr.heap.size wr W2 := by rw [← hW2]; exact below1 _ _
        have kR := Lib.hid (show Blk W2 bu 76 #[.int .i64 fN, .int .u8 (97 + cN), .int .i64 tN, .string pt] by rw [← hW2, ← hbu]; exact Blk.new _ _ _)
        have hM2 := Lib.hid (hMq.out.below hb2)
        have hV2 := Lib.hid (show V.heap.size < W2.heap.size from by have := hVq.out; have := kR.out.lt; rw [← hbu] at this; omega)
        have hmid := Lib.hid (hP.out.mid (p := fN) (c := cN) hplain.out (by show (cs pt).length ≤ 2; rw [cs_length]; exact hps) rfl rfl ⟨by show (0 : Int) ≤ (tN : Int); omega, by show (tN : Int) < n; omega⟩ hword.out)
        rw [hW2, hbu]
        clear hW2 hbu hb2 z0 z1 z2 z3 s1 hMq hP
        go_upto_region 11 with (at_make; refine wpList_make_row rfl _ _ 26 rfl Tryz.underlying26 info3 n rfl rfl hn (by omega) ?_; intro w3 hB hb3; have hB := Lib.hid hB; have hb3 := Lib.hid hb3)
        obtain ⟨g, hg⟩ : ∃ g, W2.heap.size = g := ⟨_, rfl⟩
        rw [hg] at hB ⊢
        have hgV := Lib.hid (show V.heap.size < g from by rw [← hg]; exact hV2.out)
        replace hg := Lib.hid hg
        go_wp2
        go_loopw [11] (fun c11 wz => ∃ j : Nat, j ≤ n ∧ c11 = .int .i64 (j : Int) ∧ Hid (Il wz g n (fun q => if q < j then 1073741824 else 0)) ∧ Hid (Below W2.heap.size W2 wz)) (fun c11 _ => n - (intOf c11).toNat)
        case atStart => exact ⟨0, Nat.zero_le _, rfl, hB.out.congr fun i _ => by simp, hb3.out⟩
        case round =>
          obtain ⟨j, hj, rfl, hBr, hxr⟩ := hrel
          by_cases hltj : j < n
          case pos =>
            have hltJ : (j : Int) < n := by omega
            have hfr := Blk.free hBr.out j
            have hce := Il.cell hBr.out hltj
            simp only [Nat.lt_irrefl, if_false] at hce
            have hnew := Lib.hid (show Il (wr.setCell ⟨g, j, none⟩ (.int .i64 1073741824)) g n (fun q => if q < j + 1 then 1073741824 else 0) from (Il.set hBr.out (i := j) 1073741824).congr fun q _ => by
              by_cases h1 : q = j
              · subst h1; simp
              · rw [if_neg h1]
                have : (q < j + 1) = (q < j) := by apply propext; omega
                simp only [this])
            have hxn := Lib.hid (hxr.out.setCell (p := ⟨g, j, none⟩) (Nat.le_of_eq hg.out) (.int .i64 1073741824))
            go_wp2
            go_roundw
            case rel => exact ⟨j + 1, by omega, by go_num, hnew.out, hxn.out⟩
            case measure => simp [intOf]; omega
          have hge : ¬ (j : Int) < n := by omega
          have hfill := Lib.hid (show Il wr g n (fun _ => 1073741824) from hBr.out.congr fun q hq => by rw [if_pos (by omega)])
          have t2 : wr.cell? ⟨bu, 2, none⟩ = some (.int .i64 tN) := (kR.out.below hxr.out kR.out.lt).cell 2
          have hce := Il.cell hfill.out htC
          have hfr := Blk.free hfill.out tN
          clear hltj hj
          go_upto_region 16 with (fail)
          clear hge hBr t2 hce hfr
          obtain ⟨V3, hV3⟩ : ∃ V3, wr.setCell ⟨g, tN, none⟩ (.int .i64 0) = V3 := ⟨_, rfl⟩
          rw [hV3]
          have hNV := Lib.hid (show Il V3 g n (costs n X ((cs pt).take 0) (only1 tN)) from by
            rw [← hV3]
            exact (Il.set hfill.out (i := tN) 0).congr fun j _ => rfl)
          have hBV := Lib.hid (show Below W2.heap.size W2 V3 from by rw [← hV3]; exact hxr.out.setCell (Nat.le_of_eq hg.out) _)
          have ho1 := Lib.hid (show ∀ i, i < n → 0 ≤ only1 tN i ∧ only1 tN i ≤ 1073741824 from fun i _ => by unfold only1 farR; split <;> omega)
          have hXr := Lib.hid (show ∀ p c q, p < n → c < 6 → q < n → 0 ≤ X p c q ∧ X p c q ≤ 1073741824 from fun p c q hp hc hq => by
            by_cases h5 : c < 5
            · have := hmid.out.inv.range p c q hp h5 hq
              unfold farR at this
              omega
            · have e5 : c = 5 := by omega
              subst e5
              rw [hmid.out.eps p q hp hq]
              omega)
          clear hV3 hfill hxr hb3 hB
          go_wp2
          go_loopw [10, 12] (fun c10 c12 wz => ∃ kk gn : Nat, kk ≤ pt.size ∧ c12 = .int .i64 (kk : Int) ∧ c10 = .slice (some ⟨gn, 0, none⟩) n n ∧ Hid (V.heap.size < gn) ∧ Hid (Il wz gn n (costs n X ((cs pt).take kk) (only1 tN))) ∧ Hid (Below W2.heap.size W2 wz)) (fun _ c12 _ => pt.size - (intOf c12).toNat)
          case atStart => exact ⟨0, g, Nat.zero_le _, rfl, rfl, hgV.out, hNV.out, hBV.out⟩
          case round =>
            obtain ⟨kk, gn, hkk, rfl, rfl, hgn, hNq, hBq⟩ := hrel
            have kRq := kR.out.below hBq.out kR.out.lt
            have u3 : wr.cell? ⟨bu, 3, none⟩ = some (.string pt) := kRq.cell 3
            have hMz := Lib.hid (hM2.out.below hBq.out)
            by_cases hkl : kk < pt.size
            case neg =>
              have hge : ¬ (kk : Int) < pt.size := by omega
              have htk : (cs pt).take kk = cs pt := List.take_of_length_le (by rw [cs_length]; omega)
              rw [htk] at hNq
              have hbd := Lib.hid (costs_bd hXr.out (cs pt) (only1 tN) hword.out ho1.out)
              have hmid2 := hmid.out
              have hput : costs n X (RuleB.plain ⟨fN, 97 + cN, tN, pt⟩).put (only1 (RuleB.plain ⟨fN, 97 + cN, tN, pt⟩).to.toNat) = costs n X (cs pt) (only1 tN) := rfl
              rw [hput] at hmid2
              obtain ⟨now, hnow⟩ : ∃ now, costs n X (cs pt) (only1 tN) = now := ⟨_, rfl⟩
              rw [hnow] at hNq hbd hmid2
              have hmidz := Lib.hid hmid2
              clear hnow hput htk hmid2 hkl hkk
              have u0 : wr.cell? ⟨bu, 0, none⟩ = some (.int .i64 fN) := kRq.cell 0
              have u1 : wr.cell? ⟨bu, 1, none⟩ = some (.int .u8 (97 + cN)) := kRq.cell 1
              have x0 : wr.cell? ⟨Bx, 0, none⟩ = some (.slice (some ⟨b, 0, none⟩) n cap) := hMz.out.2.2.1.cell 0
              have r0 := (hMz.out.1.1 fN hfC).2.2
              have r1 := hMz.out.1.2 fN cN hfC (by omega)
              have hk6 := (hMz.out.1.1 fN hfC).1
              simp only [Nat.zero_add] at r0 r1
              have hcc : (97 + (cN : Int)) - 97 = cN := by omega
              have hcapI : (n : Int) ≤ cap := by omega
              have hkI6 : (6 : Int) ≤ k fN := by omega
              go_upto_region 20 with (fail)
              go_cut [13] from 63 to 74 (fun u13 wx => u13 = .slice (some ⟨hh fN cN, 0, none⟩) n n ∧ Hid (Below wr.heap.size wr wx))
              case first =>
                go_quiet (fail)
                go_wp2
                go_meet
                exact ⟨rfl, below_drewN (Below.refl _ _) _⟩
              case rest =>
                obtain ⟨rfl, hbc⟩ := hcut
                have hMc := Lib.hid (hMz.out.below hbc.out)
                have hNc := Lib.hid (show Il wc gn n now from Blk.below hNq.out hbc.out (Blk.lt hNq.out))
                have hVc := Lib.hid (show V.heap.size ≤ wc.heap.size from by have := hbc.out.size; have := hBq.out.size; have := hV2.out; omega)
                have hgr := Lib.hid (show gn ≠ hh fN cN from by have h1 := hltV.out fN cN hfC (by omega); have h2 := hgn.out; omega)
                clear u0 u1 u3 x0 r0 r1 hge hbc hMz hNq hBq
                go_wp2
                go_loopw [7, 14] (fun c7 c14 wz => ∃ (X' : Nat → Nat → Nat → Int) (a' : Bool) (K : Nat), K ≤ n ∧ c7 = .bool a' ∧ c14 = .int .i64 (K : Int) ∧ Hid (RMid (l.map RuleB.plain) (Bof ms) n X0 X' a' i fN cN now (RuleB.plain ⟨fN, 97 + cN, tN, pt⟩) K) ∧
                  Hid (BM w wz n b cap r k hh X' w.heap.size Bx (w.heap.size + 1 + 1) gF (ofF fs) #[.int .i64 C, .slice (some ⟨bR, oR, none⟩) nl capl]) ∧ Hid (Il wz gn n now) ∧ Hid (V.heap.size ≤ wz.heap.size)) (fun _ c14 _ => n - (intOf c14).toNat)
                case atStart => exact ⟨X, a, 0, Nat.zero_le _, rfl, rfl, hmidz.out, hMc.out, hNc.out, hVc.out⟩
                case round =>
                  obtain ⟨X', a', K, hK, rfl, rfl, hD, hMw, hNw, hVw⟩ := hrel
                  by_cases hKn : K < n
                  case neg =>
                    have hge : ¬ (K : Int) < n := by omega
                    have hKe : K = n := by omega
                    rw [hKe] at hD
                    have hnew := Lib.hid (hD.out.done hplain.out (by rfl) (by rfl))
                    clear hKe hKn hK
                    go_wp2
                    go_roundw
                    case rel => exact ⟨X', a', i + 1, by omega, rfl, by go_num, hnew.out, hMw.out, hVw.out⟩
                    case measure => simp [intOf]; omega
                  have hKI : (K : Int) < n := by omega
                  have n0 := Il.cell hNw.out hKn
                  have x1 := Il.cell (hMw.out.2.1 fN cN hfC (by omega)) hKn
                  have xf := Blk.free (hMw.out.2.1 fN cN hfC (by omega)) K
                  obtain ⟨hb1, hb2⟩ := hbd.out K hKn
                  have hxr := hD.out.inv.range fN cN K hfC hcN hKn
                  have hxr0 : 0 ≤ X' fN cN K ∧ X' fN cN K ≤ 1073741824 := by unfold farR at hxr; omega
                  obtain ⟨hx0, hx1⟩ := hxr0
                  clear hxr
                  have hold := Lib.hid hD.out.old
                  have hnw := Lib.hid (hD.out.new hfC hcN hKn)
                  have hMn := Lib.hid (fun u => hMw.out.set hI5.out hlo.out hfC (show cN < 6 by omega) K u)
                  have hNn := Lib.hid (fun u => show Il (wr.setCell ⟨hh fN cN, K, none⟩ u) gn n now from Blk.far hNw.out (p := ⟨hh fN cN, K, none⟩) hgr.out u)
                  generalize hvN : now K = vN at *
                  generalize hvX : X' fN cN K = vX at *
                  replace hvN := Lib.hid hvN
                  replace hvX := Lib.hid hvX
                  by_cases hfar : vN < 1073741824
                  case neg =>
                    have hD2 := Lib.hid (hold.out (fun h => absurd h hfar))
                    have hf2 : decide (vN < 1073741824) = false := by simpa using hfar
                    go_wp2
                    go_roundw
                    case rel => exact ⟨X', a', K + 1, by omega, rfl, by go_num, hD2.out, hMw.out, hNw.out, hVw.out⟩
                    case measure => simp [intOf]; omega
                  by_cases hx : min (vN + 1) 1001 < vX
                  case pos =>
                    have hD2 := Lib.hid (hnw.out hfar hx)
                    go_wp2
                    go_roundw
                    case rel => exact ⟨_, true, K + 1, by omega, rfl, by go_num, hD2.out, hMn.out _, hNn.out _, Nat.le_trans hVw.out (Nat.le_of_eq (setCell_size _ _ _).symm)⟩
                    case measure => simp [intOf]; omega
                  case neg =>
                    have hD2 := Lib.hid (hold.out (fun _ => hx))
                    go_wp2
                    go_roundw
                    case rel => exact ⟨X', a', K + 1, by omega, rfl, by go_num, hD2.out, hMw.out, hNw.out, hVw.out⟩
                    case measure => simp [intOf]; omega
            have hkI : (kk : Int) < pt.size := by omega
            have hchw := hword.out (ch pt kk) (List.mem_of_getElem? (cs_at hkl))
            have hche := ch_eq hkl
            obtain ⟨c2, hc2⟩ : ∃ m : Nat, (pt[kk].toNat : Int) - 97 = m := ⟨(pt[kk].toNat - 97 : Int).toNat, by omega⟩
            have hc25 : c2 < 5 := by omega
            have hnext := Lib.hid (costs_snoc (n := n) (X := X) pt kk hkl (only1 tN) c2 hc2)
            have hbd := Lib.hid (costs_bd hXr.out ((cs pt).take kk) (only1 tN) (fun a ha => hword.out a (List.mem_of_mem_take ha)) ho1.out)
            obtain ⟨now, hnow⟩ : ∃ now, costs n X ((cs pt).take kk) (only1 tN) = now := ⟨_, rfl⟩
            rw [hnow] at hNq hnext hbd
            clear hnow
            have hcz := hMz.out.cua hI1 hI2
            have hread := Lib.hid (fun g : Gr wr => read_any g.w1 n c2 gn gF (.slice (some ⟨b, 0, none⟩) n cap) X now hn hn4 (by omega) (hcz.below g.h) (Blk.below hNq.out g.h (Blk.lt hNq.out)) (fun p q hp hq => hXr.out p c2 q hp (by omega) hq) hbd.out)
            have kx := hMz.out.2.2.1
            have a0 : ∀ g : Gr wr, g.w1.cell? ⟨Bx, 0, none⟩ = some (.slice (some ⟨b, 0, none⟩) n cap) := fun g => g.cell (kx.cell 0)
            have a1 : ∀ g : Gr wr, g.w1.cell? ⟨Bx, 1, none⟩ = some (.slice (some ⟨gF, 0, none⟩) n n) := fun g => g.cell (kx.cell 1)
            have a2 : ∀ g : Gr wr, g.w1.cell? ⟨bu, 3, none⟩ = some (.string pt) := fun g => g.cell (kRq.cell 3)
            clear hche hcz kx kRq
            go_upto_region 19 with (fail)
            clear u3
            refine wp_region_rels 9 [false, false, false, false, false, false, false, false, true] [] (fun kx h => .slice (some ⟨h.k, 0, none⟩) n n)
              (fun kx h w => wr.heap.size ≤ h.k ∧ Blk w h.k 3 (ils n (fun k => rd n (fun i k => X i c2 k) now k))) [] (by kernel_rfl) (by kernel_rfl) ?_
            simp only [List.take_succ_cons, List.take_zero, List.drop_succ_cons, List.drop_zero]
            refine walkS_reads 8 _ _ _ _ (by kernel_rfl) (by kernel_rfl) (by simp) ?_
            simp only [List.take_succ_cons, List.take_zero, List.drop_succ_cons, List.drop_zero]
            repeat (go_big_quiet_step (fail))
            refine wpQuiet_nil ?_
            refine walkS_eff rfl (by kernel_rfl) (fun g hd => ?_) (fun h8 => ?_)
            · (try rw [hc2])
              go_simp
              exact ⟨rfl, (hread.out g).mono (fun e w' ⟨gg, h1, h2, h3, h4⟩ => ⟨⟨none, 0, 0, gg, 0, false⟩, h1, h4, ⟨Nat.le_trans g.h.size h2, h3⟩, fun e => by cases e⟩)⟩
            go_frame
            refine walkS_nil ?_
            rintro _ ⟨gY, rfl⟩ hK hS
            obtain ⟨m10, k10⟩ := since_blk (by simpa using (hK 8 h8 rfl).1)
            obtain ⟨_, _, _, g10, _, _⟩ := h8
            obtain ⟨Y, hBY⟩ := gY
            dsimp only at *
            replace k10 := Lib.hid k10
            replace hBY := Lib.hid hBY
            clear hK hS a0 a1 a2 hread
            have hBz := Lib.hid (hBq.out.trans (hBY.out.mono hBq.out.size))
            go_wp2
            go_roundw
            case rel => exact ⟨kk + 1, g10, by omega, by go_num, rfl, by have := hBq.out.size; have := hV2.out; show V.heap.size < g10; omega, by show Il _ _ _ _; rw [hnext.out]; exact k10.out, hBz.out⟩
            case measure => simp [intOf]; omega
end
section
open Go.RowKit Go.Shelf
attribute [local go_sem] Oper.semAt_some

theorem bof_just {C y : Nat} {t : List Int} (ht : Word t) : Bof (chM C y t) = Just C y t := by
  funext p a q
  apply propext
  unfold Bof Just
  constructor
  · rintro ⟨m, hm, rfl, rfl, rfl⟩
    unfold chM at hm
    obtain ⟨i, hi, rfl⟩ := List.mem_map.1 hm
    rw [List.mem_range] at hi
    have hw := ht t[i] (List.getElem_mem hi)
    refine ⟨i, ?_, ?_, ?_⟩
    · rw [List.getElem?_eq_getElem hi]
      have e : t.getD i 0 = t[i] := by rw [List.getD_eq_getElem?_getD, List.getElem?_eq_getElem hi, Option.getD_some]
      show some t[i] = some (97 + (((t.getD i 0 - 97).toNat : Nat) : Int))
      rw [e]
      congr 1
      omega
    · show ((C + i : Nat) : Int) = _
      omega
    · show ((atN C y i : Nat) : Int) = _
      unfold atN
      split <;> omega
  · rintro ⟨i, hi, rfl, rfl⟩
    obtain ⟨hil, hia⟩ := List.getElem?_eq_some_iff.1 hi
    have hw := ht t[i] (List.getElem_mem hil)
    rw [hia] at hw
    refine ⟨(atN C y i, (t.getD i 0 - 97).toNat, C + i), List.mem_map.2 ⟨i, List.mem_range.2 hil, rfl⟩, ?_, ?_, ?_⟩
    · show _ = ((atN C y i : Nat) : Int)
      unfold atN
      split <;> omega
    · show a = 97 + (((t.getD i 0 - 97).toNat : Nat) : Int)
      rw [List.getD_eq_getElem?_getD, hi, Option.getD_some]
      omega
    · show _ = ((C + i : Nat) : Int)
      omega
theorem chM_in {C y nS : Nat} {t : List Int} (ht : Word t) (hy : y < C) (hn : C + t.length = nS) : ∀ m ∈ chM C y t, m.1 < nS ∧ m.2.1 < 5 ∧ m.2.2 < nS := by
  intro m hm
  unfold chM at hm
  obtain ⟨i, hi, rfl⟩ := List.mem_map.1 hm
  rw [List.mem_range] at hi
  have hw := ht t[i] (List.getElem_mem hi)
  refine ⟨?_, ?_, ?_⟩
  · show atN C y i < nS
    unfold atN
    split <;> omega
  · show (t.getD i 0 - 97).toNat < 5
    rw [List.getD_eq_getElem?_getD, List.getElem?_eq_getElem hi, Option.getD_some]
    omega
  · show C + i < nS
    omega
theorem bestN_one {n f : Nat} {v : Nat → Int} (hf : f < n) (hv : v f ≤ 1073741824) : bestN n (ofF [f]) v = v f := by
  have key : ∀ m, bestN m (ofF [f]) v = if f < m then v f else 1073741824 := by
    intro m
    induction m with
    | zero => rfl
    | succ m ih =>
      rw [bestN_succ, ih]
      have : ofF [f] m = decide (m = f) := by simp [ofF]
      rw [this]
      by_cases h : m = f
      · subst h; simp; omega
      · have e : (f < m + 1) = (f < m) := by apply propext; omega
        simp [h, e]
  rw [key, if_pos hf]
/-- what the number tells -/
def StepsN (l : List RuleB) (x : Int) (s : ByteArray) (y : Int) (t : ByteArray) (K : Int) : Prop :=
  (K < 1073741824 ↔ ReachP (l.map RuleB.plain) x (cs s) y (cs t)) ∧ (K ≤ 1000 ↔ ∃ n, Steps (l.map RuleB.plain) x (cs s) n y (cs t) ∧ n.length ≤ 1000) ∧ 0 ≤ K ∧ K ≤ 1073741824
theorem steps_law {C x y nS : Nat} {l : List RuleB} {s t : ByteArray} {X : Nat → Nat → Nat → Int} (hsys : sysB C l = true) (hp : properB C ⟨x, s⟩ = true) (hq : properB C ⟨y, t⟩ = true) (hn : C + t.size = nS)
    (hR : RInv (l.map RuleB.plain) (Bof (chM C y (cs t))) nS X) (hcl : RCl (l.map RuleB.plain) nS X) (heps : ∀ p q, p < nS → q < nS → X p 5 q = 1073741824) : StepsN l x s y t (bestN nS (ofF [atN C y t.size]) (costs nS X (cs s) (only1 x))) := by
  obtain ⟨hx0, hx1, hws, hss⟩ := properB_iff.1 hp
  obtain ⟨hy0, hy1, hwt, htt⟩ := properB_iff.1 hq
  simp only at hx0 hx1 hws hss hy0 hy1 hwt htt
  have hxC : x < C := by omega
  have hyC : y < C := by omega
  have hRok := rulesOk_of hsys
  have hRin := (rulesIn_of hsys).2
  have hCC : ((C : Int)).toNat = C := by omega
  rw [hCC] at hRin
  rw [bof_just hwt] at hR
  have hRin2 : RulesIn nS (l.map RuleB.plain) := fun i r hi => by
    obtain ⟨h1, h2, h3, h4, h5, h6, h7⟩ := hRin i r hi
    exact ⟨h1, by omega, h3, by omega, h5, h6, h7⟩
  have hXr : ∀ p c q, p < nS → c < 6 → q < nS → 0 ≤ X p c q ∧ X p c q ≤ 1073741824 := fun p c q h1 h2 h3 => by
    by_cases h5 : c < 5
    · have := hR.range p c q h1 h5 h3
      unfold farR at this
      omega
    · have e5 : c = 5 := by omega
      subst e5
      rw [heps p q h1 h3]
      omega
  have ho1 : ∀ i, i < nS → 0 ≤ only1 x i ∧ only1 x i ≤ 1073741824 := fun i _ => by unfold only1 farR; split <;> omega
  have hfn : atN C y t.size < nS := by unfold atN; split <;> omega
  have hlast : lastS C y (cs t) = ((atN C y t.size : Nat) : Int) := by
    unfold lastS atN
    rw [cs_length]
    split <;> omega
  have hbd := costs_bd hXr (cs s) (only1 x) hws ho1 _ hfn
  rw [bestN_one hfn hbd.2]
  generalize hK : costs nS X (cs s) (only1 x) (atN C y t.size) = K at *
  have hsound : K < 1073741824 → ∃ n, Steps (l.map RuleB.plain) x (cs s) n y (cs t) ∧ ((n.length : Int) ≤ K ∨ 1001 ≤ K) := fun hlt => by
    obtain ⟨i, n, hi, h1, h2, h3, h4⟩ := costs_sound hR (cs s) (only1 x) (atN C y t.size) hws (fun i hi => (ho1 i hi).1) hfn (by rw [hK]; exact hlt)
    have hix : i = x := by
      rcases Nat.decEq i x with hne | he
      · unfold only1 at h1
        rw [if_neg hne] at h1
        exact absurd h1 (by omega)
      · exact he
    subst hix
    rw [← hlast] at h2
    rw [hK, only1_self] at h4
    exact ⟨n, run_of_path (by omega) hRok (by omega) h2, by omega⟩
  have hcomp : ∀ n, Steps (l.map RuleB.plain) x (cs s) n y (cs t) → K ≤ n.length ∧ K ≤ 1001 * (cs s).length := fun n hst => by
    have hpath := path_of_run (C := (C : Int)) hRok hst
    have hB : ∀ p a q, Just C y (cs t) p a q → 0 ≤ p ∧ p < nS ∧ 97 ≤ a ∧ a ≤ 101 ∧ 0 ≤ q ∧ q < nS := by
      rintro p a q ⟨i, hi, rfl, rfl⟩
      obtain ⟨hil, hia⟩ := List.getElem?_eq_some_iff.1 hi
      have hw := hwt _ (List.getElem_mem hil)
      rw [hia] at hw
      rw [cs_length] at hil
      refine ⟨?_, ?_, hw.1, hw.2, by omega, by omega⟩
      · split <;> omega
      · split <;> omega
    have hc := costs_complete (fun p a q k hd => RInv.complete hR hRin2 hB hcl hd) hpath (only1 x) 0 (by rw [show ((x : Int)).toNat = x by omega, only1_self]; omega) (by rw [cs_length]; unfold farR; omega)
    rw [hlast] at hc
    have e : (((atN C y t.size : Nat) : Int)).toNat = atN C y t.size := by omega
    rw [e, hK] at hc
    omega
  refine ⟨⟨fun h => by obtain ⟨n, h1, _⟩ := hsound h; exact ⟨n, h1⟩, fun ⟨n, h⟩ => by have := (hcomp n h).2; rw [cs_length] at this; omega⟩, ⟨fun h => ?_, fun ⟨n, h1, h2⟩ => by have := (hcomp n h1).1; omega⟩, hbd.1, hbd.2⟩
  obtain ⟨n, h1, h2⟩ := hsound (by omega)
  exact ⟨n, h1, by omega⟩

theorem since_and {W : World} {φ : Hole → World → Prop} {h : Hole} {w : World} (hs : Since W φ h w) (hst : ∀ w w', φ h w → Below w.heap.size w w' → φ h w') : φ h w := by
  obtain ⟨w0, h1, _, h2⟩ := hs
  exact hst _ _ h1 h2
/-- what Only hands back -/
def OnlyR (C y : Nat) (t : ByteArray) (h : Hole) (w : World) : Prop := Els ElM w (.slice h.A h.n h.cap) (chM C y (cs t)) ∧ Blk w h.k 3 #[.int .i64 (atN C y t.size : Nat)]
/-- what Before hands back -/
def BeforeR (R : List Rule) (C y nS : Nat) (t : ByteArray) (h : Hole) (w : World) : Prop :=
  ∃ X, Cua w (.slice h.A h.n h.cap) nS X ∧ Bl w h.k nS (ofF [atN C y t.size]) ∧ RInv R (Bof (chM C y (cs t))) nS X ∧ RCl R nS X ∧ ∀ p q, p < nS → q < nS → X p 5 q = 1073741824
theorem since_only {W : World} {C y : Nat} {t : ByteArray} {h : Hole} {w : World} (hs : Since W (OnlyR C y t) h w) : OnlyR C y t h w := since_and hs fun _ _ h1 hb => ⟨h1.1.then hb, h1.2.below hb h1.2.lt⟩
theorem since_before {W : World} {R : List Rule} {C y nS : Nat} {t : ByteArray} {h : Hole} {w : World} (hs : Since W (BeforeR R C y nS t) h w) : BeforeR R C y nS t h w := since_and hs fun _ _ ⟨X, h1, h2, h3⟩ hb => ⟨X, h1.below hb, Blk.below h2 hb (Blk.lt h2), h3⟩

end
end Go.Proofs.YtaapnflhjbdmlaaGreatDoor
