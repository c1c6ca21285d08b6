/- The specification's After: its passes in plain words. No condition. The specification's After: the walk. No condition. -/
import Derived.Test.YtaapnflhjbdmlaaGreatDoorZY
import Derived.Test.YtaapnflhjbdmlaaGreatDoorSC
namespace Go.Proofs.YtaapnflhjbdmlaaGreatDoor
section
section
variable {B : Int → Int → Int → Prop} {R : List Rule} {num : Int → Int → Int} {n : Nat}
/-- the table with a move of no cost -/
def put0 (X : Nat → Nat → Nat → Int) (p c q : Nat) : Nat → Nat → Nat → Int := updX X p c fun j => if j = q then 0 else X p c j
theorem put0_same {X : Nat → Nat → Nat → Int} {p c q : Nat} (h : X p c q = 0) : put0 X p c q = X := by
  funext p' c' q'
  unfold put0 updX
  split
  · rename_i h1
    obtain ⟨rfl, rfl⟩ := h1
    dsimp only
    split
    · rename_i h2; rw [h2, h]
    · rfl
  · rfl
theorem put0_at (X : Nat → Nat → Nat → Int) (p c q : Nat) : put0 X p c q p c q = 0 := by simp [put0, updX]
theorem put0_le {X : Nat → Nat → Nat → Int} {p c q p' c' q' : Nat} (h : X p' c' q' = 0) : put0 X p c q p' c' q' = 0 := by
  unfold put0 updX
  split
  · rename_i h1
    obtain ⟨rfl, rfl⟩ := h1
    dsimp only
    split
    · rfl
    · exact h
  · exact h
theorem AfTab.put {X : Nat → Nat → Nat → Int} (h : AfTab B R num n X) {p c q : Nat} (hm : PA B R num p (letC c) q) : AfTab B R num n (put0 X p c q) where
  two p' c' q' hp hc hq := by
    unfold put0 updX
    split
    · rename_i h1
      obtain ⟨rfl, rfl⟩ := h1
      dsimp only
      split
      · exact .inl rfl
      · exact h.two _ _ _ hp hc hq
    · exact h.two _ _ _ hp hc hq
  sound p' c' q' hp hc hq hx := by
    unfold put0 updX at hx
    split at hx
    · rename_i h1
      obtain ⟨rfl, rfl⟩ := h1
      dsimp only at hx
      split at hx
      · rename_i h2; rw [h2]; exact hm
      · exact h.sound _ _ _ hp hc hq hx
    · exact h.sound _ _ _ hp hc hq hx
  base p' c' q' hp hc hq hb := put0_le (h.base _ _ _ hp hc hq hb)
/-- how far a pass has come -/
structure PrX (n : Nat) (X0 X : Nat → Nat → Nat → Int) (a : Bool) : Prop where
  quiet : a = false → X = X0
  less : a = true → sum3 n X < sum3 n X0
theorem PrX.refl (X : Nat → Nat → Nat → Int) : PrX n X X false := ⟨fun _ => rfl, fun h => by cases h⟩
theorem PrX.put {X0 X : Nat → Nat → Nat → Int} {a : Bool} (h : PrX n X0 X a) {p c q : Nat} (hp : p < n) (hc : c < 6) (hq : q < n) (h0 : 0 ≤ X p c q) : PrX n X0 (put0 X p c q) (!decide (X p c q = 0) || a) := by
  by_cases hx : X p c q = 0
  · rw [put0_same hx, decide_eq_true hx]; exact h
  · rw [decide_eq_false hx]
    refine ⟨(fun e => by cases e), fun _ => ?_⟩
    have h1 : sum3 n (put0 X p c q) < sum3 n X := sum3_lt hp hc hq (Int.le_refl 0) (by omega)
    cases a with
    | false => rw [← h.quiet rfl]; exact h1
    | true => exact Nat.lt_trans h1 (h.less rfl)
/-- what a rule wants at a state -/
def AWantX (num : Int → Int → Int) (X : Nat → Nat → Nat → Int) (r : Rule) (k : Nat) : Prop :=
  (r.put = [] → X r.to.toNat 5 k = 0) ∧ (∀ x, r.put = [x] → X r.to.toNat (x - 97).toNat k = 0) ∧ ∀ x y, r.put = [x, y] → X r.to.toNat (x - 97).toNat (num r.to x).toNat = 0 ∧ X (num r.to x).toNat (y - 97).toNat k = 0
def AClX (num : Int → Int → Int) (n : Nat) (X : Nat → Nat → Nat → Int) (r : Rule) (K : Nat) : Prop := ∀ k, k < K → k < n → LeadX n X r.fr.toNat (r.top - 97).toNat k → AWantX num X r k
structure APass (B : Int → Int → Int → Prop) (R : List Rule) (num : Int → Int → Int) (n : Nat) (X0 X : Nat → Nat → Nat → Int) (a : Bool) (i K : Nat) : Prop where
  inv : AfTab B R num n X
  pr : PrX n X0 X a
  cl : a = false → (∀ (j : Nat) r, j < i → R[j]? = some r → AClX num n X r n) ∧ ∀ r, R[i]? = some r → AClX num n X r K
theorem APass.begin {X : Nat → Nat → Nat → Int} (h : AfTab B R num n X) : APass B R num n X X false 0 0 := ⟨h, PrX.refl X, fun _ => ⟨fun _ _ hj => absurd hj (Nat.not_lt_zero _), fun _ _ _ hk => absurd hk (Nat.not_lt_zero _)⟩⟩
theorem APass.row {X0 X : Nat → Nat → Nat → Int} {a : Bool} {i : Nat} (h : APass B R num n X0 X a i n) : APass B R num n X0 X a (i + 1) 0 :=
  ⟨h.inv, h.pr, fun ha => ⟨fun j r hj hr => by
    by_cases e : j = i
    · subst e; exact (h.cl ha).2 r hr
    · exact (h.cl ha).1 j r (by omega) hr, fun _ _ _ hk => absurd hk (Nat.not_lt_zero _)⟩⟩
theorem APass.skip {X0 X : Nat → Nat → Nat → Int} {a : Bool} {i K : Nat} (h : APass B R num n X0 X a i K) {r : Rule} (hr : R[i]? = some r) (hl : ¬ LeadX n X r.fr.toNat (r.top - 97).toNat K) : APass B R num n X0 X a i (K + 1) :=
  ⟨h.inv, h.pr, fun ha => ⟨(h.cl ha).1, fun r' hr' k hk hkn hlk => by
    by_cases e : k = K
    · subst e; rw [hr] at hr'; cases hr'; exact absurd hlk hl
    · exact (h.cl ha).2 r' hr' k (by omega) hkn hlk⟩⟩
theorem APass.put {X0 X X' : Nat → Nat → Nat → Int} {a a' : Bool} {i K : Nat} (h : APass B R num n X0 X a i K) (hi : AfTab B R num n X') (hp : PrX n X0 X' a') (hs : a' = false → a = false ∧ X' = X) {r : Rule} (hr : R[i]? = some r) (hw : AWantX num X' r K) : APass B R num n X0 X' a' i (K + 1) :=
  ⟨hi, hp, fun ha => by
    obtain ⟨h1, h2⟩ := hs ha
    subst h2
    refine ⟨(h.cl h1).1, fun r' hr' k hk hkn hlk => ?_⟩
    by_cases e : k = K
    · subst e; rw [hr] at hr'; cases hr'; exact hw
    · exact (h.cl h1).2 r' hr' k (by omega) hkn hlk⟩
theorem APass.done {X0 X : Nat → Nat → Nat → Int} {i : Nat} (h : APass B R num n X0 X false i 0) (hi : R.length ≤ i) : AfCl R num n X := fun r hr k hk hl => by
  obtain ⟨j, hj⟩ := List.getElem?_of_mem hr
  exact (h.cl rfl).1 j r (by have := (List.getElem?_eq_some_iff.1 hj).1; omega) hj k hk hk hl
theorem quiet_put {X : Nat → Nat → Nat → Int} {a : Bool} {p c q : Nat} (h : (!decide (X p c q = 0) || a) = false) : a = false ∧ put0 X p c q = X := by
  simp only [Bool.or_eq_false_iff, Bool.not_eq_false', decide_eq_true_eq] at h
  exact ⟨h.2, put0_same h.1⟩
/-- the numbers of the specification -/
def numS (st : Nat) (p x : Int) : Int := st + p * 5 + (x - 97)
theorem aftab_of {ms : List Mv} (hms : ∀ m ∈ ms, m.2.1 < 5) : AfTab (Bof ms) R num n (ofX ms) where
  two p c q _ _ _ := by unfold ofX; split <;> simp
  sound p c q _ _ _ h := by
    unfold ofX at h
    split at h
    · rename_i hm
      have h5 : c < 5 := hms _ hm
      refine .base ⟨_, hm, rfl, ?_, rfl⟩
      unfold letC
      rw [if_neg (by omega)]
    · omega
  base p c q _ _ _ h := by
    obtain ⟨⟨a, b, d⟩, hm, h1, h2, h3⟩ := h
    simp only at h1 h2 h3
    obtain rfl : p = a := by omega
    obtain rfl : c = b := by omega
    obtain rfl : q = d := by omega
    unfold ofX
    rw [if_pos hm]
end
/-- a move's table in memory, behind add -/
theorem BM.add {w wq wq' : World} {n b cap Bs Bx B4 gF : Nat} {r k : Nat → Nat} {h : Nat → Nat → Nat} {X : Nat → Nat → Nat → Int} {F : Nat → Bool} {cs : Array Value} (hm : BM w wq n b cap r k h X Bs Bx B4 gF F cs) (hs : ISep n b r h) (hlo : ∀ p c, p < n → c < 6 → w.heap.size ≤ h p c) {p c : Nat} (hp : p < n) (hc : c < 6) {q : Nat}
    (hx : BX [h p c] wq wq') (hI : Il wq' (h p c) n (fun j => if j = q then 0 else X p c j)) : BM w wq' n b cap r k h (put0 X p c q) Bs Bx B4 gF F cs := by
  obtain ⟨h1, h2, h3, h4, h5, h6, h7⟩ := hm
  have hk := h2 p c hp hc
  refine ⟨h1.bx hx (by simpa using (hs.1 p c hp hc).1) (fun p' hp' => by simpa using (hs.1 p c hp hc).2 p' hp'), fun p' c' hp' hc' => ?_, h3.bx hx (by simpa using h3.ne_of hk (by decide)), h4.bx hx (by simpa using h4.ne_of hk (by decide)), h5.bx hx (by simpa using h5.ne_of hk (by decide)), Blk.bx h6 hx (by simpa using Blk.ne_of h6 hk (by decide)), h7.trans (hx.below h7.size (by simpa using hlo p c hp hc))⟩
  by_cases e : p' = p ∧ c' = c
  · obtain ⟨rfl, rfl⟩ := e
    exact Il.congr hI fun j _ => by simp [put0, updX]
  · have hne : h p' c' ≠ h p c := fun e2 => e (hs.2 p' c' p c hp' hc' hp hc e2)
    exact Il.congr (Blk.bx (h2 p' c' hp' hc') hx (by simpa using hne)) fun j _ => by simp [put0, updX, e]
end
section
open Go.RowKit Go.Shelf
attribute [local go_sem] Oper.semAt_some

theorem AfTab.tok {B : Int → Int → Int → Prop} {R : List Rule} {num : Int → Int → Int} {n : Nat} {X : Nat → Nat → Nat → Int} (h : AfTab B R num n X) : TOk n X where
  rng p c q hp hc hq := by rcases h.two p c q hp hc hq with e | e <;> omega
  eps p q hp hq := h.two p 5 q hp (by omega) hq
  bd p c q hp hc hq hx := by rcases h.two p c q hp (by omega) hq with e | e <;> omega
theorem pt_two {pt : ByteArray} (h : pt.size = 2) : cs pt = [ch pt 0, ch pt 1] := by
  apply List.ext_getElem?
  intro i
  match i with
  | 0 => rw [cs_at (by omega)]; rfl
  | 1 => rw [cs_at (by omega)]; rfl
  | i + 2 => rw [List.getElem?_eq_none (by rw [cs_length]; omega)]; simp
theorem pt_one {pt : ByteArray} (h : pt.size = 1) : cs pt = [ch pt 0] := by
  apply List.ext_getElem?
  intro i
  match i with
  | 0 => rw [cs_at (by omega)]; rfl
  | i + 1 => rw [List.getElem?_eq_none (by rw [cs_length]; omega)]; simp
theorem pt_nil {pt : ByteArray} (h : pt.size = 0) : cs pt = [] := List.eq_nil_of_length_eq_zero (by rw [cs_length]; exact h)

theorem addM {w wq : World} {n b cap Bs Bx B4 gF : Nat} {r k : Nat → Nat} {h : Nat → Nat → Nat} {X : Nat → Nat → Nat → Int} {F : Nat → Bool} {cs : Array Value} (hm : BM w wq n b cap r k h X Bs Bx B4 gF F cs) (hcap : n ≤ cap) (hs : ISep n b r h) (hlo : ∀ p c, p < n → c < 6 → w.heap.size ≤ h p c) {p c q : Nat} (hp : p < n) (hc : c < 6) (hq : q < n) (hn : n ≤ 400)
    (W' : World) (hW' : Below wq.heap.size wq W') : Calls Tryz.prog 44 #[agA (.slice (some ⟨b, 0, none⟩) n cap) gF n, .int .i64 p, .int .i64 c, .int .i64 q] W' fun e w' =>
      e = .returned (.bool (!decide (X p c q = 0))) ∧ BM w w' n b cap r k h (put0 X p c q) Bs Bx B4 gF F cs ∧ ∀ (g t : Nat) (ds : Array Value), t ≠ 3 → Blk wq g t ds → Blk w' g t ds := by
  have hm2 := hm.below hW'
  have h1 := hm2.1.1 p hp
  have h2 := hm2.1.2 p c hp hc
  simp only [Nat.zero_add] at h1 h2
  refine (addR_any W' n p c q gF b cap (k p) (r p) (h p c) (X p c) hp hc hq hn hcap h1.1 h1.2.2 h2 (hm2.2.1 p c hp hc)).mono fun e w' ⟨he, hI, hx⟩ => ?_
  refine ⟨he, hm2.add hs hlo hp hc hx hI, fun g t ds ht hg => ?_⟩
  have hg2 := hg.below hW' hg.lt
  exact hg2.bx hx (by have := hg2.ne_of (hm2.2.1 p c hp hc) ht; simpa using this)

set_option maxRecDepth 8000 in
set_option maxHeartbeats 16000000 in
theorem After_any (w : World) (C st n : Nat) (v vm vf : Value) (l : List RuleB) (ms : List Mv) (fs : List Nat) (h : Rls w v l) (hsys : sysB C l = true) (hCn : C ≤ st) (hst : st ≤ 100) (hn : st + C * 5 = n) (hm : Els ElM w vm ms) (hms : ∀ m ∈ ms, m.1 < st ∧ m.2.1 < 5 ∧ m.2.2 < st) (hf : Els ElN w vf fs) (hfs : ∀ f ∈ fs, f < st) :
    Calls Tryz.prog 20 #[sv C v, .agg #[.int .i64 st, vm, vf]] w fun e w' =>
      ∃ vC gF X, e = .returned (.agg #[vC, .slice (some ⟨gF, 0, none⟩) n n]) ∧ Cua w' vC n X ∧ Bl w' gF n (ofF fs) ∧ AfTab (Bof ms) (l.map RuleB.plain) (numS st) n X ∧ AfCl (l.map RuleB.plain) (numS st) n X ∧ Below w.heap.size w w' := by
  obtain ⟨A, nl, capl, rfl, hnl⟩ := Els.shape h
  obtain ⟨Am, nm, capm, rfl, hnm⟩ := Els.shape hm
  obtain ⟨Af, nf, capf, rfl, hnf⟩ := Els.shape hf
  obtain ⟨hC1, hC5, hl30, _⟩ := sysB_iff.1 hsys
  have hn1 : 1 ≤ n := by omega
  have hn4 : n ≤ 400 := by omega
  have hCn2 : C ≤ n := by omega
  have hnI : (1 : Int) ≤ n := by omega
  have hnJ : (n : Int) ≤ 400 := by omega
  have hstJ : (st : Int) ≤ 100 := by omega
  obtain ⟨W, hW⟩ : ∃ W, ((w.alloc (.cells #[.int .i64 C, .slice A nl capl] 24)).alloc (.cells #[.int .i64 st, .slice Am nm capm, .slice Af nf capf] 28)).alloc (.cells #[.slice none 0 0, .slice none 0 0] 49) = W := ⟨_, rfl⟩
  have hBW : Below w.heap.size w W := by rw [← hW]; exact bthen (below1 _ _) (bthen (below1 _ _) (below1 _ _))
  have kS := show Blk W w.heap.size 24 #[.int .i64 C, .slice A nl capl] by rw [← hW]; exact ((Blk.new w 24 _).alloc _).alloc _
  have kA := show Blk W (w.heap.size + 1) 28 #[.int .i64 st, .slice Am nm capm, .slice Af nf capf] by rw [← hW]; have := Blk.new (w.alloc (.cells #[.int .i64 C, .slice A nl capl] 24)) 28 #[.int .i64 st, .slice Am nm capm, .slice Af nf capf]; rw [alloc_size] at this; exact this.alloc _
  have k4 := show Blk W (w.heap.size + 1 + 1) 49 #[.slice none 0 0, .slice none 0 0] by rw [← hW]; have := Blk.new ((w.alloc (.cells #[.int .i64 C, .slice A nl capl] 24)).alloc (.cells #[.int .i64 st, .slice Am nm capm, .slice Af nf capf] 28)) 49 #[.slice none 0 0, .slice none 0 0]; rw [alloc_size, alloc_size] at this; exact this
  have s0 : W.cell? ⟨w.heap.size + 1, 0, none⟩ = some (.int .i64 st) := kA.cell 0
  have s1 : W.cell? ⟨w.heap.size + 1, 1, none⟩ = some (.slice Am nm capm) := kA.cell 1
  have s2 : W.cell? ⟨w.heap.size + 1, 2, none⟩ = some (.slice Af nf capf) := kA.cell 2
  have s3 : W.cell? ⟨w.heap.size, 0, none⟩ = some (.int .i64 C) := kS.cell 0
  have hof := Of_any W st (C * 5) n _ _ ms fs hn hn1 hn4 (hm.then hBW) (fun m hm => by have := hms m hm; exact ⟨by omega, by omega, by omega⟩) (hf.then hBW) (fun f hf => by have := hfs f hf; omega)
  rw [show ((C * 5 : Nat) : Int) = (C : Int) * 5 by omega] at hof
  replace hof := Lib.hid hof
  have hsz := Lib.hid k4.lt
  replace kS := Lib.hid kS
  replace kA := Lib.hid kA
  replace k4 := Lib.hid k4
  replace hBW := Lib.hid hBW
  replace hsys := Lib.hid hsys
  have hms5 := Lib.hid hms
  replace h := Lib.hid h
  replace hn := Lib.hid hn
  clear hm hf hms hfs
  have hCw : IntKind.i64.wrap ((C : Int) * 5) = (C : Int) * 5 := IntWalk.i64_in _ (by omega)
  go_enter Tryz.func20, Tryz.ntmps20
  go_upto_region 2 with (go_at_call 18; refine hof.out.mono ?_; clear hof; rintro e w1 ⟨vC, gF, rfl, ⟨b, cap, r, k, hh, hI⟩, hF, hgF, hb1⟩; obtain ⟨rfl, hI1, hI2, hI3, hI4, hI5, hI6, hI7, hI8⟩ := hI; replace s0 := cell_below s0 hb1; clear s1 s2 s3; have hI3 := Lib.hid hI3; have hI4 := Lib.hid hI4; have hI5 := Lib.hid hI5; have hI7 := Lib.hid hI7; have hI8 := Lib.hid hI8; have hF := Lib.hid hF; have hb1 := Lib.hid hb1)
  clear hCw
  obtain ⟨V, hV⟩ : ∃ V, w1.alloc (.cells #[.slice (some ⟨b, 0, none⟩) n cap, .slice (some ⟨gF, 0, none⟩) n n] 49) = V := ⟨_, rfl⟩
  obtain ⟨Bx, hBx⟩ : ∃ Bx, w1.heap.size = Bx := ⟨_, rfl⟩
  have hb1V : Below w1.heap.size w1 V := by rw [← hV]; exact below1 _ _
  have hbWV := bthen hb1.out hb1V
  have hM := Lib.hid (show BM w V n b cap r k hh (ofX ms) w.heap.size Bx (w.heap.size + 1 + 1) gF (ofF fs) #[.int .i64 C, .slice A nl capl] from
    ⟨hI3.out.bx (xs := []) (BX.of_below hb1V) (by simp) (by simp), hI4.out.bx (xs := []) (BX.of_below hb1V) (by simp), by rw [← hV, ← hBx]; exact Blk.new _ _ _, kS.out.below hbWV kS.out.lt, k4.out.below hbWV k4.out.lt, Blk.below hF.out hb1V (Blk.lt hF.out), bthen hBW.out hbWV⟩)
  have kA1 := Lib.hid (show Blk V (w.heap.size + 1) 28 #[.int .i64 st, .slice Am nm capm, .slice Af nf capf] from kA.out.below hbWV kA.out.lt)
  have hlo := Lib.hid (show ∀ p c, p < n → c < 6 → w.heap.size ≤ hh p c from fun p c hp hc => by have := hI7.out p c hp hc; have := hBW.out.size; omega)
  have hVs := Lib.hid (show w.heap.size + 4 ≤ V.heap.size from by have := hsz.out; have := hb1.out.size; have e : V.heap.size = w1.heap.size + 1 := (by rw [← hV]; simp); omega)
  have hM0 : AfTab (Bof ms) (l.map RuleB.plain) (numS st) n (ofX ms) := aftab_of fun m hm => (hms5.out m hm).2.1
  replace hM0 := Lib.hid hM0
  have hrb := Lib.hid (show b ≠ w.heap.size + 1 + 1 ∧ ∀ p', p' < n → r p' ≠ w.heap.size + 1 + 1 from by
    have hk := k4.out.below hb1.out k4.out.lt
    refine ⟨?_, fun p' hp' => ?_⟩
    · obtain ⟨⟨cs, h1⟩, _⟩ := hI8.out
      exact h1.ne_of hk (by decide)
    · obtain ⟨cs, h1⟩ := hI8.out.2 p' hp'
      exact h1.ne_of hk (by decide))
  replace s0 := cell_below s0 hb1V
  rw [hV, hBx]
  clear hV hBx hb1V hbWV hI3 hI4 hI7 hI8 hF hb1 hBW kA k4
  have hlI := Lib.hid hnl.out
  have x1 : V.cell? ⟨Bx, 1, none⟩ = some (.slice (some ⟨gF, 0, none⟩) n n) := hM.out.2.2.1.cell 1
  go_wp2
  clear s0 x1
  go_loopg [7] (2 * sum3 n (ofX ms) + 1) (fun gk c7 wr => ∃ (X : Nat → Nat → Nat → Int) (a : Bool), c7 = .bool a ∧ gk = 2 * sum3 n X + (if a then 1 else 0) ∧ Hid (BM w wr n b cap r k hh X w.heap.size Bx (w.heap.size + 1 + 1) gF (ofF fs) #[.int .i64 C, .slice A nl capl]) ∧
    Hid (AfTab (Bof ms) (l.map RuleB.plain) (numS st) n X) ∧ Hid (Blk wr (w.heap.size + 1) 28 #[.int .i64 st, .slice Am nm capm, .slice Af nf capf]) ∧ Hid (a = false → AfCl (l.map RuleB.plain) (numS st) n X))
  case atStart => exact ⟨_, true, rfl, rfl, hM.out, hM0.out, kA1.out, fun h => by cases h⟩
  case round =>
    obtain ⟨X0, a0, rfl, hgk, hMr, hRr, hVr, hcl⟩ := hrel
    clear hM hM0
    cases a0 with
    | false =>
      have hC := Lib.hid (hcl.out rfl)
      replace hgk := Lib.hid hgk
      obtain ⟨_, _, kx, _, k4, hFz, hbz⟩ := hMr.out
      have r0 : wr.cell? ⟨Bx, 0, none⟩ = some (.slice (some ⟨b, 0, none⟩) n cap) := kx.cell 0
      have r1 : wr.cell? ⟨Bx, 1, none⟩ = some (.slice (some ⟨gF, 0, none⟩) n n) := kx.cell 1
      have q0 : wr.cell? ⟨w.heap.size + 1 + 1, 0, none⟩ = some (.slice none 0 0) := k4.cell 0
      have q1 : wr.cell? ⟨w.heap.size + 1 + 1, 1, none⟩ = some (.slice none 0 0) := k4.cell 1
      have f0 := k4.free 0
      have f1 := k4.free 1
      have B2 := (k4.set 0 (.slice (some ⟨b, 0, none⟩) n cap)).set 1 (.slice (some ⟨gF, 0, none⟩) n n)
      have e0 := B2.cell 0
      have e1 := B2.cell 1
      simp at e0 e1
      have hxe : BX [w.heap.size + 1 + 1] wr ((wr.setCell ⟨w.heap.size + 1 + 1, 0, none⟩ (.slice (some ⟨b, 0, none⟩) n cap)).setCell ⟨w.heap.size + 1 + 1, 1, none⟩ (.slice (some ⟨gF, 0, none⟩) n n)) := ((BX.refl _ wr).set (by simp) _).set (by simp) _
      have hfin := Lib.hid (show ∀ WE, BX [w.heap.size + 1 + 1] wr WE → Cua WE (.slice (some ⟨b, 0, none⟩) n cap) n X0 ∧ Bl WE gF n (ofF fs) ∧ AfTab (Bof ms) (l.map RuleB.plain) (numS st) n X0 ∧ AfCl (l.map RuleB.plain) (numS st) n X0 ∧ Below w.heap.size w WE from fun WE hE =>
        ⟨cua_of hI1 hI2 (hMr.out.1.bx hE (by simpa using hrb.out.1) (fun p' hp' => by simpa using hrb.out.2 p' hp')) (hMr.out.2.1.bx hE (fun p' c hp' hc hm => by
          have := (hMr.out.2.1 p' c hp' hc).ne_of k4 (by decide)
          exact this (by simpa using hm))), Blk.bx hFz hE (by have := Blk.ne_of hFz k4 (by decide); simpa using this), hRr.out, hC.out, hbz.trans (hE.below hbz.size (by simp; omega))⟩)
      replace hfin := Lib.hid (hfin.out _ hxe)
      clear kx k4 hFz hbz B2 hxe
      go_wp2
      exact bodyPost_ret (v := .agg #[.slice (some ⟨b, 0, none⟩) n cap, .slice (some ⟨gF, 0, none⟩) n n]) (by simp [results, Tryz.results20, go_sem, e0, e1]) rfl ⟨_, gF, rfl, X0, hfin.out⟩
    | true =>
      replace hgk := Lib.hid hgk
      clear hcl
      go_wp2
      go_loopw [7, 8] (fun c7 c8 wq => ∃ (X : Nat → Nat → Nat → Int) (a : Bool) (i : Nat), i ≤ nl ∧ c7 = .bool a ∧ c8 = .int .i64 (i : Int) ∧ Hid (APass (Bof ms) (l.map RuleB.plain) (numS st) n X0 X a i 0) ∧ Hid (BM w wq n b cap r k hh X w.heap.size Bx (w.heap.size + 1 + 1) gF (ofF fs) #[.int .i64 C, .slice A nl capl]) ∧ Hid (Blk wq (w.heap.size + 1) 28 #[.int .i64 st, .slice Am nm capm, .slice Af nf capf])) (fun _ c8 _ => nl - (intOf c8).toNat)
      case atStart => exact ⟨X0, false, 0, Nat.zero_le _, rfl, rfl, APass.begin hRr.out, hMr.out, hVr.out⟩
      case round =>
        obtain ⟨X, a, i, hi, rfl, rfl, hP, hMq, hVq⟩ := hrel
        clear hMr hRr hVr
        have s1 : wr.cell? ⟨w.heap.size, 1, none⟩ = some (.slice A nl capl) := hMq.out.2.2.2.1.cell 1
        by_cases hlt : i < nl
        case neg =>
          have hge : ¬ (i : Int) < nl := by omega
          have hin : i = (l.map RuleB.plain).length := by rw [List.length_map, ← hlI.out]; omega
          have hless := Lib.hid (show 2 * sum3 n X + (if a then 1 else 0) < gk from by
            have h1 := hgk.out
            simp only [if_true] at h1
            cases ha : a with
            | false => rw [hP.out.pr.quiet ha]; simp; omega
            | true => have := hP.out.pr.less ha; simp; omega)
          have hfin := Lib.hid (show a = false → AfCl (l.map RuleB.plain) (numS st) n X from fun ha => by
            subst ha; exact hP.out.done (Nat.le_of_eq hin.symm))
          clear hin
          go_wp2
          go_roundg (2 * sum3 n X + (if a then 1 else 0))
          case measure => exact hless.out
          case rel => exact ⟨X, a, rfl, rfl, hMq.out, hP.out.inv, hVq.out, hfin.out⟩
        have hltI : (i : Int) < nl := by omega
        have hil : i < l.length := by rw [← hlI.out]; exact hlt
        obtain ⟨bR, oR, rfl, hatR⟩ := Els.cell (h.out.then hMq.out.2.2.2.2.2.2) (by omega)
        have hcell := rAt_eq hil
        have z0 := hatR i hil 0 (.int .i64 (rAt l i).fr) (by rw [hcell]; rfl)
        have z1 := hatR i hil 1 (.int .u8 (rAt l i).top) (by rw [hcell]; rfl)
        have z2 := hatR i hil 2 (.int .i64 (rAt l i).to) (by rw [hcell]; rfl)
        have z3 := hatR i hil 3 (.string (rAt l i).put) (by rw [hcell]; rfl)
        change wr.cell? ⟨bR, oR + i * 4, none⟩ = _ at z0
        change wr.cell? ⟨bR, oR + i * 4 + 1, none⟩ = _ at z1
        change wr.cell? ⟨bR, oR + i * 4 + 2, none⟩ = _ at z2
        change wr.cell? ⟨bR, oR + i * 4 + 3, none⟩ = _ at z3
        have hplain := Lib.hid ((plain_get (l := l) (n := i)).2 ⟨hil, rfl⟩)
        clear hatR hcell
        generalize rAt l i = R1 at *
        obtain ⟨f, tp, tz, pt⟩ := R1
        dsimp only at z0 z1 z2 z3
        go_upto_region 10 with (fail)
        obtain ⟨hf0, hf1, ht0, ht1, htp0, htp1, hword⟩ := (rulesIn_of hsys.out).2 i _ hplain.out
        have hps : pt.size ≤ 2 := by have := (rulesOk_of hsys.out i _ hplain.out).2.2.2.2; simpa [RuleB.plain, cs_length] using this
        simp only [RuleB.plain] at hf0 hf1 ht0 ht1 htp0 htp1 hword
        obtain ⟨fN, rfl⟩ : ∃ m : Nat, f = m := ⟨f.toNat, by omega⟩
        obtain ⟨tN, rfl⟩ : ∃ m : Nat, tz = m := ⟨tz.toNat, by omega⟩
        obtain ⟨cN, rfl⟩ : ∃ m : Nat, tp = 97 + m := ⟨(tp - 97).toNat, by omega⟩
        have hfC : fN < n := by have : fN < C := (by simpa using hf1); omega
        have htC : tN < C := by simpa using ht1
        have htn : tN < n := by omega
        have hcN : cN < 5 := by omega
        clear hf0 hf1 ht0 ht1 htp0 htp1
        have htI : (tN : Int) < n := by omega
        have htI5 : (tN : Int) ≤ 5 := by omega
        have hfI : (fN : Int) < n := by omega
        have hcI : (cN : Int) < 5 := by omega
        replace hword := Lib.hid hword
        obtain ⟨W2, hW2⟩ : ∃ W2, wr.alloc (.cells #[.int .i64 fN, .int .u8 (97 + cN), .int .i64 tN, .string pt] 76) = W2 := ⟨_, rfl⟩
        obtain ⟨bu, hbu⟩ : ∃ bu, wr.heap.size = bu := ⟨_, rfl⟩
        have hb2 : Below wr.heap.size wr W2 := by rw [← hW2]; exact below1 _ _
        have kR := Lib.hid (show Blk W2 bu 76 #[.int .i64 fN, .int .u8 (97 + cN), .int .i64 tN, .string pt] by rw [← hW2, ← hbu]; exact Blk.new _ _ _)
        have hM2 := Lib.hid (hMq.out.below hb2)
        have hV2 := Lib.hid (hVq.out.below hb2 hVq.out.lt)
        rw [hW2, hbu]
        clear hW2 hbu hb2 z0 z1 z2 z3 s1 hMq
        go_wp2
        go_loopw [7, 10] (fun c7 c10 wz => ∃ (X' : Nat → Nat → Nat → Int) (a' : Bool) (K : Nat), K ≤ n ∧ c7 = .bool a' ∧ c10 = .int .i64 (K : Int) ∧ Hid (APass (Bof ms) (l.map RuleB.plain) (numS st) n X0 X' a' i K) ∧
          Hid (BM w wz n b cap r k hh X' w.heap.size Bx (w.heap.size + 1 + 1) gF (ofF fs) #[.int .i64 C, .slice (some ⟨bR, oR, none⟩) nl capl]) ∧ Hid (Blk wz (w.heap.size + 1) 28 #[.int .i64 st, .slice Am nm capm, .slice Af nf capf]) ∧ Hid (Blk wz bu 76 #[.int .i64 fN, .int .u8 (97 + cN), .int .i64 tN, .string pt])) (fun _ c10 _ => n - (intOf c10).toNat)
        case atStart => exact ⟨X, a, 0, Nat.zero_le _, rfl, rfl, hP.out, hM2.out, hV2.out, kR.out⟩
        case round =>
          obtain ⟨X', a', K, hK, rfl, rfl, hD, hMw, hVw, kRw⟩ := hrel
          clear hP hM2 hV2 kR
          by_cases hKn : K < n
          case neg =>
            have hge : ¬ (K : Int) < n := by omega
            have hKe : K = n := by omega
            rw [hKe] at hD
            have hnew := Lib.hid hD.out.row
            clear hKe hKn hK
            go_wp2
            go_roundw
            case rel => exact ⟨X', a', i + 1, by omega, rfl, by go_num, hnew.out, hMw.out, hVw.out⟩
            case measure => simp [intOf]; omega
          have hKI : (K : Int) < n := by omega
          have x0 : wr.cell? ⟨Bx, 0, none⟩ = some (.slice (some ⟨b, 0, none⟩) n cap) := hMw.out.2.2.1.cell 0
          have x1 : wr.cell? ⟨Bx, 1, none⟩ = some (.slice (some ⟨gF, 0, none⟩) n n) := hMw.out.2.2.1.cell 1
          have y0 : wr.cell? ⟨bu, 0, none⟩ = some (.int .i64 fN) := kRw.out.cell 0
          have y1 : wr.cell? ⟨bu, 1, none⟩ = some (.int .u8 (97 + cN)) := kRw.out.cell 1
          have hlead := Lib.hid (leads_any wr n fN cN K gF _ X' hn4 (hMw.out.cua hI1 hI2) hfC hcN hKn hD.out.inv.tok)
          have hcc : (97 + (cN : Int)) - 97 = cN := by omega
          go_upto_region 13 with (fail)
          cases hL : leadB n X' fN cN K with
          | false =>
            rw [hL] at hlead
            have hnew := Lib.hid (hD.out.skip hplain.out (fun hl => by
              have : leadB n X' fN cN K = true := leadB_iff.2 (by
                have e1 : (RuleB.plain ⟨fN, 97 + cN, tN, pt⟩).fr.toNat = fN := rfl
                have e2 : ((RuleB.plain ⟨fN, 97 + cN, tN, pt⟩).top - 97).toNat = cN := by show ((97 + (cN : Int)) - 97).toNat = cN; omega
                rw [e1, e2] at hl
                exact hl)
              rw [hL] at this; cases this))
            clear hL
            go_wp2_with (go_at_call 43; refine hlead.out.mono ?_; rintro e w9 ⟨rfl, hb9⟩; replace hb9 := Lib.hid hb9)
            go_roundw
            case rel => exact ⟨X', a', K + 1, by omega, rfl, by go_num, hnew.out, hMw.out.below hb9.out, hVw.out.below hb9.out hVw.out.lt, kRw.out.below hb9.out kRw.out.lt⟩
            case measure => simp [intOf]; omega
          | true =>
            rw [hL] at hlead
            have hrm : RuleB.plain ⟨fN, 97 + cN, tN, pt⟩ ∈ l.map RuleB.plain := List.mem_of_getElem? hplain.out
            have hpa := Lib.hid (show PA (Bof ms) (l.map RuleB.plain) (numS st) fN (97 + cN) K from hD.out.inv.lead hcN hKn (leadB_iff.1 hL))
            replace hrm := Lib.hid hrm
            clear hL
            go_upto_region 14 with (go_at_call 43; refine hlead.out.mono ?_; clear hlead; rintro e w9 ⟨rfl, hb9⟩; replace hb9 := Lib.hid hb9)
            have hM9 := Lib.hid (hMw.out.below hb9.out)
            have hV9 := Lib.hid (hVw.out.below hb9.out hVw.out.lt)
            have kR9 := Lib.hid (kRw.out.below hb9.out kRw.out.lt)
            clear hMw hVw kRw hb9 hcc x0 x1 y0 y1
            have x0 : w9.cell? ⟨Bx, 0, none⟩ = some (.slice (some ⟨b, 0, none⟩) n cap) := hM9.out.2.2.1.cell 0
            have x1 : w9.cell? ⟨Bx, 1, none⟩ = some (.slice (some ⟨gF, 0, none⟩) n n) := hM9.out.2.2.1.cell 1
            have y2 : w9.cell? ⟨bu, 2, none⟩ = some (.int .i64 tN) := kR9.out.cell 2
            have y3 : w9.cell? ⟨bu, 3, none⟩ = some (.string pt) := kR9.out.cell 3
            have hst3 : pt.size = 0 ∨ pt.size = 1 ∨ pt.size = 2 := by omega
            rcases hst3 with h0 | h1 | h2
            · have hput := Lib.hid (show (RuleB.plain ⟨fN, 97 + cN, tN, pt⟩).put = [] from pt_nil h0)
              have hadd := addM hM9.out hI1 hI5.out hlo.out htn (show 5 < 6 by omega) hKn hn4 w9 (Below.refl _ _)
              have hpr := hD.out.pr.put htn (show 5 < 6 by omega) hKn (by rcases hD.out.inv.two tN 5 K htn (by omega) hKn with e | e <;> omega)
              have hq := fun h => quiet_put (X := X') (a := a') (p := tN) (c := 5) (q := K) h
              have hinv := Lib.hid (hD.out.inv.put (p := tN) (c := 5) (q := K) (.zero hrm.out hput.out hpa.out))
              generalize (!decide (X' tN 5 K = 0)) = vb at *
              have hnew := Lib.hid (hD.out.put hinv.out hpr hq hplain.out ⟨fun _ => put0_at _ _ _ _, fun x e => (by rw [hput.out] at e; cases e), fun x y e => (by rw [hput.out] at e; cases e)⟩)
              rw [show (((5 : Nat) : Int)) = 5 from rfl] at hadd
              replace hadd := Lib.hid hadd
              have hs0 : ((pt.size : Int) == 0) = true := by simp [h0]
              replace h0 := Lib.hid h0
              clear hpr hq
              cases vb
              all_goals
                go_wp2_with (go_at_call 44; refine hadd.out.mono ?_; clear hadd; rintro e w10 ⟨rfl, hM10, hk10⟩; replace hM10 := Lib.hid hM10; replace hk10 := Lib.hid hk10)
                go_roundw
                case rel => exact ⟨_, _, K + 1, by omega, rfl, by go_num, hnew.out, hM10.out, hk10.out _ _ _ (by decide) hV9.out, hk10.out _ _ _ (by decide) kR9.out⟩
                case measure => simp [intOf]; omega
            · have hput := Lib.hid (show (RuleB.plain ⟨fN, 97 + cN, tN, pt⟩).put = [ch pt 0] from pt_one h1)
              have h0p : 0 < pt.size := by omega
              have h0I : (0 : Int) < pt.size := by omega
              have hw0 := hword.out (ch pt 0) (List.mem_of_getElem? (cs_at h0p))
              obtain ⟨c1, hc1⟩ : ∃ m : Nat, ch pt 0 = 97 + m := ⟨(ch pt 0 - 97).toNat, by omega⟩
              have hc15 : c1 < 6 := by omega
              have hche := ch_eq h0p
              have hsub : (pt[0].toNat : Int) - 97 = (c1 : Int) := by omega
              have hwu : IntKind.i64.wrap (IntKind.u8.wrap (c1 : Int)) = (c1 : Int) := (wrap_small c1 (by omega)).2
              have hadd := fun W' hW' => addM hM9.out hI1 hI5.out hlo.out htn hc15 hKn hn4 W' hW'
              have hpr := hD.out.pr.put htn hc15 hKn (by rcases hD.out.inv.two tN c1 K htn hc15 hKn with e | e <;> omega)
              have hq := fun h => quiet_put (X := X') (a := a') (p := tN) (c := c1) (q := K) h
              have hinv := Lib.hid (hD.out.inv.put (p := tN) (c := c1) (q := K) (by
                have e : letC c1 = ch pt 0 := by unfold letC; rw [if_neg (by omega), hc1]
                rw [e]
                exact .one hrm.out hput.out hpa.out))
              generalize (!decide (X' tN c1 K = 0)) = vb at *
              have hnew := Lib.hid (hD.out.put hinv.out hpr hq hplain.out ⟨fun e => (by rw [hput.out] at e; cases e), fun x e => (by
                rw [hput.out] at e
                simp only [List.cons.injEq, and_true] at e
                subst e
                rw [show (ch pt 0 - 97).toNat = c1 by omega]
                exact put0_at _ _ _ _), fun x y e => (by rw [hput.out] at e; cases e)⟩)
              replace hadd := Lib.hid hadd
              have hs0 : ((pt.size : Int) == 0) = false := by simp [h1]
              have hs1 : ((pt.size : Int) == 1) = true := by simp [h1]
              replace h1 := Lib.hid h1
              replace hc1 := Lib.hid hc1
              replace hche := Lib.hid hche
              clear hpr hq hw0
              have a0 : ∀ g : Gr w9, g.w1.cell? ⟨Bx, 0, none⟩ = some (.slice (some ⟨b, 0, none⟩) n cap) := fun g => g.cell x0
              have a1 : ∀ g : Gr w9, g.w1.cell? ⟨Bx, 1, none⟩ = some (.slice (some ⟨gF, 0, none⟩) n n) := fun g => g.cell x1
              have a2 : ∀ g : Gr w9, g.w1.cell? ⟨bu, 2, none⟩ = some (.int .i64 tN) := fun g => g.cell y2
              have a3 : ∀ g : Gr w9, g.w1.cell? ⟨bu, 3, none⟩ = some (.string pt) := fun g => g.cell y3
              go_upto_region 21 with (fail)
              clear hs0 hs1
              refine wp_region_growtail 9 (by kernel_rfl) (by kernel_rfl) ?_
              simp only [List.take_succ_cons, List.take_zero, List.drop_succ_cons, List.drop_zero]
              repeat (go_big_quiet_step (fail))
              refine wpQuiet_nil ?_
              rintro _ ⟨g1, rfl⟩
              replace hadd := Lib.hid (hadd.out _ g1.h)
              clear a0 a1 a2 a3 x0 x1 y2 y3
              cases vb
              all_goals
                go_wp2_with (go_at_call 44; refine hadd.out.mono ?_; clear hadd; rintro e w10 ⟨rfl, hM10, hk10⟩; replace hM10 := Lib.hid hM10; replace hk10 := Lib.hid hk10)
                go_roundw
                case rel => exact ⟨_, _, K + 1, by omega, rfl, by go_num, hnew.out, hM10.out, hk10.out _ _ _ (by decide) hV9.out, hk10.out _ _ _ (by decide) kR9.out⟩
                case measure => simp [intOf]; omega
            · have hput := Lib.hid (show (RuleB.plain ⟨fN, 97 + cN, tN, pt⟩).put = [ch pt 0, ch pt 1] from pt_two h2)
              have h0p : 0 < pt.size := by omega
              have h1p : 1 < pt.size := by omega
              have h0I : (0 : Int) < pt.size := by omega
              have h1I : (1 : Int) < pt.size := by omega
              have hw0 := hword.out (ch pt 0) (List.mem_of_getElem? (cs_at h0p))
              have hw1 := hword.out (ch pt 1) (List.mem_of_getElem? (cs_at h1p))
              obtain ⟨c1, hc1⟩ : ∃ m : Nat, ch pt 0 = 97 + m := ⟨(ch pt 0 - 97).toNat, by omega⟩
              obtain ⟨c2, hc2⟩ : ∃ m : Nat, ch pt 1 = 97 + m := ⟨(ch pt 1 - 97).toNat, by omega⟩
              have hc15 : c1 < 6 := by omega
              have hc25 : c2 < 6 := by omega
              have hche := ch_eq h0p
              have hche1 := ch_eq h1p
              have hsub : (pt[0].toNat : Int) - 97 = (c1 : Int) := by omega
              have hsub1 : (pt[1].toNat : Int) - 97 = (c2 : Int) := by omega
              have hwu : IntKind.i64.wrap (IntKind.u8.wrap (c1 : Int)) = (c1 : Int) := (wrap_small c1 (by omega)).2
              have hwu1 : IntKind.i64.wrap (IntKind.u8.wrap (c2 : Int)) = (c2 : Int) := (wrap_small c2 (by omega)).2
              have hc1J : (c1 : Int) ≤ 4 := by omega
              obtain ⟨mid, hmid⟩ : ∃ m : Nat, st + tN * 5 + c1 = m := ⟨_, rfl⟩
              have hmn : mid < n := by have := hn.out; omega
              have hnum : numS st (RuleB.plain ⟨fN, 97 + cN, tN, pt⟩).to (ch pt 0) = (mid : Int) := by
                show (st : Int) + (tN : Int) * 5 + (ch pt 0 - 97) = mid
                omega
              have hinv1 := hD.out.inv.put (p := tN) (c := c1) (q := mid) (by
                have e : letC c1 = ch pt 0 := by unfold letC; rw [if_neg (by omega), hc1]
                rw [e, ← hnum]
                exact .two1 hrm.out hput.out hpa.out)
              have hinv2 := hinv1.put (p := mid) (c := c2) (q := K) (by
                have e : letC c2 = ch pt 1 := by unfold letC; rw [if_neg (by omega), hc2]
                rw [e, ← hnum]
                exact .two2 hrm.out hput.out hpa.out)
              have hpr1 := hD.out.pr.put htn hc15 hmn (by rcases hD.out.inv.two tN c1 mid htn hc15 hmn with e | e <;> omega)
              have hpr2 := hpr1.put hmn hc25 hKn (by rcases hinv1.two mid c2 K hmn hc25 hKn with e | e <;> omega)
              have hq1 := fun h => quiet_put (X := X') (a := a') (p := tN) (c := c1) (q := mid) h
              have hq2 := fun h => quiet_put (X := put0 X' tN c1 mid) (a := (!decide (X' tN c1 mid = 0) || a')) (p := mid) (c := c2) (q := K) h
              have hwant := Lib.hid (show AWantX (numS st) (put0 (put0 X' tN c1 mid) mid c2 K) (RuleB.plain ⟨fN, 97 + cN, tN, pt⟩) K from ⟨fun e => (by rw [hput.out] at e; cases e), fun x e => (by rw [hput.out] at e; cases e), fun x y e => (by
                rw [hput.out] at e
                simp only [List.cons.injEq, and_true] at e
                obtain ⟨rfl, rfl⟩ := e
                rw [hnum, show (ch pt 0 - 97).toNat = c1 by omega, show (ch pt 1 - 97).toNat = c2 by omega, Int.toNat_natCast]
                exact ⟨put0_le (put0_at X' tN c1 mid), put0_at _ _ _ _⟩)⟩)
              have hadd1 := fun wx hMx W' hW' => addM (wq := wx) (X := X') (w := w) (r := r) (k := k) (h := hh) (Bs := w.heap.size) (Bx := Bx) (B4 := w.heap.size + 1 + 1) (gF := gF) (F := ofF fs) (cs := #[.int .i64 C, .slice (some ⟨bR, oR, none⟩) nl capl]) hMx hI1 hI5.out hlo.out htn hc15 hmn hn4 W' hW'
              have hadd2 := fun wx hMx W' hW' => addM (wq := wx) (X := put0 X' tN c1 mid) (w := w) (r := r) (k := k) (h := hh) (Bs := w.heap.size) (Bx := Bx) (B4 := w.heap.size + 1 + 1) (gF := gF) (F := ofF fs) (cs := #[.int .i64 C, .slice (some ⟨bR, oR, none⟩) nl capl]) hMx hI1 hI5.out hlo.out hmn hc25 hKn hn4 W' hW'
              generalize (!decide (put0 X' tN c1 mid mid c2 K = 0)) = vb2 at *
              generalize (!decide (X' tN c1 mid = 0)) = vb1 at *
              have hnew := Lib.hid (hD.out.put hinv2 hpr2 (fun h => by
                obtain ⟨h3, h4⟩ := hq2 h
                obtain ⟨h5, h6⟩ := hq1 h3
                exact ⟨h5, h4.trans h6⟩) hplain.out hwant.out)
              replace hadd1 := Lib.hid hadd1
              replace hadd2 := Lib.hid hadd2
              have hs0 : ((pt.size : Int) == 0) = false := by simp [h2]
              have hs1 : ((pt.size : Int) == 1) = false := by simp [h2]
              have hmI : (st : Int) + (tN : Int) * 5 + (c1 : Int) = (mid : Int) := by omega
              replace h2 := Lib.hid h2
              replace hc1 := Lib.hid hc1
              replace hc2 := Lib.hid hc2
              replace hche := Lib.hid hche
              replace hche1 := Lib.hid hche1
              replace hmid := Lib.hid hmid
              replace hnum := Lib.hid hnum
              clear hpr1 hpr2 hq1 hq2 hw0 hw1 hinv1 hinv2 hwant
              have a0 : ∀ g : Gr w9, g.w1.cell? ⟨w.heap.size + 1, 0, none⟩ = some (.int .i64 st) := fun g => g.cell (hV9.out.cell 0)
              have a2 : ∀ g : Gr w9, g.w1.cell? ⟨bu, 2, none⟩ = some (.int .i64 tN) := fun g => g.cell y2
              have a3 : ∀ g : Gr w9, g.w1.cell? ⟨bu, 3, none⟩ = some (.string pt) := fun g => g.cell y3
              go_upto_region 15 with (fail)
              clear hs0 hs1
              go_cut [11] from 51 to 62 (fun u11 wx => u11 = .int .i64 mid ∧ Hid (Below w9.heap.size w9 wx))
              case first =>
                refine wp_region_grow (by kernel_rfl) (by kernel_rfl) ?_
                repeat (go_big_quiet_step (fail))
                refine wpQuiet_nil ?_
                rintro _ ⟨g, rfl⟩
                go_wp2
                go_meet
                exact ⟨rfl, g.h⟩
              case rest =>
              obtain ⟨rfl, hbc⟩ := hcut
              clear a0 a2 a3 x0 x1 y2 y3
              have hMc := Lib.hid (hM9.out.below hbc.out)
              have hVc := Lib.hid (hV9.out.below hbc.out hV9.out.lt)
              have kRc := Lib.hid (kR9.out.below hbc.out kR9.out.lt)
              clear hM9 hV9 kR9 hbc
              have a0 : ∀ g : Gr wc, g.w1.cell? ⟨Bx, 0, none⟩ = some (.slice (some ⟨b, 0, none⟩) n cap) := fun g => g.cell (hMc.out.2.2.1.cell 0)
              have a1 : ∀ g : Gr wc, g.w1.cell? ⟨Bx, 1, none⟩ = some (.slice (some ⟨gF, 0, none⟩) n n) := fun g => g.cell (hMc.out.2.2.1.cell 1)
              have a2 : ∀ g : Gr wc, g.w1.cell? ⟨bu, 2, none⟩ = some (.int .i64 tN) := fun g => g.cell (kRc.out.cell 2)
              have a3 : ∀ g : Gr wc, g.w1.cell? ⟨bu, 3, none⟩ = some (.string pt) := fun g => g.cell (kRc.out.cell 3)
              clear hmI
              go_upto_region 16 with (fail)
              refine wp_region_growtail 9 (by kernel_rfl) (by kernel_rfl) ?_
              simp only [List.take_succ_cons, List.take_zero, List.drop_succ_cons, List.drop_zero]
              repeat (go_big_quiet_step (fail))
              refine wpQuiet_nil ?_
              rintro _ ⟨g1, rfl⟩
              replace hadd1 := Lib.hid (hadd1.out wc hMc.out _ g1.h)
              clear a0 a1 a2 a3
              cases vb1
              all_goals
                go_upto_region 17 with (go_at_call 44; refine hadd1.out.mono ?_; clear hadd1; rintro e w10 ⟨rfl, hM10, hk10⟩; replace hM10 := Lib.hid hM10; replace hk10 := Lib.hid hk10)
                have kR10 := Lib.hid (hk10.out _ _ _ (by decide) kRc.out)
                have hV10 := Lib.hid (hk10.out _ _ _ (by decide) hVc.out)
                have a0 : ∀ g : Gr w10, g.w1.cell? ⟨Bx, 0, none⟩ = some (.slice (some ⟨b, 0, none⟩) n cap) := fun g => g.cell (hM10.out.2.2.1.cell 0)
                have a1 : ∀ g : Gr w10, g.w1.cell? ⟨Bx, 1, none⟩ = some (.slice (some ⟨gF, 0, none⟩) n n) := fun g => g.cell (hM10.out.2.2.1.cell 1)
                have a3 : ∀ g : Gr w10, g.w1.cell? ⟨bu, 3, none⟩ = some (.string pt) := fun g => g.cell (kR10.out.cell 3)
                refine wp_region_growtail 8 (by kernel_rfl) (by kernel_rfl) ?_
                simp only [List.take_succ_cons, List.take_zero, List.drop_succ_cons, List.drop_zero]
                repeat (go_big_quiet_step (fail))
                refine wpQuiet_nil ?_
                rintro _ ⟨g2, rfl⟩
                replace hadd2 := Lib.hid (hadd2.out w10 hM10.out _ g2.h)
                clear a0 a1 a3
                cases vb2
                all_goals
                  go_wp2_with (go_at_call 44; refine hadd2.out.mono ?_; clear hadd2; rintro e w11 ⟨rfl, hM11, hk11⟩; replace hM11 := Lib.hid hM11; replace hk11 := Lib.hid hk11)
                  go_roundw
                  case rel => exact ⟨_, _, K + 1, by omega, rfl, by go_num, hnew.out, hM11.out, hk11.out _ _ _ (by decide) hV10.out, hk11.out _ _ _ (by decide) kR10.out⟩
                  case measure => simp [intOf]; omega
end
end Go.Proofs.YtaapnflhjbdmlaaGreatDoor
