/- Crossings. No condition. -/
import Derived.Test.YthnabheibacbcaaC9
import Derived.Test.YthnabheibacbcaaGq
namespace Go.Proofs.Ythnabheibacbcaa
open Go.RowKit Go.Shelf
attribute [local go_sem] Oper.semAt_some

/-- whether two links cross, as the code asks -/
def crossB (l : List Pt) (p q : Nat × Nat) : Bool :=
  decide (p.1 < q.1) && decide (q.1 ≠ p.2) && decide (q.2 ≠ p.1) && decide (q.2 ≠ p.2) && decide (tur l p.1 p.2 q.1 ≠ tur l p.1 p.2 q.2) && decide (tur l q.1 q.2 p.1 ≠ tur l q.1 q.2 p.2)
def crossC (l : List Pt) (p : Nat × Nat) (qs : List (Nat × Nat)) : Nat := qs.countP (crossB l p)
def crossN (l : List Pt) (ps qs : List (Nat × Nat)) : Nat := (ps.map fun p => crossC l p qs).sum
theorem crossN_snoc (l : List Pt) (ps qs : List (Nat × Nat)) (p : Nat × Nat) : crossN l (ps ++ [p]) qs = crossN l ps qs + crossC l p qs := by simp [crossN]
theorem crossC_snoc (l : List Pt) (p q : Nat × Nat) (qs : List (Nat × Nat)) : crossC l p (qs ++ [q]) = crossC l p qs + if crossB l p q = true then 1 else 0 := by
  unfold crossC
  rw [List.countP_append]
  simp
theorem crossN_le (l : List Pt) (ps qs : List (Nat × Nat)) : crossN l ps qs ≤ ps.length * qs.length := by
  unfold crossN
  induction ps with
  | nil => simp
  | cons p ps ih =>
    simp only [List.map_cons, List.sum_cons, List.length_cons]
    have := List.countP_le_length (p := crossB l p) (l := qs)
    have h2 : (ps.length + 1) * qs.length = ps.length * qs.length + qs.length := by rw [Nat.add_mul, Nat.one_mul]
    unfold crossC at *
    omega
theorem keepO_cx {q : Nat → Prop} {W W' : World} {Bp g : Nat} {o : Value} (h : CX q W W') (hc : ∀ b, (b = Bp ∨ b = g ∨ o.ownBlock = some b) → ¬ q b ∧ ∃ ob, W.heap[b]? = some ob ∧ ob.isCells = true) : keepO Bp g o W W' := fun b hb => by
  obtain ⟨hq, ob, h1, h2⟩ := hc b hb
  rw [h1]
  exact h.same b ob hq h1 h2
theorem TB.cells {w : World} {g : Nat} {v o : Value} {T : Nat → Nat → Nat → Int} (h : TB w g v T o) : ∃ ob, w.heap[g]? = some ob ∧ ob.isCells = true := by
  obtain ⟨cs, hb, _⟩ := h
  exact ⟨_, hb, rfl⟩
theorem OwnL.cells {α : Type} {lo e : Nat} {R : Value → α → Prop} {w : World} {v : Value} {xs : List α} (h : OwnL lo e R w v xs) : ∀ b, v.ownBlock = some b → ∃ ob, w.heap[b]? = some ob ∧ ob.isCells = true := by
  obtain ⟨cs, hl, h, hR⟩ := h
  intro b hb
  rcases h.2 with hn | ⟨g, cap, cur, rfl, hbb, hgg, rest⟩
  · rw [hn.1] at hb; cases hb
  · cases hb; exact ⟨_, hgg, rfl⟩

/-- a loop within a round whose variables are not boxed -/
theorem rangeFunc_ownN1 {F : Fence} {n : Nat} {P : Program} {w : World} {α : Type} {g : Operand} {ps : Array Tmp} {assign body : Code} {Q : Exit → Act → World → Prop} {a : Act}
    {l₀ : Nat} {r₀ : Loop} (hro : F.round = some l₀) (hl₀ : w.heap[l₀]? = some (.loop r₀)) (h1 : 1 ≤ n) {gf : Nat} {lb : Array Value} (hg : a.eval g = .func (.func gf) #[] lb) (hFg : F.fn gf) (eg : ∀ args w, (callFunc gf args).run P w = .ok (.enter gf args) w)
    {encs : α → Array Value} {Kp : World → World → Prop} {S Sp : List α → Prop} {N : Nat} {w0 : World} (hseq : SeqStopsK F (n - 1) P gf lb encs Kp S Sp N w0)
    (hKt : ∀ {A B C : World}, Kp A B → Kp B C → Kp A C) (hKb : ∀ (W : World) (l : Nat) (o o' : Obj), w.heap.size ≤ l → W.heap[l]? = some o → o.isCells = false → o.isWalk = false → Kp W (W.putObj l o')) (hb0 : Below w0.heap.size w0 w) (hps : ∀ x, (encs x).size = ps.size)
    (I : List α → World → Prop) (Ix : Code → List α → World → Prop) (hI : OwnFrom w.heap.size I) (hIx : ∀ c, OwnFrom w.heap.size (Ix c)) (h0 : I [] w) (hKr : ∀ W, Kp W W) (a₁ : α → Act)
    (hassign : ∀ (l : Nat) (x : α) (W : World) (K : Act → World → Prop), K (a₁ x) W →
      assign.wpIn (F.inRound l) (n - 1 - 1) P (Exit.then K (fun _ _ _ => False)) { tmps := (ps.zip (encs x)).foldl (fun t (p, v) => t.setIfInBounds p v) a.tmps, defers := [] } W)
    (hbody : ∀ (l : Nat) (pre : List α) (x : α) (W : World), w.heap.size ≤ l → (∃ r, W.heap[l]? = some (.loop r)) → I pre W → pre.length < N → body.wpIn (F.inRound l) (n - 1 - 1) P (ownPostG w.heap.size Kp I Ix (pre ++ [x]) W) (a₁ x) W)
    (hdone : ∀ (xs : List α) (W : World), S xs → I xs W → Q .normal a W)
    (hstop : ∀ (c : Code) (pre : List α) (W : World), Sp pre → Ix c pre W → c.wpIn F n P Q a W) :
    (Code.rangeFunc g ps assign body).wpIn F n P Q a w :=
  wpIn_rangeFunc_ownN hro hl₀ h1 hg hFg eg hseq (fun h k => hKt h k) hKb hb0 hps I Ix hI hIx h0 (fun x a' _ => a' = a₁ x) (fun _ _ _ _ _ _ hs _ _ => hs)
    (fun l pre x W K hi hK => hassign l x W K (hK _ _ (KeepsFrom.refl _ _) (hKr W) hi rfl)) (fun l pre x a' W hl hr hi e => by subst e; exact hbody l pre x W hl hr hi) hdone hstop

set_option maxRecDepth 100000 in
set_option maxHeartbeats 4000000 in
theorem Crossings_ok (w : World) (v : Value) (l : List Pt) (h : Pts w v l) (hc : checkB l = true) (hg : genB l = true) :
    Calls Try.prog 26 #[v] w fun e w' => ∃ os, e = .returned (.tuple #[.int .i64 ((crossN l (linksL os) (linksL os) : Nat) : Int), .int .i64 0]) ∧ Ordd l os ∧ Below w.heap.size w w' := by
  refine (callsIn_wide (n := 6)).1 ?_
  refine callsIn_of_wp_marks Try.func26 rfl trivial ?_ rfl
  simp only [Try.ntmps26, List.size_toArray, List.length_cons, List.length_nil, Nat.reduceAdd, Nat.reduceSub, Array.replicate_succ, Array.replicate_zero, List.push_toArray, List.append_toArray, List.nil_append, List.cons_append]
  refine (wpIn_wide (n := 6)).2 ?_
  obtain ⟨A, n, cap, rfl, hn⟩ := h.shape
  have h1 : 1 ≤ l.length := by unfold checkB at hc; simp at hc; omega
  have H := Lib.hid (open_ok w _ l 1 h hc hg (by omega))
  have hn14 : n ≤ 14 := by rw [hn.out]; unfold checkB at hc; simp at hc; exact hc.1.2
  have hck := Lib.hid hc
  clear h hc hg h1
  go_wp2_with (first
    | (go_at_call 54; refine H.out.mono ?_; rintro e w1 ⟨g, os, rfl, hg1, hord, hP, hb⟩; obtain ⟨v1, o1, hT, hp, ho⟩ := hP; have hgl := hT.lt; have hol := Lib.hid (OwnL.lt ho); replace ho := Lib.hid ho; replace hT := Lib.hid hT; replace hb := Lib.hid hb; replace hord := Lib.hid hord; clear hp;
       obtain ⟨W2, hW2⟩ : ∃ W2, w1.alloc (.cells #[.pointer (some ⟨g, 0, none⟩)] 66) = W2 := ⟨_, rfl⟩; have hz2 := (show W2.heap.size = w1.heap.size + 1 by rw [← hW2]; simp); have kp2 := (show Blk W2 w1.heap.size 66 #[.pointer (some ⟨g, 0, none⟩)] by rw [← hW2]; exact Blk.new _ _ _); have kc2 := (show W2.cell? ⟨w1.heap.size, 0, none⟩ = some (.pointer (some ⟨g, 0, none⟩)) by have := kp2.cell 0; simpa using this); replace kp2 := Lib.hid kp2;
       have kc3 := cell_below kc2 (below1 W2 (.cells #[.int .i64 0] 3)))
    | (go_at_call 64; refine (links_any _ _).mono ?_; rintro e w5 ⟨rfl, rfl⟩))
  obtain ⟨W3, hW3⟩ : ∃ W3, W2.alloc (.cells #[.int .i64 0] 3) = W3 := ⟨_, rfl⟩
  rw [hW3] at kc3 ⊢
  have hz3 : W3.heap.size = w1.heap.size + 2 := by rw [← hW3]; simp; omega
  have kn3 : Blk W3 W2.heap.size 3 #[.int .i64 0] := by rw [← hW3]; exact Blk.new _ _ _
  have hB23 : Below W2.heap.size W2 W3 := by rw [← hW3]; exact below1 _ _
  have hB12 : Below w1.heap.size w1 W2 := by rw [← hW2]; exact below1 _ _
  obtain ⟨W0, hW0⟩ : ∃ W0, W3.alloc (.cells #[.pointer (some ⟨g, 0, none⟩)] 66) = W0 := ⟨_, rfl⟩
  rw [hW0]
  have hB30 : Below W3.heap.size W3 W0 := by rw [← hW0]; exact below1 _ _
  have hz0 : W0.heap.size ≤ w1.heap.size + 3 ∧ w1.heap.size + 3 ≤ W0.heap.size := by rw [← hW0]; simp; omega
  have k5 : Blk W0 W3.heap.size 66 #[.pointer (some ⟨g, 0, none⟩)] := by rw [← hW0]; exact Blk.new _ _ _
  have k5c : W0.cell? ⟨W3.heap.size, 0, none⟩ = some (.pointer (some ⟨g, 0, none⟩)) := by have := k5.cell 0; simpa using this
  have c4 := cell_below kc3 hB30
  have kn := kn3.then hB30
  have hB10 := bthen hB12 (bthen hB23 hB30)
  replace hT := hT.out.then hB10
  replace ho := OwnL.below ho.out (Nat.le_refl _) hB10
  replace hb := bthen hb.out hB10
  clear kc2 kc3 kn3 hB23 hB12 hB30 hB10 hW0 hW3 hW2 kp2 H
  rw [hz2] at kn
  rw [hz3, show w1.heap.size + 2 = w1.heap.size + 1 + 1 from rfl] at k5c
  have hos : ∀ k ∈ os, k < n := fun k hk => by have := hord.out.1.mem_iff.1 hk; rw [hn.out]; simpa using this
  have hoslen : os.length = n := by rw [hord.out.1.length_eq, List.length_range, hn.out]
  have hn1 : 1 ≤ n := by
    rcases Nat.eq_zero_or_pos n with e | e
    · exact absurd (show checkB l = true from hck.out) (by unfold checkB; rw [show l = [] from List.length_eq_zero_iff.1 (by rw [← hn.out]; exact e)]; simp)
    · exact e
  have k5 : Blk W0 (w1.heap.size + 1 + 1) 66 #[.pointer (some ⟨g, 0, none⟩)] := by rw [hz3] at k5; exact k5
  obtain ⟨fr, hfr⟩ : ∃ fr : Lk n → Nat → Nat → Act, fr = fun x Ba Bb => { tmps := #[.slice A n cap, undef, .int .i64 0, .int .i64 0, .pointer (some ⟨w1.heap.size, 0, none⟩), .int .i64 0, .pointer (some ⟨w1.heap.size + 1, 0, none⟩), .pointer (some ⟨Ba, 0, none⟩), .pointer (some ⟨Bb, 0, none⟩), undef, undef, .tuple #[.pointer (some ⟨g, 0, none⟩), .int .i64 0], .slice A n cap, .tuple #[.pointer (some ⟨g, 0, none⟩), .int .i64 0], .pointer (some ⟨g, 0, none⟩), .int .i64 0, .int .i64 0, .bool false, undef, .pointer (some ⟨g, 0, none⟩), .func (.func 86) #[] #[.pointer (some ⟨w1.heap.size + 1 + 1, 0, none⟩)], .int .i64 (x.1.1 : Int), .int .i64 (x.1.2 : Int), undef, undef, undef, undef, undef, undef, undef, undef, undef, undef, undef, undef, undef, undef, undef, undef, undef, undef, undef, undef, undef, undef, undef, undef, undef, undef, undef, undef, undef, undef, undef, undef, undef, undef, undef, undef, undef, undef, undef, undef, undef, undef, undef, undef, undef, undef, undef, undef, undef, undef, undef, undef, undef, undef, undef, undef, undef, undef, undef, undef, undef, undef, undef, undef, undef, undef, undef, undef, undef, undef, undef], defers := [] } := ⟨_, rfl⟩
  replace hfr := Lib.hid hfr
  refine (wpIn_wide (n := 6)).1 ?_
  refine' wpIn_rangeFunc_ownH (n := 6) rfl (by omega) (gf := 86) (lb := #[.pointer (some ⟨w1.heap.size + 1 + 1, 0, none⟩)]) rfl trivial (enters_of Try.func86 (by kernel_rfl) rfl)
    (links1_stops 5 (by omega) (w1.heap.size + 1 + 1) g (g + 1) o1 os n hos (by omega) W0 k5c hT.order ho) (fun h k => h.trans k)
    (fun W l o o' hl h hc hw b hb' => World.putObj_heap_other (by rcases hb' with rfl | rfl | hb'; omega; omega; have := hol.out b hb'; omega)) (Below.refl _ _) (fun _ => rfl)
    (fun pre W => CX (fun b => b = w1.heap.size + 1) W0 W ∧ Blk W (w1.heap.size + 1) 3 #[.int .i64 ((crossN l (pre.map (·.1)) (linksL os) : Nat) : Int)] ∧ Below w.heap.size w W)
    (fun _ _ _ => False)
    (own_cx.and ((own_ck (I := fun (pre : List (Lk n)) W => Blk W (w1.heap.size + 1) 3 #[.int .i64 ((crossN l (pre.map (·.1)) (linksL os) : Nat) : Int)]) fun _ _ _ h k => h.ck k).and (ownFrom_below (Nat.le_refl _) (by have := hb.size; omega))))
    (fun _ _ _ _ _ h _ _ => h)
    ⟨.refl _ _, kn, hb⟩
    (fun x a' W => ∃ Ba Bb, W0.heap.size ≤ Ba ∧ W0.heap.size ≤ Bb ∧ Blk W Ba 3 #[.int .i64 (x.1.1 : Int)] ∧ Blk W Bb 3 #[.int .i64 (x.1.2 : Int)] ∧ a' = fr x Ba Bb)
    (fun x a' => own_ck fun _ W W' h k => by obtain ⟨Ba, Bb, h1, h2, h3, h4, h5⟩ := h; exact ⟨Ba, Bb, h1, h2, h3.ck k, h4.ck k, h5⟩)
    ?assign ?body ?done ?stop
  case stop =>
    rintro D c pre W _ _ h _
    exact h.elim
  case assign =>
    rintro l' pre ⟨⟨x, y⟩, hx, hy⟩ W K ⟨hX, hN, hB⟩ hK
    replace hK := Lib.hid hK
    have hh := Lib.hid (And.intro hX (And.intro hN hB))
    have hz := hX.size
    replace hb := Lib.hid hb
    clear hX hN hB
    unfold encLk
    gi_wp2
    obtain ⟨hX, hN, hB⟩ := hh.out
    have hB2 : Below W.heap.size W ((W.alloc (.cells #[.int .i64 (x : Int)] 3)).alloc (.cells #[.int .i64 (y : Int)] 3)) := bthen (below1 _ _) (below1 _ _)
    have hX2 := hX.trans (CX.then hB2)
    refine hK.out _ _ (((KeepsOthers.alloc _ _).trans (KeepsOthers.alloc _ _)).from _) (keepO_cx (CX.then (q := fun b => b = w1.heap.size + 1) hB2) ?_) ⟨hX2, hN.then hB2, hB.trans (hB2.mono hB.size)⟩
      ⟨W.heap.size, W.heap.size + 1, by omega, by omega, (Blk.new W 3 _).alloc _, by have := Blk.new (W.alloc (.cells #[.int .i64 (x : Int)] 3)) 3 #[.int .i64 (y : Int)]; rwa [World.size_alloc] at this, by rw [hfr.out]⟩
    rintro b (rfl | rfl | hb')
    · exact ⟨by omega, _, hX.blk k5 (by omega), rfl⟩
    · exact ⟨by omega, (hX.tb hT (by omega)).cells⟩
    · have := hol.out b hb'
      exact ⟨by omega, (hX.own ho (fun b' hb'' => by have := hol.out b' hb''; omega)).cells b hb'⟩
  case body =>
    rintro l' pre ⟨⟨x, y⟩, hx, hy⟩ a' W hl ⟨r, hr⟩ ⟨hX, hN, hB⟩ ⟨Ba, Bb, hBa, hBb, ka, kb, rfl⟩ hpl
    rw [hfr.out]
    dsimp only at hx hy ka kb
    have m4 := hX.cell c4 (by simp)
    have hz := hX.size
    have hlt := (Array.getElem?_eq_some_iff.1 hr).1
    have hall := Lib.hid (And.intro hX (And.intro hN (And.intro hB (And.intro ka (And.intro kb hr)))))
    replace hb := Lib.hid hb
    clear hX hN hB ka kb hr
    gi_wp2_with (refine ⟨trivial, ?_⟩; gi_at_call 64; refine (CallsIn.inRound l' ((callsIn_wide (n := 3)).2 (links_any W g))).mono ?_; rintro e w5 ⟨rfl, rfl⟩)
    obtain ⟨Wi, hWi⟩ : ∃ Wi, W.alloc (.cells #[.pointer (some ⟨g, 0, none⟩)] 66) = Wi := ⟨_, rfl⟩
    rw [hWi]
    have hBi : Below W.heap.size W Wi := by rw [← hWi]; exact below1 _ _
    have hzi : Wi.heap.size ≤ W.heap.size + 1 ∧ W.heap.size + 1 ≤ Wi.heap.size := by rw [← hWi]; simp
    have ki : Blk Wi W.heap.size 66 #[.pointer (some ⟨g, 0, none⟩)] := by rw [← hWi]; exact Blk.new _ _ _
    have kic : Wi.cell? ⟨W.heap.size, 0, none⟩ = some (.pointer (some ⟨g, 0, none⟩)) := by have := ki.cell 0; simpa using this
    have hKW : KeepsFrom W0.heap.size W Wi := by rw [← hWi]; exact (KeepsOthers.alloc _ _).from _
    obtain ⟨hX, hN, hB, ka, kb, hr⟩ := hall.out
    have hri : Wi.heap[l']? = some (.loop r) := (hBi.block l' hlt).trans hr
    have hXi := hX.trans (CX.then hBi)
    have hTi := hXi.tb hT (by omega)
    have hoi := hXi.own ho (fun b' hb'' => by have := hol.out b' hb''; omega)
    clear hWi
    refine' rangeFunc_ownN1 (F := Fence.wide.inRound l') (n := 4) (l₀ := l') (r₀ := r) rfl hri (by omega) (gf := 86) (lb := #[.pointer (some ⟨W.heap.size, 0, none⟩)]) rfl trivial (enters_of Try.func86 (by kernel_rfl) rfl)
      ((links1_stops 3 (by omega) W.heap.size g (g + 1) o1 os n hos (by omega) Wi kic hTi.order hoi).inRound l') (fun h k => h.trans k)
      (fun W l o o' hl h hc hw b hb' => World.putObj_heap_other (by rcases hb' with rfl | rfl | hb'; omega; omega; have := hol.out b hb'; omega)) (Below.refl _ _) (fun _ => rfl)
      (fun qs W' => CX (fun b => b = w1.heap.size + 1) Wi W' ∧ Blk W' (w1.heap.size + 1) 3 #[.int .i64 ((crossN l (pre.map (·.1)) (linksL os) : Nat) + (crossC l (x, y) (qs.map (·.1)) : Nat) : Int)] ∧ Below w.heap.size Wi W' ∧ KeepsFrom W0.heap.size Wi W')
      (fun _ _ _ => False)
      (own_cx.and ((own_ck (I := fun (qs : List (Lk n)) W' => Blk W' (w1.heap.size + 1) 3 #[.int .i64 ((crossN l (pre.map (·.1)) (linksL os) : Nat) + (crossC l (x, y) (qs.map (·.1)) : Nat) : Int)]) fun _ _ _ h k => h.ck k).and ((ownFrom_below (by have := hb.out.size; omega) (by have := hb.out.size; omega)).and (ownFrom_keepsFrom (Nat.le_refl _)))))
      (fun _ _ _ _ _ h _ _ => h)
      ⟨.refl _ _, hN.then hBi, .refl _ _, .refl _ _⟩
      (fun _ _ _ => rfl)
      _
      ?assign2 ?body2 ?done2 ?stop2
    case stop2 =>
      rintro c pre W _ h
      exact h.elim
    case assign2 =>
      intro l2 q W' K hK
      replace hK := Lib.hid hK
      unfold encLk
      gi_wp2
      exact hK.out
    case done2 =>
      rintro qs W' hqs ⟨hX2, hN2, hB2, hK2⟩
      gi_wp2
      refine ⟨hKW.trans hK2, keepO_cx ((CX.then hBi).trans hX2) ?_, hXi.trans hX2, ?_, (hB.trans (hBi.mono hB.size)).trans hB2⟩
      · rintro b (rfl | rfl | hb')
        · exact ⟨by omega, _, hX.blk k5 (by omega), rfl⟩
        · exact ⟨by omega, (hX.tb hT (by omega)).cells⟩
        · have := hol.out b hb'
          exact ⟨by omega, (hX.own ho (fun b' hb'' => by have := hol.out b' hb''; omega)).cells b hb'⟩
      · rw [List.map_append]
        simp only [List.map_cons, List.map_nil]
        rw [hqs] at hN2
        rw [crossN_snoc]
        exact hN2
    case body2 =>
      rintro l2 qs ⟨⟨c, d⟩, hc, hd⟩ W' hl2 _ ⟨hX2, hN2, hB2, hK2⟩ hpl2
      dsimp only at hc hd
      have hX3 := hXi.trans hX2
      have n4 := hX2.cell (hXi.cell c4 (by simp)) (by simp)
      have na : W'.cell? ⟨Ba, 0, none⟩ = some (.int .i64 (x : Int)) := by
        have := (hX2.blk (ka.then hBi) (by omega)).cell 0
        simpa using this
      have nb : W'.cell? ⟨Bb, 0, none⟩ = some (.int .i64 (y : Int)) := by
        have := (hX2.blk (kb.then hBi) (by omega)).cell 0
        simpa using this
      have hT2 := hX2.tb hTi (by omega)
      have mt : ∀ i j k, i < n → j < n → k < n → W'.cell? ⟨g, 1 + i * 196 + j * 14 + k, none⟩ = some (.int .i8 (tur l i j k)) := fun i j k h1 h2 h3 => by
        have := hT2.turn i j k (by omega) (by omega) (by omega)
        rwa [if_pos ⟨by have := hn.out; omega, by have := hn.out; omega, by have := hn.out; omega⟩] at this
      have t1 := mt x y c hx hy hc
      have t2 := mt x y d hx hy hd
      have t3 := mt c d x hc hd hx
      have t4 := mt c d y hc hd hy
      have nN := hN2.cell 0
      have nF := hN2.free 0
      simp at nN
      have hh2 := Lib.hid (And.intro hX2 (And.intro hN2 (And.intro hB2 hK2)))
      clear hX2 hN2 hB2 hK2 mt hT2 hXi hTi hoi ki kic hri hBi c4 k5c hT ho hos kn k5
      generalize hu1 : tur l x y c = u1 at *
      generalize hu2 : tur l x y d = u2 at *
      generalize hu3 : tur l c d x = u3 at *
      generalize hu4 : tur l c d y = u4 at *
      have hcb : crossB l (x, y) (c, d) = (decide (x < c) && decide (c ≠ y) && decide (d ≠ x) && decide (d ≠ y) && decide (u1 ≠ u2) && decide (u3 ≠ u4)) := by
        unfold crossB
        dsimp only
        rw [hu1, hu2, hu3, hu4]
      replace hcb := Lib.hid hcb
      replace hu1 := Lib.hid hu1
      replace hu2 := Lib.hid hu2
      replace hu3 := Lib.hid hu3
      replace hu4 := Lib.hid hu4
      have hst := Lib.hid (crossC_snoc l (x, y) (c, d) (qs.map (·.1)))
      have hlk : (linksL os).length ≤ 196 := by have := linksTo_len os (by omega) os.length; unfold linksL; have : os.length * 14 ≤ 14 * 14 := Nat.mul_le_mul_right _ (by omega); omega
      have hbd1 : crossN l (pre.map (·.1)) (linksL os) ≤ 196 * 196 := Nat.le_trans (crossN_le _ _ _) (Nat.mul_le_mul (by simp; omega) hlk)
      have hbd2 : crossC l (x, y) (qs.map (·.1)) ≤ 196 := Nat.le_trans (List.countP_le_length ..) (by simp; omega)
      generalize hN1 : crossN l (pre.map (·.1)) (linksL os) = N1 at *
      generalize hC1 : crossC l (x, y) (qs.map (·.1)) = C1 at *
      have fin0 : crossB l (x, y) (c, d) = false → ∀ k, KeepsFrom Wi.heap.size W' (W'.drewN k) ∧ keepO W.heap.size g o1 W' (W'.drewN k) ∧ CX (fun b => b = w1.heap.size + 1) Wi (W'.drewN k) ∧
          Blk (W'.drewN k) (w1.heap.size + 1) 3 #[.int .i64 ((N1 : Int) + (crossC l (x, y) ((qs ++ [(⟨(c, d), hc, hd⟩ : Lk n)]).map (·.1)) : Nat))] ∧ Below w.heap.size Wi (W'.drewN k) ∧ KeepsFrom W0.heap.size Wi (W'.drewN k) := fun e k => by
        obtain ⟨hX2, hN2, hB2, hK2⟩ := hh2.out
        have e1 : crossC l (x, y) ((qs ++ [(⟨(c, d), hc, hd⟩ : Lk n)]).map (·.1)) = C1 := by rw [List.map_append]; simp only [List.map_cons, List.map_nil]; rw [hst.out, e]; rfl
        rw [e1]
        exact ⟨⟨Nat.le_refl _, fun _ _ _ h _ => h⟩, fun _ _ => rfl, ⟨hX2.size, hX2.same⟩, hN2, below_drewN hB2 k, ⟨hK2.size, hK2.same⟩⟩
      replace fin0 := Lib.hid fin0
      replace hst := Lib.hid hst
      replace hN1 := Lib.hid hN1
      replace hC1 := Lib.hid hC1
      by_cases e1 : x < c
      case neg =>
        gi_wp2_with ((refine wpIn_region_quietR_lit (by kernel_rfl) (by kernel_rfl) (by kernel_rfl) ?_; (repeat (gi_big_quiet_step (fail))); (refine wpQuietIn_nil ?_); (intro _ hw'); (obtain ⟨nq, hw''⟩ := hw'); (subst hw'')))
        exact fin0.out (by rw [hcb.out]; simp [e1]) _
      by_cases e2 : c = y
      case pos =>
        have hf := Lib.hid (fin0.out (by rw [hcb.out]; simp [e2]))
        clear fin0 hst hcb hh2 hall
        subst e2
        gi_wp2_with ((refine wpIn_region_quietR_lit (by kernel_rfl) (by kernel_rfl) (by kernel_rfl) ?_; (repeat (gi_big_quiet_step (fail))); (refine wpQuietIn_nil ?_); (intro _ hw'); (obtain ⟨nq, hw''⟩ := hw'); (subst hw'')))
        exact hf.out _
      have b2 : ((c : Int) != (y : Int)) = true := by simp; omega
      by_cases e3 : d = x
      case pos =>
        have hf := Lib.hid (fin0.out (by rw [hcb.out]; simp [e3]))
        clear fin0 hst hcb hh2 hall
        subst e3
        gi_wp2_with ((refine wpIn_region_quietR_lit (by kernel_rfl) (by kernel_rfl) (by kernel_rfl) ?_; (repeat (gi_big_quiet_step (fail))); (refine wpQuietIn_nil ?_); (intro _ hw'); (obtain ⟨nq, hw''⟩ := hw'); (subst hw'')))
        exact hf.out _
      have b3 : ((d : Int) != (x : Int)) = true := by simp; omega
      by_cases e4 : d = y
      case pos =>
        have hf := Lib.hid (fin0.out (by rw [hcb.out]; simp [e4]))
        clear fin0 hst hcb hh2 hall
        subst e4
        gi_wp2_with ((refine wpIn_region_quietR_lit (by kernel_rfl) (by kernel_rfl) (by kernel_rfl) ?_; (repeat (gi_big_quiet_step (fail))); (refine wpQuietIn_nil ?_); (intro _ hw'); (obtain ⟨nq, hw''⟩ := hw'); (subst hw'')))
        exact hf.out _
      have b4 : ((d : Int) != (y : Int)) = true := by simp; omega
      by_cases e5 : u1 = u2
      case pos =>
        have hf := Lib.hid (fin0.out (by rw [hcb.out]; simp [e5]))
        clear fin0 hst hcb hh2 hall
        subst e5
        gi_wp2_with ((refine wpIn_region_quietR_lit (by kernel_rfl) (by kernel_rfl) (by kernel_rfl) ?_; (repeat (gi_big_quiet_step (fail))); (refine wpQuietIn_nil ?_); (intro _ hw'); (obtain ⟨nq, hw''⟩ := hw'); (subst hw'')))
        exact hf.out _
      have b5 : (u1 != u2) = true := by simp; omega
      by_cases e6 : u3 = u4
      case pos =>
        have hf := Lib.hid (fin0.out (by rw [hcb.out]; simp [e6]))
        clear fin0 hst hcb hh2 hall
        subst e6
        gi_wp2_with ((refine wpIn_region_quietR_lit (by kernel_rfl) (by kernel_rfl) (by kernel_rfl) ?_; (repeat (gi_big_quiet_step (fail))); (refine wpQuietIn_nil ?_); (intro _ hw'); (obtain ⟨nq, hw''⟩ := hw'); (subst hw'')))
        exact hf.out _
      have b6 : (u3 != u4) = true := by simp; omega
      clear fin0
      have hcb1 := Lib.hid (show crossB l (x, y) (c, d) = true by rw [hcb.out]; simp [e1, e2, e3, e4, e5, e6])
      gi_wp2_with ((refine wpIn_region_quietR_lit (by kernel_rfl) (by kernel_rfl) (by kernel_rfl) ?_; (repeat (gi_big_quiet_step (fail))); (refine wpQuietIn_nil ?_); (intro _ hw'); (obtain ⟨nq, hw''⟩ := hw'); (subst hw'')))
      obtain ⟨hX2, hN2, hB2, hK2⟩ := hh2.out
      have e1' : crossC l (x, y) ((qs ++ [(⟨(c, d), hc, hd⟩ : Lk n)]).map (·.1)) = C1 + 1 := by rw [List.map_append]; simp only [List.map_cons, List.map_nil]; rw [hst.out.out, hcb1.out]; rfl
      have hkk : KeepsFrom W0.heap.size W' ((W'.drewN nq).setCell ⟨w1.heap.size + 1, 0, none⟩ (.int .i64 ((N1 : Int) + C1 + 1))) :=
        (show KeepsFrom W0.heap.size W' (W'.drewN nq) from ⟨Nat.le_refl _, fun _ _ _ h _ => h⟩).trans ((KeepsOthers.setCell _ _ _).from _)
      have hkk2 : KeepsFrom Wi.heap.size W' ((W'.drewN nq).setCell ⟨w1.heap.size + 1, 0, none⟩ (.int .i64 ((N1 : Int) + C1 + 1))) :=
        (show KeepsFrom Wi.heap.size W' (W'.drewN nq) from ⟨Nat.le_refl _, fun _ _ _ h _ => h⟩).trans ((KeepsOthers.setCell _ _ _).from _)
      refine ⟨hkk2, fun b hb' => ?_, CX.trans (show CX (fun b => b = w1.heap.size + 1) Wi (W'.drewN nq) from ⟨hX2.size, hX2.same⟩) (.set (g := w1.heap.size + 1) (q := fun b => b = w1.heap.size + 1) rfl _ _), ?_, (below_drewN hB2 nq).setCell (p := ⟨w1.heap.size + 1, 0, none⟩) (by have := hg1; show w.heap.size ≤ w1.heap.size + 1; omega) _, hK2.trans hkk⟩
      · refine Below.heap_setCell _ _ _ _ fun e' => ?_
        dsimp only at e'
        rcases hb' with rfl | rfl | hb'
        · omega
        · omega
        · have := hol.out b hb'; omega
      · rw [e1']
        have := (hN2.drewN nq).set 0 (.int .i64 ((N1 : Int) + C1 + 1))
        rw [show ((C1 + 1 : Nat) : Int) = (C1 : Int) + 1 by omega, ← Int.add_assoc]
        exact this
  case done =>
    rintro D xs W hD hxs ⟨hX, hN, hB⟩ hK
    have nN := hN.cell 0
    simp at nN
    rw [hxs] at nN
    have hh := Lib.hid (And.intro hB hK)
    replace hb := Lib.hid hb
    clear hX hN hB hK hxs
    go_wp2
    obtain ⟨hB, hK⟩ := hh.out
    refine ⟨by simp, .inl ⟨_, _, rfl, run_takeDeferred hK, ?_⟩⟩
    exact ⟨_, by simp [results, Try.results26, go_sem], os, rfl, hord.out, hB.trans (belowK_b (w := w) (Nat.le_refl _) W D _ _ (by have := hb.out.size; omega) hK rfl rfl)⟩
end Go.Proofs.Ythnabheibacbcaa
