/- better, and choose: the best pick of one bidder. -/
import Derived.Test.YtadonoacmpkolaaConf
namespace Go.Proofs.Ytadonoacmpkolaa
open Go.RowKit Go.Shelf
attribute [local go_sem] Oper.semAt_some
attribute [local go_sem high] walk_shl walk_shr walk_bit walk_rem walk_and walk_or walk_andNot

def betterB (a b c d : Int) : Bool := decide (c < a) || decide (a = c) && decide (b < d)

set_option maxHeartbeats 400000 in
theorem better_any (w : World) (a b c d : Int) :
    Calls Try.prog 69 #[.agg #[.int .i64 a, .int .i64 b], .agg #[.int .i64 c, .int .i64 d]] w fun e w' => e = .returned (.bool (betterB a b c d)) ∧ Below w.heap.size w w' := by
  go_enter Try.func69, Try.ntmps69
  go_wp2
  all_goals
    go_ret
    refine ⟨ret_bool ?_, ((Below.refl _ _).alloc (Nat.le_refl _) _).alloc (by simp) _⟩
  all_goals (unfold betterB; simp [*] <;> omega)


theorem keepsOthers_below {W W' : World} (h : Below W.heap.size W W') : KeepsOthers W W' :=
  ⟨h.size, fun k _ hk _ => (h.block k (Array.getElem?_eq_some_iff.1 hk).1).trans hk⟩

/-- the better of what is at hand and bundle s -/
def pickOne (b : List Int) (R : Nat → Int) (items : Nat) (p : Int × Nat) (s : Nat) : Int × Nat :=
  if betterB (at0 b s + R (andN items s)) (s : Int) p.1 (p.2 : Int) = true then (at0 b s + R (andN items s), s) else p
def pickF (b : List Int) (R : Nat → Int) (items : Nat) (l : List Nat) : Int × Nat := l.foldl (pickOne b R items) (-1, 0)
theorem pickF_snoc (b : List Int) (R : Nat → Int) (items : Nat) (l : List Nat) (s : Nat) : pickF b R items (l ++ [s]) = pickOne b R items (pickF b R items l) s := by simp [pickF]
theorem ownFrom_blk {β : Type} (B g t : Nat) (f : β → Array Value) : OwnFrom B (fun (s : β) W => Blk W g t (f s)) := by
  intro s W W' row h hg hr
  refine (hg.block g h.lt fun e => ?_).trans h
  obtain ⟨_, o, ho, hc⟩ := hr g e.symm
  rw [show W.heap[g]? = _ from h] at ho
  cases ho
  cases hc

set_option maxHeartbeats 1000000 in
theorem choose_any (w : World) (bids : List (List Int)) (bv : Value) (Bb Br G n1 who items : Nat) (R : Nat → Int)
    (hbb : w.cell? ⟨Bb, 0, none⟩ = some bv) (hbv : Rows2 w bv bids) (hbr : w.cell? ⟨Br, 0, none⟩ = some (.slice (some ⟨G, 0, none⟩) n1 n1))
    (hR : ∀ j, j < 64 → w.cell? ⟨G, (who + 1) * 64 + j, none⟩ = some (.int .i64 (R j))) (hn1 : n1 = bids.length + 1) (hwho : who < bids.length) (hb6 : bids.length ≤ 6)
    (hit : items < 64) (hrow : items < (rowAt bids who).length) (hbd : ∀ s, 0 ≤ at0 (rowAt bids who) s ∧ at0 (rowAt bids who) s ≤ 1000000) (hRb : ∀ j, 0 ≤ R j ∧ R j ≤ 100000000) :
    Calls Try.prog 67 #[.int .i64 (who : Int), .int .i64 (items : Int), .pointer (some ⟨Bb, 0, none⟩), .pointer (some ⟨Br, 0, none⟩)] w fun e w' =>
      e = .returned (.agg #[.int .i64 (pickF (rowAt bids who) R items (subs items)).1, .int .i64 ((pickF (rowAt bids who) R items (subs items)).2 : Int)]) ∧ Below w.heap.size w w' := by
  refine (callsIn_wide (n := 3)).1 ?_
  refine callsIn_of_wp_marks Try.func67 rfl trivial ?_ rfl
  simp only [Try.ntmps67, List.size_toArray, List.length_cons, List.length_nil, Nat.reduceAdd, Nat.reduceSub, Array.replicate_succ, Array.replicate_zero, List.push_toArray, List.append_toArray, List.nil_append, List.cons_append]
  refine (wpIn_wide (n := 3)).2 ?_
  obtain ⟨b1, o1, c1, rfl, hl1, hm1, hrows⟩ := hbv.addr (by omega)
  obtain ⟨A2, c2, hc2, hi2⟩ := hrows who hwho
  obtain ⟨_, b2, o2, rfl, hat2⟩ := hi2.addr (by omega)
  clear hrows hi2
  generalize rowAt bids who = row at *
  replace hR := Lib.hid hR
  replace hbv := Lib.hid hbv
  replace hn1 := Lib.hid hn1
  replace hat2 := Lib.hid hat2
  replace hbd := Lib.hid hbd
  replace hRb := Lib.hid hRb
  unfold maxLen at hm1
  go_wp2_with (go_at_call 68; refine (within_any _ _).mono ?_; rintro e w1 ⟨rfl, rfl⟩)
  obtain ⟨wL, hwL⟩ : ∃ wL, wL = (((((w.alloc (Obj.cells #[.int .i64 (who : Int)] 3)).alloc (Obj.cells #[.int .i64 (items : Int)] 3)).alloc
              (Obj.cells #[Value.int IntKind.i64 0, Value.int IntKind.i64 0] 90)).alloc
          (Obj.cells #[Value.int IntKind.i64 (-1), Value.int IntKind.i64 0] 90)).alloc (Obj.cells #[.int .i64 (items : Int)] 3)) := ⟨_, rfl⟩
  rw [← hwL]
  have hz : wL.heap.size = w.heap.size + 5 := by rw [hwL]; simp
  have hBw : Below w.heap.size w wL := by
    rw [hwL]
    exact (((((Below.refl _ _).alloc (Nat.le_refl _) _).alloc (by simp) _).alloc (by simp; omega) _).alloc (by simp; omega) _).alloc (by simp; omega) _
  have hk0 : Blk wL w.heap.size 3 #[.int .i64 (who : Int)] := by rw [hwL]; exact ((((Blk.new w 3 _).alloc _).alloc _).alloc _).alloc _
  have hk1 : Blk wL (w.heap.size + 1) 3 #[.int .i64 (items : Int)] := by rw [hwL]; have := Blk.new (w.alloc (Obj.cells #[.int .i64 (who : Int)] 3)) 3 #[.int .i64 (items : Int)]; simp only [World.size_alloc] at this; exact ((this.alloc _).alloc _).alloc _
  have hk3 : Blk wL (w.heap.size + 3) 90 #[.int .i64 (-1), .int .i64 0] := by
    rw [hwL]
    have := Blk.new (((w.alloc (Obj.cells #[.int .i64 (who : Int)] 3)).alloc (Obj.cells #[.int .i64 (items : Int)] 3)).alloc (Obj.cells #[Value.int IntKind.i64 0, Value.int IntKind.i64 0] 90)) 90 #[Value.int IntKind.i64 (-1), Value.int IntKind.i64 0]
    simp only [World.size_alloc] at this
    exact this.alloc _
  have hk2 : Blk wL (w.heap.size + 2) 90 #[.int .i64 0, .int .i64 0] := by
    rw [hwL]
    have := Blk.new ((w.alloc (Obj.cells #[.int .i64 (who : Int)] 3)).alloc (Obj.cells #[.int .i64 (items : Int)] 3)) 90 #[Value.int IntKind.i64 0, Value.int IntKind.i64 0]
    simp only [World.size_alloc] at this
    exact (this.alloc _).alloc _
  have hk4' : Blk wL (w.heap.size + 4) 3 #[.int .i64 (items : Int)] := by
    rw [hwL]
    have := Blk.new ((((w.alloc (Obj.cells #[.int .i64 (who : Int)] 3)).alloc (Obj.cells #[.int .i64 (items : Int)] 3)).alloc (Obj.cells #[Value.int IntKind.i64 0, Value.int IntKind.i64 0] 90)).alloc (Obj.cells #[Value.int IntKind.i64 (-1), Value.int IntKind.i64 0] 90)) 3 #[.int .i64 (items : Int)]
    simp only [World.size_alloc] at this
    exact this
  have hk4 : wL.cell? ⟨w.heap.size + 4, 0, none⟩ = some (.int .i64 (items : Int)) := by
    rw [hwL]
    have := one_cell (w := (((w.alloc (Obj.cells #[.int .i64 (who : Int)] 3)).alloc (Obj.cells #[.int .i64 (items : Int)] 3)).alloc (Obj.cells #[Value.int IntKind.i64 0, Value.int IntKind.i64 0] 90)).alloc (Obj.cells #[Value.int IntKind.i64 (-1), Value.int IntKind.i64 0] 90)) (v := .int .i64 (items : Int)) (t := 3)
    simp only [World.size_alloc] at this
    exact this
  clear hwL
  refine (wpIn_wide (n := 3)).1 ?_
  refine wpIn_rangeFunc_ownF (n := 3) rfl (by omega) (gf := 74) (lb := #[.pointer (some ⟨w.heap.size + 4, 0, none⟩)]) rfl trivial (enters_of Try.func74 (by kernel_rfl) rfl)
    (within1_stops items hit 2 (w.heap.size + 4) (by omega) wL hk4) (fun h k => k.trans h) (fun W l o o' hl h hc hw => World.putObj_heap_other (by omega)) (Below.refl _ _) (fun _ => rfl)
    (fun pre W => ((Blk W w.heap.size 3 #[.int .i64 (who : Int)] ∧ Blk W (w.heap.size + 1) 3 #[.int .i64 (items : Int)]) ∧ Blk W (w.heap.size + 2) 90 #[.int .i64 0, .int .i64 0] ∧ Blk W (w.heap.size + 4) 3 #[.int .i64 (items : Int)]) ∧
      Blk W (w.heap.size + 3) 90 #[.int .i64 (pickF row R items (pre.map (·.1))).1, .int .i64 ((pickF row R items (pre.map (·.1))).2 : Int)] ∧ Below w.heap.size w W)
    (fun _ _ _ => False)
    ((((ownFrom_blk _ _ _ (fun _ => _)).and (ownFrom_blk _ _ _ (fun _ => _))).and ((ownFrom_blk _ _ _ (fun _ => _)).and (ownFrom_blk _ _ _ (fun _ => _)))).and ((ownFrom_blk _ _ _ (fun (pre : List (Sb items)) => #[.int .i64 (pickF row R items (pre.map (·.1))).1, .int .i64 ((pickF row R items (pre.map (·.1))).2 : Int)])).and (ownFrom_below (Nat.le_refl _) (by omega))))
    (fun _ _ _ _ _ h _ _ => h)
    ⟨⟨⟨hk0, hk1⟩, hk2, hk4'⟩, hk3, hBw⟩
    (fun x => { tmps := #[.int .i64 (who : Int), .int .i64 (items : Int), .pointer (some ⟨Bb, 0, none⟩), .pointer (some ⟨Br, 0, none⟩), .pointer (some ⟨w.heap.size, 0, none⟩), .pointer (some ⟨w.heap.size + 1, 0, none⟩), .pointer (some ⟨w.heap.size + 1 + 1, 0, none⟩), .pointer (some ⟨w.heap.size + 1 + 1 + 1, 0, none⟩),
      .int .i64 (x.1 : Int), undef, .agg #[.int .i64 (-1), .int .i64 0], .int .i64 (items : Int), .func (.func 74) #[] #[.pointer (some ⟨w.heap.size + 1 + 1 + 1 + 1, 0, none⟩)], .int .i64 (x.1 : Int), undef, undef, undef, undef, undef, undef, undef, undef, undef, undef, undef, undef, undef, undef, undef,
          undef, undef, undef, undef, undef, undef, undef, undef, undef], defers := [] }) ?assign ?body ?done ?stop
  case assign =>
    intro l x W K hK
    unfold encSb
    gi_wp2
    exact hK
  case body =>
    rintro l pre ⟨x, hx⟩ W ⟨⟨⟨hb0, hb1⟩, hb2, hb4⟩, hb3, hB⟩ _
    have hxle := sub_le hx
    have hxs : small x := small_of (by omega)
    have his : small items := small_of (by omega)
    have hale := andN_le items x
    have old : ∀ {p : Addr} {u : Value}, w.cell? p = some u → W.cell? p = some u := fun {p u} h => (hB.cell (p := p) (lt_of_cell h)).trans h
    have f1 := old hbb
    have f2 := old hc2
    have f3 := old (hat2.out x (by omega))
    have f4 := old hbr
    have f5 := old (hR.out (andN items x) (by omega))
    have f6 := hb0.cell 0
    have f7 := hb1.cell 0
    clear old
    have al : ∀ {p : Addr} {u : Value}, W.cell? p = some u → ∀ o, (W.alloc o).cell? p = some u := fun {p u} h o => (World.cell?_alloc_lt W o p (lt_of_cell h)).trans h
    simp at f6 f7
    have e1 := al f1
    have e2 := al f2
    have e3 := al f3
    have e4 := al f4
    have e5 := al f5
    have e6 := al f6
    have e7 := al f7
    clear al
    have q1 := hbd.out x
    have q2 := hRb.out (andN items x)
    have hwn : who + 1 < n1 := by have := hn1.out; omega
    have hS := Lib.hid (pickF_snoc row R items (pre.map (·.1)) x)
    have hh := Lib.hid (And.intro hb2 (And.intro hb3 (And.intro hb4 hB)))
    have hh01 := Lib.hid (And.intro hb0 hb1)
    clear hb0 hb1 hb2 hb3 hb4 hB
    have hmx : Try.prog.follows .mixedOrders = true := by kernel_rfl
    have g1 : (who : Int) + 1 < (n1 : Int) := by omega
    have g0 : 0 ≤ (who : Int) + 1 := by omega
    have gw : IntKind.i64.wrap ((who : Int) + 1) = (who : Int) + 1 := wrap_small _ (by omega) (by omega)
    have gt : ((who : Int) + 1).toNat = who + 1 := by omega
    have gs : IntKind.i64.wrap (at0 row x + R (andN items x)) = at0 row x + R (andN items x) := wrap_small _ (by omega) (by omega)
    have gi : 0 ≤ (who : Int) ∧ 0 ≤ (x : Int) := ⟨by omega, by omega⟩
    have g5 : x < row.length := by omega
    have g6 : andN items x < 64 := by omega
    have g7 : (andN items x : Int) < 64 := by omega
    gi_wp2
    refine wpIn_region_conf hmx (fun _ => trivial) 19 (fun _ => false) (fun v w1 => v = .pointer (some ⟨W.heap.size, 0, none⟩) ∧ w1 = (W.alloc (.cells #[.int .i64 0, .int .i64 0] 90)).drew)
      (fun _ => #[.int .i64 (who : Int), .int .i64 (items : Int), .pointer (some ⟨Bb, 0, none⟩), .pointer (some ⟨Br, 0, none⟩), .pointer (some ⟨w.heap.size, 0, none⟩), .pointer (some ⟨w.heap.size + 1, 0, none⟩), .pointer (some ⟨w.heap.size + 1 + 1, 0, none⟩), .pointer (some ⟨w.heap.size + 1 + 1 + 1, 0, none⟩),
        .int .i64 (x : Int), .pointer (some ⟨W.heap.size, 0, none⟩), .agg #[.int .i64 (-1), .int .i64 0], .int .i64 (items : Int), .func (.func 74) #[] #[.pointer (some ⟨w.heap.size + 1 + 1 + 1 + 1, 0, none⟩)], .int .i64 (x : Int),
        .slice (some ⟨b1, o1, none⟩) bids.length c1, .int .i64 (who : Int), .pointer (some ⟨b1, o1 + who, none⟩), .slice (some ⟨b2, o2, none⟩) row.length c2, .int .i64 (x : Int), .pointer (some ⟨b2, o2 + x, none⟩), .int .i64 (at0 row x),
        .slice (some ⟨G, 0, none⟩) n1 n1, .int .i64 (who : Int), .int .i64 ((who : Int) + 1), .int .i64 (items : Int), .int .i64 (x : Int), .int .i64 (andN items x : Int), .pointer (some ⟨G, (who + 1) * 64, none⟩), .pointer (some ⟨G, (who + 1) * 64 + andN items x, none⟩), .int .i64 (R (andN items x)),
        .int .i64 (at0 row x + R (andN items x)), .int .i64 (x : Int), .agg #[.int .i64 (at0 row x + R (andN items x)), .int .i64 (x : Int)], undef, undef, undef, undef, undef]) .nilFunc
      (by kernel_rfl) (by kernel_rfl) (by kernel_rfl) (by kernel_rfl) (by decide) ?_ ?_ (fun _ _ _ _ _ _ _ _ => rfl) ?_ ?_ ?_ ?_
    · intro v
      unfold fills
      kernel_rfl
    · rintro v w1 d ⟨rfl, _⟩ hd
      obtain rfl : 9 = d := by simpa [dstOf] using hd
      rfl
    · dsimp only
      repeat (refine readsOk_one rfl ?_ ?_; · go_simp)
      exact readsOk_skip rfl trivial
    · intro v w1 hv
      obtain ⟨rfl, rfl⟩ := hv
      dsimp only
      constructor
      · repeat (refine readsOk_one rfl ?_ ?_; · go_simp)
        exact readsOk_skip rfl trivial
      · repeat (refine hangOk_skip rfl ?_)
        trivial
    · intro o ho a K hK
      obtain rfl := Option.some.inj ho.symm
      have hKK := hK _ _ ⟨rfl, rfl⟩
      clear hK
      go_simp
      exact hKK
    · intro o ho v w1 hv
      obtain ⟨rfl, rfl⟩ := hv
      obtain rfl := Option.some.inj ho.symm
      dsimp only
      have f8 : ((W.alloc (.cells #[.int .i64 0, .int .i64 0] 90)).drew).cell? ⟨W.heap.size, 0, none⟩ = some (.int .i64 0) := by have := (Blk.new W 90 #[.int .i64 0, .int .i64 0]).cell 0; exact this
      go_simp
      clear f8 e1 e2 e3 e4 e5 e6 e7 f1 f2 f3 f4 f5 f6 f7 gi g0 g1 g5 g6 g7 gw gt gs hmx
      obtain ⟨hb2, hb3, hb4, hB⟩ := hh.out
      obtain ⟨v, hv⟩ : ∃ v, v = at0 row x + R (andN items x) := ⟨_, rfl⟩
      rw [← hv]
      have hpk := Lib.hid (show pickF row R items (pre.map (·.1) ++ [x]) = if betterB v (x : Int) (pickF row R items (pre.map (·.1))).1 ((pickF row R items (pre.map (·.1))).2 : Int) = true then (v, x) else pickF row R items (pre.map (·.1)) by rw [hS.out, hv]; rfl)
      replace hv := Lib.hid hv
      generalize pickF row R items (pre.map (·.1)) = q at *
      obtain ⟨c, d⟩ := q
      dsimp only at hb3 hpk
      obtain ⟨W2, hW2⟩ : ∃ W2, W2 = (W.alloc (Obj.cells #[.int .i64 v, .int .i64 (x : Int)] 90)).drew := ⟨_, rfl⟩
      rw [← hW2]
      have k9 : Blk W2 W.heap.size 90 #[.int .i64 v, .int .i64 (x : Int)] := by rw [hW2]; exact Blk.new W 90 _
      have al : ∀ {g t cs}, Blk W g t cs → Blk W2 g t cs := fun h => by rw [hW2]; exact h.alloc _
      have hKO : KeepsOthers W W2 := by rw [hW2]; exact (KeepsOthers.alloc W _).trans (KeepsOthers.drew _)
      have hBW : Below W.heap.size W W2 := by rw [hW2]; exact ((Below.refl _ W).alloc (Nat.le_refl _) _).drew
      have hlt : w.heap.size + 4 < W.heap.size := hb4.lt
      have j3 := al hb3
      have j2 := al hb2
      have j0 := al hh01.out.1
      have j1 := al hh01.out.2
      have j4 := al hb4
      clear al hW2
      have m1 := k9.cell 0
      have m2 := k9.cell 1
      have m3 : W2.cell? ⟨w.heap.size + 1 + 1 + 1, 0, none⟩ = some (.int .i64 c) := j3.cell 0
      have m4 : W2.cell? ⟨w.heap.size + 1 + 1 + 1, 1, none⟩ = some (.int .i64 (d : Int)) := j3.cell 1
      simp at m1 m2
      have hcall := Lib.hid (CallsIn.inRound l ((callsIn_wide (n := 0)).2 (better_any W2 v (x : Int) c (d : Int))))
      have jj := Lib.hid (And.intro (And.intro (And.intro j0 j1) (And.intro j2 j4)) (And.intro k9 j3))
      have hh2 := Lib.hid (And.intro hKO hBW)
      clear k9 j3 j0 j1 j2 j4 hKO hBW hb2 hb3 hb4
      replace hB := Lib.hid hB
      cases hbt : betterB v (x : Int) c (d : Int)
      · rw [hbt] at hcall hpk
        replace hbt := Lib.hid hbt
        gi_wp2_with (refine ⟨trivial, ?_⟩; gi_at_call 69; refine hcall.out.mono ?_; rintro e W3 ⟨rfl, hb3⟩; replace hb3 := Lib.hid hb3)
        obtain ⟨⟨⟨j0, j1⟩, j2, j4⟩, j9, j3⟩ := jj.out
        obtain ⟨hKO, hBW⟩ := hh2.out
        have hb3' := hb3.out
        refine ⟨hKO.trans (keepsOthers_below hb3'), (hb3'.block _ j4.lt).trans (hBW.block _ hlt), ⟨⟨j0.below hb3' j0.lt, j1.below hb3' j1.lt⟩, j2.below hb3' j2.lt, j4.below hb3' j4.lt⟩, ?_, hB.out.trans ((hBW.trans (hb3'.mono hBW.size)).mono hB.out.size)⟩
        rw [List.map_append]
        simp only [List.map_cons, List.map_nil]
        rw [hpk.out]
        exact j3.below hb3' j3.lt
      · rw [hbt] at hcall hpk
        replace hbt := Lib.hid hbt
        gi_wp2_with fail
        refine ⟨trivial, ?_⟩
        refine hcall.out.mono ?_
        rintro e W3 ⟨rfl, hb3⟩
        obtain ⟨⟨⟨j0, j1⟩, j2, j4⟩, j9, j3⟩ := jj.out
        have k3 := j3.below hb3 j3.lt
        have m5 := (hb3.cell (p := ⟨W.heap.size, 0, none⟩) (lt_of_cell m1)).trans m1
        have m6 := (hb3.cell (p := ⟨W.heap.size, 1, none⟩) (lt_of_cell m2)).trans m2
        have m7 : W3.cell? ⟨w.heap.size + 1 + 1 + 1, 0, none⟩ = some (.int .i64 c) := k3.cell 0
        have m8 : W3.cell? ⟨w.heap.size + 1 + 1 + 1, 1, none⟩ = some (.int .i64 (d : Int)) := k3.cell 1
        have m9 : W3.frozen? ⟨w.heap.size + 1 + 1 + 1, 0, none⟩ = false := k3.free 0
        have m10 : W3.frozen? ⟨w.heap.size + 1 + 1 + 1, 1, none⟩ = false := k3.free 1
        replace hb3 := Lib.hid hb3
        replace k3 := Lib.hid k3
        clear j0 j1 j2 j4 j9 j3 m1 m2 m3 m4
        gi_wp2
        obtain ⟨⟨⟨j0, j1⟩, j2, j4⟩, j9, j3⟩ := jj.out
        obtain ⟨hKO, hBW⟩ := hh2.out
        have hb3' := hb3.out
        have hb4 : w.heap.size ≤ w.heap.size + 1 + 1 + 1 := by omega
        have far : ∀ {g t cs}, Blk W2 g t cs → g ≠ w.heap.size + 1 + 1 + 1 → Blk ((W3.setCell ⟨w.heap.size + 1 + 1 + 1, 0, none⟩ (.int .i64 v)).setCell ⟨w.heap.size + 1 + 1 + 1, 1, none⟩ (.int .i64 (x : Int))) g t cs :=
          fun h hne => ((h.below hb3' h.lt).far (p := ⟨w.heap.size + 1 + 1 + 1, 0, none⟩) hne _).far (p := ⟨w.heap.size + 1 + 1 + 1, 1, none⟩) hne _
        refine ⟨((hKO.trans (keepsOthers_below hb3')).trans (KeepsOthers.setCell _ _ _)).trans (KeepsOthers.setCell _ _ _), ?_, ⟨⟨far j0 (by omega), far j1 (by omega)⟩, far j2 (by omega), far j4 (by omega)⟩, ?_, ?_⟩
        · have := (hb3'.block (w.heap.size + 4) j4.lt).trans (hBW.block _ hlt)
          unfold keepB
          rw [Below.heap_setCell _ _ _ _ (by simp), Below.heap_setCell _ _ _ _ (by simp)]
          exact this
        · rw [List.map_append]
          simp only [List.map_cons, List.map_nil]
          rw [hpk.out]
          exact (k3.out.set 0 _).set 1 _
        · exact ((hB.out.trans ((hBW.trans (hb3'.mono hBW.size)).mono hB.out.size)).setCell (p := ⟨w.heap.size + 1 + 1 + 1, 0, none⟩) hb4 _).setCell (p := ⟨w.heap.size + 1 + 1 + 1, 1, none⟩) hb4 _
  case done =>
    rintro D xs W hD hxs ⟨⟨⟨hb0, hb1⟩, hb2, hb4⟩, hb3, hB⟩ hK
    have m1 : W.cell? ⟨w.heap.size + 1 + 1 + 1, 0, none⟩ = _ := hb3.cell 0
    have m2 : W.cell? ⟨w.heap.size + 1 + 1 + 1, 1, none⟩ = _ := hb3.cell 1
    have m3 : W.cell? ⟨w.heap.size + 1 + 1, 0, none⟩ = _ := hb2.cell 0
    have m4 : W.cell? ⟨w.heap.size + 1 + 1, 1, none⟩ = _ := hb2.cell 1
    have m5 : W.frozen? ⟨w.heap.size + 1 + 1, 0, none⟩ = false := hb2.free 0
    have m6 : W.frozen? ⟨w.heap.size + 1 + 1, 1, none⟩ = false := hb2.free 1
    rw [hxs] at m1 m2
    simp at m1 m2 m3 m4
    replace hxs := Lib.hid hxs
    replace hb2 := Lib.hid hb2
    replace hb3 := Lib.hid hb3
    replace hB := Lib.hid hB
    replace hK := Lib.hid hK
    clear hb0 hb1 hb4
    obtain ⟨q, hq⟩ : ∃ q, q = pickF row R items (subs items) := ⟨_, rfl⟩
    obtain ⟨c, d⟩ := q
    rw [← hq] at m1 m2
    replace hq := Lib.hid hq
    dsimp only at m1 m2
    go_wp2
    have hb4 : w.heap.size ≤ w.heap.size + 1 + 1 := by omega
    have hK2 := ((KeepsOthers.setCell W ⟨w.heap.size + 1 + 1, 0, none⟩ (.int .i64 c)).trans (KeepsOthers.setCell _ ⟨w.heap.size + 1 + 1, 1, none⟩ (.int .i64 (d : Int)))).same D _ hK.out rfl
    have hBB := (hB.out.setCell (p := ⟨w.heap.size + 1 + 1, 0, none⟩) hb4 (.int .i64 c)).setCell (p := ⟨w.heap.size + 1 + 1, 1, none⟩) hb4 (.int .i64 (d : Int))
    have hb2' := (hb2.out.set 0 (.int .i64 c)).set 1 (.int .i64 (d : Int))
    generalize (W.setCell ⟨w.heap.size + 1 + 1, 0, none⟩ (.int .i64 c)).setCell ⟨w.heap.size + 1 + 1, 1, none⟩ (.int .i64 (d : Int)) = W5 at *
    refine ⟨by simp, .inl ⟨_, _, rfl, run_takeDeferred hK2, ?_⟩⟩
    have hb5 : Blk (W5.putObj D (.deferred none)) (w.heap.size + 1 + 1) 90 #[.int .i64 c, .int .i64 (d : Int)] := (World.putObj_heap_other (by omega)).trans hb2'
    have m7 := hb5.cell 0
    have m8 := hb5.cell 1
    simp at m7 m8
    refine ⟨_, ?_, by rw [← hq.out], hBB.trans (belowK_b (w := w) (Nat.le_refl _) W5 D _ _ (by omega) hK2 rfl rfl)⟩
    simp [results, Try.results67, go_sem, m7, m8]
  case stop =>
    rintro D c pre W _ _ h _
    exact h.elim
end Go.Proofs.Ytadonoacmpkolaa
