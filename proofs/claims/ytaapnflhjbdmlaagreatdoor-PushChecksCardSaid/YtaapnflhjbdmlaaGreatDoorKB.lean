/- Endless's inner function: what follows a head. No condition. Endless's inner function: what follows a head: the walk. No condition. -/
import Derived.Test.YtaapnflhjbdmlaaGreatDoorKK
namespace Go.Proofs.YtaapnflhjbdmlaaGreatDoor
section
open Go.RowKit Go.Shelf
attribute [local go_sem] Oper.semAt_some

/-- a head in memory -/
def ElH : El Head := ⟨2, fun h => [.int .i64 h.1, .int .u8 h.2], fun _ => rfl, fun x u hu => by
  simp only [List.mem_cons, List.mem_nil_iff, or_false] at hu
  rcases hu with rfl | rfl <;> rfl, by decide⟩
theorem info77 : (Tryz.prog.info? 102).map (fun i => (i.zero, i.size, i.bytes)) = some (some (.agg #[.int .i64 0, .int .u8 0]), 2, 16) := by kernel_rfl
/-- the heads that a rule brings -/
def fol1 (f : Head → List Int) (r : RuleB) : List Head :=
  if r.put.size = 0 then [] else (r.to, ch r.put 0) :: (if r.put.size = 2 then (f (r.to, ch r.put 0)).map (fun q => (q, ch r.put 1)) else [])
def folL (f : Head → List Int) (l : List RuleB) (h : Head) : List Head := (rulesTo l h.1 h.2 l.length).flatMap fun y => fol1 f y.2
/-- the ends from a head, as a lookup finds them -/
theorem SInv.look {lo : Nat} {w : World} {b2 : Nat} {f : Head → List Int} (h : SInv lo w b2 f) (x : Head) : ∃ A n cap, (∀ w' : World, w'.heap[b2]? = w.heap[b2]? → (Instr.lookup 114 (.map (some b2)) (hv x) false).run Tryz.prog w' = .ok (.slice A n cap) w') ∧ OwnE ElI 3 lo w (.slice A n cap) (f x) := by
  obtain ⟨S, hA, hf, hd⟩ := h
  have how := SInv.held hf x
  obtain ⟨A, n, cap, e, hn⟩ := OwnE.shape how
  refine ⟨A, n, cap, fun w' hw' => ?_, by rw [← e]; exact how⟩
  have := AMap.run_lookup (P := Tryz.prog) key77 Tryz.underlying114 (zero48 w') (hA.of_block hw') x false
  rw [this, e]
  rfl
theorem SInv.then {lo : Nat} {w w' : World} {b2 : Nat} {f : Head → List Int} (h : SInv lo w b2 f) (hb : Below w.heap.size w w') : SInv lo w' b2 f := by
  obtain ⟨S, hA, hf, hd⟩ := h
  refine ⟨S, hA.below hb hA.lt, fun x => ?_, hd⟩
  rcases hf x with h1 | ⟨v, h1, h2, h3⟩
  · exact .inl h1
  · exact .inr ⟨v, h1, h2, h3.then hb⟩
theorem SInv.lt {lo : Nat} {w : World} {b2 : Nat} {f : Head → List Int} (h : SInv lo w b2 f) : b2 < w.heap.size := by
  obtain ⟨S, hA, _⟩ := h
  exact hA.lt
theorem fol1_len {f : Head → List Int} {M : Nat} (hf : ∀ x, (f x).length ≤ M) (r : RuleB) : (fol1 f r).length ≤ M + 1 := by
  unfold fol1
  split
  · simp
  · split
    · simp only [List.length_cons, List.length_map]; have := hf (r.to, ch r.put 0); omega
    · simp
theorem flat_len {f : Head → List Int} {M : Nat} (hf : ∀ x, (f x).length ≤ M) : ∀ (pre : List (Nat × RuleB)), (pre.flatMap fun y => fol1 f y.2).length ≤ pre.length * (M + 1)
  | [] => by simp
  | y :: pre => by
    have h1 := fol1_len hf y.2
    have h2 := flat_len hf pre
    rw [List.flatMap_cons, List.length_append, List.length_cons, Nat.add_mul, Nat.one_mul]
    omega
theorem folL_len {f : Head → List Int} {M : Nat} (hf : ∀ x, (f x).length ≤ M) (l : List RuleB) (h : Head) (hl : l.length ≤ 30) : (folL f l h).length ≤ 30 * (M + 1) := by
  unfold folL
  have h1 := flat_len hf (rulesTo l h.1 h.2 l.length)
  have h2 := rulesTo_len l h.1 h.2 l.length
  exact Nat.le_trans h1 (Nat.mul_le_mul_right _ (by omega))
theorem folL_iff {f : Head → List Int} {l : List RuleB} (hf : ∀ x q, q ∈ f x ↔ Pops (l.map RuleB.plain) x.1 x.2 q) (hp : ∀ r ∈ l, r.put.size ≤ 2) {h h' : Head} : h' ∈ folL f l h ↔ Follows (l.map RuleB.plain) h h' := by
  unfold folL Follows
  rw [List.mem_flatMap]
  constructor
  · rintro ⟨⟨i, r⟩, hir, hm⟩
    unfold rulesTo at hir
    obtain ⟨j, hj, e⟩ := List.mem_map.1 hir
    cases e
    obtain ⟨h1, h2⟩ := List.mem_filter.1 hj
    have hi : i < l.length := by simpa using h1
    unfold isHead at h2
    simp only [Bool.and_eq_true, beq_iff_eq] at h2
    refine ⟨i, _, plain_get.2 ⟨hi, rfl⟩, h2.1, h2.2, ?_⟩
    dsimp only at hm
    unfold fol1 at hm
    split at hm
    · cases hm
    · rename_i hz
      rw [List.mem_cons] at hm
      have hc := cs_cons (s := (rAt l i).put) (by omega)
      rcases hm with e | hm
      · exact .inl ⟨_, _, hc, e⟩
      · split at hm
        · rename_i h2'
          obtain ⟨q, hq, rfl⟩ := List.mem_map.1 hm
          exact .inr ⟨_, _, q, cs_two h2', (hf _ _).1 hq, rfl⟩
        · cases hm
  · rintro ⟨i, r, hr, h1, h2, h3⟩
    obtain ⟨hi, rfl⟩ := plain_get.1 hr
    refine ⟨(i, rAt l i), ?_, ?_⟩
    · unfold rulesTo
      refine List.mem_map.2 ⟨i, List.mem_filter.2 ⟨by simpa using hi, ?_⟩, rfl⟩
      unfold isHead
      simp only [Bool.and_eq_true, beq_iff_eq]
      exact ⟨h1, h2⟩
    · dsimp only
      unfold fol1
      have hpm := hp _ (rAt_mem hi)
      rcases h3 with ⟨b, t, h4, rfl⟩ | ⟨b, x, q, h4, h5, rfl⟩
      · have h4' : cs (rAt l i).put = b :: t := h4
        have hz := cs_sz h4'
        simp only [List.length_cons] at hz
        have hc := cs_cons (s := (rAt l i).put) (by omega)
        rw [h4'] at hc
        rw [if_neg (by omega), (List.cons.inj hc).1]
        exact List.mem_cons_self
      · have h4' : cs (rAt l i).put = [b, x] := h4
        have hz : (rAt l i).put.size = 2 := cs_sz h4'
        have hc := cs_two hz
        rw [h4'] at hc
        rw [if_neg (by omega), if_pos hz]
        have e1 : b = ch (rAt l i).put 0 := (List.cons.inj hc).1
        have e2 : x = ch (rAt l i).put 1 := by simpa using (List.cons.inj hc).2
        refine List.mem_cons_of_mem _ (List.mem_map.2 ⟨q, (hf _ _).2 ?_, by rw [e2]⟩)
        rw [← e1]; exact h5
end
section
open Go.RowKit Go.Shelf
attribute [local go_sem] Oper.semAt_some

/-- what holds in a round: the heads found lie in block Bv -/
structure FSt (w WL W1 : World) (Bv Ba : Nat) (bs : List Nat) (cs : Array Value) (W : World) (v : Value) (out : List Head) : Prop where
  var : Blk W Bv 116 #[v]
  own : OwnE ElH 102 WL.heap.size W v out
  bel : Below w.heap.size w W
  keep : keepBs bs W1 W
  oth : KeepsOthers W1 W
  rule : Blk W Ba 79 cs
theorem FSt.step {w WL W1 : World} {Bv Ba : Nat} {bs : List Nat} {cs : Array Value} {W : World} {v : Value} {out : List Head} (h : FSt w WL W1 Bv Ba bs cs W v out) (hbs : ∀ b ∈ bs, b < WL.heap.size ∧ b ≠ Bv) (hBv : Bv < WL.heap.size ∧ w.heap.size ≤ Bv) (hW : WL.heap.size ≤ W1.heap.size) (ob : Obj) (k : Nat) {w2 : World} {v2 : Value} {x : Head}
    (ho : OwnE ElH 102 WL.heap.size w2 v2 (out ++ [x])) (hb : Below WL.heap.size ((W.alloc ob).drewN k) w2) (hg : ((W.alloc ob).drewN k).grownBy w2 v.ownBlock) :
    w2.cell? ⟨Bv, 0, none⟩ = some v ∧ w2.frozen? ⟨Bv, 0, none⟩ = false ∧ FSt w WL W1 Bv Ba bs cs (w2.setCell ⟨Bv, 0, none⟩ v2) v2 (out ++ [x]) := by
  have hWs : W1.heap.size ≤ W.heap.size := h.oth.1
  have hBn : Below W.heap.size W ((W.alloc ob).drewN k) := below_drewN (below1 _ _) k
  have hKO : KeepsOthers W ((W.alloc ob).drewN k) := ⟨hBn.size, fun b _ h _ => (hBn.block b (Array.getElem?_eq_some_iff.1 h).1).trans h⟩
  have hvn := Blk.below h.var hBn h.var.lt
  have hrn := Blk.below h.rule hBn h.rule.lt
  have hon := h.own.then hBn
  have hbel := bthen h.bel (Below.refl _ _)
  have hbel2 : Below w.heap.size w ((W.alloc ob).drewN k) := h.bel.trans (hBn.mono h.bel.size)
  have hkn : keepBs bs W1 ((W.alloc ob).drewN k) := h.keep.trans fun b hb' => hBn.block b (by have := (hbs b hb').1; omega)
  have hKn := h.oth.trans hKO
  generalize (W.alloc ob).drewN k = Wn at *
  have hv2 := Blk.below hvn hb hBv.1
  have hrow : ∀ (j : Nat) (o : Obj), v.ownBlock = some j → Wn.heap[j]? = some o → o.isCells = true := by
    intro j o' hj hoj
    rcases hon.2 with ⟨e, _⟩ | ⟨g', cp', cur, e, _, hgg, _⟩
    · rw [e] at hj; cases hj
    · rw [e] at hj
      cases hj
      rw [hgg] at hoj
      cases hoj
      rfl
  have hr2 : Blk w2 Ba 79 cs := (hg.block Ba hrn.lt fun e => hon.ne_obj hrn (fun cur e' => by cases e') e.symm).trans hrn
  have hne : Ba ≠ Bv := by
    rintro rfl
    have h1 := h.var
    have h2 := h.rule
    unfold Blk at h1 h2
    rw [h1] at h2
    cases h2
  refine ⟨hv2.cell 0, hv2.free 0, ⟨by have := hv2.set 0 v2; simpa using this, ho.far hBv.1 _, (hbel2.trans (hb.mono (by omega))).setCell hBv.2 _, ?_, ?_, hr2.far hne _⟩⟩
  · exact hkn.trans fun b hb' => by rw [Below.heap_setCell _ _ _ _ (hbs b hb').2, hb.block b (hbs b hb').1]
  · exact (hKn.trans (KeepsOthers.of_grownBy hg hrow)).trans (KeepsOthers.setCell _ _ _)

set_option maxRecDepth 8000 in
set_option maxHeartbeats 4000000 in
theorem follows_any (w : World) (C p t : Int) (Bs Bg b2 lo M : Nat) (A : Option Addr) (n cap : Nat) (l : List RuleB) (f : Head → List Int) (h : Rls w (.slice A n cap) l) (hl30 : l.length ≤ 30) (hput : ∀ r ∈ l, r.put.size ≤ 2)
    (hs0 : w.cell? ⟨Bs, 0, none⟩ = some (.int .i64 C)) (hs1 : w.cell? ⟨Bs, 1, none⟩ = some (.slice A n cap)) (hg : w.cell? ⟨Bg, 0, none⟩ = some (.map (some b2))) (hS : SInv lo w b2 f) (hM : ∀ x, (f x).length ≤ M) (hM2 : M ≤ 1000) :
    Calls Tryz.prog 57 #[hv (p, t), .pointer (some ⟨Bs, 0, none⟩), .pointer (some ⟨Bg, 0, none⟩)] w fun e w' => ∃ v', e = .returned v' ∧ OwnE ElH 102 w.heap.size w' v' (folL f l (p, t)) ∧ Below w.heap.size w w' := by
  obtain ⟨W0, hW0⟩ : ∃ W0, (w.alloc (.cells #[.int .i64 p, .int .u8 t] 102)).alloc (.cells #[.slice none 0 0] 116) = W0 := ⟨_, rfl⟩
  have hb0 : Below w.heap.size w W0 := by rw [← hW0]; exact bthen (below1 _ _) (below1 _ _)
  have kv : Blk W0 (w.heap.size + 1) 116 #[.slice none 0 0] := by rw [← hW0]; have := Blk.new (w.alloc (.cells #[.int .i64 p, .int .u8 t] 102)) 116 #[.slice none 0 0]; rw [alloc_size] at this; exact this
  have kh : Blk W0 w.heap.size 102 #[.int .i64 p, .int .u8 t] := by rw [← hW0]; exact (Blk.new w 102 _).alloc _
  obtain ⟨hn2, hcap, hmax⟩ := Els.len h
  unfold maxLen at hmax
  have q0 : W0.cell? ⟨w.heap.size, 0, none⟩ = some (.int .i64 p) := kh.cell 0
  have q1 : W0.cell? ⟨w.heap.size, 1, none⟩ = some (.int .u8 t) := kh.cell 1
  obtain ⟨Br, hBrw, hBr2⟩ := Rls.block h Bs (lt_of_cell hs0)
  have hBrne : Br ≠ w.heap.size + 1 := by omega
  have hBr : Br < W0.heap.size := by have := hb0.size; omega
  have y0 := cell_below hs0 hb0
  have y1 := cell_below hs1 hb0
  replace h := Lib.hid h
  replace hb0 := Lib.hid hb0
  replace hS := Lib.hid hS
  replace hM := Lib.hid hM
  replace hput := Lib.hid hput
  replace hn2 := Lib.hid hn2
  clear kh
  refine (callsIn_wide (n := 3)).1 ?_
  refine callsIn_of_wp_marks Tryz.func57 rfl trivial ?_ rfl
  simp only [Tryz.ntmps57, List.size_toArray, List.length_cons, List.length_nil, Nat.reduceAdd, Nat.reduceSub, Array.replicate_succ, Array.replicate_zero, List.push_toArray, List.append_toArray, List.nil_append, List.cons_append]
  refine (wpIn_wide (n := 3)).2 ?_
  go_wp2_with (go_at_call 54; refine (rules_any _ _ _ _ _ _ _).mono ?_; rintro e w2 ⟨rfl, rfl⟩)
  obtain ⟨WA, hWA⟩ : ∃ WA, W0.alloc (.cells #[.int .i64 C, .slice A n cap] 40) = WA := ⟨_, rfl⟩
  have hBA : Below W0.heap.size W0 WA := by rw [← hWA]; exact below1 _ _
  have hzA : WA.heap.size = W0.heap.size + 1 := by rw [← hWA, alloc_size]
  have kA : Blk WA W0.heap.size 40 #[.int .i64 C, .slice A n cap] := by rw [← hWA]; exact Blk.new W0 40 _
  rw [hWA]
  clear hWA
  obtain ⟨WB, hWB⟩ : ∃ WB, WA.alloc (.cells #[.int .i64 p] 3) = WB := ⟨_, rfl⟩
  have hBB : Below WA.heap.size WA WB := by rw [← hWB]; exact below1 _ _
  have hzB : WB.heap.size = W0.heap.size + 1 + 1 := by rw [← hWB, alloc_size, hzA]
  have kB : Blk WB (W0.heap.size + 1) 3 #[.int .i64 p] := by rw [← hWB, ← hzA]; exact Blk.new WA 3 _
  have kA' := Blk.below kA hBB kA.lt
  rw [hWB]
  clear hWB kA
  obtain ⟨WL, hWL⟩ : ∃ WL, WB.alloc (.cells #[.int .u8 t] 5) = WL := ⟨_, rfl⟩
  have hBC : Below WB.heap.size WB WL := by rw [← hWL]; exact below1 _ _
  have hz0 : WL.heap.size = W0.heap.size + 1 + 1 + 1 := by rw [← hWL, alloc_size, hzB]
  have kC : Blk WL (W0.heap.size + 1 + 1) 5 #[.int .u8 t] := by rw [← hWL, ← hzB]; exact Blk.new WB 5 _
  have kB' := Blk.below kB hBC kB.lt
  have kA'' := Blk.below kA' hBC kA'.lt
  rw [hWL]
  clear hWL kA' kB
  have hBG0 := bthen hBA (bthen hBB hBC)
  have kv0 : Blk WL (w.heap.size + 1) 116 #[.slice none 0 0] := Blk.below kv hBG0 kv.lt
  have hbW := bthen hb0.out hBG0
  have hr0 : Rls WL (.slice A n cap) l := Els.then h.out hbW
  have hsA : WL.cell? ⟨W0.heap.size, 1, none⟩ = some (.slice A n cap) := kA''.cell 1
  have hsB : WL.cell? ⟨W0.heap.size + 1, 0, none⟩ = some (.int .i64 p) := kB'.cell 0
  have hsC : WL.cell? ⟨W0.heap.size + 1 + 1, 0, none⟩ = some (.int .u8 t) := kC.cell 0
  have hW01 : w.heap.size + 1 < W0.heap.size := kv.lt
  have hlt : ∀ b ∈ headBs W0.heap.size (W0.heap.size + 1) (W0.heap.size + 1 + 1) Br, b < WL.heap.size := by
    intro b hb'
    simp only [headBs, List.mem_cons, List.mem_nil_iff, or_false] at hb'
    rcases hb' with rfl | rfl | rfl | rfl <;> omega
  have hne : ∀ b ∈ headBs W0.heap.size (W0.heap.size + 1) (W0.heap.size + 1 + 1) Br, b ≠ w.heap.size + 1 := by
    intro b hb'
    simp only [headBs, List.mem_cons, List.mem_nil_iff, or_false] at hb'
    rcases hb' with rfl | rfl | rfl | rfl
    · omega
    · omega
    · omega
    · exact hBrne
  have hz1 : W0.heap.size + 1 + 1 + 1 ≤ WL.heap.size := Nat.le_of_eq hz0.symm
  have hz2 : WL.heap.size ≤ W0.heap.size + 1 + 1 + 1 := Nat.le_of_eq hz0
  have hzA1 : WA.heap.size ≤ W0.heap.size + 1 := Nat.le_of_eq hzA
  clear hz0 hzA hzB
  have hrl := rulesTo_len l p t l.length
  have hflat : ∀ pre : List RB, (pre.flatMap fun y => fol1 f y.1.2).length ≤ pre.length * (M + 1) := fun pre => by
    have := flat_len hM.out (pre.map (·.1))
    rwa [List.flatMap_map, List.length_map] at this
  replace hflat := Lib.hid hflat
  obtain ⟨fr, hfr⟩ : ∃ fr : RB → Nat → Act, fr = fun y Ba => { tmps := #[hv (p, t), .pointer (some ⟨Bs, 0, none⟩), .pointer (some ⟨Bg, 0, none⟩), .pointer (some ⟨w.heap.size, 0, none⟩), .slice none 0 0, .pointer (some ⟨w.heap.size + 1, 0, none⟩), undef, .pointer (some ⟨Ba, 0, none⟩), undef, undef,
      sv C (.slice A n cap), .pointer (some ⟨w.heap.size, 0, none⟩), .int .i64 p, .pointer (some ⟨w.heap.size, 1, none⟩), .int .u8 t, .func (.func 78) #[] #[.pointer (some ⟨W0.heap.size, 0, none⟩), .pointer (some ⟨W0.heap.size + 1, 0, none⟩), .pointer (some ⟨W0.heap.size + 1 + 1, 0, none⟩)],
      .int .i64 (y.1.1 : Int), rv y.1.2, undef, undef, undef, undef, undef, undef, undef, undef, undef, undef, undef, undef, undef, undef, undef, undef, undef, undef, undef, undef, undef, undef, undef, undef, undef, undef, undef, undef, undef, undef, undef, undef, undef, undef, undef, undef, undef, undef, undef], defers := [] } := ⟨_, rfl⟩
  replace hfr := Lib.hid hfr
  refine (wpIn_wide (n := 3)).1 ?_
  refine wpIn_rangeFunc_ownH (n := 3) rfl (by omega) (gf := 78) (lb := #[.pointer (some ⟨W0.heap.size, 0, none⟩), .pointer (some ⟨W0.heap.size + 1, 0, none⟩), .pointer (some ⟨W0.heap.size + 1 + 1, 0, none⟩)]) rfl trivial (enters_of Tryz.func78 (by kernel_rfl) rfl)
    (rules1_stops l p t A n cap W0.heap.size (W0.heap.size + 1) (W0.heap.size + 1 + 1) Br 2 (by omega) WL hsA hsB hsC hr0 hl30 hput.out (by omega) hBr2) (fun h k => h.trans k)
    (fun W l o o' hl' h hc hw b hb' => World.putObj_heap_other (by have := hlt b hb'; omega)) (Below.refl _ _) (fun _ => rfl)
    (fun pre W => (∃ v', Blk W (w.heap.size + 1) 116 #[v'] ∧ OwnE ElH 102 WL.heap.size W v' (pre.flatMap fun y => fol1 f y.1.2)) ∧ Below w.heap.size w W ∧ keepBs (headBs W0.heap.size (W0.heap.size + 1) (W0.heap.size + 1 + 1) Br) WL W)
    (fun _ _ _ => False)
    ((ownFrom_var (E := ElH) _ _ _ _ _ (fun (pre : List RB) => pre.flatMap fun y => fol1 f y.1.2)).and ((ownFrom_below (Nat.le_refl _) (by omega)).and (ownFrom_keepBs hlt)))
    (fun _ _ _ _ _ h _ _ => h)
    ⟨⟨_, kv0, OwnE.nil _ _ _⟩, hbW, keepBs.refl _ _⟩
    (fun y a' W => ∃ Ba, WL.heap.size ≤ Ba ∧ Blk W Ba 79 #[.int .i64 y.1.2.fr, .int .u8 y.1.2.top, .int .i64 y.1.2.to, .string y.1.2.put] ∧ a' = fr y Ba)
    (fun y a' => by
      rintro _ W W' row ⟨Ba, h1, h2, h3⟩ hg hr'
      exact ⟨Ba, h1, ownFrom_blk _ _ _ (fun (_ : Unit) => _) () W W' row h2 hg hr', h3⟩)
    ?assign ?body ?done ?stop
  case stop =>
    rintro D c pre W _ _ h _
    exact h.elim
  case assign =>
    rintro l' pre ⟨⟨i, ⟨f', t', o, p'⟩⟩, hpp⟩ W K ⟨⟨v', hv, ho⟩, hB, hK0⟩ hK
    have hlt2 := hK0.lt hlt
    have hWz : WL.heap.size ≤ W.heap.size := by have := hlt2 (W0.heap.size + 1 + 1) (by simp [headBs]); omega
    replace hK := Lib.hid hK
    have hh := Lib.hid (And.intro hv (And.intro ho (And.intro hB hK0)))
    clear hv ho hB hK0
    unfold encIR
    gi_wp2
    obtain ⟨hv, ho, hB, hK0⟩ := hh.out
    refine hK.out _ _ ((KeepsOthers.alloc _ _).from _) ((keepBs.refl _ _).alloc _ hlt2) ⟨⟨v', hv.alloc _, ho.then (below1 _ _)⟩, hB.trans ((below1 _ _).mono hB.size), hK0.alloc _ hlt⟩ ⟨W.heap.size, hWz, Blk.new W 79 _, by rw [hfr.out]⟩
  case body =>
    rintro l' pre ⟨⟨i, ⟨f', t', o, p'⟩⟩, hpp⟩ a' W hl' ⟨rr, hrr⟩ ⟨⟨v', hv, ho⟩, hB, hK0⟩ ⟨Ba, hBa, kb, rfl⟩ hpl
    rw [hfr.out]
    dsimp only at kb hpp
    have hlt2 := hK0.lt hlt
    have hWz : WL.heap.size ≤ W.heap.size := by have := hlt2 (W0.heap.size + 1 + 1) (by simp [headBs]); omega
    have hst : FSt w WL W (w.heap.size + 1) Ba (headBs W0.heap.size (W0.heap.size + 1) (W0.heap.size + 1 + 1) Br) #[.int .i64 f', .int .u8 t', .int .i64 o, .string p'] W v' (pre.flatMap fun y => fol1 f y.1.2) := ⟨hv, ho, hB, keepBs.refl _ _, KeepsOthers.refl _, kb⟩
    have hfin : ∀ (W' : World) (v2 : Value), FSt w WL W (w.heap.size + 1) Ba (headBs W0.heap.size (W0.heap.size + 1) (W0.heap.size + 1 + 1) Br) #[.int .i64 f', .int .u8 t', .int .i64 o, .string p'] W' v2 ((pre.flatMap fun y => fol1 f y.1.2) ++ fol1 f ⟨f', t', o, p'⟩) →
        (∃ v', Blk W' (w.heap.size + 1) 116 #[v'] ∧ OwnE ElH 102 WL.heap.size W' v' ((pre ++ [(⟨(i, ⟨f', t', o, p'⟩), hpp⟩ : RB)]).flatMap fun y => fol1 f y.1.2)) ∧ Below w.heap.size w W' ∧ keepBs (headBs W0.heap.size (W0.heap.size + 1) (W0.heap.size + 1 + 1) Br) WL W' := fun W' v2 h => ⟨⟨v2, h.var, by rw [List.flatMap_append]; simpa using h.own⟩, h.bel, hK0.trans h.keep⟩
    have hbs : ∀ b ∈ headBs W0.heap.size (W0.heap.size + 1) (W0.heap.size + 1 + 1) Br, b < WL.heap.size ∧ b ≠ w.heap.size + 1 := fun b hb => ⟨hlt b hb, hne b hb⟩
    have hstep := Lib.hid (fun (W' : World) (v : Value) (out : List Head) (h : FSt w WL W (w.heap.size + 1) Ba (headBs W0.heap.size (W0.heap.size + 1) (W0.heap.size + 1 + 1) Br) #[.int .i64 f', .int .u8 t', .int .i64 o, .string p'] W' v out) => h.step hbs (by omega) hWz)
    replace hfin := Lib.hid hfin
    have hflen := hflat.out pre
    have hplen : pre.length * (M + 1) ≤ 31 * 1001 := Nat.mul_le_mul (by omega) (by omega)
    obtain ⟨A', n', cap', rfl, hn'⟩ := OwnE.shape ho
    have t3 : W.cell? ⟨Ba, 3, none⟩ = some (.string p') := kb.cell 3
    clear hv ho hB hbs hlt2 kb
    replace hst := Lib.hid hst
    replace hK0 := Lib.hid hK0
    by_cases hz0 : p'.size = 0
    · have hs0' := str_nil hz0
      have hf0 := Lib.hid (show fol1 f ⟨f', t', o, p'⟩ = [] by unfold fol1; rw [if_pos hz0])
      replace hz0 := Lib.hid hz0
      gi_wp2
      exact ⟨hst.out.oth.from _, hst.out.keep, hfin.out _ _ (by rw [hf0.out, List.append_nil]; exact hst.out)⟩
    have hzp : 0 < p'.size := by omega
    have hs0' := str_ne hzp
    have hch := (ch_eq hzp).symm
    have hpp' : p'.size ≤ 2 := hpp
    obtain ⟨ob, hob⟩ : ∃ ob : Obj, ob = .cells #[.int .i64 o, .int .u8 (ch p' 0)] 102 := ⟨_, rfl⟩
    have t0 : ∀ g : Two W ob, g.w1.cell? ⟨w.heap.size + 1, 0, none⟩ = some (.slice A' n' cap') := fun g => g.cell (by have := hst.out.var.cell 0; simpa using this)
    have t2 : ∀ g : Two W ob, g.w1.cell? ⟨Ba, 2, none⟩ = some (.int .i64 o) := fun g => g.cell (by have := hst.out.rule.cell 2; simpa using this)
    have t3' : ∀ g : Two W ob, g.w1.cell? ⟨Ba, 3, none⟩ = some (.string p') := fun g => g.cell (by have := hst.out.rule.cell 3; simpa using this)
    gi_wp2
    refine wpIn_region_two 7 (.slice (some ⟨W.heap.size, 0, none⟩) 1 1) ob (by kernel_rfl) (by kernel_rfl) (by kernel_rfl) (by kernel_rfl) rfl ?_
    simp only [List.take_succ_cons, List.take_zero, List.drop_succ_cons, List.drop_zero]
    repeat (gi_big_quiet_step (fail))
    refine wpQuietIn_nil ?_
    clear t0 t2 t3' t3
    constructor
    · refine ⟨fun w' => rfl, rfl, ?_⟩
      rintro _ ⟨k, rfl⟩
      refine ⟨_, ⟨k, rfl⟩, ?_⟩
      rw [hob]
      go_simp
      rfl
    rintro _ ⟨k, rfl⟩
    have hBn : Below W.heap.size W ((W.alloc ob).drewN k) := below_drewN (below1 _ _) k
    have hkn : Blk ((W.alloc ob).drewN k) W.heap.size 102 #[.int .i64 o, .int .u8 (ch p' 0)] := by rw [hob]; exact (Blk.new W 102 _).drewN k
    have hon := hst.out.own.then hBn
    have hst1 := Lib.hid (fun (w2 : World) (v2 : Value) (x : Head) h1 h2 h3 => hstep.out _ _ _ hst.out ob k (w2 := w2) (v2 := v2) (x := x) h1 h2 h3)
    generalize (W.alloc ob).drewN k = Wn at *
    have hWn : WL.heap.size ≤ Wn.heap.size := by have := hBn.size; omega
    refine wpListIn_append_els (E := ElH) _ rfl (.tmp 21) (.tmp 28) 116 rfl WL.heap.size Tryz.underlying116 info77 rfl rfl (by decide) (.slice A' n' cap') (pre.flatMap fun y => fol1 f y.1.2) rfl hon (.slice (some ⟨W.heap.size, 0, none⟩) 1 1) rfl [(o, ch p' 0)] (els_one hkn rfl) (by simp only [List.length_cons, List.length_nil]; omega) hWn ?_
    intro v2 w2 ho2 hb2 hgx hlx
    clear hlx
    obtain ⟨A2, n2, cap2, rfl, hn2'⟩ := OwnE.shape ho2
    obtain ⟨m1, m2, hst2⟩ := hst1.out _ _ _ ho2 hb2 hgx
    obtain ⟨W3, hW3⟩ : ∃ W3, w2.setCell ⟨w.heap.size + 1, 0, none⟩ (.slice A2 n2 cap2) = W3 := ⟨_, rfl⟩
    rw [hW3] at hst2
    have r3 : W3.cell? ⟨Ba, 3, none⟩ = some (.string p') := by have := hst2.rule.cell 3; simpa using this
    have r2 : W3.cell? ⟨Ba, 2, none⟩ = some (.int .i64 o) := by have := hst2.rule.cell 2; simpa using this
    have e3 : W3.cell? ⟨Bg, 0, none⟩ = some (.map (some b2)) := cell_below hg hst2.bel
    replace hst2 := Lib.hid hst2
    clear ho2 hb2 hgx hkn hon hst1 hBn hob
    by_cases hz1' : p'.size = 1
    · have hzq : ((p'.size : Int) == 2) = false := by rw [hz1']; rfl
      have hf1 := Lib.hid (show fol1 f ⟨f', t', o, p'⟩ = [(o, ch p' 0)] by unfold fol1; dsimp only; rw [if_neg (show ¬ p'.size = 0 by omega), if_neg (show ¬ p'.size = 2 by omega)])
      replace hz1' := Lib.hid hz1'
      gi_wp2
      exact ⟨hst2.out.oth.from _, hst2.out.keep, hfin.out _ _ (by rw [hf1.out]; exact hst2.out)⟩
    have hz2' : p'.size = 2 := by omega
    have hzq : ((p'.size : Int) == 2) = true := by rw [hz2']; rfl
    have hz1p : 1 < p'.size := by omega
    have hch1 := (ch_eq hz1p).symm
    have hf2 := Lib.hid (show fol1 f ⟨f', t', o, p'⟩ = (o, ch p' 0) :: (f (o, ch p' 0)).map (fun q => (q, ch p' 1)) by unfold fol1; dsimp only; rw [if_neg (show ¬ p'.size = 0 by omega), if_pos hz2'])
    replace hz2' := Lib.hid hz2'
    obtain ⟨Aq, nq, cq, hlk, hoq⟩ := hS.out.look (o, ch p' 0)
    have hnq := Lib.hid (Els.len hoq.els).1
    have hqM := hM.out (o, ch p' 0)
    have u0 : ∀ n, (W3.drewN n).cell? ⟨Bg, 0, none⟩ = some (.map (some b2)) := fun _ => e3
    have u1 : ∀ n, (Instr.lookup 114 (.map (some b2)) (hv (o, ch p' 0)) false).run Tryz.prog (W3.drewN n) = .ok (.slice Aq nq cq) (W3.drewN n) := fun n => hlk _ (hst2.out.bel.block b2 hS.out.lt)
    unfold hv at u1
    dsimp only at u1
    have hoq := Lib.hid hoq
    gi_wp2
    refine wpIn_region_quietR_lit (by kernel_rfl) (by kernel_rfl) (by kernel_rfl) ?_
    repeat (gi_big_quiet_step (fail))
    refine wpQuietIn_nil ?_
    rintro _ ⟨k3, rfl⟩
    clear u0 u1 hlk
    have hst3 := Lib.hid (show FSt w WL W (w.heap.size + 1) Ba (headBs W0.heap.size (W0.heap.size + 1) (W0.heap.size + 1 + 1) Br) #[.int .i64 f', .int .u8 t', .int .i64 o, .string p'] (W3.drewN k3) (.slice A2 n2 cap2) ((pre.flatMap fun y => fol1 f y.1.2) ++ [(o, ch p' 0)]) from
      ⟨hst2.out.var.drewN _, hst2.out.own.then (below_drewN (Below.refl _ _) k3), below_drewN hst2.out.bel k3, hst2.out.keep, hst2.out.oth.trans ⟨Nat.le_refl _, fun b _ h _ => h⟩, hst2.out.rule.drewN _⟩)
    generalize W3.drewN k3 = W4 at *
    clear r2 r3 e3 m1 m2
    gi_wp2
    gi_loopw [43] (fun c wr => ∃ (j : Nat) (v : Value), j ≤ nq ∧ c = .int .i64 (j : Int) ∧ Hid (FSt w WL W (w.heap.size + 1) Ba (headBs W0.heap.size (W0.heap.size + 1) (W0.heap.size + 1 + 1) Br) #[.int .i64 f', .int .u8 t', .int .i64 o, .string p'] wr v ((pre.flatMap fun y => fol1 f y.1.2) ++ (o, ch p' 0) :: ((f (o, ch p' 0)).take j).map (fun q => (q, ch p' 1))))) (fun c _ => nq - (intOf c).toNat)
    case atStart => exact ⟨0, _, Nat.zero_le _, rfl, hst3⟩
    case round =>
      obtain ⟨j, v5, hj, rfl, hst5⟩ := hrel
      by_cases hlt5 : j < nq
      case neg =>
        have hjl : (f (o, ch p' 0)).take j = f (o, ch p' 0) := List.take_of_length_le (by have := hnq.out; omega)
        have hfe := Lib.hid hjl
        clear hjl
        gi_wp2
        exact ⟨hst5.out.oth.from _, hst5.out.keep, hfin.out _ _ (by rw [hf2.out]; have := hst5.out; rw [hfe.out] at this; exact this)⟩
      have hjl : j < (f (o, ch p' 0)).length := by have := hnq.out; omega
      have hEl := hoq.out.els.then hst5.out.bel
      obtain ⟨bq, offq, rfl, hatq⟩ := Els.cell hEl (by omega)
      have eq := hatq j hjl 0 _ rfl
      have htk : (f (o, ch p' 0)).take (j + 1) = (f (o, ch p' 0)).take j ++ [(f (o, ch p' 0))[j]] := List.take_succ_eq_append_getElem hjl
      clear hatq hEl
      generalize (f (o, ch p' 0))[j] = q at *
      replace eq : wr.cell? ⟨bq, offq + j, none⟩ = some (.int .i64 q) := by simpa [ElI] using eq
      replace htk := Lib.hid htk
      obtain ⟨A5, n5, cap5, rfl, hn5⟩ := OwnE.shape hst5.out.own
      obtain ⟨ob, hob⟩ : ∃ ob : Obj, ob = .cells #[.int .i64 q, .int .u8 (ch p' 1)] 102 := ⟨_, rfl⟩
      have t0 : ∀ g : Two wr ob, g.w1.cell? ⟨w.heap.size + 1, 0, none⟩ = some (.slice A5 n5 cap5) := fun g => g.cell (by have := hst5.out.var.cell 0; simpa using this)
      have t3' : ∀ g : Two wr ob, g.w1.cell? ⟨Ba, 3, none⟩ = some (.string p') := fun g => g.cell (by have := hst5.out.rule.cell 3; simpa using this)
      have hjtl : ((f (o, ch p' 0)).take j).length ≤ M := Nat.le_trans (List.length_take_le' _ _) hqM
      gi_wp2
      refine wpIn_region_two 6 (.slice (some ⟨wr.heap.size, 0, none⟩) 1 1) ob (by kernel_rfl) (by kernel_rfl) (by kernel_rfl) (by kernel_rfl) rfl ?_
      simp only [List.take_succ_cons, List.take_zero, List.drop_succ_cons, List.drop_zero]
      repeat (gi_big_quiet_step (fail))
      refine wpQuietIn_nil ?_
      clear t0 t3' eq
      constructor
      · refine ⟨fun w' => rfl, rfl, ?_⟩
        rintro _ ⟨k, rfl⟩
        refine ⟨_, ⟨k, rfl⟩, ?_⟩
        rw [hob]
        go_simp
        rfl
      rintro _ ⟨k, rfl⟩
      have hBn : Below wr.heap.size wr ((wr.alloc ob).drewN k) := below_drewN (below1 _ _) k
      have hkn : Blk ((wr.alloc ob).drewN k) wr.heap.size 102 #[.int .i64 q, .int .u8 (ch p' 1)] := by rw [hob]; exact (Blk.new wr 102 _).drewN k
      have hon := hst5.out.own.then hBn
      have hwr : WL.heap.size ≤ wr.heap.size := Nat.le_trans hWz hst5.out.oth.1
      have hst1 := Lib.hid (fun (w2 : World) (v2 : Value) (x : Head) h1 h2 h3 => hstep.out _ _ _ hst5.out ob k (w2 := w2) (v2 := v2) (x := x) h1 h2 h3)
      generalize (wr.alloc ob).drewN k = Wn at *
      have hWn : WL.heap.size ≤ Wn.heap.size := by have := hBn.size; omega
      refine wpListIn_append_els (E := ElH) _ rfl (.tmp 47) (.tmp 53) 116 rfl WL.heap.size Tryz.underlying116 info77 rfl rfl (by decide) (.slice A5 n5 cap5) _ rfl hon (.slice (some ⟨wr.heap.size, 0, none⟩) 1 1) rfl [(q, ch p' 1)] (els_one hkn rfl) (by simp only [List.length_cons, List.length_nil, List.length_append, List.length_map]; omega) hWn ?_
      intro v6 w6 ho6 hb6 hgx6 hlx6
      clear hlx6
      obtain ⟨A6, n6, cap6, rfl, hn6⟩ := OwnE.shape ho6
      obtain ⟨m1, m2, hst6⟩ := hst1.out _ _ _ ho6 hb6 hgx6
      replace hst6 := Lib.hid hst6
      clear ho6 hb6 hgx6 hkn hon hst1 hBn hob
      gi_wp2
      go_roundw
      case rel =>
        refine ⟨j + 1, .slice A6 n6 cap6, by omega, by go_num, ?_⟩
        show FSt _ _ _ _ _ _ _ _ _ _
        rw [htk.out, List.map_append, List.map_cons, List.map_nil, ← List.cons_append, ← List.append_assoc]
        exact hst6.out
      case measure => simp [intOf]; omega
  case done =>
    rintro D xs W hD hxs ⟨⟨v', hv, ho⟩, hB, hK0⟩ hK
    have hmap : (xs.flatMap fun y => fol1 f y.1.2) = folL f l (p, t) := by unfold folL; rw [← hxs, List.flatMap_map]
    rw [hmap] at ho
    have m1 : W.cell? ⟨w.heap.size + 1, 0, none⟩ = some v' := hv.cell 0
    obtain ⟨A', n', cap', rfl, hn'⟩ := OwnE.shape ho
    have hh := Lib.hid (And.intro ho (And.intro hB hK))
    clear hv ho hB hK0 hK hxs hmap hn'
    go_wp2
    obtain ⟨ho, hB, hK⟩ := hh.out
    refine ⟨by simp, .inl ⟨_, _, rfl, run_takeDeferred hK, ?_⟩⟩
    refine ⟨.slice A' n' cap', by simp [results, Tryz.results57, go_sem], _, rfl, ?_, hB.trans (belowK_b (w := w) (Nat.le_refl _) W D _ _ (by omega) hK rfl rfl)⟩
    exact (ho.putObj _ hK rfl).lo_le (by omega)
end
end Go.Proofs.YtaapnflhjbdmlaaGreatDoor
