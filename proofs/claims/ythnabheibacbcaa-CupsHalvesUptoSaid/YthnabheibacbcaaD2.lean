/- The longest cups. No condition. -/
import Derived.Test.YthnabheibacbcaaD1
import Derived.Test.YthnabheibacbcaaC10
import Derived.Test.YthnabheibacbcaaAM
import Derived.Test.YthnabheibacbcaaRev
namespace Go.Proofs.Ythnabheibacbcaa
open Go.RowKit Go.Shelf
attribute [local go_sem] Oper.semAt_some
def ke2 (p : Nat × Nat) : Value := .agg #[.int .i64 (p.1 : Int), .int .i64 (p.2 : Int)]
theorem equal99 (w : World) (a b : Nat × Nat) : (Op.equal 99 (ke2 a) (ke2 b)).run Try.prog w = .ok (decide (a = b)) w := by
  unfold ke2 Op.equal
  rw [show Op.maxDepth = 9998 + 1 + 1 from rfl, run_equalIn_agg _ _ _ _ _ (by kernel_rfl) (by kernel_rfl)]
  have hf : Try.prog.fieldsOf 99 = #[{ name := "i", type := 3, offset := 0, embedded := false, tag := "", pkgPath := "squeegee/cups", byteOffset := 0 }, { name := "j", type := 3, offset := 1, embedded := false, tag := "", pkgPath := "squeegee/cups", byteOffset := 8 }] := by kernel_rfl
  rw [hf]
  go_simp
  obtain ⟨a1, a2⟩ := a
  obtain ⟨b1, b2⟩ := b
  by_cases e1 : a1 = b1 <;> by_cases e2 : a2 = b2 <;> simp [e1, e2] <;> omega
theorem fld0 (w : World) (a b : Value) : (Instr.field 101 (.agg #[a, b]) 0).run Try.prog w = .ok a w := by kernel_rfl
theorem fld1 (w : World) (a b : Value) : (Instr.field 101 (.agg #[a, b]) 1).run Try.prog w = .ok b w := by kernel_rfl
attribute [local go_sem] fld0 fld1
theorem key99 : KeyT Try.prog 99 ke2 := by
  refine KeyT.deep Try.underlying99 (fun a b => rfl) (fun w em a => ?_) equal99 (fun a => ?_)
  · unfold ke2
    have hp : ∀ i (x y : Value) w, i < 2 → (part 3 #[x, y] i).run Try.prog w = .ok (if i = 0 then x else y) w := fun i x y w hi => by
      rcases i with _ | _ | i
      · kernel_rfl
      · kernel_rfl
      · omega
    have e1 := hp 0 (.int .i64 a.1) (.int .i64 a.2)
    have e2 := hp 1 (.int .i64 a.1) (.int .i64 a.2)
    simp at e1 e2
    have key : ∀ d, (Instr.checkKey em (d + 1 + 1) 99 (.agg #[.int .i64 (a.1 : Int), .int .i64 (a.2 : Int)])).run Try.prog w = .ok () w := fun d => by
      simp only [Instr.checkKey, Sem.run_bind, run_underlying Try.underlying99, Result.andThen_ok]
      simp [e1, e2, ← Array.forIn_toList]
    exact key 9998
  · simp [ke2, Instr.sameBits]

def z2 : Value := .agg #[.int .i64 0, .int .i64 0]
def enc2 (x : Int × Int) : Value := .agg #[.int .i64 x.1, .int .i64 x.2]
theorem zero101 (w : World) : (zeroValue 101).run Try.prog w = .ok z2 w := by kernel_rfl
/-- a map of links, told by a function -/
def KM (w : World) (b : Nat) (k : KK) : Prop := ∃ L, AMap ke2 w b L ∧ ∀ q, (aget L q).getD z2 = enc2 (k q)
theorem KM.of_block {w w' : World} {b : Nat} {k : KK} (h : KM w b k) (hb : w'.heap[b]? = w.heap[b]?) : KM w' b k := by
  obtain ⟨L, h1, h2⟩ := h
  exact ⟨L, h1.of_block hb, h2⟩
theorem KM.lt {w : World} {b : Nat} {k : KK} (h : KM w b k) : b < w.heap.size := by obtain ⟨L, h1, h2⟩ := h; exact h1.lt
theorem KM.then {w w' : World} {b : Nat} {k : KK} (h : KM w b k) (hb : Below w.heap.size w w') : KM w' b k := h.of_block (hb.block b h.lt)
theorem KM.drewN {w : World} {b : Nat} {k : KK} (h : KM w b k) (n : Nat) : KM (w.drewN n) b k := h
theorem KM.put {w : World} {b : Nat} {L : List ((Nat × Nat) × Value)} {k : KK} (hL : ∀ q, (aget L q).getD z2 = enc2 (k q)) (p : Nat × Nat) (v : Int × Int) (h : AMap ke2 w b (aput L p (enc2 v))) : KM w b (kupd k p v) := by
  refine ⟨_, h, fun q => ?_⟩
  rw [aget_aput]
  unfold kupd
  by_cases e : q = p
  · rw [if_pos e, if_pos e]; rfl
  · rw [if_neg e, if_neg e]; exact hL q
theorem aget_kupd {L : List ((Nat × Nat) × Value)} {k : KK} (hL : ∀ q, (aget L q).getD z2 = enc2 (k q)) (p : Nat × Nat) (v : Int × Int) (q : Nat × Nat) : (aget (aput L p (enc2 v)) q).getD z2 = enc2 (kupd k p v q) := by
  rw [aget_aput]
  unfold kupd
  by_cases e : q = p
  · rw [if_pos e, if_pos e]; rfl
  · rw [if_neg e, if_neg e]; exact hL q
theorem KM.own {β : Type} {B b : Nat} (hb : b < B) (f : β → KK) : OwnFrom B (fun s W => KM W b (f s)) := fun s W W' row hs hg hr => hs.of_block (hg.block b hs.lt (fun e => by have := (hr b e.symm).1; omega))
theorem keepsOthers_below {W W' : World} (h : Below W.heap.size W W') : KeepsOthers W W' := ⟨h.size, fun k _ hk _ => (h.block k (Array.getElem?_eq_some_iff.1 hk).1).trans hk⟩
theorem CX.grown {q : Nat → Prop} {W W' : World} {r : Nat} (h : W.grownBy W' (some r)) (hr : q r ∨ ∃ ob, W.heap[r]? = some ob ∧ ob.isCells = false) : CX q W W' :=
  ⟨h.size, fun b _ hq hb hc => (h.block b (Array.getElem?_eq_some_iff.1 hb).1 fun e => by
    cases e
    rcases hr with hr | ⟨ob, h1, h2⟩
    · exact hq hr
    · rw [hb] at h1; cases h1; rw [hc] at h2; cases h2).trans hb⟩
theorem own_ne_blk {lo N n C P : Nat} {w : World} {xs : List Int} {cs : Array Value} (h : OwnI lo 3 w (.slice (some ⟨N, 0, none⟩) n C) xs) (k : Blk w P 99 cs) : N ≠ P := fun e => by
  obtain ⟨g', cap', cur, h1, _, h3, _⟩ := (OwnI.cells h).2.resolve_left (fun h => by cases h.1)
  have : g' = N := by injection h1 with h1; injection h1 with h1; injection h1 with h1; exact h1.symm
  subst this
  unfold Blk at k
  rw [← e, h3] at k
  cases k
theorem ownStp_yes {t : Nat → Int} {s : Int} {kk : Nat → Int × Int} {own : Int × Int} {h : Nat} {v : Int × Int} (h1 : t h = s) (h2 : kk h = v) (h3 : own.1 < v.1 + 1) : ownStp t s kk own h = (v.1 + 1, (h : Int)) := by
  subst h2
  exact if_pos ⟨h1, h3⟩
theorem ownStp_no {t : Nat → Int} {s : Int} {kk : Nat → Int × Int} {own : Int × Int} {h : Nat} {v : Int × Int} (h2 : kk h = v) (h3 : ¬ own.1 < v.1 + 1) : ownStp t s kk own h = own := by
  subst h2
  exact if_neg fun h => h3 h.2
theorem ownStp_no' {t : Nat → Int} {s : Int} {kk : Nat → Int × Int} {own : Int × Int} {h : Nat} (h1 : t h ≠ s) : ownStp t s kk own h = own := if_neg fun h => h1 h.1
def topC : Option (Nat × Nat) → Array Value
  | none => #[.int .i64 (-1), .int .i64 (-1)]
  | some p => #[.int .i64 (p.1 : Int), .int .i64 (p.2 : Int)]


set_option maxRecDepth 100000 in
set_option maxHeartbeats 4000000 in
theorem longest_ok (w : World) (g : Nat) (l : List Pt) (os : List Nat) (s : Int) (hs : s = 1 ∨ s = -1) (hP : PObj w g l os) (hord : Ordd l os) (h2 : 2 ≤ l.length) (h14 : l.length ≤ 14) :
    Calls Try.prog 55 #[.pointer (some ⟨g, 0, none⟩), .int .i8 s] w fun e w' => ∃ v' ps, e = .returned v' ∧ OwnI w.heap.size 3 w' v' (nats ((ps.map (natAt os)).reverse)) ∧ RC (tp l os) s ps ∧ (∀ d ∈ ps, d < os.length) ∧
      (∀ ps', RC (tp l os) s ps' → (∀ d ∈ ps', d < os.length) → ps'.length ≤ ps.length) ∧ Below w.heap.size w w' := by
  refine (callsIn_wide (n := 3)).1 ?_
  refine callsIn_of_wp_marks Try.func55 rfl trivial ?_ rfl
  simp only [Try.ntmps55, List.size_toArray, List.length_cons, List.length_nil, Nat.reduceAdd, Nat.reduceSub, Array.replicate_succ, Array.replicate_zero, List.push_toArray, List.append_toArray, List.nil_append, List.cons_append]
  refine (wpIn_wide (n := 3)).2 ?_
  have hmm := @run_makeMap Try.prog
  go_wp2_with (go_at_call 64; refine (links_any _ _).mono ?_; rintro e w5 ⟨rfl, rfl⟩)
  obtain ⟨v1, o1, hT, hpts, ho⟩ := hP
  have hgl := hT.lt
  have hol := Lib.hid (OwnL.lt ho)
  obtain ⟨B, hB⟩ : ∃ B, w.heap.size = B := ⟨_, rfl⟩
  rw [hB]
  have k0 := ((((((Blk.new w 66 #[.pointer (some ⟨g, 0, none⟩)]).alloc (.cells #[.int .i8 s] 70)).alloc (.map #[] 0)).alloc (.cells #[.map (some (B + 1 + 1))] 97)).alloc (.cells #[.int .i64 (-1), .int .i64 (-1)] 99)).alloc (.cells #[.pointer (some ⟨g, 0, none⟩)] 66))
  have k1 := (((((Blk.new (w.alloc (.cells #[.pointer (some ⟨g, 0, none⟩)] 66)) 70 #[.int .i8 s]).alloc (.map #[] 0)).alloc (.cells #[.map (some (B + 1 + 1))] 97)).alloc (.cells #[.int .i64 (-1), .int .i64 (-1)] 99)).alloc (.cells #[.pointer (some ⟨g, 0, none⟩)] 66))
  have k2 := ((((AMap.made ke2 ((w.alloc (.cells #[.pointer (some ⟨g, 0, none⟩)] 66)).alloc (.cells #[.int .i8 s] 70)))).alloc (.cells #[.map (some (B + 1 + 1))] 97)).alloc (.cells #[.int .i64 (-1), .int .i64 (-1)] 99)).alloc (.cells #[.pointer (some ⟨g, 0, none⟩)] 66)
  have k3 := ((Blk.new (((w.alloc (.cells #[.pointer (some ⟨g, 0, none⟩)] 66)).alloc (.cells #[.int .i8 s] 70)).alloc (.map #[] 0)) 97 #[.map (some (B + 1 + 1))]).alloc (.cells #[.int .i64 (-1), .int .i64 (-1)] 99)).alloc (.cells #[.pointer (some ⟨g, 0, none⟩)] 66)
  have k4 := (Blk.new ((((w.alloc (.cells #[.pointer (some ⟨g, 0, none⟩)] 66)).alloc (.cells #[.int .i8 s] 70)).alloc (.map #[] 0)).alloc (.cells #[.map (some (B + 1 + 1))] 97)) 99 #[.int .i64 (-1), .int .i64 (-1)]).alloc (.cells #[.pointer (some ⟨g, 0, none⟩)] 66)
  have k5 := Blk.new (((((w.alloc (.cells #[.pointer (some ⟨g, 0, none⟩)] 66)).alloc (.cells #[.int .i8 s] 70)).alloc (.map #[] 0)).alloc (.cells #[.map (some (B + 1 + 1))] 97)).alloc (.cells #[.int .i64 (-1), .int .i64 (-1)] 99)) 66 #[.pointer (some ⟨g, 0, none⟩)]
  have hb : Below w.heap.size w ((((((w.alloc (.cells #[.pointer (some ⟨g, 0, none⟩)] 66)).alloc (.cells #[.int .i8 s] 70)).alloc (.map #[] 0)).alloc (.cells #[.map (some (B + 1 + 1))] 97)).alloc (.cells #[.int .i64 (-1), .int .i64 (-1)] 99)).alloc (.cells #[.pointer (some ⟨g, 0, none⟩)] 66)) :=
    bthen (bthen (bthen (bthen (bthen (below1 _ _) (below1 _ _)) (below1 _ _)) (below1 _ _)) (below1 _ _)) (below1 _ _)
  have hz : ((((((w.alloc (.cells #[.pointer (some ⟨g, 0, none⟩)] 66)).alloc (.cells #[.int .i8 s] 70)).alloc (.map #[] 0)).alloc (.cells #[.map (some (B + 1 + 1))] 97)).alloc (.cells #[.int .i64 (-1), .int .i64 (-1)] 99)).alloc (.cells #[.pointer (some ⟨g, 0, none⟩)] 66)).heap.size = B + 6 := by simp; omega
  simp only [World.size_alloc, hB] at k0 k1 k2 k3 k4 k5
  generalize (((((w.alloc (.cells #[.pointer (some ⟨g, 0, none⟩)] 66)).alloc (.cells #[.int .i8 s] 70)).alloc (.map #[] 0)).alloc (.cells #[.map (some (B + 1 + 1))] 97)).alloc (.cells #[.int .i64 (-1), .int .i64 (-1)] 99)).alloc (.cells #[.pointer (some ⟨g, 0, none⟩)] 66) = W0 at *
  replace hT := hT.then hb
  replace ho := OwnL.below ho (Nat.le_refl _) hb
  rw [hB] at hb
  have hos : ∀ k ∈ os, k < l.length := fun k hk => by have := hord.1.mem_iff.1 hk; simpa using this
  have hoslen : os.length = l.length := by rw [hord.1.length_eq, List.length_range]
  have hmem : ∀ k, k < l.length → k ∈ os := fun k hk => hord.1.mem_iff.2 (by simpa using hk)
  have c0 : W0.cell? ⟨B, 0, none⟩ = some (.pointer (some ⟨g, 0, none⟩)) := by have := k0.cell 0; simpa using this
  have c1 : W0.cell? ⟨B + 1, 0, none⟩ = some (.int .i8 s) := by have := k1.cell 0; simpa using this
  have c3 : W0.cell? ⟨B + 1 + 1 + 1, 0, none⟩ = some (.map (some (B + 1 + 1))) := by have := k3.cell 0; simpa using this
  have c5 : W0.cell? ⟨B + 1 + 1 + 1 + 1 + 1, 0, none⟩ = some (.pointer (some ⟨g, 0, none⟩)) := by have := k5.cell 0; simpa using this
  have h0k : KM W0 (B + 1 + 1) (fun _ => (0, 0)) := ⟨[], k2, fun q => rfl⟩
  clear k0 k1 k2 k3
  have hnd := Lib.hid (show os.Nodup from hord.1.nodup_iff.2 List.nodup_range)
  replace hord := Lib.hid hord
  refine (wpIn_wide (n := 3)).1 ?_
  refine' wpIn_rangeFunc_ownG (n := 3) rfl (by omega) (gf := 86) (lb := #[.pointer (some ⟨B + 1 + 1 + 1 + 1 + 1, 0, none⟩)]) rfl trivial (enters_of Try.func86 (by kernel_rfl) rfl)
    (links1_stops 2 (by omega) (B + 1 + 1 + 1 + 1 + 1) g (g + 1) o1 os l.length hos (by omega) W0 c5 hT.order ho) (fun h k => h.trans k)
    (fun W l o o' hl h hc hw b hb' => World.putObj_heap_other (by rcases hb' with rfl | rfl | hb'; omega; omega; have := hol.out b hb'; omega)) (Below.refl _ _) (fun _ => rfl)
    (fun pre W => CX (fun b => b = B + 1 + 1 + 1 + 1) W0 W ∧ KM W (B + 1 + 1) (LS l os s (pre.map (·.1))).1 ∧ Blk W (B + 1 + 1 + 1 + 1) 99 (topC (LS l os s (pre.map (·.1))).2) ∧ Below B w W)
    (fun _ _ _ => False)
    (own_cx.and ((KM.own (by omega) (fun pre : List (Lk l.length) => (LS l os s (pre.map (·.1))).1)).and ((own_ck (I := fun (pre : List (Lk l.length)) W => Blk W (B + 1 + 1 + 1 + 1) 99 (topC (LS l os s (pre.map (·.1))).2)) fun _ _ _ h k => h.ck k).and (ownFrom_below (by omega) (by omega)))))
    (fun _ _ _ _ _ h _ _ => h)
    ⟨.refl _ _, h0k, k4, hb⟩
    _ ?assign ?body ?done ?stop
  case assign =>
    intro l x W K hK
    replace hK := Lib.hid hK
    unfold encLk
    gi_wp2
    exact hK.out
  case stop =>
    rintro D c pre W _ _ h _
    exact h.elim
  case body =>
    rintro l' pre ⟨⟨x, y⟩, hx, hy⟩ W ⟨hX, hK, hN, hBW⟩ hpl
    dsimp only at hx hy
    obtain ⟨A, no, co, rfl, hno⟩ := OwnL.shape ho
    rw [nats_length] at hno
    have hn14 : no ≤ 14 := by rw [hno.out, hoslen]; exact h14
    have hoW := hX.own ho (fun b' hb'' => by have := hol.out b' hb''; omega)
    have hTW := hX.tb hT (by omega)
    have hI := OwnI.ints hoW
    have hco : co ≤ maxLen ∧ no ≤ co := by
      obtain ⟨A', cap', he, h1, h2, _⟩ := hI.open
      injection he with e1 e2 e3
      exact ⟨by omega, by rw [e2, e3]; exact h1⟩
    obtain ⟨hco, hnc⟩ := hco
    unfold maxLen at hco
    obtain ⟨-, b2, o2, rfl, hat⟩ := hI.addr (by rw [nats_length]; omega)
    have hat := Lib.hid (show ∀ i, i < os.length → W.cell? ⟨b2, o2 + i, none⟩ = some (.int .i64 (natAt os i : Nat)) from fun i hi => by
      have := hat i (by rw [nats_length]; exact hi)
      rwa [at0_nats] at this)
    have m0 := hX.cell c0 (by simp; omega)
    have m1 := hX.cell c1 (by simp)
    have m3 := hX.cell c3 (by simp)
    have mo := hTW.order
    have hzW := hX.size
    have mt : ∀ i j k, i < l.length → j < l.length → k < l.length → W.cell? ⟨g, 1 + i * 196 + j * 14 + k, none⟩ = some (.int .i8 (tur l i j k)) := fun i j k h1 h2 h3 => by
      have := hTW.turn i j k (by omega) (by omega) (by omega)
      rwa [if_pos ⟨h1, h2, h3⟩] at this
    replace mt := Lib.hid mt
    have hSb := Lib.hid (LS_bound l os s (pre.map (·.1)))
    obtain ⟨S, hS⟩ : ∃ S, LS l os s (pre.map (·.1)) = S := ⟨_, rfl⟩
    rw [hS] at hK hN hSb
    replace hS := Lib.hid hS
    have hh := Lib.hid (And.intro hX (And.intro hK (And.intro hN hBW)))
    replace hI := Lib.hid hI
    replace hb := Lib.hid hb
    replace hos := Lib.hid hos
    replace hmem := Lib.hid hmem
    clear hX hK hN hBW hTW c0 c1 c3 c5 h0k k4 k5 hT ho hoW
    obtain ⟨W1, hW1⟩ : ∃ W1, W.alloc (.cells #[.int .i64 2, .int .i64 (-1)] 101) = W1 := ⟨_, rfl⟩
    have hB1 : Below W.heap.size W W1 := by rw [← hW1]; exact below1 _ _
    have hz1 : W.heap.size < W1.heap.size := by rw [← hW1]; simp
    have k9 : Blk W1 W.heap.size 101 #[.int .i64 2, .int .i64 (-1)] := by rw [← hW1]; exact Blk.new _ _ _
    have n0 := cell_below m0 hB1
    have n1 := cell_below m1 hB1
    have n3 := cell_below m3 hB1
    have no1 := cell_below mo hB1
    replace k9 := Lib.hid k9
    replace hB1 := Lib.hid hB1
    have hIx := Lib.hid (show ∃ e, e < no ∧ natAt os e = x by
      obtain ⟨e, he, hee⟩ := List.getElem_of_mem (hmem.out x hx)
      exact ⟨e, by rw [hno.out]; exact he, by rw [natAt_eq he]; exact hee⟩)
    gi_wp2
    gi_loopw [28] (fun c wr => ∃ e, e ≤ no ∧ c = .int .i64 (e : Int) ∧ Hid (Below W.heap.size W wr) ∧ Hid (Blk wr W.heap.size 101 #[.int .i64 (ownF (fun h => tur l h x y) s (fun h => S.1 (h, x)) (os.take e)).1, .int .i64 (ownF (fun h => tur l h x y) s (fun h => S.1 (h, x)) (os.take e)).2]) ∧ Hid (∀ e' < e, natAt os e' ≠ x)) (fun c _ => no - (intOf c).toNat)
    case atStart => exact ⟨0, Nat.zero_le _, rfl, hB1, k9, fun e' he' => absurd he' (Nat.not_lt_zero _)⟩
    case round =>
      obtain ⟨e, he, rfl, hBr, k9r, hne⟩ := hrel
      have hlt : e < no := by
        obtain ⟨e0, h0, h00⟩ := hIx.out
        rcases Nat.lt_or_ge e no with h | h
        · exact h
        · exact absurd h00 (hne.out e0 (by omega))
      have rc := cell_below (hat.out e (by have := hno.out; omega)) hBr.out
      have r0 := cell_below m0 hBr.out
      have r1 := cell_below m1 hBr.out
      have r3 := cell_below m3 hBr.out
      have heo : e < os.length := by have := hno.out; omega
      have hhl : natAt os e < l.length := hos.out _ (by rw [natAt_eq heo]; exact List.getElem_mem _)
      have rt := cell_below (mt.out _ _ _ hhl hx hy) hBr.out
      have htk := Lib.hid (show os.take (e + 1) = os.take e ++ [natAt os e] by rw [natAt_eq heo]; exact List.take_succ_eq_append_getElem heo)
      have hob := ownF_bound (fun h => tur l h x y) s (fun h => S.1 (h, x)) (pre.length + 1) (by omega) (fun h => by have := hSb.out (h, x); rw [List.length_map] at this; exact this) (os.take e)
      have hkb := hSb.out (natAt os e, x)
      rw [List.length_map] at hkb
      have hKr : KM wr (B + 1 + 1) S.1 := by
        obtain ⟨_, hK, _⟩ := hh.out
        exact hK.of_block (hBr.out.block _ (by omega))
      obtain ⟨L, hL, hLk⟩ := hKr
      have hlk := hLk (natAt os e, x)
      replace hLk := Lib.hid hLk
      have q1 := k9r.out.cell 0
      have q2 := k9r.out.cell 1
      simp at q1 q2
      have f1 := k9r.out.free 0
      have f2 := k9r.out.free 1
      have hzr := hBr.out.size
      have hst := Lib.hid (show ownF (fun h => tur l h x y) s (fun h => S.1 (h, x)) (os.take (e + 1)) = ownStp (fun h => tur l h x y) s (fun h => S.1 (h, x)) (ownF (fun h => tur l h x y) s (fun h => S.1 (h, x)) (os.take e)) (natAt os e) by rw [htk.out, ownF_snoc])
      generalize hov : ownF (fun h => tur l h x y) s (fun h => S.1 (h, x)) (os.take e) = ov at *
      obtain ⟨ov1, ov2⟩ := ov
      dsimp only at q1 q2 hob
      replace hov := Lib.hid hov
      by_cases hhx : natAt os e = x
      · subst hhx
        have hown : ownF (fun h => tur l h (natAt os e) y) s (fun h => S.1 (h, natAt os e)) (os.takeWhile (· ≠ natAt os e)) = (ov1, ov2) := by
          rw [← hov.out]
          congr 1
          have := takeWhile_ne os e hnd.out heo
          rwa [← natAt_eq heo] at this
        have hlst := Lib.hid (show LS l os s (pre.map (·.1) ++ [(natAt os e, y)]) = (kupd S.1 (natAt os e, y) (ov1, ov2), match S.2 with | none => some (natAt os e, y) | some q => if (kupd S.1 (natAt os e, y) (ov1, ov2) q).1 < ov1 then some (natAt os e, y) else some q) by
          rw [LS_snoc, hS.out]
          unfold lst
          dsimp only
          rw [hown]
          rfl)
        generalize hxx : natAt os e = x at *
        replace hxx := Lib.hid hxx
        obtain ⟨hX, hK, hN, hBW⟩ := hh.out
        have hNr := hN.then hBr.out
        have fin : ∀ wm, AMap ke2 wm (B + 1 + 1) (aput L (x, y) (enc2 (ov1, ov2))) → wr.grownBy wm (some (B + 1 + 1)) → ∀ T, (LS l os s ((pre ++ [(⟨(x, y), hx, hy⟩ : Lk l.length)]).map (·.1))).2 = T → ∀ W', wm.grownBy W' (some (B + 1 + 1 + 1 + 1)) → Blk W' (B + 1 + 1 + 1 + 1) 99 (topC T) →
            KeepsFrom W0.heap.size W W' ∧ keepO (B + 1 + 1 + 1 + 1 + 1) g (.slice (some ⟨b2, o2, none⟩) no co) W W' ∧ CX (fun b => b = B + 1 + 1 + 1 + 1) W0 W' ∧ KM W' (B + 1 + 1) (LS l os s ((pre ++ [(⟨(x, y), hx, hy⟩ : Lk l.length)]).map (·.1))).1 ∧
            Blk W' (B + 1 + 1 + 1 + 1) 99 (topC (LS l os s ((pre ++ [(⟨(x, y), hx, hy⟩ : Lk l.length)]).map (·.1))).2) ∧ Below B w W' := by
          intro wm g1 g2 T gT W' g3 g4
          rw [← gT] at g4
          have hmb : ∃ ob, wr.heap[B + 1 + 1]? = some ob ∧ ob.isCells = false := by obtain ⟨es, cl, hb, _⟩ := hL; exact ⟨_, hb, rfl⟩
          have hblk : ∀ b, b < W.heap.size → b ≠ B + 1 + 1 → b ≠ B + 1 + 1 + 1 + 1 → W'.heap[b]? = W.heap[b]? := fun b h1 h2 h3 =>
            ((g3.block b (by have := g2.size; omega) (by simpa using h3)).trans (g2.block b (by omega) (by simpa using h2))).trans (hBr.out.block b h1)
          refine ⟨((keepsOthers_below hBr.out).from _).trans ((KeepsFrom.of_grownBy g2 (fun j e => by cases e; omega)).trans (KeepsFrom.of_grownBy g3 (fun j e => by cases e; omega))), fun b hb' => ?_, ?_, ?_, g4, ?_⟩
          · refine hblk b ?_ ?_ ?_ <;> (rcases hb' with rfl | rfl | hb'; omega; omega; have := hol.out b hb'; omega)
          · exact hX.trans (CX.trans (CX.then hBr.out) (CX.trans (CX.grown g2 (.inr hmb)) (CX.grown g3 (.inl rfl))))
          · rw [List.map_append]
            simp only [List.map_cons, List.map_nil]
            rw [hlst.out]
            exact (KM.put hLk.out (x, y) (ov1, ov2) g1).of_block (g3.block _ g1.lt (by simp))
          · exact ((hBW.trans (hBr.out.mono (by have := hBW.size; omega))).trans (below_of_grown g2 (by omega) (fun k e => by cases e; omega))).trans (below_of_grown g3 (by have := g2.size; omega) (fun k e => by cases e; omega))
        have hl3 : (LS l os s ((pre ++ [(⟨(x, y), hx, hy⟩ : Lk l.length)]).map (·.1))).2 = (match S.2 with | none => some (x, y) | some q => if (kupd S.1 (x, y) (ov1, ov2) q).1 < ov1 then some (x, y) else some q) := by
          rw [show (pre ++ [(⟨(x, y), hx, hy⟩ : Lk l.length)]).map (·.1) = pre.map (·.1) ++ [(x, y)] by simp, hlst.out]
        replace hl3 := Lib.hid hl3
        replace fin := Lib.hid fin
        clear hown hX hK hN hBW
        rcases hS2 : S.2 with _ | ⟨t1, t2⟩
        · rw [hS2] at hl3 hNr
          have p1 := hNr.cell 0
          have p2 := hNr.cell 1
          simp [topC] at p1 p2
          have pf1 := hNr.free 0
          have pf2 := hNr.free 1
          replace hNr := Lib.hid hNr
          gi_wp2_with (first
            | (gi_at_mapUpdate; refine wpListIn_mapUpdate_a _ rfl _ _ _ 97 rfl 99 101 key99 Try.underlying97 rfl hL (x, y) rfl (.agg #[.int .i64 ov1, .int .i64 ov2]) rfl ?_; intro wm hm1 hm2 hm3; replace p1 := gcell hm2 p1 (by intro h; have h := Option.some.inj h; (try dsimp only at h); omega); replace p2 := gcell hm2 p2 (by intro h; have h := Option.some.inj h; (try dsimp only at h); omega); replace q1 := gcell hm2 q1 (by intro h; have h := Option.some.inj h; (try dsimp only at h); omega); replace q2 := gcell hm2 q2 (by intro h; have h := Option.some.inj h; (try dsimp only at h); omega); replace r3 := gcell hm2 r3 (by intro h; have h := Option.some.inj h; (try dsimp only at h); omega); replace hNr := Lib.hid (show Blk wm _ _ _ from (hm2.block _ hNr.out.lt (by intro h; have h := Option.some.inj h; (try dsimp only at h); omega)).trans hNr.out); replace pf1 := hNr.out.free 0; replace pf2 := hNr.out.free 1)
            | (refine wpIn_region_quietR_lit (by kernel_rfl) (by kernel_rfl) (by kernel_rfl) ?_; (repeat (gi_big_quiet_step (fail))); (refine wpQuietIn_nil ?_); (intro _ hw'); (obtain ⟨nq, hw''⟩ := hw'); (subst hw'')))
          refine fin.out wm hm1 hm2 _ hl3.out _ (gtrans (gtrans (gof (below_drewN (Below.refl _ _) nq) _) (gset _ _ 0 _)) (gset _ _ 1 _)) ?_
          exact ((hNr.out.drewN nq).set 0 _).set 1 _
        · rw [hS2] at hl3 hNr
          have p1 := hNr.cell 0
          have p2 := hNr.cell 1
          simp [topC] at p1 p2
          have pf1 := hNr.free 0
          have pf2 := hNr.free 1
          replace hNr := Lib.hid hNr
          obtain ⟨vt, hvt⟩ : ∃ vt, kupd S.1 (x, y) (ov1, ov2) (t1, t2) = vt := ⟨_, rfl⟩
          obtain ⟨vt1, vt2⟩ := vt
          replace hl3 := hl3.out
          dsimp only at hl3
          rw [hvt] at hl3
          have hb0 : ((t1 : Int) == -1) = false := by simp
          by_cases hgt : vt1 < ov1
          · rw [if_pos hgt] at hl3
            replace hl3 := Lib.hid hl3
            gi_wp2_with (first
              | (gi_at_mapUpdate; refine wpListIn_mapUpdate_a _ rfl _ _ _ 97 rfl 99 101 key99 Try.underlying97 rfl hL (x, y) rfl (.agg #[.int .i64 ov1, .int .i64 ov2]) rfl ?_; intro wm hm1 hm2 hm3; replace p1 := gcell hm2 p1 (by intro h; have h := Option.some.inj h; (try dsimp only at h); omega); replace p2 := gcell hm2 p2 (by intro h; have h := Option.some.inj h; (try dsimp only at h); omega); replace q1 := gcell hm2 q1 (by intro h; have h := Option.some.inj h; (try dsimp only at h); omega); replace q2 := gcell hm2 q2 (by intro h; have h := Option.some.inj h; (try dsimp only at h); omega); replace r3 := gcell hm2 r3 (by intro h; have h := Option.some.inj h; (try dsimp only at h); omega); replace hNr := Lib.hid (show Blk wm _ _ _ from (hm2.block _ hNr.out.lt (by intro h; have h := Option.some.inj h; (try dsimp only at h); omega)).trans hNr.out); replace pf1 := hNr.out.free 0; replace pf2 := hNr.out.free 1;
                 have hlook := (show ∀ k, (Instr.lookup 97 (.map (some (B + 1 + 1))) (.agg #[.int .i64 (t1 : Int), .int .i64 (t2 : Int)]) false).run Try.prog (wm.drewN k) = .ok (.agg #[.int .i64 vt1, .int .i64 vt2]) (wm.drewN k) from fun k => by
                    have h1 := AMap.run_lookup key99 Try.underlying97 (zero101 _) (hm1.drewN k) (t1, t2) false
                    have h2 := aget_kupd hLk.out (x, y) (ov1, ov2) (t1, t2)
                    rw [hvt] at h2
                    exact h1.trans (congrArg (fun v => Result.ok v (wm.drewN k)) h2)))
              | (refine wpIn_region_quietR_lit (by kernel_rfl) (by kernel_rfl) (by kernel_rfl) ?_; (repeat (gi_big_quiet_step (fail))); (refine wpQuietIn_nil ?_); (intro _ hw'); (obtain ⟨nq, hw''⟩ := hw'); (subst hw'')))
            refine fin.out wm hm1 hm2 _ hl3.out _ (gtrans (gtrans (gof (below_drewN (Below.refl _ _) nq) _) (gset _ _ 0 _)) (gset _ _ 1 _)) ?_
            exact ((hNr.out.drewN nq).set 0 _).set 1 _
          · rw [if_neg hgt] at hl3
            replace hl3 := Lib.hid hl3
            gi_wp2_with (first
              | (gi_at_mapUpdate; refine wpListIn_mapUpdate_a _ rfl _ _ _ 97 rfl 99 101 key99 Try.underlying97 rfl hL (x, y) rfl (.agg #[.int .i64 ov1, .int .i64 ov2]) rfl ?_; intro wm hm1 hm2 hm3; replace p1 := gcell hm2 p1 (by intro h; have h := Option.some.inj h; (try dsimp only at h); omega); replace p2 := gcell hm2 p2 (by intro h; have h := Option.some.inj h; (try dsimp only at h); omega); replace q1 := gcell hm2 q1 (by intro h; have h := Option.some.inj h; (try dsimp only at h); omega); replace q2 := gcell hm2 q2 (by intro h; have h := Option.some.inj h; (try dsimp only at h); omega); replace r3 := gcell hm2 r3 (by intro h; have h := Option.some.inj h; (try dsimp only at h); omega); replace hNr := Lib.hid (show Blk wm _ _ _ from (hm2.block _ hNr.out.lt (by intro h; have h := Option.some.inj h; (try dsimp only at h); omega)).trans hNr.out); replace pf1 := hNr.out.free 0; replace pf2 := hNr.out.free 1;
                 have hlook := (show ∀ k, (Instr.lookup 97 (.map (some (B + 1 + 1))) (.agg #[.int .i64 (t1 : Int), .int .i64 (t2 : Int)]) false).run Try.prog (wm.drewN k) = .ok (.agg #[.int .i64 vt1, .int .i64 vt2]) (wm.drewN k) from fun k => by
                    have h1 := AMap.run_lookup key99 Try.underlying97 (zero101 _) (hm1.drewN k) (t1, t2) false
                    have h2 := aget_kupd hLk.out (x, y) (ov1, ov2) (t1, t2)
                    rw [hvt] at h2
                    exact h1.trans (congrArg (fun v => Result.ok v (wm.drewN k)) h2)))
              | (refine wpIn_region_quietR_lit (by kernel_rfl) (by kernel_rfl) (by kernel_rfl) ?_; (repeat (gi_big_quiet_step (fail))); (refine wpQuietIn_nil ?_); (intro _ hw'); (obtain ⟨nq, hw''⟩ := hw'); (subst hw'')))
            refine fin.out wm hm1 hm2 _ hl3.out _ (gof (below_drewN (Below.refl _ _) nq) _) ?_
            exact hNr.out.drewN nq
      have hne' := Lib.hid (show ∀ e' < e + 1, natAt os e' ≠ x from fun e' h1 => by
        rcases Nat.lt_or_ge e' e with h2 | h2
        · exact hne.out e' h2
        · rw [show e' = e by omega]; exact hhx)
      generalize hhv : natAt os e = h at *
      replace hhv := Lib.hid hhv
      have hb0 : ((h : Int) == (x : Int)) = false := by simp; omega
      obtain ⟨xv, hxv⟩ : ∃ xv, S.1 (h, x) = xv := ⟨_, rfl⟩
      rw [hxv] at hlk hkb
      obtain ⟨x1, x2⟩ := xv
      dsimp only at hkb
      generalize htv : tur l h x y = tv at *
      replace htv := Lib.hid htv
      replace hxv := Lib.hid hxv
      obtain ⟨Wx, hWx⟩ : ∃ Wx, wr.alloc (.cells #[.int .i64 x1, .int .i64 x2] 101) = Wx := ⟨_, rfl⟩
      have hBx : Below wr.heap.size wr Wx := by rw [← hWx]; exact below1 _ _
      have hzx : wr.heap.size < Wx.heap.size := by rw [← hWx]; simp
      have kx : Blk Wx wr.heap.size 101 #[.int .i64 x1, .int .i64 x2] := by rw [← hWx]; exact Blk.new _ _ _
      have s0 := cell_below r0 hBx
      have s1 := cell_below r1 hBx
      have sT := cell_below rt hBx
      have k9x := k9r.out.then hBx
      have sq1 := k9x.cell 0
      have sq2 := k9x.cell 1
      have sx1 := kx.cell 0
      have sx2 := kx.cell 1
      simp at sq1 sq2 sx1 sx2
      have sf1 := k9x.free 0
      have sf2 := k9x.free 1
      replace kx := Lib.hid kx
      replace k9x := Lib.hid k9x
      replace hBx := Lib.hid (bthen hBr.out hBx)
      clear rt q1 q2 f1 f2
      by_cases ht : tv = s
      · subst ht
        by_cases hgt : ov1 < x1 + 1
        · gi_wp2_with (first
            | (gi_at_lookup; refine wpListIn_lookup_a _ rfl _ _ 97 rfl 99 101 key99 Try.underlying97 (zero101 _) rfl hL (h, x) rfl (.agg #[.int .i64 x1, .int .i64 x2]) hlk ?_)
            | (refine wpIn_region_quietR_lit (by kernel_rfl) (by kernel_rfl) (by kernel_rfl) ?_; (repeat (gi_big_quiet_step (fail))); (refine wpQuietIn_nil ?_); (intro _ hw'); (obtain ⟨nq, hw''⟩ := hw'); (subst hw'')))
          go_roundw
          case rel =>
            have hnew := Lib.hid (show ownStp (fun h => tur l h x y) tv (fun h => S.1 (h, x)) (ov1, ov2) h = (x1 + 1, (h : Int)) from ownStp_yes (t := fun h => tur l h x y) (kk := fun h => S.1 (h, x)) (own := (ov1, ov2)) (h := h) (v := (x1, x2)) htv.out hxv.out hgt)
            rw [hnew.out] at hst
            refine ⟨e + 1, by omega, by go_num, ?_, ?_, hne'⟩
            · exact Lib.hid (((below_drewN hBx.out nq).setCell (p := ⟨W.heap.size, 0, none⟩) (Nat.le_refl _) _).setCell (p := ⟨W.heap.size, 1, none⟩) (Nat.le_refl _) _)
            · rw [hst.out]
              exact Lib.hid (((k9x.out.drewN nq).set 0 _).set 1 _)
          case measure => simp [intOf]; omega
        · gi_wp2_with (first
            | (gi_at_lookup; refine wpListIn_lookup_a _ rfl _ _ 97 rfl 99 101 key99 Try.underlying97 (zero101 _) rfl hL (h, x) rfl (.agg #[.int .i64 x1, .int .i64 x2]) hlk ?_)
            | (refine wpIn_region_quietR_lit (by kernel_rfl) (by kernel_rfl) (by kernel_rfl) ?_; (repeat (gi_big_quiet_step (fail))); (refine wpQuietIn_nil ?_); (intro _ hw'); (obtain ⟨nq, hw''⟩ := hw'); (subst hw'')))
          go_roundw
          case rel =>
            have hnew := Lib.hid (show ownStp (fun h => tur l h x y) tv (fun h => S.1 (h, x)) (ov1, ov2) h = (ov1, ov2) from ownStp_no (t := fun h => tur l h x y) (kk := fun h => S.1 (h, x)) (own := (ov1, ov2)) (h := h) (v := (x1, x2)) hxv.out hgt)
            rw [hnew.out] at hst
            refine ⟨e + 1, by omega, by go_num, ?_, ?_, hne'⟩
            · exact Lib.hid (below_drewN hBx.out nq)
            · rw [hst.out]
              exact Lib.hid (k9x.out.drewN nq)
          case measure => simp [intOf]; omega
      · have hb1 : (tv == s) = false := by simp [ht]
        gi_wp2_with (first
            | (gi_at_lookup; refine wpListIn_lookup_a _ rfl _ _ 97 rfl 99 101 key99 Try.underlying97 (zero101 _) rfl hL (h, x) rfl (.agg #[.int .i64 x1, .int .i64 x2]) hlk ?_)
            | (refine wpIn_region_quietR_lit (by kernel_rfl) (by kernel_rfl) (by kernel_rfl) ?_; (repeat (gi_big_quiet_step (fail))); (refine wpQuietIn_nil ?_); (intro _ hw'); (obtain ⟨nq, hw''⟩ := hw'); (subst hw'')))
        go_roundw
        case rel =>
          have hnew := Lib.hid (show ownStp (fun h => tur l h x y) s (fun h => S.1 (h, x)) (ov1, ov2) h = (ov1, ov2) from ownStp_no' (t := fun h => tur l h x y) (kk := fun h => S.1 (h, x)) (own := (ov1, ov2)) (h := h) (by show tur l h x y ≠ s; rw [htv.out]; exact ht))
          rw [hnew.out] at hst
          refine ⟨e + 1, by omega, by go_num, ?_, ?_, hne'⟩
          · exact Lib.hid (below_drewN hBx.out nq)
          · rw [hst.out]
            exact Lib.hid (k9x.out.drewN nq)
        case measure => simp [intOf]; omega
  case done =>
    rintro D xs W hD hxs ⟨hX, hK, hN, hBW⟩ hKd
    have hKn := Kn_links (l := l) (os := os) (s := s) hnd.out os.length (Nat.le_refl _)
    rw [hxs] at hK hN
    rw [show linksTo os os.length = linksL os from rfl] at hKn
    generalize LS l os s (linksL os) = S at *
    obtain ⟨c, d, hcd, hdn, htop, hmax⟩ : ∃ c d, c < d ∧ d < os.length ∧ S.2 = some (natAt os c, natAt os d) ∧ ∀ c' d', c' < d' → d' < os.length → (BS l os s c' d').1 ≤ (BS l os s c d).1 := by
      rcases hKn.top with ⟨h0, hno⟩ | ⟨c, d, h3, h4, h5, h6⟩
      · exact absurd (.inl (by omega)) (hno 0 1 (by omega))
      · exact ⟨c, d, h3, by omega, h5, fun c' d' h7 h8 => h6 c' d' h7 (.inl h8)⟩
    have hkat := Lib.hid (fun c d (h1 : c < d) (h2 : d < os.length) => hKn.at_ c d h1 (.inl h2))
    rw [htop] at hN
    replace hmax := Lib.hid hmax
    have p1 := hN.cell 0
    have p2 := hN.cell 1
    simp [topC] at p1 p2
    have m3 := hX.cell c3 (by simp)
    have hh := Lib.hid (And.intro hX (And.intro hK (And.intro hN (And.intro hBW hKd))))
    have hDW : D < W.heap.size := (Array.getElem?_eq_some_iff.1 hKd).1
    have hzW := hX.size
    clear hX hK hN hBW hKd c0 c1 c3 c5 h0k k4 k5 hT ho hKn hxs
    obtain ⟨M, hM⟩ : ∃ M, W.heap.size = M := ⟨_, rfl⟩
    obtain ⟨Wb, hWb⟩ : ∃ Wb, W.alloc (.cells #[.int .i64 (natAt os d : Int), .int .i64 (natAt os c : Int)] 3) = Wb := ⟨_, rfl⟩
    have hBb : Below W.heap.size W Wb := by rw [← hWb]; exact below1 _ _
    have hzb : W.heap.size < Wb.heap.size := by rw [← hWb]; simp
    have kb : Blk Wb M 3 #[.int .i64 (natAt os d : Int), .int .i64 (natAt os c : Int)] := by rw [← hWb, ← hM]; exact Blk.new _ _ _
    have p1 := cell_below p1 hBb
    have p2 := cell_below p2 hBb
    obtain ⟨Wc, hWc⟩ : ∃ Wc, Wb.alloc (.cells #[.int .i64 (natAt os c : Int), .int .i64 (natAt os d : Int)] 99) = Wc := ⟨_, rfl⟩
    have hBc : Below Wb.heap.size Wb Wc := by rw [← hWc]; exact below1 _ _
    have kc : Blk Wc Wb.heap.size 99 #[.int .i64 (natAt os c : Int), .int .i64 (natAt os d : Int)] := by rw [← hWc]; exact Blk.new _ _ _
    have hBWc := Lib.hid (bthen hBb hBc)
    have hout : OwnI M 3 Wc (.slice (some ⟨M, 0, none⟩) 2 2) (nats ([d, c].map (natAt os))) := by
      refine OwnI.mk ⟨rfl, .inr ⟨M, 2, _, rfl, Nat.le_refl _, kb.then hBc, Nat.le_refl _, by unfold maxLen; omega, rfl, rfl⟩⟩
    replace hout := Lib.hid hout
    replace kc := Lib.hid kc
    replace kb := Lib.hid kb
    have hzc := hBc.size
    go_wp2
    go_loopw [13, 14] (fun s13 s14 wr => ∃ (p : List Nat) (c d P N C : Nat), s13 = .slice (some ⟨N, 0, none⟩) (p.length + 2) C ∧ s14 = .pointer (some ⟨P, 0, none⟩) ∧ Hid (OwnI M 3 wr (.slice (some ⟨N, 0, none⟩) (p.length + 2) C) (nats ((p ++ [d, c]).map (natAt os)))) ∧
      Hid (Blk wr P 99 #[.int .i64 (natAt os c : Int), .int .i64 (natAt os d : Int)]) ∧ M ≤ P ∧ Hid (Below M W wr) ∧ c < d ∧ d < os.length ∧ Hid (∀ r, RC (tp l os) s (d :: c :: r) → RC (tp l os) s (p ++ d :: c :: r)) ∧ Hid (∀ c' d', c' < d' → d' < os.length → (BS l os s c' d').1 ≤ p.length + (BS l os s c d).1) ∧ Hid (∀ x ∈ p, x < os.length) ∧ p.length + c ≤ 14)
      (fun v _ _ => 20 - (match v with | .slice _ n _ => n | _ => 0))
    case atStart =>
      refine ⟨[], c, d, _, _, _, rfl, rfl, hout, kc, by omega, by rw [hM] at hBWc; exact hBWc, hcd, hdn, Lib.hid (fun r h => h), Lib.hid (fun c' d' h1 h2 => by have := hmax.out c' d' h1 h2; simpa using this), Lib.hid (by simp), by simp; omega⟩
    case round =>
      clear hout kc kb hcd hdn hmax htop hWb hWc hBWc p1 p2
      obtain ⟨p, c, d, P, N, C, rfl, rfl, hout, kP, hMP, hBr, hcd, hdn, hRC, hmax, hpn, hpc⟩ := hrel
      obtain ⟨hX, hK, hN, hBW, hKd⟩ := hh.out
      have hKr : KM wr (B + 1 + 1) S.1 := hK.of_block (hBr.out.block _ (by omega))
      have r3 := (hBr.out.cell (p := ⟨B + 1 + 1 + 1, 0, none⟩) (by show B + 1 + 1 + 1 < M; omega)).trans m3
      have q1 := kP.out.cell 0
      have q2 := kP.out.cell 1
      simp at q1 q2
      obtain ⟨L, hL, hLk⟩ := hKr
      have hlk := hLk (natAt os c, natAt os d)
      rw [hkat.out c d hcd hdn] at hlk
      clear hX hK hN hBW hKd
      have hcase := Bst_cases (tp l os) (hp os) s c d
      rcases hcase with hb | ⟨e, he, hte, hb⟩
      · have hb' : BS l os s c d = (2, -1) := hb
        rw [hb'] at hlk
        have hRv := Lib.hid (reverse_own wr (.slice (some ⟨N, 0, none⟩) (p.length + 2) C) _ M hout.out (by rw [nats_length, List.length_map, List.length_append]; simp; omega))
        go_wp2_with (first
          | (at_lookup; refine wpList_lookup_a _ rfl _ _ 97 rfl 99 101 key99 Try.underlying97 (zero101 _) rfl hL (natAt os c, natAt os d) rfl (.agg #[.int .i64 2, .int .i64 (-1)]) hlk ?_)
          | (go_at_call 82; refine hRv.out.mono ?_; rintro e w9 ⟨rfl, hr1, hr2⟩))
        obtain ⟨hX, hK, hN, hBW, hKd⟩ := hh.out
        have hNl := OwnL.lt hout.out N rfl
        have hK9 : w9.heap[D]? = some (.deferred (some [])) := (hr2.block D (by omega) (by show some D ≠ some N; intro h; have := Option.some.inj h; omega)).trans ((hBr.out.block D (by omega)).trans hKd)
        refine ⟨by simp, .inl ⟨_, _, rfl, run_takeDeferred hK9, ?_⟩⟩
        refine ⟨_, by simp [results, Try.results55, go_sem]; rfl, _, p ++ [d, c], rfl, ?_, hRC.out [] hcd, ?_, ?_, ?_⟩
        · rw [show nats ((p ++ [d, c]).map (natAt os)).reverse = (nats ((p ++ [d, c]).map (natAt os))).reverse by simp [nats]]
          exact OwnL.ck (OwnL.lo_le hr1 (by omega)) (ck_put hK9 rfl)
        · intro x hx
          rcases List.mem_append.1 hx with h | h
          · exact hpn.out x h
          · have : x = d ∨ x = c := by simpa using h
            omega
        · intro ps' h1 h2
          rcases ps' with _ | ⟨d', _ | ⟨c', r⟩⟩
          · simp
          · simp
          · have h3 := RC_len (tp l os) (hp os) s r d' c' h1
            have h4 : c' < d' := by cases r with | nil => exact h1 | cons => exact h1.1
            have h5 : (Bst (tp l os) (hp os) s c' d').1 ≤ (p.length : Int) + 2 := by
              have := hmax.out c' d' h4 (h2 d' (by simp))
              rw [hb'] at this
              exact this
            simp only [List.length_append, List.length_cons, List.length_nil] at *
            omega
        · rw [hB]
          have h9 : Below M wr w9 := below_of_grown hr2 (by have := hBr.out.size; omega) (fun k e => by have e2 : some N = some k := e; have := Option.some.inj e2; omega)
          have h8 : Below B w w9 := hBW.trans ((hBr.out.trans h9).mono (by omega))
          exact h8.trans (belowK_b (w := w) (n₀ := B) (by omega) w9 D _ _ (by omega) hK9 rfl rfl)
      · have hb' : BS l os s c d = ((BS l os s e c).1 + 1, ((natAt os e : Nat) : Int)) := hb
        rw [hb'] at hlk
        have hNP := own_ne_blk hout.out kP.out
        have hPl := kP.out.lt
        go_wp2_with (first
          | (at_lookup; refine wpList_lookup_a _ rfl _ _ 97 rfl 99 101 key99 Try.underlying97 (zero101 _) rfl hL (natAt os c, natAt os d) rfl (.agg #[.int .i64 ((BS l os s e c).1 + 1), .int .i64 ((natAt os e : Nat) : Int)]) hlk ?_)
          | (at_builtin; refine wpList_append_int rfl (.tmp 101) (.tmp 103) 33 rfl M 3 Try.underlying33 info3 _ _ rfl rfl hout.out rfl rfl (by rw [nats_length, List.length_map, List.length_append]; simp; omega) (by have := hBr.out.size; omega) ?_; intro v' w4 ho4 hB4 hg4;
             obtain ⟨N4, C4, hv4, -⟩ := OwnL.open ho4 (by simp); rw [show (nats ((p ++ [d, c]).map (natAt os)) ++ [((natAt os e : Nat) : Int)]).length = (p ++ [d]).length + 2 by simp [nats_length]] at hv4; subst hv4;
             have kP4 := (show Blk w4 P 99 #[.int .i64 (natAt os c : Int), .int .i64 (natAt os d : Int)] from (hg4.block P hPl (by show some P ≠ some N; intro h; exact hNP (Option.some.inj h).symm)).trans kP.out); have u1 := kP4.cell 0; have u2 := kP4.cell 1; simp at u1 u2; have u3 := kP4.free 0; have u4 := kP4.free 1; replace kP4 := Lib.hid kP4; replace ho4 := Lib.hid ho4; replace hB4 := Lib.hid hB4))
        have hN4 := own_ne_blk ho4.out kP4.out
        have hz4 := hB4.out.size
        have hzr := hBr.out.size
        obtain ⟨W9, hW9⟩ : ∃ W9, (w4.setCell ⟨P, 0, none⟩ (.int .i64 ((natAt os e : Nat) : Int))).setCell ⟨P, 1, none⟩ (.int .i64 ((natAt os c : Nat) : Int)) = W9 := ⟨_, rfl⟩
        have hz9 : W9.heap.size = w4.heap.size := by rw [← hW9]; simp
        have hg9 : w4.grownBy W9 (some P) := by rw [← hW9]; exact gtrans (gset _ P 0 _) (gset _ P 1 _)
        rw [hW9]
        have h10 : Below W9.heap.size W9 (W9.alloc (.cells #[.int .i64 ((natAt os e : Nat) : Int), .int .i64 ((natAt os c : Nat) : Int)] 99)) := below1 _ _
        refine ⟨⟨p ++ [d], e, c, w4.heap.size, N4, C4, by simp, rfl, Lib.hid ?_, Lib.hid ?_, by omega, Lib.hid ?_, he, by omega, Lib.hid ?_, Lib.hid ?_, Lib.hid ?_, by simp; omega⟩, by simp; omega⟩
        · have h1 := OwnL.kept ho4.out hg9 (.inr (by show some N4 ≠ some P; intro h; exact hN4 (Option.some.inj h)))
          rw [show nats ((p ++ [d] ++ [c, e]).map (natAt os)) = nats ((p ++ [d, c]).map (natAt os)) ++ [((natAt os e : Nat) : Int)] by simp [nats]]
          exact OwnL.below h1 (Nat.le_refl _) h10
        · rw [← hz9]; exact Blk.new _ _ _
        · exact ((hBr.out.trans hB4.out).trans (below_of_grown hg9 (by omega) (fun k e => by cases e; exact hMP))).trans (h10.mono (by omega))
        · intro r hr
          have := hRC.out (e :: r) ⟨hcd, hte, hr⟩
          simpa using this
        · intro c' d' h1 h2
          have := hmax.out c' d' h1 h2
          rw [hb'] at this
          simp only [List.length_append, List.length_cons, List.length_nil]
          dsimp only at this
          omega
        · intro x hx
          rcases List.mem_append.1 hx with h | h
          · exact hpn.out x h
          · have : x = d := by simpa using h
            omega
end Go.Proofs.Ythnabheibacbcaa
