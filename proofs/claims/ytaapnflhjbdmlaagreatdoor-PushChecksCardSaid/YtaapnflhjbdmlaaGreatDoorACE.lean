/- push's accepts: the states behind a word, in a map. No condition. push's Accepts, errors and all; the errors of Next, Run and Endless. No condition. A given acceptor: the reference's run over its table, and the paths of its moves. Plain. -/
import Derived.Test.YtaapnflhjbdmlaaGreatDoorZu2
import Derived.Lib.OthersKept
import Derived.Laws.RangeAny
namespace Go.Proofs.YtaapnflhjbdmlaaGreatDoor
section
open Go.RowKit Go.Shelf
open Go.Lib (run_next_ascii_at run_next_end_at iterAt_heap iterAt_other iterAt_size below_iterAt)
attribute [local go_sem] Oper.semAt_some

def bval (S : List Int) : List (Int × Value) := S.map fun p => (p, Value.bool true)
def addI (S : List Int) (p : Int) : List Int := if p ∈ S then S else S ++ [p]
theorem aget_bval (S : List Int) (p : Int) : aget (bval S) p = if p ∈ S then some (.bool true) else none := by
  induction S with
  | nil => rfl
  | cons s S ih =>
    show aget ((s, Value.bool true) :: bval S) p = _
    rw [aget_cons, ih]
    by_cases e : p = s
    · simp [e]
    · simp [e]
theorem aput_bval (S : List Int) (p : Int) : aput (bval S) p (.bool true) = bval (addI S p) := by
  unfold aput addI
  rw [aget_bval]
  by_cases e : p ∈ S
  · simp only [e, if_true, Option.isSome_some]
    unfold bval
    rw [List.map_map]
    refine List.map_congr_left fun x _ => ?_
    simp only [Function.comp_apply]
    split <;> rfl
  · simp [e, bval]
theorem addI_mem {S : List Int} {p q : Int} : q ∈ addI S p ↔ q = p ∨ q ∈ S := by
  unfold addI
  split
  · rename_i h
    exact ⟨.inr, fun h2 => h2.elim (fun e => e ▸ h) id⟩
  · simp [or_comm]
theorem zeroB (w : World) : (zeroValue 4).run Tryz.prog w = .ok (.bool false) w := by kernel_rfl
theorem bval_look {w : World} {bN : Nat} {S : List Int} (h : AMap kv w bN (bval S)) (p : Int) : (Instr.lookup 147 (.map (some bN)) (.int .i64 p) false).run Tryz.prog w = .ok (.bool (decide (p ∈ S))) w := by
  have := AMap.run_lookup key3 Tryz.underlying147 (zeroB w) h p false
  rw [aget_bval] at this
  show (Instr.lookup 147 (.map (some bN)) (kv p) false).run Tryz.prog w = _
  rw [this]
  by_cases e : p ∈ S <;> simp [e]
theorem makeMap147 (w : World) : (Instr.makeMap 147 none).run Tryz.prog w = .ok (.map (some w.heap.size)) (w.alloc (.map #[] 0)) := by kernel_rfl

/-! ### the final states -/
theorem clo77_any (w : World) (bV bN : Nat) (S : List Int) (f : Int) (hV : Blk w bV 147 #[.map (some bN)]) (hS : AMap kv w bN (bval S)) :
    Calls Tryz.prog 77 #[.int .i64 f, .pointer (some ⟨bV, 0, none⟩)] w fun e w' => e = .returned (.bool (decide (f ∈ S))) ∧ w' = w := by
  have c0 : w.cell? ⟨bV, 0, none⟩ = some (.map (some bN)) := hV.cell 0
  have hl := bval_look hS f
  generalize decide (f ∈ S) = b at *
  clear hV hS
  go_enter Tryz.func77, Tryz.ntmps77
  go_wp2
  go_ret
  exact ⟨rfl, rfl⟩
set_option maxHeartbeats 4000000 in
theorem indexFI_any (w : World) (bV bN : Nat) (S : List Int) (vf : Value) (fs : List Int) (hV : Blk w bV 147 #[.map (some bN)]) (hS : AMap kv w bN (bval S)) (hf : Els ElI w vf fs) :
    Calls Tryz.prog 92 #[vf, .func (.func 77) #[] #[.pointer (some ⟨bV, 0, none⟩)]] w fun e w' => ∃ i : Int, e = .returned (.int .i64 i) ∧ Hid (0 ≤ i ↔ ∃ f ∈ fs, f ∈ S) ∧ w' = w := by
  obtain ⟨A, n, cap, rfl, hn⟩ := Els.shape hf
  obtain ⟨hn2, hcap, hmax⟩ := Els.len hf
  unfold maxLen at hmax
  have hnI : (n : Int) ≤ 9223372036854775807 := by omega
  have hcl := Lib.hid (fun f => clo77_any w bV bN S f hV hS)
  replace hf := Lib.hid hf
  replace hn2 := Lib.hid hn2
  clear hV hS hcap hmax
  go_enter Tryz.func92, Tryz.ntmps92
  go_wp2
  go_loop [8] (fun c8 => ∃ i : Nat, i ≤ n ∧ c8 = .int .i64 (i : Int) ∧ Hid (∀ j (hj : j < fs.length), j < i → fs[j] ∉ S)) (fun c8 => n - (intOf c8).toNat)
  case atStart => exact ⟨0, by omega, rfl, fun j _ hj => by omega⟩
  case round =>
    obtain ⟨i, hi, rfl, hno⟩ := hrel
    by_cases hlt : i < n
    case neg =>
      have hge : ¬ (i : Int) < n := by omega
      have hans := Lib.hid (show (0 : Int) ≤ -1 ↔ ∃ f ∈ fs, f ∈ S from ⟨fun h => by omega, fun ⟨f, hf1, hf2⟩ => by
        obtain ⟨j, hj, rfl⟩ := List.getElem_of_mem hf1
        exact absurd hf2 (hno.out j hj (by have := hn2.out; omega))⟩)
      go_wp2
      go_ret
      exact ⟨-1, rfl, hans.out, rfl⟩
    have hltI : (i : Int) < n := by omega
    have hil : i < fs.length := by have := hn2.out; omega
    obtain ⟨b, off, rfl, hat⟩ := hf.out.cell (by omega)
    have z0 := hat i hil 0 (.int .i64 fs[i]) rfl
    change w.cell? ⟨b, off + i * 1, none⟩ = _ at z0
    rw [Nat.mul_one] at z0
    have hnx := Lib.hid (show fs[i] ∉ S → ∀ j (hj : j < fs.length), j < i + 1 → fs[j] ∉ S from fun h j hj hji => by
      by_cases e : j = i
      · subst e; exact h
      · exact hno.out j hj (by omega))
    have hys := Lib.hid (show fs[i] ∈ S → ((0 : Int) ≤ i ↔ ∃ f ∈ fs, f ∈ S) from fun h => ⟨fun _ => ⟨_, List.getElem_mem hil, h⟩, fun _ => by omega⟩)
    have hc := hcl.out fs[i]
    generalize fs[i] = f at *
    clear hat
    by_cases hm : f ∈ S
    · have hans := Lib.hid (hys.out hm)
      rw [decide_eq_true hm] at hc
      replace hc := Lib.hid hc
      clear hm
      go_wp2_with (go_at_call 77; refine hc.out.mono ?_; rintro e w1 ⟨rfl, rfl⟩)
      go_ret
      exact ⟨_, rfl, hans.out, rfl⟩
    · have hans := Lib.hid (hnx.out hm)
      rw [decide_eq_false hm] at hc
      replace hc := Lib.hid hc
      clear hm
      go_wp2_with (go_at_call 77; refine hc.out.mono ?_; rintro e w1 ⟨rfl, rfl⟩)
      go_round
      case rel => exact ⟨i + 1, by omega, by go_num, hans.out⟩
      case measure => simp [intOf]; omega
set_option maxHeartbeats 4000000 in
theorem containsFI_any (w : World) (bV bN : Nat) (S : List Int) (vf : Value) (fs : List Int) (hV : Blk w bV 147 #[.map (some bN)]) (hS : AMap kv w bN (bval S)) (hf : Els ElI w vf fs) :
    Calls Tryz.prog 76 #[vf, .func (.func 77) #[] #[.pointer (some ⟨bV, 0, none⟩)]] w (TellP (∃ f ∈ fs, f ∈ S) w) := by
  have hi := Lib.hid (indexFI_any w bV bN S vf fs hV hS hf)
  obtain ⟨A, n, cap, rfl, hn⟩ := Els.shape hf
  clear hV hS hf
  go_enter Tryz.func76, Tryz.ntmps76
  go_wp2_with (go_at_call 92; refine hi.out.mono ?_; clear hi; rintro e w1 ⟨i, rfl, hiff, rfl⟩)
  go_ret
  exact ⟨decide (0 ≤ i), rfl, by rw [decide_eq_true_iff]; exact hiff.out, Below.refl _ _⟩

theorem PathA.snoc_iff {M : Int → Int → Int → Prop} {a q : Int} : ∀ (u : List Int) (p : Int), PathA M p (u ++ [a]) q ↔ ∃ m, PathA M p u m ∧ M m a q
  | [], p => by
    rw [List.nil_append, PathA.cons_iff]
    exact ⟨fun ⟨m, h1, h2⟩ => ⟨p, .nil p, by rw [PathA.nil_iff] at h2; rw [h2]; exact h1⟩, fun ⟨m, h1, h2⟩ => ⟨q, by rw [PathA.nil_iff] at h1; rw [← h1]; exact h2, .nil q⟩⟩
  | b :: u, p => by
    rw [List.cons_append, PathA.cons_iff]
    constructor
    · rintro ⟨m, h1, h2⟩
      obtain ⟨k, h3, h4⟩ := (PathA.snoc_iff u m).1 h2
      exact ⟨k, .cons h1 h3, h4⟩
    · rintro ⟨k, h1, h2⟩
      obtain ⟨m, h3, h4⟩ := PathA.cons_iff.1 h1
      exact ⟨m, h3, (PathA.snoc_iff u m).2 ⟨k, h4, h2⟩⟩
/-- between two letters: the iterator, the block that holds the map, the states -/
structure AcS (w0 wr : World) (s : ByteArray) (B pos bN : Nat) (S : List Int) : Prop where
  it : wr.heap[B + 1]? = some (.stringIter s pos)
  bk : Blk wr B 147 #[.map (some bN)]
  mp : AMap kv wr bN (bval S)
  bel : Below w0.heap.size w0 wr
  lo : w0.heap.size ≤ B
  lob : w0.heap.size ≤ bN
theorem AcS.then {w0 wr w' : World} {s : ByteArray} {B pos bN : Nat} {S : List Int} (h : AcS w0 wr s B pos bN S) (hb : Below wr.heap.size wr w') : AcS w0 w' s B pos bN S :=
  ⟨(hb.block _ (by have := h.it; exact (Array.getElem?_eq_some_iff.1 this).1)).trans h.it, h.bk.below hb h.bk.lt, h.mp.below hb h.mp.lt, bthen h.bel hb, h.lo, h.lob⟩
theorem AcS.grown {w0 wr w' : World} {s : ByteArray} {B pos bN r : Nat} {S T : List Int} (h : AcS w0 wr s B pos bN S) (hT : AMap kv wr r (bval T)) (hg : wr.grownBy w' (some r)) (hr : w0.heap.size ≤ r) (hne : r ≠ bN) : AcS w0 w' s B pos bN S := by
  have hc : ∀ o, wr.heap[r]? = some o → ∃ es c, o = .map es c := fun o ho => by
    obtain ⟨es, c, hb, _⟩ := hT
    rw [hb] at ho; cases ho; exact ⟨_, _, rfl⟩
  have h1 : B + 1 ≠ r := by
    rintro rfl
    obtain ⟨_, _, e⟩ := hc _ h.it
    cases e
  have h2 : B ≠ r := by
    rintro rfl
    obtain ⟨_, _, e⟩ := hc _ h.bk
    cases e
  exact ⟨(hg.block _ (Array.getElem?_eq_some_iff.1 h.it).1 (by intro e; cases e; exact h1 rfl)).trans h.it, (hg.block _ h.bk.lt (by intro e; cases e; exact h2 rfl)).trans h.bk, h.mp.kept hg (by intro e; cases e; exact hne rfl), h.bel.trans (below_of_grown hg h.bel.size (by intro k e; cases e; exact hr)), h.lo, h.lob⟩

theorem AcS.next {w0 wr : World} {s : ByteArray} {B pos bN : Nat} {S : List Int} (h : AcS w0 wr s B pos bN S) : AcS w0 (wr.iterAt (B + 1) s (pos + 1)) s B (pos + 1) bN S :=
  ⟨iterAt_heap wr (B + 1) s pos (pos + 1) h.it, (iterAt_other wr (B + 1) B s _ (by omega)).trans h.bk, h.mp.of_block (iterAt_other wr (B + 1) bN s _ (by
    rintro rfl
    obtain ⟨es, c, hb, _⟩ := h.mp
    rw [h.it] at hb; cases hb)), below_iterAt h.bel (by have := h.lo; omega) s _, h.lo, h.lob⟩
theorem AcS.store {w0 wr : World} {s : ByteArray} {B pos bN bM : Nat} {S S2 : List Int} (h : AcS w0 wr s B pos bN S) (h2 : AMap kv wr bM (bval S2)) (hM : w0.heap.size ≤ bM) : AcS w0 (wr.setCell ⟨B, 0, none⟩ (.map (some bM))) s B pos bM S2 :=
  ⟨(Below.heap_setCell wr ⟨B, 0, none⟩ (.map (some bM)) (B + 1) (by simp)).trans h.it, by have := h.bk.set 0 (.map (some bM)); exact this, h2.setCell _ _, (h.bel).setCell (by exact h.lo) _, h.lo, hM⟩
theorem letter_at {s : ByteArray} {i : Nat} (h : i < s.size) : (cs s)[i]? = some ((s[i]'h).toNat : Int) := by
  unfold cs
  rw [List.getElem?_map, List.getElem?_eq_getElem (by simpa using h), Option.map_some]
  rfl
set_option maxRecDepth 8000 in
set_option maxHeartbeats 8000000 in
theorem accepts_any (w : World) (st x : Int) (vm vf : Value) (ms : List Mi) (fs : List Int) (s : ByteArray) (hm : Els ElZ w vm ms) (hf : Els ElI w vf fs) (hw : Word (cs s)) (_hs20 : s.size ≤ 20) (hml : ms.length ≤ 1000) :
    Calls Tryz.prog 53 #[acV st vm vf, cv ⟨x, s⟩] w (TellP (∃ f ∈ fs, PathA (BofI ms) x (cs s) f) w) := by
  obtain ⟨Am, nm, capm, rfl, hnm⟩ := Els.shape hm
  obtain ⟨Af, nf, capf, rfl, hnf⟩ := Els.shape hf
  obtain ⟨W, hW⟩ : ∃ W, (w.alloc (.cells #[.int .i64 st, .slice Am nm capm, .slice Af nf capf] 34)).alloc (.cells #[.int .i64 x, .string s] 60) = W := ⟨_, rfl⟩
  have hBW : Below w.heap.size w W := by rw [← hW]; exact bthen (below1 _ _) (below1 _ _)
  have kA := show Blk W w.heap.size 34 #[.int .i64 st, .slice Am nm capm, .slice Af nf capf] by rw [← hW]; exact (Blk.new w 34 _).alloc _
  have kB := show Blk W (w.heap.size + 1) 60 #[.int .i64 x, .string s] by rw [← hW]; have := Blk.new (w.alloc (.cells #[.int .i64 st, .slice Am nm capm, .slice Af nf capf] 34)) 60 #[.int .i64 x, .string s]; rw [alloc_size] at this; exact this
  have hz : W.heap.size = w.heap.size + 1 + 1 := by rw [← hW, alloc_size, alloc_size]
  have a0 : W.cell? ⟨w.heap.size + 1, 0, none⟩ = some (.int .i64 x) := kB.cell 0
  have hmk := makeMap147 W
  obtain ⟨W1, hW1⟩ : ∃ W1, W.alloc (.map #[] 0) = W1 := ⟨_, rfl⟩
  have hA1 := show AMap kv W1 W.heap.size [] by rw [← hW1]; exact AMap.made kv W
  have hB1 := show Below W.heap.size W W1 by rw [← hW1]; exact below1 _ _
  rw [hW1] at hmk
  have a1 := cell_below a0 hB1
  replace hm := Lib.hid (hm.then hBW)
  replace hf := Lib.hid (hf.then hBW)
  replace hBW := Lib.hid hBW
  replace kA := Lib.hid kA
  replace kB := Lib.hid (kB.below hB1 kB.lt)
  replace hA1 := Lib.hid hA1
  have hB1' := Lib.hid hB1
  obtain ⟨bS, hbS⟩ : ∃ bS, W.heap.size = bS := ⟨_, rfl⟩
  rw [hbS] at hmk hA1
  have hz1 : W1.heap.size = bS + 1 := by rw [← hW1, alloc_size, hbS]
  clear hB1
  replace hw := Lib.hid hw
  go_enter Tryz.func53, Tryz.ntmps53
  go_wp2_with (refine wpList_insert_a _ rfl (.tmp 11) (.tmp 13) (.const (.bool true)) 147 rfl 3 4 key3 Tryz.underlying147 rfl hA1.out x rfl (.bool true) rfl ?_; intro V hA2 hg2 hs2; have a3 : V.cell? ⟨w.heap.size + 1, 1, none⟩ = some (.string s) := Blk.cell (((hg2.block _ (by have := kB.out.lt; omega) (by intro e; cases e; omega))).trans kB.out) 1; have a4 := cell_below a3 (below1 V (.cells #[.map (some bS)] 147)); replace hA2 := Lib.hid hA2; replace hg2 := Lib.hid hg2)
  clear a0 a1 a3 a4 hmk
  have hzV : V.heap.size = bS + 1 := by omega
  obtain ⟨U, hU⟩ : ∃ U, (V.alloc (.cells #[.map (some bS)] 147)).iter s 0 = U := ⟨_, rfl⟩
  have hBV : Below W.heap.size W V := hB1'.out.trans (below_of_grown hg2.out (by omega) (by intro k e; cases e; omega))
  have hBVU : Below V.heap.size V U := by rw [← hU]; exact bthen (below1 _ _) (below1 _ _)
  have hS0 : AcS W U s (bS + 1) 0 bS [x] := ⟨by rw [← hU, ← hzV]; simpa using World.iter_heap (V.alloc (.cells #[.map (some bS)] 147)) s 0, by rw [← hU, ← hzV]; exact (Blk.new V 147 _).alloc _, by rw [← hU]; exact ((show AMap kv V bS (bval [x]) from hA2.out).alloc _).alloc _, hBV.trans (hBVU.mono hBV.size), by omega, by omega⟩
  replace hS0 := Lib.hid hS0
  have hz0 : w.heap.size < W.heap.size := by omega
  rw [hU]
  clear hA1 hA2 hg2 hs2 hzV hBV hBVU hB1' hW1 kB hz1 hU hz hW
  go_loopg [18] s.size (fun k _ wr => ∃ (pos bN : Nat) (S : List Int), pos ≤ s.size ∧ k = s.size - pos ∧ Hid (AcS W wr s (bS + 1) pos bN S) ∧ Hid (∀ q, q ∈ S ↔ PathA (BofI ms) x ((cs s).take pos) q))
  case atStart => exact ⟨0, bS, [x], Nat.zero_le _, rfl, hS0.out, fun q => by rw [List.take_zero, PathA.nil_iff]; simp⟩
  case round =>
    obtain ⟨pos, bN, S, hpos, rfl, hA, hS⟩ := hrel
    by_cases hp : pos < s.size
    case neg =>
      have hnext : ∀ ty, (Instr.next (.pointer (some ⟨bS + 1 + 1, 0, none⟩)) true ty).run Tryz.prog wr = _ := fun ty => run_next_end_at wr (bS + 1 + 1) s pos ty hA.out.it hp
      have c2 : wr.cell? ⟨w.heap.size, 2, none⟩ = some (.slice Af nf capf) := (kA.out.below hA.out.bel kA.out.lt).cell 2
      have hcon := Lib.hid (containsFI_any wr (bS + 1) bN S _ fs hA.out.bk hA.out.mp (hf.out.then hA.out.bel))
      have hans := Lib.hid (show (∃ f ∈ fs, f ∈ S) ↔ ∃ f ∈ fs, PathA (BofI ms) x (cs s) f by
        have e : (cs s).take pos = cs s := List.take_of_length_le (by rw [cs_length]; omega)
        constructor
        · rintro ⟨f, h1, h2⟩; exact ⟨f, h1, by have := (hS.out f).1 h2; rwa [e] at this⟩
        · rintro ⟨f, h1, h2⟩; exact ⟨f, h1, (hS.out f).2 (by rwa [e])⟩)
      have hbE := Lib.hid (bthen hBW.out hA.out.bel)
      go_wp2_with (go_at_call 76; refine hcon.out.mono ?_; clear hcon; rintro e w1 ⟨bv, rfl, hiff, hb1⟩)
      go_ret
      exact ⟨bv, rfl, hiff.trans hans.out, bthen hbE.out hb1⟩
    have hlet := letter_at hp
    have hch := hw.out _ (List.mem_of_getElem? hlet)
    have hnext : ∀ ty, (Instr.next (.pointer (some ⟨bS + 1 + 1, 0, none⟩)) true ty).run Tryz.prog wr = _ := fun ty => run_next_ascii_at wr (bS + 1 + 1) s pos ty hA.out.it hp (by omega)
    have hA2 := Lib.hid hA.out.next
    obtain ⟨W2, hW2⟩ : ∃ W2, wr.iterAt (bS + 1 + 1) s (pos + 1) = W2 := ⟨_, rfl⟩
    rw [hW2] at hnext hA2
    have htk := Lib.hid (show (cs s).take (pos + 1) = (cs s).take pos ++ [((s[pos]'hp).toNat : Int)] by rw [List.take_add_one, hlet]; rfl)
    generalize ((s[pos]'hp).toNat : Int) = a at *
    have hmk := makeMap147 W2
    obtain ⟨W3, hW3⟩ : ∃ W3, W2.alloc (.map #[] 0) = W3 := ⟨_, rfl⟩
    have hM3 := show AMap kv W3 W2.heap.size [] by rw [← hW3]; exact AMap.made kv W2
    have hA3 := Lib.hid (hA2.out.then (show Below W2.heap.size W2 W3 by rw [← hW3]; exact below1 _ _))
    have hlo3 := Lib.hid (show W.heap.size ≤ W2.heap.size from hA2.out.bel.size)
    have hne3 := Lib.hid (show W2.heap.size ≠ bN from by have := hA2.out.mp.lt; omega)
    rw [hW3] at hmk
    obtain ⟨bM, hbM⟩ : ∃ bM, W2.heap.size = bM := ⟨_, rfl⟩
    rw [hbM] at hmk hM3 hlo3 hne3
    replace hM3 := Lib.hid hM3
    have c1 : W3.cell? ⟨w.heap.size, 1, none⟩ = some (.slice Am nm capm) := (kA.out.below hA3.out.bel kA.out.lt).cell 1
    clear hA hA2 hlet
    go_wp2
    clear hnext hmk c1 hW2 hW3 hbM
    go_loopg [25] nm (fun k c25 wz => ∃ (i : Nat) (S2 : List Int), i ≤ nm ∧ k = nm - i ∧ c25 = .int .i64 (i : Int) ∧ Hid (AcS W wz s (bS + 1) (pos + 1) bN S) ∧ Hid (AMap kv wz bM (bval S2)) ∧ Hid (∀ q, q ∈ S2 ↔ ∃ m ∈ ms.take i, m.1 ∈ S ∧ 97 + m.2.1 = a ∧ m.2.2 = q))
    case atStart => exact ⟨0, [], Nat.zero_le _, rfl, rfl, hA3.out, hM3.out, fun q => by simp⟩
    case round =>
      obtain ⟨i, S2, hi, rfl, rfl, hA4, hM4, hS4⟩ := hrel
      by_cases hlt : i < nm
      case neg =>
        have hge : ¬ (i : Int) < nm := by omega
        have k0 : wr.cell? ⟨bS + 1, 0, none⟩ = some (.map (some bN)) := hA4.out.bk.cell 0
        have f0 := hA4.out.bk.free 0
        have hA5 := Lib.hid (hA4.out.store hM4.out hlo3.out)
        have hS5 := Lib.hid (show ∀ q, q ∈ S2 ↔ PathA (BofI ms) x ((cs s).take (pos + 1)) q from fun q => by
          rw [htk.out, PathA.snoc_iff, hS4.out, show ms.take i = ms from List.take_of_length_le (by have := hnm.out; omega)]
          constructor
          · rintro ⟨m, h1, h2, h3, h4⟩
            exact ⟨m.1, (hS.out _).1 h2, List.mem_map.2 ⟨m, h1, by unfold keyM; rw [h3, h4]⟩⟩
          · rintro ⟨p, h1, h2⟩
            obtain ⟨m, h3, h4⟩ := List.mem_map.1 h2
            unfold keyM at h4
            simp only [Prod.mk.injEq] at h4
            exact ⟨m, h3, by rw [h4.1]; exact (hS.out _).2 h1, h4.2.1, h4.2.2⟩)
        go_wp2
        go_roundg (s.size - (pos + 1))
        case rel => exact ⟨pos + 1, bM, S2, by omega, rfl, hA5.out, hS5.out⟩
        case measure => omega
      have hltI : (i : Int) < nm := by omega
      have hil : i < ms.length := by have := hnm.out; omega
      obtain ⟨bL, oL, rfl, hat⟩ := (hm.out.then hA4.out.bel).cell (by omega)
      have z0 := hat i hil 0 (.int .i64 ms[i].1) rfl
      have z1 := hat i hil 1 (.int .i64 ms[i].2.1) rfl
      have z2 := hat i hil 2 (.int .i64 ms[i].2.2) rfl
      change wr.cell? ⟨bL, oL + i * 3, none⟩ = _ at z0
      change wr.cell? ⟨bL, oL + i * 3 + 1, none⟩ = _ at z1
      change wr.cell? ⟨bL, oL + i * 3 + 2, none⟩ = _ at z2
      have htk2 := Lib.hid (show ms.take (i + 1) = ms.take i ++ [ms[i]] by rw [List.take_add_one, List.getElem?_eq_getElem hil]; rfl)
      clear hat
      generalize ms[i] = m at *
      obtain ⟨m0, m1, m2⟩ := m
      dsimp only at z0 z1 z2
      have hno := Lib.hid (show ¬ (m0 ∈ S ∧ 97 + m1 = a) → ∀ q, q ∈ S2 ↔ ∃ m ∈ ms.take (i + 1), m.1 ∈ S ∧ 97 + m.2.1 = a ∧ m.2.2 = q from fun h q => by
        rw [hS4.out, htk2.out]
        constructor
        · rintro ⟨m, h1, h2⟩; exact ⟨m, by simp [h1], h2⟩
        · rintro ⟨m, h1, h2, h3, h4⟩
          rcases List.mem_append.1 h1 with h1 | h1
          · exact ⟨m, h1, h2, h3, h4⟩
          · obtain rfl := List.mem_singleton.1 h1
            exact absurd ⟨h2, h3⟩ h)
      have hye := Lib.hid (show m0 ∈ S ∧ 97 + m1 = a → ∀ q, q ∈ addI S2 m2 ↔ ∃ m ∈ ms.take (i + 1), m.1 ∈ S ∧ 97 + m.2.1 = a ∧ m.2.2 = q from fun h q => by
        rw [addI_mem, hS4.out, htk2.out]
        constructor
        · rintro (rfl | ⟨m, h1, h2⟩)
          · exact ⟨(m0, m1, q), by simp, h.1, h.2, rfl⟩
          · exact ⟨m, by simp [h1], h2⟩
        · rintro ⟨m, h1, h2, h3, h4⟩
          rcases List.mem_append.1 h1 with h1 | h1
          · exact .inr ⟨m, h1, h2, h3, h4⟩
          · obtain rfl := List.mem_singleton.1 h1
            exact .inl h4.symm)
      go_upto_region 9 with (fail)
      obtain ⟨W4, hW4⟩ : ∃ W4, wr.alloc (.cells #[.int .i64 m0, .int .i64 m1, .int .i64 m2] 78) = W4 := ⟨_, rfl⟩
      obtain ⟨bu, hbu⟩ : ∃ bu, wr.heap.size = bu := ⟨_, rfl⟩
      have hb4 : Below wr.heap.size wr W4 := by rw [← hW4]; exact below1 _ _
      have kR : Blk W4 bu 78 #[.int .i64 m0, .int .i64 m1, .int .i64 m2] := by rw [← hW4, ← hbu]; exact Blk.new _ _ _
      have u0 : W4.cell? ⟨bu, 0, none⟩ = some (.int .i64 m0) := kR.cell 0
      have u1 : W4.cell? ⟨bu, 1, none⟩ = some (.int .i64 m1) := kR.cell 1
      have u2 : W4.cell? ⟨bu, 2, none⟩ = some (.int .i64 m2) := kR.cell 2
      have hA6 := Lib.hid (hA4.out.then hb4)
      have hM6 := Lib.hid (hM4.out.below hb4 hM4.out.lt)
      have k0 : W4.cell? ⟨bS + 1, 0, none⟩ = some (.map (some bN)) := hA6.out.bk.cell 0
      have hlk := bval_look hA6.out.mp m0
      rw [hW4, hbu]
      clear hW4 hbu hb4 kR z0 z1 z2 hA4 hM4
      by_cases hm0 : m0 ∈ S
      case neg =>
        have hn := Lib.hid (hno.out fun h => hm0 h.1)
        rw [decide_eq_false hm0] at hlk
        clear hm0 hno hye hS4
        go_wp2
        go_roundg (nm - (i + 1))
        case rel => exact ⟨i + 1, S2, by omega, rfl, by go_num, hA6.out, hM6.out, hn.out⟩
        case measure => omega
      rw [decide_eq_true hm0] at hlk
      by_cases hma : m1 = a - 97
      case neg =>
        have hn := Lib.hid (hno.out fun h => hma (by have := h.2; omega))
        clear hm0 hno hye hS4
        go_wp2
        go_roundg (nm - (i + 1))
        case rel => exact ⟨i + 1, S2, by omega, rfl, by go_num, hA6.out, hM6.out, hn.out⟩
        case measure => omega
      have hn := Lib.hid (hye.out ⟨hm0, by omega⟩)
      clear hm0 hno hye hS4
      go_wp2_with (at_mapUpdate; refine wpList_mapUpdate_a _ rfl (.tmp 41) (.tmp 43) (.const (.bool true)) 147 rfl 3 4 key3 Tryz.underlying147 rfl hM6.out m2 rfl (.bool true) rfl ?_; intro w7 hA7 hg7 hs7; have hA8 := Lib.hid (hA6.out.grown hM6.out hg7 hlo3.out hne3.out); replace hA7 := Lib.hid hA7; clear hg7 hs7)
      go_roundg (nm - (i + 1))
      case rel => exact ⟨i + 1, addI S2 m2, by omega, rfl, by go_num, hA8.out, by have := hA7.out; rwa [aput_bval] at this, hn.out⟩
      case measure => omega
end
section
open Go.RowKit Go.Shelf
attribute [local go_sem] Oper.semAt_some

theorem allE_imp {C : Int} {l : List RuleB} {c : ConfB} (h : allE C l [c] = 0) : sysB C l = true ∧ properB C c = true := by
  unfold allE at h
  split at h
  · rename_i h1
    split at h
    · rename_i h2; exact ⟨h1, by simpa using h2⟩
    · cases h
  · cases h
theorem errA_one {C st : Int} {l : List RuleB} {ms : List Mi} {fs : List Int} {c : ConfB} (h : errA C st l ms fs [c] = 0) : sysB C l = true ∧ givenB C st ms fs = true ∧ properB C c = true := by
  unfold errA at h
  split at h
  · rename_i h1
    split at h
    · rename_i h2
      split at h
      · rename_i h3; exact ⟨h1, h2, by simpa using h3⟩
      · cases h
    · cases h
  · cases h

set_option maxRecDepth 8000 in
set_option maxHeartbeats 4000000 in
theorem Accepts_any (w : World) (C st x : Int) (v vm vf : Value) (l : List RuleB) (ms : List Mi) (fs : List Int) (s : ByteArray) (hm : Els ElZ w vm ms) (hf : Els ElI w vf fs) (h : Rls w v l) (hs : ∀ r ∈ l, r.put.size ≤ 9223372036854775807) (hss : s.size ≤ 9223372036854775807) :
    Calls Tryz.prog 31 #[sv C v, acV st vm vf, cv ⟨x, s⟩] w fun e w' => ∃ bv : Bool, e = .returned (.tuple #[.bool bv, .int .i64 (errA C st l ms fs [⟨x, s⟩])]) ∧ (errA C st l ms fs [⟨x, s⟩] = 0 → (bv = true ↔ ∃ f ∈ fs, PathA (BofI ms) x (cs s) f)) ∧ (errA C st l ms fs [⟨x, s⟩] ≠ 0 → bv = false) ∧ Below w.heap.size w w' := by
  obtain ⟨A, n, cap, rfl, _⟩ := Els.shape h
  obtain ⟨Am, nm, capm, rfl, _⟩ := Els.shape hm
  obtain ⟨Af, nf, capf, rfl, _⟩ := Els.shape hf
  obtain ⟨W, hW⟩ : ∃ W, ((((w.alloc (.cells #[.int .i64 C, .slice A n cap] 40)).alloc (.cells #[.int .i64 st, .slice Am nm capm, .slice Af nf capf] 34)).alloc (.cells #[.int .i64 x, .string s] 60)).alloc (.cells #[.int .i64 st, .slice Am nm capm, .slice Af nf capf] 34)).alloc (.cells #[.int .i64 x, .string s] 60) = W := ⟨_, rfl⟩
  have hBX := show Below w.heap.size w W by rw [← hW]; exact bthen (below1 _ _) (bthen (below1 _ _) (bthen (below1 _ _) (bthen (below1 _ _) (below1 _ _))))
  have k2 := show Blk W (w.heap.size) 40 #[.int .i64 C, .slice A n cap] by rw [← hW]; exact ((((Blk.new w 40 #[.int .i64 C, .slice A n cap]).alloc _).alloc _).alloc _).alloc _
  have k3 := show Blk W (w.heap.size + 1) 34 #[.int .i64 st, .slice Am nm capm, .slice Af nf capf] by rw [← hW]; have := Blk.new (w.alloc (.cells #[.int .i64 C, .slice A n cap] 40)) 34 #[.int .i64 st, .slice Am nm capm, .slice Af nf capf]; rw [alloc_size] at this; exact ((this.alloc _).alloc _).alloc _
  have k4 := show Blk W (w.heap.size + 1 + 1) 60 #[.int .i64 x, .string s] by rw [← hW]; have := Blk.new ((w.alloc (.cells #[.int .i64 C, .slice A n cap] 40)).alloc (.cells #[.int .i64 st, .slice Am nm capm, .slice Af nf capf] 34)) 60 #[.int .i64 x, .string s]; rw [alloc_size, alloc_size] at this; exact (this.alloc _).alloc _
  have kX := show Blk W (w.heap.size + 1 + 1 + 1) 34 #[.int .i64 st, .slice Am nm capm, .slice Af nf capf] by rw [← hW]; have := Blk.new (((w.alloc (.cells #[.int .i64 C, .slice A n cap] 40)).alloc (.cells #[.int .i64 st, .slice Am nm capm, .slice Af nf capf] 34)).alloc (.cells #[.int .i64 x, .string s] 60)) 34 #[.int .i64 st, .slice Am nm capm, .slice Af nf capf]; rw [alloc_size, alloc_size, alloc_size] at this; exact this.alloc _
  have kY := show Blk W (w.heap.size + 1 + 1 + 1 + 1) 60 #[.int .i64 x, .string s] by rw [← hW]; have := Blk.new ((((w.alloc (.cells #[.int .i64 C, .slice A n cap] 40)).alloc (.cells #[.int .i64 st, .slice Am nm capm, .slice Af nf capf] 34)).alloc (.cells #[.int .i64 x, .string s] 60)).alloc (.cells #[.int .i64 st, .slice Am nm capm, .slice Af nf capf] 34)) 60 #[.int .i64 x, .string s]; rw [alloc_size, alloc_size, alloc_size, alloc_size] at this; exact this
  have hca := Lib.hid (checkAllA_any W C st (w.heap.size + 1 + 1 + 1) (.slice A n cap) (.slice (some ⟨w.heap.size + 1 + 1 + 1 + 1, 0, none⟩) 1 1) _ _ l ms fs [⟨x, s⟩] (hm.then hBX) (hf.then hBX) kX (Els.then h hBX) (els_one (E := ElC) kY rfl) hs (by simp; exact hss))
  have q0 : W.cell? ⟨w.heap.size, 0, none⟩ = some (.int .i64 C) := k2.cell 0
  have q1 : W.cell? ⟨w.heap.size, 1, none⟩ = some (.slice A n cap) := k2.cell 1
  have q2 : W.cell? ⟨w.heap.size + 1, 0, none⟩ = some (.int .i64 st) := k3.cell 0
  have q3 : W.cell? ⟨w.heap.size + 1, 1, none⟩ = some (.slice Am nm capm) := k3.cell 1
  have q4 : W.cell? ⟨w.heap.size + 1, 2, none⟩ = some (.slice Af nf capf) := k3.cell 2
  have q5 : W.cell? ⟨w.heap.size + 1 + 1, 0, none⟩ = some (.int .i64 x) := k4.cell 0
  have q6 : W.cell? ⟨w.heap.size + 1 + 1, 1, none⟩ = some (.string s) := k4.cell 1
  have hall := Lib.hid (fun e : errA C st l ms fs [⟨x, s⟩] = 0 => errA_one e)
  replace hm := Lib.hid (hm.then hBX)
  replace hf := Lib.hid (hf.then hBX)
  replace hBX := Lib.hid hBX
  clear h k2 k3 k4 kX kY hs hss q0 q1
  generalize hEE : errA C st l ms fs [⟨x, s⟩] = E at hca hall ⊢
  replace hEE := Lib.hid hEE
  by_cases hE : E = 0
  · subst hE
    obtain ⟨_, hgv, hpr⟩ := hall.out rfl
    obtain ⟨_, _, hwd, hs20⟩ := properB_iff.1 hpr
    obtain ⟨_, hml, _⟩ := givenB_iff.1 hgv
    dsimp only at hwd hs20
    have hac := Lib.hid (fun V (hb : Below W.heap.size W V) => accepts_any V st x _ _ ms fs s (hm.out.then hb) (hf.out.then hb) hwd hs20 (by omega))
    clear hall hgv hpr hwd
    go_enter Tryz.func31, Tryz.ntmps31
    go_wp2_with (first
      | (go_at_call 46; refine hca.out.mono ?_; clear hca; rintro e w1 ⟨rfl, hb1⟩; replace q2 := cell_below q2 hb1; replace q3 := cell_below q3 hb1; replace q4 := cell_below q4 hb1; replace q5 := cell_below q5 hb1; replace q6 := cell_below q6 hb1; replace hac := Lib.hid (hac.out w1 hb1); have hb1 := Lib.hid hb1)
      | (go_at_call 53; refine hac.out.mono ?_; rintro e w2 ⟨bv, rfl, hiff, hb2⟩; replace hiff := Lib.hid hiff; have hb2 := Lib.hid hb2))
    exact bodyPost_ret (v := .tuple #[.bool bv, .int .i64 0]) (by simp [results, Tryz.results31, go_sem]) rfl ⟨bv, rfl, fun _ => hiff.out, fun h => absurd rfl h, bthen hBX.out (bthen hb1.out hb2.out)⟩
  · have hne : (E != 0) = true := by simpa using hE
    clear hall
    replace hE := Lib.hid hE
    go_enter Tryz.func31, Tryz.ntmps31
    go_wp2_with (go_at_call 46; refine hca.out.mono ?_; clear hca; rintro e w1 ⟨rfl, hb1⟩; have hb1 := Lib.hid hb1)
    exact bodyPost_ret (v := .tuple #[.bool false, .int .i64 E]) (by simp [results, Tryz.results31, go_sem]) rfl ⟨false, rfl, fun h => absurd h hE.out, fun _ => rfl, bthen hBX.out hb1.out⟩

/-! ### the errors -/
set_option maxRecDepth 8000 in
set_option maxHeartbeats 4000000 in
theorem Endless_err (w : World) (C x : Int) (v : Value) (l : List RuleB) (s : ByteArray) (h : Rls w v l) (hs : ∀ r ∈ l, r.put.size ≤ 9223372036854775807) (hss : s.size ≤ 9223372036854775807) (he : allE C l [⟨x, s⟩] ≠ 0) :
    Calls Tryz.prog 33 #[sv C v, cv ⟨x, s⟩] w fun e w' => e = .returned (.tuple #[.bool false, .int .i64 (allE C l [⟨x, s⟩])]) ∧ Below w.heap.size w w' := by
  obtain ⟨A, n, cap, rfl, hn⟩ := Els.shape h
  obtain ⟨W, hW⟩ : ∃ W, ((w.alloc (.cells #[.int .i64 C, .slice A n cap] 40)).alloc (.cells #[.int .i64 x, .string s] 60)).alloc (.cells #[.int .i64 x, .string s] 60) = W := ⟨_, rfl⟩
  have hBW : Below w.heap.size w W := by rw [← hW]; exact bthen (below1 _ _) (bthen (below1 _ _) (below1 _ _))
  have k4 : Blk W (w.heap.size + 1 + 1) 60 #[.int .i64 x, .string s] := by rw [← hW]; have := Blk.new ((w.alloc (.cells #[.int .i64 C, .slice A n cap] 40)).alloc (.cells #[.int .i64 x, .string s] 60)) 60 #[.int .i64 x, .string s]; rw [alloc_size, alloc_size] at this; exact this
  have H := Lib.hid (checkAll_any W C (.slice A n cap) (.slice (some ⟨w.heap.size + 1 + 1, 0, none⟩) 1 1) l [⟨x, s⟩] (Els.then h hBW) (els_one (E := ElC) k4 rfl) hs (by simp; exact hss))
  generalize allE C l [⟨x, s⟩] = E at *
  have hne : (E != 0) = true := by simpa using he
  replace hBW := Lib.hid hBW
  clear h hs hss k4 he
  go_enter Tryz.func33, Tryz.ntmps33
  go_wp2
  go_step3
  go_wp2_with (go_at_call 46; refine H.out.mono ?_; rintro e w1 ⟨rfl, hb⟩; replace hb := Lib.hid hb)
  rw [Exit.noGoto_ret]
  exact bodyPost_ret (v := .tuple #[.bool false, .int .i64 E]) (by simp [results, Tryz.results33, go_sem]) rfl ⟨rfl, bthen hBW.out hb.out⟩
set_option maxRecDepth 8000 in
set_option maxHeartbeats 4000000 in
theorem Run_err (w : World) (C x y : Int) (v : Value) (l : List RuleB) (s t : ByteArray) (h : Rls w v l) (hs : ∀ r ∈ l, r.put.size ≤ 9223372036854775807) (hss : s.size ≤ 9223372036854775807) (htt : t.size ≤ 9223372036854775807) (he : allE C l [⟨x, s⟩, ⟨y, t⟩] ≠ 0) :
    Calls Tryz.prog 27 #[sv C v, cv ⟨x, s⟩, cv ⟨y, t⟩] w fun e w' => e = .returned (.tuple #[.slice none 0 0, .bool false, .int .i64 (allE C l [⟨x, s⟩, ⟨y, t⟩])]) ∧ Below w.heap.size w w' := by
  obtain ⟨A, n, cap, rfl, hn⟩ := Els.shape h
  obtain ⟨W, hW⟩ : ∃ W, (((w.alloc (.cells #[.int .i64 C, .slice A n cap] 40)).alloc (.cells #[.int .i64 x, .string s] 60)).alloc (.cells #[.int .i64 y, .string t] 60)).alloc (.cells #[.int .i64 x, .string s, .int .i64 y, .string t] 60) = W := ⟨_, rfl⟩
  have hBW : Below w.heap.size w W := by rw [← hW]; exact bthen (below1 _ _) (bthen (below1 _ _) (bthen (below1 _ _) (below1 _ _)))
  have k4 : Blk W (w.heap.size + 1 + 1 + 1) 60 #[.int .i64 x, .string s, .int .i64 y, .string t] := by rw [← hW]; have := Blk.new (((w.alloc (.cells #[.int .i64 C, .slice A n cap] 40)).alloc (.cells #[.int .i64 x, .string s] 60)).alloc (.cells #[.int .i64 y, .string t] 60)) 60 #[.int .i64 x, .string s, .int .i64 y, .string t]; rw [alloc_size, alloc_size, alloc_size] at this; exact this
  have H := Lib.hid (checkAll_any W C (.slice A n cap) (.slice (some ⟨w.heap.size + 1 + 1 + 1, 0, none⟩) 2 2) l [⟨x, s⟩, ⟨y, t⟩] (Els.then h hBW) (els_blk (E := ElC) k4 rfl rfl (by omega)) hs (by simp; exact ⟨hss, htt⟩))
  generalize allE C l [⟨x, s⟩, ⟨y, t⟩] = E at *
  have hne : (E != 0) = true := by simpa using he
  replace hBW := Lib.hid hBW
  clear h hs hss htt k4 he
  go_enter Tryz.func27, Tryz.ntmps27
  go_wp2_with (go_at_call 46; refine H.out.mono ?_; rintro e w1 ⟨rfl, hb⟩; replace hb := Lib.hid hb)
  exact bodyPost_ret (v := .tuple #[.slice none 0 0, .bool false, .int .i64 E]) (by simp [results, Tryz.results27, go_sem]) rfl ⟨rfl, bthen hBW.out hb.out⟩
end
section
theorem bofI_at {ms : List Mi} {p c q : Int} : BofI ms p (97 + c) q ↔ (p, c, q) ∈ ms := by
  unfold BofI
  rw [List.mem_map]
  constructor
  · rintro ⟨m, h, e⟩
    unfold keyM at e
    simp only [Prod.mk.injEq] at e
    have : m = (p, c, q) := by
      obtain ⟨a, b, d⟩ := m
      simp only at e
      simp only [Prod.mk.injEq]
      omega
    rw [← this]; exact h
  · intro h; exact ⟨_, h, rfl⟩
theorem given_acc {C st x : Nat} {ms : List Mi} {fs : List Int} {s : ByteArray} (hg : givenB C st ms fs = true) (hp : properB C ⟨x, s⟩ = true) :
    (bestN st (ofF (fs.map Int.toNat)) (costs st (ofX (ms.map toMv)) (cs s) (only1 x)) < 1073741824) ↔ ∃ f ∈ fs, PathA (BofI ms) x (cs s) f := by
  have hG := (givenB_iff2 (Int.natCast_nonneg C)).1 hg
  obtain ⟨h1, h2, h3, h4⟩ := properB_iff.1 hp
  simp only at h1 h2 h3 h4
  obtain ⟨u, hu, hl⟩ := wrd_of h3
  have hin : ∀ m ∈ ms, 0 ≤ m.1 ∧ m.1 < st ∧ 0 ≤ m.2.1 ∧ m.2.1 < 5 ∧ 0 ≤ m.2.2 ∧ m.2.2 < st := fun m hm => by
    obtain ⟨i, hi, rfl⟩ := List.getElem_of_mem hm
    have h := hG.2.2.2.1 i hi
    unfold mvAt mvIn at h
    rw [List.getD_eq_getElem?_getD, List.getElem?_eq_getElem hi, Option.getD_some] at h
    simp only [Bool.and_eq_true, Bool.not_eq_true', decide_eq_false_iff_not] at h
    omega
  have hnon : NonM ms := fun m hm => by have := hin m hm; omega
  have hfs := given_fin (Int.natCast_nonneg C) hg
  have hxs : x < st := by omega
  have hT : ∀ p c q : Nat, ofX (ms.map toMv) p c q < 1073741824 ↔ BofI ms p (97 + c) q := fun p c q => by rw [ofX_pos, mem_toMv hnon, bofI_at]
  have h5 : ∀ i k, i < st → k < st → ¬ ofX (ms.map toMv) i 5 k < 1073741824 := fun i k _ _ h => by
    rw [ofX_pos, mem_toMv hnon] at h
    have := hin _ h
    dsimp only at this
    omega
  rw [← hu, acc_costs h5 (fun p c q _ _ _ => by unfold ofX; split <;> simp) u _ hl (fun i _ => (only1_rng x i).1) (fun i _ h => only1_bd x i h),
    acc_prog (M := BofI ms) h5 (fun p c q _ _ _ => hT p c q) (fun p a q hb => by
      have e : a = 97 + (a - 97) := by omega
      rw [e, bofI_at] at hb
      have := hin _ hb
      dsimp only at this
      omega) u _ hl]
  constructor
  · rintro ⟨p, _, hs, q, hpq, i, hi, rfl, hf⟩
    rw [pos_only1 hxs] at hs
    subst hs
    rw [ofF_int (fun f hf => (hfs f hf).1)] at hf
    exact ⟨_, hf, hpq⟩
  · rintro ⟨f, hf, hpq⟩
    have hr := hfs f hf
    refine ⟨x, hxs, (pos_only1 hxs x).2 rfl, f, hpq, f.toNat, by omega, by omega, ?_⟩
    rw [ofF_int (fun f hf => (hfs f hf).1), Int.toNat_of_nonneg hr.1]
    exact hf
end
end Go.Proofs.YtaapnflhjbdmlaaGreatDoor
