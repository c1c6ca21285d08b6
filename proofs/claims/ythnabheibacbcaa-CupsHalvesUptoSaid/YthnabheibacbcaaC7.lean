/- The block of points that open makes. No condition. -/
import Derived.Test.YthnabheibacbcaaC6
import Derived.Test.YthnabheibacbcaaSrt
namespace Go.Proofs.Ythnabheibacbcaa
open Go.RowKit

/-- the cells of points with nothing known: the list, no turns, no order -/
def bigN (n : Nat) (v : Value) : List Value := v :: (List.replicate n (.int .i8 0) ++ [.slice none 0 0])
def bigL (v : Value) : List Value := bigN 2744 v
theorem bigN_len (n : Nat) (v : Value) : (bigN n v).length = n + 2 := by simp [bigN]
theorem bigN_get (n : Nat) (v : Value) (x : Nat) (h : x < n) : (bigN n v)[x + 1]? = some (.int .i8 0) := by
  unfold bigN
  rw [List.getElem?_cons_succ, List.getElem?_append_left (by simpa using h)]
  simp [h]
theorem bigN_last (n : Nat) (v : Value) : (bigN n v)[n + 1]? = some (.slice none 0 0) := by
  unfold bigN
  rw [List.getElem?_cons_succ, List.getElem?_append_right (by simp)]
  simp
theorem bigN_first (n : Nat) (v : Value) : (bigN n v)[0]? = some v := rfl
def big (v : Value) : Array Value := (bigL v).toArray
theorem zc77 : Try.zeroCells77 = big (.slice none 0 0) := by kernel_rfl

/-- block g holds points: the list's value v, the turns T, the order's value o -/
def TB (w : World) (g : Nat) (v : Value) (T : Nat → Nat → Nat → Int) (o : Value) : Prop :=
  ∃ cs : Array Value, Blk w g 77 cs ∧ cs.size = 2746 ∧ cs[0]? = some v ∧ cs[2745]? = some o ∧ ∀ i j k, i < 14 → j < 14 → k < 14 → cs[1 + i * 196 + j * 14 + k]? = some (.int .i8 (T i j k))
section
variable {w w' : World} {g : Nat} {v o : Value} {T : Nat → Nat → Nat → Int}
theorem big_get (v : Value) (i : Nat) : (big v)[i]? = (bigN 2744 v)[i]? := by unfold big bigL; rw [List.getElem?_toArray]
theorem big_size (v : Value) : (big v).size = 2746 := by unfold big bigL; rw [List.size_toArray, bigN_len]
theorem TB.new (w : World) (v : Value) {W : World} (hW : w.alloc (.cells (Try.zeroCells77.setIfInBounds 0 v) 77) = W) : TB W w.heap.size v (fun _ _ _ => 0) (.slice none 0 0) := by
  subst hW
  rw [zc77]
  refine ⟨_, Blk.new w 77 _, ?_, ?_, ?_, fun i j k hi hj hk => ?_⟩
  · rw [Array.size_setIfInBounds, big_size]
  · rw [Array.getElem?_setIfInBounds_self_of_lt (by rw [big_size]; omega)]
  · rw [Array.getElem?_setIfInBounds_ne (by omega), big_get]; exact bigN_last 2744 _
  · have := bigN_get 2744 (.slice none 0 0) (i * 196 + j * 14 + k) (by omega)
    rw [Array.getElem?_setIfInBounds_ne (by omega), big_get, show 1 + i * 196 + j * 14 + k = (i * 196 + j * 14 + k) + 1 by omega]
    exact this
theorem TB.lt (h : TB w g v T o) : g < w.heap.size := by obtain ⟨cs, hb, _⟩ := h; exact hb.lt
theorem TB.of_block (h : TB w g v T o) (hb : w'.heap[g]? = w.heap[g]?) : TB w' g v T o := by
  obtain ⟨cs, h1, rest⟩ := h
  exact ⟨cs, hb.trans h1, rest⟩
theorem TB.below (h : TB w g v T o) {B : Nat} (hB : Below B w w') (hg : g < B) : TB w' g v T o := h.of_block (hB.block g hg)
theorem TB.then (h : TB w g v T o) (hB : Below w.heap.size w w') : TB w' g v T o := h.below hB h.lt
theorem TB.drewN (h : TB w g v T o) (n : Nat) : TB (w.drewN n) g v T o := h
theorem TB.list (h : TB w g v T o) : w.cell? ⟨g, 0, none⟩ = some v := by obtain ⟨cs, hb, _, h1, _⟩ := h; rw [hb.cell]; exact h1
theorem TB.order (h : TB w g v T o) : w.cell? ⟨g, 2745, none⟩ = some o := by obtain ⟨cs, hb, _, _, h1, _⟩ := h; rw [hb.cell]; exact h1
theorem TB.turn (h : TB w g v T o) (i j k : Nat) (hi : i < 14) (hj : j < 14) (hk : k < 14) : w.cell? ⟨g, 1 + i * 196 + j * 14 + k, none⟩ = some (.int .i8 (T i j k)) := by
  obtain ⟨cs, hb, _, _, _, h1⟩ := h; rw [hb.cell]; exact h1 i j k hi hj hk
theorem TB.free (h : TB w g v T o) (i : Nat) : w.frozen? ⟨g, i, none⟩ = false := by obtain ⟨cs, hb, _⟩ := h; exact hb.free i
def upd3 (T : Nat → Nat → Nat → Int) (i j k : Nat) (x : Int) : Nat → Nat → Nat → Int := fun a b c => if a = i ∧ b = j ∧ c = k then x else T a b c
theorem TB.set (h : TB w g v T o) (i j k : Nat) (hi : i < 14) (hj : j < 14) (hk : k < 14) (x : Int) : TB (w.setCell ⟨g, 1 + i * 196 + j * 14 + k, none⟩ (.int .i8 x)) g v (upd3 T i j k x) o := by
  obtain ⟨cs, hb, hs, h0, ho, ht⟩ := h
  refine ⟨_, hb.set _ _, by simpa using hs, ?_, ?_, fun a b c ha hb' hc => ?_⟩
  · rw [Array.getElem?_setIfInBounds_ne (by omega)]; exact h0
  · rw [Array.getElem?_setIfInBounds_ne (by omega)]; exact ho
  · unfold upd3
    by_cases e : a = i ∧ b = j ∧ c = k
    · obtain ⟨rfl, rfl, rfl⟩ := e
      rw [Array.getElem?_setIfInBounds_self_of_lt (by omega)]
      simp
    · rw [if_neg e, Array.getElem?_setIfInBounds_ne (by omega)]
      exact ht a b c ha hb' hc
theorem TB.setO (h : TB w g v T o) (o' : Value) : TB (w.setCell ⟨g, 2745, none⟩ o') g v T o' := by
  obtain ⟨cs, hb, hs, h0, ho, ht⟩ := h
  refine ⟨_, hb.set _ _, by simpa using hs, ?_, ?_, fun a b c ha hb' hc => ?_⟩
  · rw [Array.getElem?_setIfInBounds_ne (by omega)]; exact h0
  · rw [Array.getElem?_setIfInBounds_self_of_lt (by omega)]
  · rw [Array.getElem?_setIfInBounds_ne (by omega)]
    exact ht a b c ha hb' hc
theorem TB.congr (h : TB w g v T o) {T' : Nat → Nat → Nat → Int} (e : ∀ i j k, i < 14 → j < 14 → k < 14 → T i j k = T' i j k) : TB w g v T' o := by
  obtain ⟨cs, hb, hs, h0, ho, ht⟩ := h
  exact ⟨cs, hb, hs, h0, ho, fun i j k hi hj hk => by rw [← e i j k hi hj hk]; exact ht i j k hi hj hk⟩
end

/-- the turns that are told when i, j, k come -/
def TT (l : List Pt) (i j k : Nat) (a b c : Nat) : Int := if a < l.length ∧ b < l.length ∧ c < l.length ∧ (a < i ∨ a = i ∧ (b < j ∨ b = j ∧ c < k)) then tur l a b c else 0


set_option maxHeartbeats 1000000 in
theorem open_bad (w : World) (v : Value) (l : List Pt) (m : Int) (h : Pts w v l) (hc : checkB l = false) :
    Calls Try.prog 54 #[v, .int .i64 m] w fun e w' => e = .returned (.tuple #[.pointer none, .int .i64 90]) ∧ Below w.heap.size w w' := by
  obtain ⟨A, n, cap, rfl, hn⟩ := h.shape
  obtain ⟨W0, hW0⟩ : ∃ W0, w.alloc (.cells #[.slice A n cap] 31) = W0 := ⟨_, rfl⟩
  have k0 : W0.cell? ⟨w.heap.size, 0, none⟩ = some (.slice A n cap) := by rw [← hW0]; exact one_cell
  have hB0 := Lib.hid (show Below w.heap.size w W0 by rw [← hW0]; exact below1 _ _)
  have H := check_any W0 _ l (h.then hB0.out)
  rw [show checkE l = 90 by unfold checkE; rw [hc]; rfl] at H
  replace H := Lib.hid H
  clear h hc
  go_enter Try.func54, Try.ntmps54
  go_wp2_with (go_at_call 51; refine H.out.mono ?_; rintro e w1 ⟨rfl, hb⟩; replace hb := Lib.hid hb)
  go_ret2
  exact ⟨rfl, bthen hB0.out hb.out⟩

set_option maxHeartbeats 1000000 in
theorem open_line (w : World) (v : Value) (l : List Pt) (m : Int) (h : Pts w v l) (hc : checkB l = true) (hg : genB l = false ∨ (l.length : Int) < m) :
    Calls Try.prog 54 #[v, .int .i64 m] w fun e w' => e = .returned (.tuple #[.pointer none, .int .i64 1]) ∧ Below w.heap.size w w' := by
  obtain ⟨A, n, cap, rfl, hn⟩ := h.shape
  obtain ⟨W0, hW0⟩ : ∃ W0, w.alloc (.cells #[.slice A n cap] 31) = W0 := ⟨_, rfl⟩
  have k0 : W0.cell? ⟨w.heap.size, 0, none⟩ = some (.slice A n cap) := by rw [← hW0]; exact one_cell
  have hB0 := Lib.hid (show Below w.heap.size w W0 by rw [← hW0]; exact below1 _ _)
  have H := check_any W0 _ l (h.then hB0.out)
  rw [show checkE l = 0 by unfold checkE; rw [hc]; rfl] at H
  replace H := Lib.hid H
  have H2 := fun W (hW : Below w.heap.size w W) => straight_any W _ l (h.then hW) (okL_of hc)
  unfold genB at hg
  clear h hc
  generalize lineOf l = r at *
  rcases r with _ | ⟨i, j, k⟩
  · have hlt : (n : Int) < m := by rcases hg with hg | hg; exact absurd hg (by simp); rw [hn.out]; exact hg
    have H2 := Lib.hid H2
    go_enter Try.func54, Try.ntmps54
    go_wp2_with (first
      | (go_at_call 51; refine H.out.mono ?_; rintro e w1 ⟨rfl, hb⟩; have k1 := cell_below k0 hb; replace hb := Lib.hid (bthen hB0.out hb))
      | (go_at_call 67; refine (H2.out _ hb.out).mono ?_; rintro e w2 ⟨rfl, hb2⟩; unfold lineV; have k2 := cell_below k1 hb2; replace hb2 := Lib.hid (bthen hb.out hb2)))
    go_ret2
    exact ⟨rfl, hb2.out⟩
  · have H2 := Lib.hid H2
    go_enter Try.func54, Try.ntmps54
    go_wp2_with (first
      | (go_at_call 51; refine H.out.mono ?_; rintro e w1 ⟨rfl, hb⟩; have k1 := cell_below k0 hb; replace hb := Lib.hid (bthen hB0.out hb))
      | (go_at_call 67; refine (H2.out _ hb.out).mono ?_; rintro e w2 ⟨rfl, hb2⟩; unfold lineV; have k2 := cell_below k1 hb2; replace hb2 := Lib.hid (bthen hb.out hb2)))
    go_ret2
    exact ⟨rfl, hb2.out⟩

theorem gtrans {a b c : World} {row : Option Nat} (h : a.grownBy b row) (k : b.grownBy c row) : a.grownBy c row :=
  ⟨k.os.trans h.os, k.tape.trans h.tape, k.output.trans h.output, Nat.le_trans h.size k.size, fun i hi hne => (k.block i (Nat.lt_of_lt_of_le hi h.size) hne).trans (h.block i hi hne)⟩
theorem gof {a b : World} (h : Below a.heap.size a b) (row : Option Nat) : a.grownBy b row := ⟨h.os, h.tape, h.output, h.size, fun i hi _ => h.block i hi⟩
theorem gset (a : World) (g i : Nat) (v : Value) : a.grownBy (a.setCell ⟨g, i, none⟩ v) (some g) :=
  ⟨rfl, rfl, rfl, by simp, fun k _ hk => Below.heap_setCell a _ _ _ (fun e => hk (by rw [e]))⟩
theorem gcell {a b : World} {row : Option Nat} (h : a.grownBy b row) {p : Addr} {c : Value} (hc : a.cell? p = some c) (hne : some p.block ≠ row) : b.cell? p = some c :=
  (World.cell?_of_block (h.block p.block (lt_of_cell hc) hne)).trans hc
theorem TB.lt' {w : World} {g : Nat} {v o : Value} {T : Nat → Nat → Nat → Int} (h : TB w g v T o) : g < w.heap.size := h.lt
theorem TT_step {l : List Pt} {i j k : Nat} (hi : i < l.length) (hj : j < l.length) (hk : k < l.length) (a b c : Nat) : upd3 (TT l i j k) i j k (tur l i j k) a b c = TT l i j (k + 1) a b c := by
  unfold upd3 TT
  by_cases e : a = i ∧ b = j ∧ c = k
  · obtain ⟨rfl, rfl, rfl⟩ := e
    rw [if_pos ⟨rfl, rfl, rfl⟩, if_pos ⟨hi, hj, hk, .inr ⟨rfl, .inr ⟨rfl, by omega⟩⟩⟩]
  · rw [if_neg e]
    by_cases h : a < l.length ∧ b < l.length ∧ c < l.length ∧ (a < i ∨ a = i ∧ (b < j ∨ b = j ∧ c < k))
    · rw [if_pos h, if_pos (by omega)]
    · rw [if_neg h, if_neg (by omega)]
theorem TT_row {l : List Pt} {i j : Nat} (a b c : Nat) : TT l i j l.length a b c = TT l i (j + 1) 0 a b c := by
  unfold TT
  by_cases h : a < l.length ∧ b < l.length ∧ c < l.length ∧ (a < i ∨ a = i ∧ (b < j ∨ b = j ∧ c < l.length))
  · rw [if_pos h, if_pos (by omega)]
  · rw [if_neg h, if_neg (by omega)]
theorem TT_col {l : List Pt} {i : Nat} (a b c : Nat) : TT l i l.length 0 a b c = TT l (i + 1) 0 0 a b c := by
  unfold TT
  by_cases h : a < l.length ∧ b < l.length ∧ c < l.length ∧ (a < i ∨ a = i ∧ (b < l.length ∨ b = l.length ∧ c < 0))
  · rw [if_pos h, if_pos (by omega)]
  · rw [if_neg h, if_neg (by omega)]
theorem TT_zero (l : List Pt) (a b c : Nat) : TT l 0 0 0 a b c = 0 := by unfold TT; rw [if_neg (by omega)]
theorem TT_all (l : List Pt) (a b c : Nat) : TT l l.length 0 0 a b c = if a < l.length ∧ b < l.length ∧ c < l.length then tur l a b c else 0 := by
  unfold TT
  by_cases h : a < l.length ∧ b < l.length ∧ c < l.length
  · rw [if_pos h, if_pos (by omega)]
  · rw [if_neg h, if_neg (by omega)]
theorem i8_wrap {x : Int} (h : x = 1 ∨ x = -1 ∨ x = 0) : IntKind.i8.wrap x = x := by rcases h with rfl | rfl | rfl <;> decide
theorem callFunc80 (args : Array Value) (W : World) : (callFunc 80 args).run Try.prog W = .ok (.enter 80 args) W := by simp [go_sem]

/-- points, opened: block g holds the list, all turns, and the order os -/
def PObj (w : World) (g : Nat) (l : List Pt) (os : List Nat) : Prop :=
  ∃ v o, TB w g v (fun i j k => if i < l.length ∧ j < l.length ∧ k < l.length then tur l i j k else 0) o ∧ Pts w v l ∧ OwnI (g + 1) 3 w o (nats os)
/-- the numbers of points, in their order -/
def Ordd (l : List Pt) (os : List Nat) : Prop := os.Perm (List.range l.length) ∧ os.Pairwise (befI l)

theorem dist_of {l : List Pt} (h : checkB l = true) : ∀ i j, i < l.length → j < l.length → i ≠ j → ptA l i ≠ ptA l j := by
  have key : ∀ i j, i < l.length → j < i → ptA l j ≠ ptA l i := by
    intro i j hi hji e
    unfold checkB at h
    simp only [Bool.and_eq_true, List.all_eq_true, List.mem_range] at h
    have := h.2 i hi
    unfold pOk at this
    simp only [Bool.and_eq_true, Bool.not_eq_true'] at this
    have h2 := this.2
    unfold hasPt at h2
    rw [List.any_eq_false] at h2
    have h3 := h2 (ptA l j) (by
      rw [ptA_eq (by omega), List.mem_iff_getElem]
      exact ⟨j, by simp; omega, by simp⟩)
    rw [e] at h3
    simp [eqPt] at h3
  intro i j hi hj hne
  rcases Nat.lt_or_gt_of_ne hne with h1 | h1
  · exact key j i hj h1
  · exact fun e => key i j hi h1 e.symm
theorem ord_of {l : List Pt} (hd : ∀ i j, i < l.length → j < l.length → i ≠ j → ptA l i ≠ ptA l j) {os : List Nat} (hp : os.Perm (List.range l.length)) (hs : os.Pairwise fun a b => ¬ cmpPt (ptA l b) (ptA l a) < 0) : Ordd l os := by
  refine ⟨hp, ?_⟩
  have hn : os.Nodup := hp.nodup_iff.2 List.nodup_range
  refine List.Pairwise.imp_of_mem (R := fun a b => a ≠ b ∧ ¬ cmpPt (ptA l b) (ptA l a) < 0) ?_ (List.Pairwise.and hn hs)
  rintro a b ha hb ⟨h1, h2⟩
  have ha' : a < l.length := List.mem_range.1 (hp.mem_iff.1 ha)
  have hb' : b < l.length := List.mem_range.1 (hp.mem_iff.1 hb)
  rw [cmpPt_neg] at h2
  rcases bef_total (hd a b ha' hb' h1) with h3 | h3
  · exact h3
  · exact absurd h3 h2
theorem cmp_irr (a : Pt) : ¬ cmpPt a a < 0 := by rw [cmpPt_neg]; exact bef_irrefl a
theorem cmp_tr {a b c : Pt} (h1 : cmpPt a b < 0) (h2 : cmpPt b c < 0) : cmpPt a c < 0 := by rw [cmpPt_neg] at *; exact bef_trans h1 h2
theorem cmp_nt {a b c : Pt} (h1 : ¬ cmpPt a b < 0) (h2 : ¬ cmpPt b c < 0) : ¬ cmpPt a c < 0 := by rw [cmpPt_neg] at *; unfold bef at *; omega

set_option maxRecDepth 100000 in
set_option maxHeartbeats 2000000 in
theorem open_ok (w : World) (v : Value) (l : List Pt) (m : Int) (h : Pts w v l) (hc : checkB l = true) (hg : genB l = true) (hm : m ≤ l.length) :
    Calls Try.prog 54 #[v, .int .i64 m] w fun e w' => ∃ g os, e = .returned (.tuple #[.pointer (some ⟨g, 0, none⟩), .int .i64 0]) ∧ w.heap.size ≤ g ∧ Ordd l os ∧ PObj w' g l os ∧ Below w.heap.size w w' := by
  obtain ⟨A, n, cap, rfl, hn⟩ := h.shape
  obtain ⟨W0, hW0⟩ : ∃ W0, w.alloc (.cells #[.slice A n cap] 31) = W0 := ⟨_, rfl⟩
  have k0 : W0.cell? ⟨w.heap.size, 0, none⟩ = some (.slice A n cap) := by rw [← hW0]; exact one_cell
  have hB0 := Lib.hid (show Below w.heap.size w W0 by rw [← hW0]; exact below1 _ _)
  have hsz : w.heap.size < W0.heap.size := by rw [← hW0]; simp
  have H := check_any W0 _ l (h.then hB0.out)
  rw [show checkE l = 0 by unfold checkE; rw [hc]; rfl] at H
  replace H := Lib.hid H
  have H2 := fun W (hW : Below w.heap.size w W) => straight_any W _ l (h.then hW) (okL_of hc)
  have hl1 : lineOf l = none := by unfold genB at hg; simpa using hg
  rw [hl1] at H2
  replace H2 := Lib.hid H2
  have hlt : ¬ (n : Int) < m := by rw [hn.out]; omega
  have hok := Lib.hid (okL_of hc)
  have hn14 : n ≤ 14 := by rw [hn.out]; unfold checkB at hc; simp at hc; exact hc.1.2
  have hn1 : 1 ≤ n := by rw [hn.out]; unfold checkB at hc; simp at hc; exact hc.1.1
  have hgen := Lib.hid hc
  replace h := Lib.hid h
  clear hc hg hl1
  go_enter Try.func54, Try.ntmps54
  go_wp2_with (first
      | (go_at_call 51; refine H.out.mono ?_; rintro e w1 ⟨rfl, hb⟩; have k1 := cell_below k0 hb; have hz1 := hb.size; replace hb := Lib.hid hb)
      | (go_at_call 67; refine (H2.out _ (bthen hB0.out hb.out)).mono ?_; rintro e w2 ⟨rfl, hb2⟩; unfold lineV; have k2 := cell_below k1 hb2; have hz2 := hb2.size; replace hb2 := Lib.hid (bthen hB0.out (bthen hb.out hb2)); obtain ⟨W3, hW3⟩ : ∃ W3, w2.alloc (.cells (Try.zeroCells77.setIfInBounds 0 (.slice A n cap)) 77) = W3 := ⟨_, rfl⟩; have hB3 := below1 w2 (.cells (Try.zeroCells77.setIfInBounds 0 (.slice A n cap)) 77); rw [hW3] at hB3; have k3 := cell_below k2 hB3; replace hB3 := Lib.hid hB3))
  have hT := Lib.hid (TB.new w2 _ hW3)
  replace hW3 := Lib.hid hW3
  have hw2 : w.heap.size < w2.heap.size := by omega
  clear hz1 hz2 hsz
  go_loopw [39] (fun c wr => ∃ i : Nat, i ≤ n ∧ c = .int .i64 i ∧ Hid (∃ o, TB wr w2.heap.size (.slice A n cap) (TT l i 0 0) o ∧ OwnI (w2.heap.size + 1) 3 wr o (nats (List.range i))) ∧ Hid (Below w2.heap.size W3 wr)) (fun c _ => n - (intOf c).toNat)
  case atStart => exact ⟨0, Nat.zero_le _, rfl, ⟨_, hT.out.congr (fun a b c _ _ _ => (TT_zero l a b c).symm), own_nil _ _ _⟩, Below.refl _ _⟩
  case round =>
    obtain ⟨i, hi, rfl, hTo, hB⟩ := hrel
    obtain ⟨o, hTo⟩ := hTo.out
    obtain ⟨hTi, ho⟩ := hTo
    replace hTi := Lib.hid hTi
    obtain ⟨Ao, no, co, rfl, hno⟩ := OwnL.shape ho
    replace ho := Lib.hid ho
    have hBB := Lib.hid (show Below w.heap.size w wr by
      have h1 := hb2.out.size
      exact (hb2.out.trans (hB3.out.mono h1)).trans (hB.out.mono (by omega)))
    have k4 : wr.cell? ⟨w.heap.size, 0, none⟩ = some (.slice A n cap) := (hB.out.cell (p := ⟨w.heap.size, 0, none⟩) hw2).trans k3
    by_cases hlt : i < n
    case neg =>
      obtain rfl : i = n := by omega
      have m1 := hTi.out.order
      obtain ⟨A', cap', he, _, _, _, _⟩ := (h.out).open
      have hnl : i = l.length := by injection he
      have hso := Lib.hid (sortN wr _ (List.range i) i (fun k hk => List.mem_range.1 hk) (by simp; omega) (by simp; omega) ho.out 80 #[.pointer (some ⟨w.heap.size, 0, none⟩)] callFunc80 (fun x y => cmpPt (ptA l x) (ptA l y))
        (fun x _ => cmp_irr _) (fun x y z _ _ _ => cmp_tr) (fun x y z _ _ _ => cmp_nt) (fun W hW x y hx hy => openCmp_any W w.heap.size _ l x y ((World.cell?_of_block (a := ⟨w.heap.size, 0, none⟩) (hW w.heap.size (lt_of_cell k4) (fun e => by have := (OwnL.lt ho.out _ e).1; omega))).trans k4)
          (h.out.of_block fun b hb => (hW b (by have := hBB.out.size; omega) (fun e => by have := (OwnL.lt ho.out _ e).1; omega)).trans (hBB.out.block b hb)) (by omega) (by omega)))
      replace hnl := Lib.hid hnl
      clear he
      go_wp2_with (go_at_call 79; refine hso.out.mono ?_; rintro e w6 ⟨rfl, os, hp, hs, hof, hgf⟩; replace hp := Lib.hid hp; replace hs := Lib.hid hs; replace hof := Lib.hid hof; replace hgf := Lib.hid hgf)
      go_ret2
      have hneo : some w2.heap.size ≠ (Value.slice Ao no co).ownBlock := fun e => by have := (OwnL.lt ho.out w2.heap.size e.symm).1; omega
      have hBf : Below w2.heap.size wr w6 := below_of_grown hgf.out (Nat.le_of_lt hTi.out.lt) (fun k hk => by have := (OwnL.lt ho.out k hk).1; omega)
      have hBw6 : Below w.heap.size w w6 := hBB.out.trans (hBf.mono (by omega))
      refine ⟨_, os, rfl, by omega, ord_of (dist_of hgen.out) (by rw [← hnl.out]; exact hp.out) (hs.out.imp fun h => Int.not_lt.2 h), ⟨_, _, ((hTi.out.of_block (hgf.out.block _ hTi.out.lt hneo)).congr fun a b c _ _ _ => by rw [hnl.out]; exact TT_all l a b c), h.out.then hBw6, hof.out⟩, hBw6⟩
    have hlA : no + 1 ≤ 1000000 := by rw [hno.out, nats_length, List.length_range]; omega
    have m1 := hTi.out.order
    have m0 := hTi.out.free 2745
    have hGwr := hTi.out.lt
    have hrg : Hid (nats (List.range (i + 1)) = nats (List.range i) ++ [(i : Int)]) := by unfold Hid; rw [List.range_succ, nats_append]; rfl
    go_wp2_with (at_builtin; refine wpList_append_int rfl (.tmp 46) (.tmp 48) 33 rfl (w2.heap.size + 1) 3 Try.underlying33 info3 _ _ rfl rfl ho.out rfl rfl (by rw [nats_length, List.length_range]; omega) hGwr ?_; intro v' w4 ho4 hB4 hg4; have hne4 : some w2.heap.size ≠ (Value.slice Ao no co).ownBlock := (fun e => by have := (OwnL.lt ho.out w2.heap.size e.symm).1; omega); have hT4 := hTi.out.of_block (hg4.block w2.heap.size hGwr hne4); have m2 := hT4.order; have m3 := hT4.free 2745; obtain ⟨A5, n5, c5, rfl, hn5⟩ := OwnL.shape ho4; obtain ⟨W5, hW5⟩ : ∃ W5, w4.setCell ⟨w2.heap.size, 2745, none⟩ (.slice A5 n5 c5) = W5 := ⟨_, rfl⟩; have k5 : W5.cell? ⟨w.heap.size, 0, none⟩ = some (.slice A n cap) := (by rw [← hW5]; exact gcell (gset _ _ _ _) ((hB4.cell (p := ⟨w.heap.size, 0, none⟩) (Nat.lt_succ_of_lt hw2)).trans k4) (by simp; omega)); have hT5 : Hid (TB W5 w2.heap.size (.slice A n cap) (TT l i 0 0) (.slice A5 n5 c5)) := (by rw [← hW5]; exact hT4.setO _); have hB5 : Hid (Below w2.heap.size W3 W5) := (by rw [← hW5]; exact (hB.out.trans (hB4.mono (Nat.le_succ _))).setCell (p := ⟨w2.heap.size, 2745, none⟩) (Nat.le_refl _) _); have ho5 : Hid (OwnI (w2.heap.size + 1) 3 W5 (.slice A5 n5 c5) (nats (List.range (i + 1)))) := (by rw [← hW5, hrg.out]; exact OwnL.kept ho4 (gset _ _ _ _) (.inr (fun e => by have := (OwnL.lt ho4 w2.heap.size e).1; omega))); clear hT4 hB4 hg4 ho4)
    replace hW5 := Lib.hid hW5
    have hBB5 := Lib.hid (show Below w.heap.size w W5 by
      have h1 := hb2.out.size
      exact (hb2.out.trans (hB3.out.mono h1)).trans (hB5.out.mono (by omega)))
    clear hTi ho hB hTo m1 m0 k4 hBB
    go_loopw [54] (fun c W => ∃ j : Nat, j ≤ n ∧ c = .int .i64 j ∧ Hid (TB W w2.heap.size (.slice A n cap) (TT l i j 0) (.slice A5 n5 c5)) ∧ Hid (W5.grownBy W (some w2.heap.size))) (fun c _ => n - (intOf c).toNat)
    case atStart => exact ⟨0, Nat.zero_le _, rfl, hT5, World.grownBy.refl _ _⟩
    case round =>
      obtain ⟨j, hj, rfl, hTj, hg5⟩ := hrel
      obtain ⟨wm, rfl⟩ : ∃ wm : World, wm = wr := ⟨_, rfl⟩
      have kj : wm.cell? ⟨w.heap.size, 0, none⟩ = some (.slice A n cap) := gcell hg5.out k5 (by simp; omega)
      by_cases hltj : j < n
      case neg =>
        obtain rfl : j = n := by omega
        go_wp2
        go_roundw
        case rel => exact ⟨i + 1, hlt, by go_num, ⟨_, hTj.out.congr (fun a b c _ _ _ => by rw [hn.out]; exact TT_col a b c), OwnL.kept ho5.out hg5.out (.inr (fun e => by have := (OwnL.lt ho5.out w2.heap.size e).1; omega))⟩, (hB5.out.trans (below_of_grown hg5.out (by have := hB5.out.size; have := hB3.out.size; omega) (fun k hk => by injection hk with hk; omega)))⟩
        case measure => simp [intOf]; omega
      go_wp2
      go_loopw [59] (fun c W => ∃ k : Nat, k ≤ n ∧ c = .int .i64 k ∧ Hid (TB W w2.heap.size (.slice A n cap) (TT l i j k) (.slice A5 n5 c5)) ∧ Hid (W5.grownBy W (some w2.heap.size))) (fun c _ => n - (intOf c).toNat)
      case atStart => exact ⟨0, Nat.zero_le _, rfl, hTj, hg5⟩
      case round =>
        obtain ⟨k, hk, rfl, hTk, hgk⟩ := hrel
        have kk : wr.cell? ⟨w.heap.size, 0, none⟩ = some (.slice A n cap) := gcell hgk.out k5 (by simp; omega)
        by_cases hltk : k < n
        case neg =>
          obtain rfl : k = n := by omega
          go_wp2
          go_roundw
          case rel => exact ⟨j + 1, hltj, by go_num, hTk.out.congr (fun a b c _ _ _ => by rw [hn.out]; exact TT_row a b c), hgk.out⟩
          case measure => simp [intOf]; omega
        have hGk := hTk.out.lt
        have hBk : Below w.heap.size w wr := hBB5.out.trans ((below_of_grown hgk.out (B := w2.heap.size) (by have := hB5.out.size; have := hB3.out.size; omega) (fun k hk => by injection hk with hk; omega)).mono (by omega))
        obtain ⟨A', cap', he, _, hcm, _, hat⟩ := (h.out.then hBk).open
        obtain ⟨rfl, hnl, rfl⟩ : A = A' ∧ n = l.length ∧ cap = cap' := by injection he with h1 h2 h3; exact ⟨h1, h2, h3⟩
        have hil : i < l.length := by omega
        have hjl : j < l.length := by omega
        have hkl : k < l.length := by omega
        obtain ⟨b, off, rfl, q1, q2⟩ := hat i hil
        obtain ⟨b', off', e', r1, r2⟩ := hat j hjl
        cases e'
        obtain ⟨b', off', e', s1, s2⟩ := hat k hkl
        cases e'
        replace hBk := Lib.hid hBk
        have hTu := Lib.hid (fun g : Gr wr => grow_of (turnP_any g.w1 _ _ _ (hok.out i hil) (hok.out j hjl) (hok.out k hkl)))
        have hst := Lib.hid (TT_step hil hjl hkl)
        have hu8 : IntKind.i8.wrap (tur l i j k) = tur l i j k := i8_wrap (trn_cases _ _ _)
        unfold tur at hu8 hst
        have t0 := fun g : Gr wr => g.cell kk
        have t1 := fun g : Gr wr => g.cell q1
        have t2 := fun g : Gr wr => g.cell q2
        have t3 := fun g : Gr wr => g.cell r1
        have t4 := fun g : Gr wr => g.cell r2
        have t5 := fun g : Gr wr => g.cell s1
        have t6 := fun g : Gr wr => g.cell s2
        have hi14 : i < 14 := by omega
        have hj14 : j < 14 := by omega
        have hk14 : k < 14 := by omega
        replace hnl := Lib.hid hnl
        unfold maxLen at hcm
        clear hat q1 q2 r1 r2 s1 s2 he
        generalize ptA l i = p1 at *
        generalize ptA l j = p2 at *
        generalize ptA l k = p3 at *
        generalize trn p1 p2 p3 = T at *
        go_wp2
        refine wp_region_growtail 23 (by kernel_rfl) (by kernel_rfl) ?_
        simp only [List.take_succ_cons, List.take_zero, List.drop_succ_cons, List.drop_zero]
        repeat (go_big_quiet_step ((go_at_call 53; exact hTu.out _)))
        refine wpQuiet_nil ?_
        rintro _ ⟨g, rfl⟩
        have hTg := hTk.out.then g.h
        have m1 := hTg.turn i j k hi14 hj14 hk14
        have m0 := hTg.free (1 + i * 196 + j * 14 + k)
        have hTn := Lib.hid ((hTg.set i j k hi14 hj14 hk14 T).congr (fun a b c _ _ _ => hst.out a b c))
        have hgn := Lib.hid (gtrans (gtrans hgk.out (gof g.h _)) (gset g.w1 w2.heap.size (1 + i * 196 + j * 14 + k) (.int .i8 T)))
        clear hTg
        go_wp2
        go_roundw
        case rel => exact ⟨k + 1, hltk, by go_num, hTn, hgn⟩
        case measure => simp [intOf]; omega
end Go.Proofs.Ythnabheibacbcaa
