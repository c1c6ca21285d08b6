/- The specification's popped. No condition. -/
import Derived.Test.YtaapnflhjbdmlaaDoorW2
import Derived.Test.YtaapnflhjbdmlaaDoorM3
namespace Go.Proofs.YtaapnflhjbdmlaaDoor
open Go.RowKit Go.Shelf
attribute [local go_sem] Oper.semAt_some

/-- a row of answers -/
def bls (n : Nat) (f : Nat → Bool) : Array Value := ((List.range n).map fun i => Value.bool (f i)).toArray
abbrev Bl (w : World) (g n : Nat) (f : Nat → Bool) : Prop := Blk w g 4 (bls n f)
theorem Bl.cell {w : World} {g n : Nat} {f : Nat → Bool} (h : Bl w g n f) {i : Nat} (hi : i < n) : w.cell? ⟨g, i, none⟩ = some (.bool (f i)) := by
  rw [Blk.cell h i]
  unfold bls
  simp [hi]
theorem Bl.set {w : World} {g n : Nat} {f : Nat → Bool} (h : Bl w g n f) {i : Nat} (b : Bool) : Bl (w.setCell ⟨g, i, none⟩ (.bool b)) g n (fun j => if j = i then b else f j) := by
  have := Blk.set h i (.bool b)
  have e : (bls n f).setIfInBounds i (.bool b) = bls n (fun j => if j = i then b else f j) := by
    apply Array.ext_getElem?
    intro k
    rw [Array.getElem?_setIfInBounds]
    unfold bls
    simp only [List.size_toArray, List.length_map, List.length_range, List.getElem?_toArray, List.getElem?_map]
    by_cases hk : k < n
    · by_cases hki : i = k
      · subst hki
        simp [hk]
      · have : ¬ k = i := fun h => hki h.symm
        simp [hki, this, List.getElem?_range hk]
    · by_cases hki : i = k
      · subst hki
        simp [hk]
      · simp [hki, hk]
  rwa [e] at this
theorem Bl.congr {w : World} {g n : Nat} {f f' : Nat → Bool} (h : Bl w g n f) (hf : ∀ i, i < n → f i = f' i) : Bl w g n f' := by
  have : bls n f = bls n f' := by
    unfold bls
    congr 1
    apply List.map_congr_left
    intro i hi
    rw [hf i (List.mem_range.1 hi)]
  unfold Bl
  rw [← this]
  exact h
theorem bls_false (n : Nat) : bls n (fun _ => false) = Array.replicate n (.bool false) := by
  apply Array.ext_getElem?
  intro k
  unfold bls
  simp only [List.getElem?_toArray, List.getElem?_map, Array.getElem?_replicate]
  by_cases hk : k < n
  · simp [hk]
  · simp [hk]

/-- 'make([]bool, n)' -/
theorem wpList_make_bools {P : Program} {w : World} {ops : Array Oper} {rest : List Oper} {o : Oper} {a : Act} {Q : Exit → Act → World → Prop}
    (hg : o.guard = none) (l c : Operand) (t : TypeId) (hop : o.op = Op.makeSlice t l c) (ht : P.underlying t = some (.slice 4))
    (hinfo : (P.info? 4).map (fun i => (i.zero, i.size, i.bytes)) = some (some (.bool false), 1, 1)) (n : Nat) (hl : a.eval l = .int .i64 (n : Int)) (hc : a.eval c = .int .i64 (n : Int))
    (h1 : 1 ≤ n) (hn : n ≤ 1000000) (hK : ∀ w', Bl w' w.heap.size n (fun _ => false) → Below w.heap.size w w' → wpList P ops Q rest (a.put o.dst (.slice (some ⟨w.heap.size, 0, none⟩) n n)) w') :
    wpList P ops Q (o :: rest) a w := by
  obtain ⟨i, hi, hz0, hz1, hz2⟩ := info_parts hinfo
  refine wpList_make_full w hg l c t hop w.heap.size 4 i (.bool false) 1 ht hi hz0 hz1 .i64 .i64 _ _ n hl hc rfl rfl (by rw [hz2]; omega) (by simp only [maxLen]; omega) (Nat.le_refl _) fun w' ho hgr => hK w' ?_ (below_of_grown hgr (Nat.le_refl _) (fun k hk => by cases hk))
  obtain ⟨_, h2 | ⟨g, cap, cur, h2, _, h3, _, _, h4, h5⟩⟩ := ho
  · exact absurd h2.2 (by omega)
  · injection h2 with e1 e2 e3
    injection e1 with e1
    injection e1 with e1
    subst e1
    subst e3
    rw [Nat.mul_one] at h4 h5
    unfold Bl Blk
    rw [h3]
    congr 2
    rw [bls_false]
    apply Array.toList_inj.1
    rw [List.take_of_length_le (by simp [h4])] at h5
    rw [h5]
    show (madeCells #[Value.bool false] n).toList = _
    rw [toList_madeCells_one, Array.toList_replicate]

/-- a table of answers that may be read: control, letter, control -/
def Cub (w : World) (v : Value) (n : Nat) (T : Nat → Nat → Nat → Bool) : Prop :=
  ∃ b off cap, v = .slice (some ⟨b, off, none⟩) n cap ∧ n ≤ cap ∧ cap ≤ maxLen ∧ ∃ (r o k : Nat → Nat) (h : Nat → Nat → Nat),
    (∀ p, p < n → 5 ≤ k p ∧ k p ≤ maxLen ∧ w.cell? ⟨b, off + p, none⟩ = some (.slice (some ⟨r p, o p, none⟩) 5 (k p))) ∧
    (∀ p c, p < n → c < 5 → w.cell? ⟨r p, o p + c, none⟩ = some (.slice (some ⟨h p c, 0, none⟩) n n)) ∧
    ∀ p c q, p < n → c < 5 → q < n → w.cell? ⟨h p c, q, none⟩ = some (.bool (T p c q))
theorem Cub.below {w w' : World} {v : Value} {n : Nat} {T : Nat → Nat → Nat → Bool} (h : Cub w v n T) (hb : Below w.heap.size w w') : Cub w' v n T := by
  obtain ⟨b, off, cap, rfl, h1, h2, r, o, k, g, h3, h4, h5⟩ := h
  refine ⟨b, off, cap, rfl, h1, h2, r, o, k, g, fun p hp => ?_, fun p c hp hc => cell_below (h4 p c hp hc) hb, fun p c q hp hc hq => cell_below (h5 p c q hp hc hq) hb⟩
  obtain ⟨h6, h7, h8⟩ := h3 p hp
  exact ⟨h6, h7, cell_below h8 hb⟩
/-- what is found before the place (P, Q) -/
def ppK (T : Nat → Nat → Nat → Bool) (now : Nat → Bool) (c P Q q : Nat) : Bool := ((List.range P).any fun p => now p && T p c q) || (decide (q < Q) && now P && T P c q)

theorem ppK_zero (T : Nat → Nat → Nat → Bool) (now : Nat → Bool) (c j : Nat) : ppK T now c 0 0 j = false := by simp [ppK]
theorem ppK_step {T : Nat → Nat → Nat → Bool} {now : Nat → Bool} {c P Q : Nat} (h : now P = true) (j : Nat) : (if j = Q then (ppK T now c P Q Q || T P c Q) else ppK T now c P Q j) = ppK T now c P (Q + 1) j := by
  unfold ppK
  by_cases hj : j = Q
  · subst hj
    simp [h]
  · rw [if_neg hj]
    have : decide (j < Q) = decide (j < Q + 1) := by
      by_cases h1 : j < Q
      · simp [h1, show j < Q + 1 by omega]
      · simp [h1, show ¬ j < Q + 1 by omega]
    rw [this]
theorem ppK_done {T : Nat → Nat → Nat → Bool} {now : Nat → Bool} {c P Q n : Nat} (h : now P = false ∧ Q = 0 ∨ now P = false ∨ n ≤ Q) {j : Nat} (hj : j < n) : ppK T now c P Q j = ppK T now c (P + 1) 0 j := by
  unfold ppK
  rw [List.range_succ, List.any_append]
  rcases h with ⟨h, _⟩ | h | h
  · simp [h]
  · simp [h]
  · simp [show j < Q by omega]
theorem ppK_pp {T : Nat → Nat → Nat → Bool} {now : Nat → Bool} {c n : Nat} (j : Nat) : ppK T now c n 0 j = pp n T now c j := by simp [ppK, pp]

set_option maxRecDepth 8000 in
set_option maxHeartbeats 2000000 in
theorem popped_any (w : World) (n c gn : Nat) (vP : Value) (T : Nat → Nat → Nat → Bool) (now : Nat → Bool) (hn : 1 ≤ n) (hn5 : n ≤ 5) (hc : c < 5) (hP : Cub w vP n T) (hN : Bl w gn n now) :
    Calls Tryd.prog 34 #[vP, .slice (some ⟨gn, 0, none⟩) n n, .int .i64 c] w fun e w' => ∃ g, e = .returned (.slice (some ⟨g, 0, none⟩) n n) ∧ w.heap.size ≤ g ∧ Bl w' g n (pp n T now c) ∧ Below w.heap.size w w' := by
  obtain ⟨b, off, cap, rfl, h1, h2, r, o, k, h, h3, h4, h5⟩ := hP
  have hnI : (1 : Int) ≤ n := by omega
  have hnJ : (n : Int) ≤ 5 := by omega
  replace h3 := Lib.hid h3
  replace h4 := Lib.hid h4
  replace h5 := Lib.hid h5
  replace hN := Lib.hid hN
  go_enter Tryd.func34, Tryd.ntmps34
  go_wp2_with (at_make; refine wpList_make_bools rfl _ _ 85 rfl Tryd.underlying85 (by kernel_rfl) n rfl rfl hn (by omega) ?_; intro w1 hB hb1; have hB := Lib.hid hB; have hb1 := Lib.hid hb1)
  obtain ⟨g, hg⟩ : ∃ g, w.heap.size = g := ⟨_, rfl⟩
  rw [hg] at hB ⊢
  replace hg := Lib.hid hg
  have hgn := hN.out.lt
  have hgn2 : gn ≠ g := by have := hg.out; omega
  have kb : ∀ p cv, w.cell? p = some cv → p.block ≠ g := fun p cv h => by have := lt_of_cell h; have := hg.out; omega
  replace kb := Lib.hid kb
  have kw : ∀ wr, BX [g] w1 wr → ∀ p cv, w.cell? p = some cv → wr.cell? p = some cv := fun wr hx p cv h => hx.cell (cell_below h hb1.out) (by simpa using kb.out p cv h)
  replace kw := Lib.hid kw
  go_loopw [8] (fun c8 wr => ∃ P : Nat, P ≤ n ∧ c8 = .int .i64 (P : Int) ∧ Hid (Bl wr g n (ppK T now c P 0)) ∧ Hid (BX [g] w1 wr)) (fun c8 _ => n - (intOf c8).toNat)
  case atStart => exact ⟨0, Nat.zero_le _, rfl, hB.out.congr fun i _ => (ppK_zero T now c i).symm, BX.refl _ _⟩
  case round =>
    obtain ⟨P, hP, rfl, hBr, hxr⟩ := hrel
    by_cases hlt : P < n
    case neg =>
      have hge : ¬ (P : Int) < n := by omega
      obtain rfl : P = n := by omega
      clear hlt hP
      go_wp2
      go_ret
      refine ⟨g, rfl, Nat.le_of_eq hg.out, hBr.out.congr fun i _ => ppK_pp i, hb1.out.trans (hxr.out.below (by have := hb1.out.size; have := hg.out; omega) (by simp; exact Nat.le_of_eq hg.out))⟩
    have hltI : (P : Int) < n := by omega
    have hPn : P < n := hlt
    have k8 : ∀ wq, BX [g] w1 wq → wq.cell? ⟨gn, P, none⟩ = some (.bool (now P)) := fun wq hx => kw.out wq hx _ _ (hN.out.cell hPn)
    obtain ⟨h6, h7, h8⟩ := h3.out P hPn
    have h9 := h4.out P c hPn hc
    go_wp2
    go_loopw [9] (fun c9 wq => ∃ Q : Nat, Q ≤ n ∧ c9 = .int .i64 (Q : Int) ∧ Hid (Bl wq g n (ppK T now c P Q)) ∧ Hid (BX [g] w1 wq)) (fun c9 _ => n - (intOf c9).toNat)
    case atStart => exact ⟨0, Nat.zero_le _, rfl, hBr.out, hxr.out⟩
    case round =>
      obtain ⟨Q, hQ, rfl, hBq, hxq⟩ := hrel
      have a0 := k8 _ hxq.out
      have a1 := kw.out _ hxq.out _ _ h8
      have a2 := kw.out _ hxq.out _ _ h9
      cases hnow : now P with
      | false =>
        rw [hnow] at a0
        have hend := Lib.hid (hBq.out.congr fun j hj => ppK_done (n := n) (.inr (.inl hnow)) hj)
        clear hnow
        by_cases hq : Q < n
        · have hqI : (Q : Int) < n := by omega
          go_wp2
          go_roundw
          case rel => exact ⟨P + 1, by omega, by go_num, hend.out, hxq.out⟩
          case measure => simp [intOf]; omega
        · have hqI : ¬ (Q : Int) < n := by omega
          go_wp2
          go_roundw
          case rel => exact ⟨P + 1, by omega, by go_num, hend.out, hxq.out⟩
          case measure => simp [intOf]; omega
      | true =>
        rw [hnow] at a0
        by_cases hq : Q < n
        case neg =>
          have hend := Lib.hid (hBq.out.congr fun j hj => ppK_done (n := n) (.inr (.inr (by omega))) hj)
          have hqI : ¬ (Q : Int) < n := by omega
          clear hnow
          go_wp2
          go_roundw
          case rel => exact ⟨P + 1, by omega, by go_num, hend.out, hxq.out⟩
          case measure => simp [intOf]; omega
        have hqI : (Q : Int) < n := by omega
        have a3 := kw.out _ hxq.out _ _ (h5.out P c Q hPn hc hq)
        have a4 := hBq.out.cell hq
        have a5 := hBq.out.free Q
        have hnew := Lib.hid ((hBq.out.set (i := Q) (ppK T now c P Q Q || T P c Q)).congr fun j _ => ppK_step hnow j)
        clear hnow
        cases hv : ppK T now c P Q Q with
        | false =>
          rw [hv] at a4 hnew
          go_wp2
          go_roundw
          case rel => exact ⟨Q + 1, by omega, by go_num, by have := hnew.out; simp only [Bool.false_or, Bool.true_or] at this; exact this, hxq.out.set (by simp) _⟩
          case measure => simp [intOf]; omega
        | true =>
          rw [hv] at a4 hnew
          go_wp2
          go_roundw
          case rel => exact ⟨Q + 1, by omega, by go_num, by have := hnew.out; simp only [Bool.false_or, Bool.true_or] at this; exact this, hxq.out.set (by simp) _⟩
          case measure => simp [intOf]; omega
end Go.Proofs.YtaapnflhjbdmlaaDoor
