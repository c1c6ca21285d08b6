/- Rows of points: what isRow and R.IsChain ask. No condition. -/
import Derived.Test.YthnabheibacbcaaF1
import Derived.Test.YthnabheibacbcaaE2
namespace Go.Proofs.Ythnabheibacbcaa
open Go.RowKit Go.Shelf

/-- number k of a list, as a natural number -/
def nAt (xs : List Int) (k : Nat) : Nat := (at0 xs k).toNat
def stepB (l : List Pt) (xs : List Int) (s : Int) (k : Nat) : Bool := befB (ptA l (nAt xs (k - 1))) (ptA l (nAt xs k)) && (decide (k ≤ 1) || decide (tur l (nAt xs (k - 2)) (nAt xs (k - 1)) (nAt xs k) = s))
def rowB (l : List Pt) (xs : List Int) (s : Int) : Bool := decide (2 ≤ xs.length) && idxB l.length xs && (List.range xs.length).all fun k => decide (k = 0) || stepB l xs s k
theorem rowB_short {l : List Pt} {xs : List Int} {s : Int} (h : xs.length < 2) : rowB l xs s = false := by
  unfold rowB; rw [show decide (2 ≤ xs.length) = false by simp; omega]; rfl
theorem rowB_idx {l : List Pt} {xs : List Int} {s : Int} (h : idxB l.length xs = false) : rowB l xs s = false := by
  unfold rowB; rw [h]; simp
theorem rowB_bad {l : List Pt} {xs : List Int} {s : Int} {k : Nat} (hk : k < xs.length) (h0 : 1 ≤ k) (h : stepB l xs s k = false) : rowB l xs s = false := by
  unfold rowB
  rw [show ((List.range xs.length).all fun k => decide (k = 0) || stepB l xs s k) = false from List.all_eq_false.2 ⟨k, List.mem_range.2 hk, by simp [h]; omega⟩]
  simp
theorem rowB_good {l : List Pt} {xs : List Int} {s : Int} (h2 : 2 ≤ xs.length) (hi : idxB l.length xs = true) (h : ∀ k, 1 ≤ k → k < xs.length → stepB l xs s k = true) : rowB l xs s = true := by
  unfold rowB
  rw [hi, show ((List.range xs.length).all fun k => decide (k = 0) || stepB l xs s k) = true from List.all_eq_true.2 fun k hk => by
    rcases Nat.eq_zero_or_pos k with e | e
    · simp [e]
    · rw [h k e (List.mem_range.1 hk)]; simp]
  simp [h2]
theorem idx_at {n : Nat} {xs : List Int} (h : idxB n xs = true) {k : Nat} (hk : k < xs.length) : at0 xs k = ((nAt xs k : Nat) : Int) ∧ nAt xs k < n := by
  unfold idxB at h
  have := List.all_eq_true.1 h k (List.mem_range.2 hk)
  unfold idxOk at this
  simp at this
  unfold nAt
  omega

set_option maxRecDepth 100000 in
set_option maxHeartbeats 2000000 in
theorem isChain_any (w : World) (v vx : Value) (l : List Pt) (xs : List Int) (s : Int) (h : Pts w v l) (hok : OkL l) (hx : Ints w vx xs) :
    Calls Try.prog 20 #[v, vx, .int .i64 s] w fun e w' => e = .returned (.bool (rowB l xs s)) ∧ Below w.heap.size w w' := by
  obtain ⟨A, n, cap, rfl, hn⟩ := h.shape
  obtain ⟨_, cap', e, hl, hcm, _, hat⟩ := h.open
  injection e with e1 e2 e3
  subst e1 e3
  unfold maxLen at hcm
  rw [← e2] at hl
  have hat := Lib.hid hat
  clear e2 h
  obtain ⟨Ax, m, cx, rfl, hm⟩ := hx.shape
  obtain ⟨_, cap', e, hlx, hcmx, _, hatx⟩ := hx.open
  injection e with e1 e2 e3
  subst e1 e3
  unfold maxLen at hcmx
  rw [← e2] at hlx
  have hatx := Lib.hid hatx
  clear e2
  have hidx := Lib.hid (fun W (hb : Below w.heap.size w W) => indices_any W A n cap _ xs (Ints.below hx (Nat.le_refl _) hb))
  clear hx
  by_cases h2 : m < 2
  · have hr := Lib.hid (rowB_short (l := l) (s := s) (show xs.length < 2 by rw [← hm.out]; exact h2))
    have h2' : (m : Int) < 2 := by omega
    go_enter Try.func20, Try.ntmps20
    go_wp2
    go_ret
    exact ⟨ret_bool (by rw [hr.out]), Below.refl _ _⟩
  have h2' : ¬ (m : Int) < 2 := by omega
  obtain ⟨ib, hib⟩ : ∃ ib, idxB n xs = ib := ⟨_, rfl⟩
  have hib := Lib.hid hib
  cases ib with
  | false =>
    have hr := Lib.hid (rowB_idx (l := l) (s := s) (show idxB l.length xs = false by rw [← hn.out]; exact hib.out))
    go_enter Try.func20, Try.ntmps20
    go_wp2_with (go_at_call 56; refine (hidx.out _ (Below.refl _ _)).mono ?_; rintro e w1 ⟨rfl, hb⟩; rw [hib.out]; have hb := Lib.hid hb)
    go_ret
    exact ⟨ret_bool (by rw [hr.out]), hb.out⟩
  | true =>
    have hna := Lib.hid (fun k (hk : k < xs.length) => idx_at hib.out hk)
    have hok := Lib.hid hok
    go_enter Try.func20, Try.ntmps20
    go_wp2_with (go_at_call 56; refine (hidx.out _ (Below.refl _ _)).mono ?_; rintro e w1 ⟨rfl, hb⟩; rw [hib.out]; have hb := Lib.hid hb)
    go_loopw [7] (fun c wr => ∃ k : Nat, 1 ≤ k ∧ k ≤ m ∧ c = .int .i64 (k : Int) ∧ Hid (∀ j, 1 ≤ j → j < k → stepB l xs s j = true) ∧ Hid (Below w.heap.size w wr)) (fun c _ => m - (intOf c).toNat)
    case atStart => exact ⟨1, Nat.le_refl _, by omega, rfl, Lib.hid (fun j h1 hj => by omega), hb⟩
    case round =>
      obtain ⟨k, hk1, hk, rfl, hst, hB⟩ := hrel
      by_cases hlt : k < m
      case neg =>
        obtain rfl : k = m := by omega
        have hr := Lib.hid (rowB_good (l := l) (s := s) (show 2 ≤ xs.length by rw [← hm.out]; omega) (by rw [← hn.out]; exact hib.out) (fun j h1 hj => hst.out j h1 (by rw [hm.out]; exact hj)))
        go_wp2
        go_ret
        exact ⟨ret_bool (by rw [hr.out]), hB.out⟩
      have hkx : k < xs.length := by rw [← hm.out]; exact hlt
      obtain ⟨bx, ox, rfl, hcb⟩ := hatx.out k hkx
      obtain ⟨bx', ox', e, hca⟩ := hatx.out (k - 1) (by omega)
      cases e
      obtain ⟨eb, hbl⟩ := hna.out k hkx
      obtain ⟨ea, hal⟩ := hna.out (k - 1) (by omega)
      have hfail := Lib.hid (fun hs => rowB_bad (l := l) (s := s) hkx hk1 hs)
      have hdf := Lib.hid (show stepB l xs s k = (befB (ptA l (nAt xs (k - 1))) (ptA l (nAt xs k)) && (decide (k ≤ 1) || decide (tur l (nAt xs (k - 2)) (nAt xs (k - 1)) (nAt xs k) = s))) from rfl)
      have hgood := Lib.hid (show stepB l xs s k = true → ∀ j, 1 ≤ j → j < k + 1 → stepB l xs s j = true from fun h j h1 hj => by
        rcases Nat.lt_or_ge j k with h2 | h2
        · exact hst.out j h1 h2
        · rw [show j = k by omega]; exact h)
      rw [eb] at hcb
      rw [ea] at hca
      obtain ⟨bp, op, rfl, hb0, hb1⟩ := hat.out (nAt xs k) (by rw [← hn.out]; exact hbl)
      obtain ⟨bp', op', e, ha0, ha1⟩ := hat.out (nAt xs (k - 1)) (by rw [← hn.out]; exact hal)
      cases e
      have hka : ((k : Int) - 1).toNat = k - 1 := by omega
      have t0 := fun g : Gr wr => g.cell (cell_below hcb hB.out)
      have t1 := fun g : Gr wr => g.cell (cell_below hca hB.out)
      have t2 := fun g : Gr wr => g.cell (cell_below hb0 hB.out)
      have t3 := fun g : Gr wr => g.cell (cell_below hb1 hB.out)
      have t4 := fun g : Gr wr => g.cell (cell_below ha0 hB.out)
      have t5 := fun g : Gr wr => g.cell (cell_below ha1 hB.out)
      have hzw := hB.out.size
      by_cases hk2 : k ≤ 1
      · have hk3 : decide ((1 : Int) < (k : Int)) = false := by simp; omega
        have hk4 : decide (1 < k) = false := by simp; omega
        have hdk : decide (k ≤ 1) = true := by simp; omega
        rw [hdk, Bool.true_or] at hdf
        clear hdk
        have t1 : ∀ g : Gr wr, g.w1.cell? ⟨bx, ox, none⟩ = some (.int .i64 ((nAt xs (k - 1) : Nat) : Int)) := fun g => by have := t1 g; rwa [show ox + (k - 1) = ox by omega] at this
        generalize nAt xs (k - 1) = na at *
        generalize nAt xs k = nb at *
        generalize ptA l na = pa at *
        generalize ptA l nb = pb at *
        obtain ⟨pa1, pa2⟩ := pa
        obtain ⟨pb1, pb2⟩ := pb
        have hBf := Lib.hid (fun g : Gr wr => grow_of (g := g) (before_any g.w1 (pa1, pa2) (pb1, pb2)))
        obtain ⟨bb, hbb⟩ : ∃ bb, befB (pa1, pa2) (pb1, pb2) = bb := ⟨_, rfl⟩
        rw [hbb] at hdf hBf
        clear hbb
        have hTu := Lib.hid trivial
        clear hatx hat hna
        cases bb with
        | false =>
          have hr := Lib.hid (hfail.out (by rw [hdf.out]; rfl))
          clear hfail hgood hdf
          go_wp2
          refine wp_region_grow (by kernel_rfl) (by kernel_rfl) ?_
          repeat (go_big_quiet_step ((first | (go_at_call 57; exact hBf.out _) | (go_at_call 15; exact hTu.out _))))
          refine wpQuiet_nil ?_
          rintro _ ⟨g, rfl⟩
          go_wp2
          go_ret
          exact ⟨ret_bool (by rw [hr.out]), hB.out.trans (g.h.mono hzw)⟩
        | true =>
          have hl2 := Lib.hid (hgood.out (by rw [hdf.out]; rfl))
          clear hfail hgood hdf
          go_wp2
          refine wp_region_grow (by kernel_rfl) (by kernel_rfl) ?_
          repeat (go_big_quiet_step ((first | (go_at_call 57; exact hBf.out _) | (go_at_call 15; exact hTu.out _))))
          refine wpQuiet_nil ?_
          rintro _ ⟨g, rfl⟩
          go_wp2
          go_roundw
          case rel => exact ⟨k + 1, by omega, by omega, by go_num, hl2, Lib.hid (hB.out.trans (g.h.mono hzw))⟩
          case measure => simp [intOf]; omega
      · obtain ⟨bx'', ox'', e, hcc⟩ := hatx.out (k - 2) (by omega)
        cases e
        obtain ⟨ec, hcl⟩ := hna.out (k - 2) (by omega)
        rw [ec] at hcc
        obtain ⟨bp'', op'', e, hc0, hc1⟩ := hat.out (nAt xs (k - 2)) (by rw [← hn.out]; exact hcl)
        cases e
        have t6 := fun g : Gr wr => g.cell (cell_below hcc hB.out)
        have t7 := fun g : Gr wr => g.cell (cell_below hc0 hB.out)
        have t8 := fun g : Gr wr => g.cell (cell_below hc1 hB.out)
        have o1 := hok.out (nAt xs (k - 1)) (by rw [← hn.out]; exact hal)
        have o2 := hok.out (nAt xs k) (by rw [← hn.out]; exact hbl)
        have o3 := hok.out (nAt xs (k - 2)) (by rw [← hn.out]; exact hcl)
        have hkc : ((k : Int) - 2).toNat = k - 2 := by omega
        have hk3 : (1 : Int) < (k : Int) := by omega
        have hdk : decide (k ≤ 1) = false := by simp; omega
        rw [hdk, Bool.false_or] at hdf
        clear hdk
        unfold tur at hdf
        generalize nAt xs (k - 1) = na at *
        generalize nAt xs k = nb at *
        generalize nAt xs (k - 2) = nc at *
        generalize ptA l na = pa at *
        generalize ptA l nb = pb at *
        generalize ptA l nc = pc at *
        obtain ⟨pa1, pa2⟩ := pa
        obtain ⟨pb1, pb2⟩ := pb
        obtain ⟨pc1, pc2⟩ := pc
        have hBf := Lib.hid (fun g : Gr wr => grow_of (g := g) (before_any g.w1 (pa1, pa2) (pb1, pb2)))
        have hTu := Lib.hid (fun g : Gr wr => grow_of (g := g) (turnR_any g.w1 (pc1, pc2) (pa1, pa2) (pb1, pb2) o3 o1 o2))
        obtain ⟨bb, hbb⟩ : ∃ bb, befB (pa1, pa2) (pb1, pb2) = bb := ⟨_, rfl⟩
        rw [hbb] at hdf hBf
        clear hbb hatx hat hna o1 o2 o3
        generalize trn (pc1, pc2) (pa1, pa2) (pb1, pb2) = T at *
        cases bb with
        | false =>
          have hr := Lib.hid (hfail.out (by rw [hdf.out]; rfl))
          clear hfail hgood hdf
          go_wp2
          refine wp_region_grow (by kernel_rfl) (by kernel_rfl) ?_
          repeat (go_big_quiet_step ((first | (go_at_call 57; exact hBf.out _) | (go_at_call 15; exact hTu.out _))))
          refine wpQuiet_nil ?_
          rintro _ ⟨g, rfl⟩
          go_wp2
          go_ret
          exact ⟨ret_bool (by rw [hr.out]), hB.out.trans (g.h.mono hzw)⟩
        | true =>
          by_cases hT : T = s
          · have hl2 := Lib.hid (hgood.out (by rw [hdf.out]; simp [hT]))
            have hTs : (T == s) = true := by simp [hT]
            clear hfail hgood hdf
            go_wp2
            refine wp_region_grow (by kernel_rfl) (by kernel_rfl) ?_
            repeat (go_big_quiet_step ((first | (go_at_call 57; exact hBf.out _) | (go_at_call 15; exact hTu.out _))))
            refine wpQuiet_nil ?_
            rintro _ ⟨g, rfl⟩
            go_wp2
            go_roundw
            case rel => exact ⟨k + 1, by omega, by omega, by go_num, hl2, Lib.hid (hB.out.trans (g.h.mono hzw))⟩
            case measure => simp [intOf]; omega
          · have hr := Lib.hid (hfail.out (by rw [hdf.out]; simp [hT]))
            have hTs : (T == s) = false := by simp [hT]
            clear hfail hgood hdf
            go_wp2
            refine wp_region_grow (by kernel_rfl) (by kernel_rfl) ?_
            repeat (go_big_quiet_step ((first | (go_at_call 57; exact hBf.out _) | (go_at_call 15; exact hTu.out _))))
            refine wpQuiet_nil ?_
            rintro _ ⟨g, rfl⟩
            go_wp2
            go_ret
            exact ⟨ret_bool (by rw [hr.out]), hB.out.trans (g.h.mono hzw)⟩
end Go.Proofs.Ythnabheibacbcaa
