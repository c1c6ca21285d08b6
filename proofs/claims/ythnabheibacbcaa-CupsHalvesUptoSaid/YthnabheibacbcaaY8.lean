/- Halve: points that are general together. No condition. -/
import Derived.Test.YthnabheibacbcaaY7
import Derived.Test.YthnabheibacbcaaH2
namespace Go.Proofs.Ythnabheibacbcaa
open Go.RowKit Go.Shelf

set_option maxRecDepth 100000 in
set_option maxHeartbeats 1000000 in
theorem Halve_ok (w : World) (v v2 : Value) (l m : List Pt) (h : Pts w v l) (h2 : Pts w v2 m) (c1 : checkB l = true) (c2 : checkB m = true) (hline : lineOf (l ++ m) = none) (harg : argB l m = false) (hex : ∃ x ∈ l, ∃ y ∈ m, trnS l x y = 0 ∧ trnS m x y = 0) :
    Calls Try.prog 34 #[v, v2] w fun e w' => (∃ a ∈ l, ∃ b ∈ m, trnS l a b = 0 ∧ trnS m a b = 0 ∧ e = .returned (.tuple #[.agg #[.int .i64 a.1, .int .i64 a.2, .int .i64 b.1, .int .i64 b.2], .int .i64 0])) ∧ Below w.heap.size w w' := by
  have hr := hline
  obtain ⟨A, n, cap, rfl, hn⟩ := h.shape
  obtain ⟨A2, n2, cap2, rfl, hn2⟩ := h2.shape
  have hlen : l.length ≤ 14 ∧ m.length ≤ 14 := by
    unfold checkB at c1 c2; simp at c1 c2; omega
  have par1 := Lib.hid (show (l.length % 2 == 0) = ((n : Int) % 2 == 0) by rw [← hn.out, Bool.eq_iff_iff]; simp; omega)
  have par2 := Lib.hid (show (m.length % 2 == 0) = ((n2 : Int) % 2 == 0) by rw [← hn2.out, Bool.eq_iff_iff]; simp; omega)
  have okl := Lib.hid (okL_of c1)
  have okm := Lib.hid (okL_of c2)
  have hE1 := Lib.hid (show checkE l = 0 by unfold checkE; rw [if_pos c1])
  have hE2 := Lib.hid (show checkE m = 0 by unfold checkE; rw [if_pos c2])
  have hok : OkL (l ++ m) := by
    intro i hi
    have e1 := okL_of c1
    have e2 := okL_of c2
    rw [List.length_append] at hi
    unfold ptA at *
    rw [List.getD_eq_getElem?_getD]
    by_cases h : i < l.length
    · rw [List.getElem?_append_left h]; have := e1 i h; unfold ptA at this; rwa [List.getD_eq_getElem?_getD] at this
    · rw [List.getElem?_append_right (by omega)]; have := e2 (i - l.length) (by omega); unfold ptA at this; rwa [List.getD_eq_getElem?_getD] at this
  have hok := Lib.hid hok
  have hr := Lib.hid hr
  clear c1 c2 hline
  obtain ⟨M, hM⟩ : ∃ M, w.heap.size = M := ⟨_, rfl⟩
  obtain ⟨W, hW⟩ : ∃ W, ((w.alloc (.cells #[.slice A2 n2 cap2] 31)).alloc (.cells #[.int .i64 0, .int .i64 0, .int .i64 0, .int .i64 0] 49)).alloc (.cells #[.slice A n cap, .slice A2 n2 cap2] 31) = W := ⟨_, rfl⟩
  obtain ⟨hB, hsz, k1, k2, k3⟩ := boxed3 w _ _ _ _ _ _ hW
  rw [hM] at hB hsz k1 k2 k3 ⊢
  have p1 := k1.cell 0
  have p3 := k3.cell 0
  have p4 := k3.cell 1
  simp at p1 p3 p4
  go_enter Try.func34, Try.ntmps34
  go_wp2
  have hl := Lib.hid (h.below (by rw [hM]; exact Nat.le_refl _) hB)
  have hm := Lib.hid (h2.below (by rw [hM]; exact Nat.le_refl _) hB)
  have k2 := Lib.hid k2
  have hB := Lib.hid hB
  clear h h2 k1 k3 hW
  go_loopw [23] (fun c wr => ∃ i : Nat, i ≤ 2 ∧ c = .int .i64 (i : Int) ∧ Hid (Below W.heap.size W wr)) (fun c _ => 2 - (intOf c).toNat)
  case atStart => exact ⟨0, Nat.zero_le _, rfl, Below.refl _ _⟩
  case round =>
    obtain ⟨i, hi, rfl, hW2⟩ := hrel
    have q1 := cell_below p1 hW2.out
    have q3 := cell_below p3 hW2.out
    have q4 := cell_below p4 hW2.out
    have hck1 := Lib.hid (check_any wr _ l (hl.out.then hW2.out))
    have hck2 := Lib.hid (check_any wr _ m (hm.out.then hW2.out))
    rcases (show i = 0 ∨ i = 1 ∨ i = 2 by omega) with rfl | rfl | rfl
    · go_wp2_with (go_at_call 51; refine hck1.out.mono ?_; rintro e w1 ⟨rfl, hb⟩; rw [hE1.out]; replace hW2 := Lib.hid (bthen hW2.out hb))
      go_roundw
      case rel => exact ⟨1, by omega, rfl, hW2⟩
      case measure => simp [intOf]
    · go_wp2_with (go_at_call 51; refine hck2.out.mono ?_; rintro e w1 ⟨rfl, hb⟩; rw [hE2.out]; replace hW2 := Lib.hid (bthen hW2.out hb))
      go_roundw
      case rel => exact ⟨2, by omega, rfl, hW2⟩
      case measure => simp [intOf]
    · have hcl := Lib.hid (fun W' (hb : Below wr.heap.size wr W') => clonePt_any W' _ l (hl.out.then (bthen hW2.out hb)) (by omega))
      have q1' := fun (g : Gr wr) => Gr.cell q1 g
      go_wp2
      go_cut [9] from 34 (fun c9 wx => ∃ (Aa : Option Addr) (na ca : Nat), c9 = .slice Aa na ca ∧ Hid (Pts wx (.slice Aa na ca) (l ++ m)) ∧ Hid (Below wr.heap.size wr wx))
      case first =>
        have mixed : Try.prog.follows .mixedOrders = true := by kernel_rfl
        go_region_law_o
          (first
            | (go_simp; go_at_call 66; refine (hcl.out _ (drew_below wr)).mono ?_; rintro e w2 ⟨v2, rfl, ho2, hb2⟩; have q2 := cell_below q1 ((drew_below wr).trans hb2); obtain ⟨A3, n3, c3, rfl, hn3⟩ := OwnP.shape ho2; replace ho2 := Lib.hid ho2; have hb2 := Lib.hid ((drew_below wr).trans hb2))
            | (refine step_append_pts rfl (.tmp 35) (.tmp 36) 31 (by rfl) wr.heap.size Try.underlying31 info22 _ l rfl ho2.out _ rfl m (hm.out.then (bthen hW2.out hb2.out)) (by omega) hb2.out.size ?_; intro v' w' h1 h2; obtain ⟨A4, n4, c4, rfl, hn4⟩ := OwnP.shape h1; have h1 := Lib.hid (OwnP.pts h1); have h2 := Lib.hid h2))
        all_goals
          go_wp2
          go_meet
          exact ⟨_, _, _, rfl, h1, Lib.hid (hb2.out.trans h2.out)⟩
      case rest =>
        obtain ⟨Aa, na, ca, rfl, hp9, hb9⟩ := hcut
        have hst := Lib.hid (fun W' (hb : Below wc.heap.size wc W') => straight_any W' _ (l ++ m) (hp9.out.then hb) hok.out)
        have hb9 := Lib.hid (bthen hW2.out hb9.out)
        have p1' := fun W' (hb : Below W.heap.size W W') => cell_below p1 hb
        have hco := Lib.hid (fun W' (hb : Below W.heap.size W W') => containsH1_any W' _ _ l m M (hl.out.then hb) (p1' W' hb) (hm.out.then hb))
        clear q1 q1' q3 q4 hcl
        unfold argB at harg
        rw [par1.out, par2.out, Bool.or_eq_false_iff, Bool.or_eq_false_iff] at harg
        obtain ⟨o1, o2, o3⟩ := harg
        rw [o3] at hco
        clear o3 par1 par2
        go_wp2_with (first
          | (go_at_call 67; refine (hst.out _ (Below.refl _ _)).mono ?_; rintro e w1 ⟨rfl, hb⟩; rw [hr.out]; unfold lineV; have hb10 := Lib.hid (bthen hb9.out hb); have p1w := p1' _ hb10.out)
          | (go_at_call 68; refine (hco.out _ hb10.out).mono ?_; rintro e w8 ⟨rfl, hb8⟩; replace hb10 := Lib.hid (bthen hb10.out hb8)))
        obtain ⟨_, _, e, hlen1, hcm1, _, hatl⟩ := hl.out.open
        injection e with e1 e2 e3
        subst e1 e3
        obtain ⟨_, _, e, hlen2, hcm2, _, hatm⟩ := hm.out.open
        injection e with e1 e2' e3
        subst e1 e3
        have hcf71 : ∀ (args : Array Value) (W : World), (callFunc 71 args).run Try.prog W = .ok (.enter 71 args) W := fun args W => by simp [go_sem]
        have hatl := Lib.hid hatl
        have hatm := Lib.hid hatm
        unfold maxLen at hcm1 hcm2
        have hn1 : n ≤ 1000 := by rw [hn.out]; omega
        have hn21 : n2 ≤ 1000 := by rw [hn2.out]; omega
        have hll : l.length ≤ 1000 := by omega
        have hml : m.length ≤ 1000 := by omega
        clear hst hco hb9 hp9 e2 e2' hb hb8 p1w hlen1 hlen2 hlen
        go_loopw [66] (fun c wr => ∃ i : Nat, i ≤ n ∧ c = .int .i64 (i : Int) ∧ Hid (∀ j, j < i → ∀ y ∈ m, ¬ (trnS l (ptA l j) y = 0 ∧ trnS m (ptA l j) y = 0)) ∧ Hid (Below W.heap.size W wr)) (fun c _ => n - (intOf c).toNat)
        case atStart => exact ⟨0, Nat.zero_le _, rfl, Lib.hid (fun j hj => by omega), hb10⟩
        case round =>
          clear hb10
          obtain ⟨i, hi, rfl, hno, hB3⟩ := hrel
          obtain ⟨wo, rfl⟩ : ∃ wo : World, wo = wr := ⟨_, rfl⟩
          by_cases hlt : i < n
          case neg =>
            exfalso
            obtain ⟨x, hx, y, hy, h1, h2⟩ := hex
            obtain ⟨k, hk, rfl⟩ := List.getElem_of_mem hx
            exact hno.out k (by rw [← hn.out] at hk; omega) y hy (by rw [ptA_eq hk]; exact ⟨h1, h2⟩)
          have hil : i < l.length := by rw [← hn.out]; exact hlt
          obtain ⟨bl, ol, rfl, q1, q2⟩ := hatl.out i hil
          replace q1 := cell_below q1 hB3.out
          replace q2 := cell_below q2 hB3.out
          have hpi := Lib.hid (okl.out i hil)
          have hmem := Lib.hid (show ptA l i ∈ l by rw [ptA_eq hil]; exact List.getElem_mem _)
          obtain ⟨p, hp⟩ : ∃ p, ptA l i = p := ⟨_, rfl⟩
          rw [hp] at q1 q2 hpi hmem
          obtain ⟨W5, hW5⟩ : ∃ W5, wo.alloc (.cells #[.int .i64 p.1, .int .i64 p.2] 22) = W5 := ⟨_, rfl⟩
          have hB5 : Below wo.heap.size wo W5 := by rw [← hW5]; exact below1 _ _
          have k5 : Blk W5 wo.heap.size 22 #[.int .i64 p.1, .int .i64 p.2] := by rw [← hW5]; exact Blk.new wo 22 _
          obtain ⟨s1, s2⟩ := k5.two
          have hB6 := Lib.hid (bthen hB3.out hB5)
          have p15 := p1' _ hB6.out
          replace hp := Lib.hid hp
          go_wp2
          go_loopw [72] (fun c wr' => ∃ k : Nat, k ≤ n2 ∧ c = .int .i64 (k : Int) ∧ Hid (∀ j, j < k → ¬ (trnS l p (ptA m j) = 0 ∧ trnS m p (ptA m j) = 0)) ∧ Hid (Below W5.heap.size W5 wr')) (fun c _ => n2 - (intOf c).toNat)
          case atStart => exact ⟨0, Nat.zero_le _, rfl, Lib.hid (fun j hj => by omega), Below.refl _ _⟩
          case round =>
            obtain ⟨k, hk, rfl, hnk, hB7⟩ := hrel
            by_cases hlt2 : k < n2
            case neg =>
              obtain rfl : n2 = k := by omega
              have hall := Lib.hid (show ∀ j, j < i + 1 → ∀ y ∈ m, ¬ (trnS l (ptA l j) y = 0 ∧ trnS m (ptA l j) y = 0) from fun j hj y hy => by
                rcases Nat.lt_or_ge j i with h | h
                · exact hno.out j h y hy
                · rw [show j = i by omega, hp.out]
                  obtain ⟨t, ht, rfl⟩ := List.getElem_of_mem hy
                  have := hnk.out t (by rw [hn2.out]; exact ht)
                  rwa [ptA_eq ht] at this)
              go_wp2
              go_roundw
              case rel => exact ⟨i + 1, by omega, by go_num, hall, Lib.hid (bthen hB6.out hB7.out)⟩
              case measure => simp [intOf]; omega
            have hkl : k < m.length := by rw [← hn2.out]; exact hlt2
            obtain ⟨bm, om, rfl, u1, u2⟩ := hatm.out k hkl
            have hB8 := Lib.hid (bthen hB6.out hB7.out)
            replace u1 := cell_below u1 hB8.out
            replace u2 := cell_below u2 hB8.out
            have hqi := Lib.hid (okm.out k hkl)
            have hmem2 := Lib.hid (show ptA m k ∈ m by rw [ptA_eq hkl]; exact List.getElem_mem _)
            obtain ⟨q, hq⟩ : ∃ q, ptA m k = q := ⟨_, rfl⟩
            rw [hq] at u1 u2 hqi hmem2
            obtain ⟨W6, hW6⟩ : ∃ W6, wr.alloc (.cells #[.int .i64 q.1, .int .i64 q.2] 22) = W6 := ⟨_, rfl⟩
            have hB9 : Below wr.heap.size wr W6 := by rw [← hW6]; exact below1 _ _
            have k6 : Blk W6 wr.heap.size 22 #[.int .i64 q.1, .int .i64 q.2] := by rw [← hW6]; exact Blk.new wr 22 _
            obtain ⟨s3, s4⟩ := k6.two
            have s5 := cell_below (cell_below s1 hB7.out) hB9
            have s6 := cell_below (cell_below s2 hB7.out) hB9
            have hBx := Lib.hid (bthen hB8.out hB9)
            have p16 := p1' _ hBx.out
            have H1 := Lib.hid (fun W' (hb : Below W.heap.size W W') => halves2_any W' _ l p q (hl.out.then hb) okl.out hpi.out hqi.out hll)
            have H2 := Lib.hid (fun W' (hb : Below W.heap.size W W') => halves2_any W' _ m p q (hm.out.then hb) okm.out hpi.out hqi.out hml)
            have hnext := Lib.hid (show ¬ (trnS l p q = 0 ∧ trnS m p q = 0) → ∀ j, j < k + 1 → ¬ (trnS l p (ptA m j) = 0 ∧ trnS m p (ptA m j) = 0) from fun hne j hj => by
              rcases Nat.lt_or_ge j k with h | h
              · exact hnk.out j h
              · rw [show j = k by omega, hq]; exact hne)
            replace hq := Lib.hid hq
            by_cases t1 : trnS l p q = 0
            case neg =>
              have T1 : (trnS l p q == 0) = false := by simpa using t1
              have hnx := Lib.hid (hnext.out fun h => t1 h.1)
              rw [T1] at H1
              clear hnext t1 T1
              go_wp2_with (go_at_call 71; refine (H1.out _ hBx.out).mono ?_; rintro e w7 ⟨rfl, hb⟩; have hb7 := Lib.hid ((bthen hB7.out (bthen hB9 hb))))
              go_roundw
              case rel => exact ⟨k + 1, by omega, by go_num, hnx, hb7⟩
              case measure => simp [intOf]; omega
            have T1 : (trnS l p q == 0) = true := by simpa using t1
            rw [T1] at H1
            by_cases t2 : trnS m p q = 0
            case neg =>
              have T2 : (trnS m p q == 0) = false := by simpa using t2
              have hnx := Lib.hid (hnext.out fun h => t2 h.2)
              rw [T2] at H2
              clear hnext t1 T1 t2 T2
              go_wp2_with (first
                | (go_at_call 71; refine (H1.out _ hBx.out).mono ?_; clear H1; rintro e w7 ⟨rfl, hb⟩; replace s3 := cell_below s3 hb; replace s4 := cell_below s4 hb; replace s5 := cell_below s5 hb; replace s6 := cell_below s6 hb; replace p16 := cell_below p16 hb; replace hBx := Lib.hid (bthen hBx.out hb); have hb7 := Lib.hid ((bthen hB7.out (bthen hB9 hb))))
                | (go_at_call 71; refine (H2.out _ hBx.out).mono ?_; clear H2; rintro e w8 ⟨rfl, hb⟩; replace hb7 := Lib.hid (bthen hb7.out hb)))
              go_roundw
              case rel => exact ⟨k + 1, by omega, by go_num, hnx, hb7⟩
              case measure => simp [intOf]; omega
            have T2 : (trnS m p q == 0) = true := by simpa using t2
            rw [T2] at H2
            clear hnext T1 T2
            replace t1 := Lib.hid t1
            replace t2 := Lib.hid t2
            go_wp2_with (first
              | (go_at_call 71; refine (H1.out _ hBx.out).mono ?_; clear H1; rintro e w7 ⟨rfl, hb⟩; replace s3 := cell_below s3 hb; replace s4 := cell_below s4 hb; replace s5 := cell_below s5 hb; replace s6 := cell_below s6 hb; replace p16 := cell_below p16 hb; replace hBx := Lib.hid (bthen hBx.out hb))
              | (go_at_call 71; refine (H2.out _ hBx.out).mono ?_; clear H2; rintro e w8 ⟨rfl, hb⟩; replace s3 := cell_below s3 hb; replace s4 := cell_below s4 hb; replace s5 := cell_below s5 hb; replace s6 := cell_below s6 hb; replace hBx := Lib.hid (bthen hBx.out hb); have r2 := (k2.out.then hBx.out); have f0 := r2.free 0; have f1 := r2.free 1; have f2 := r2.free 2; have f3 := r2.free 3; have e0 := r2.cell 0; have e1 := r2.cell 1; have e2 := r2.cell 2; have e3 := r2.cell 3; simp at e0 e1 e2 e3; replace r2 := Lib.hid r2))
            have r9 := Lib.hid (blk4_set r2.out (.int .i64 p.1) (.int .i64 p.2) (.int .i64 q.1) (.int .i64 q.2))
            have h9 := Lib.hid (below4_set (show Below M w w8 from hB.out.trans (hBx.out.mono (by omega))) (g := M + 1) (by omega) (.int .i64 p.1) (.int .i64 p.2) (.int .i64 q.1) (.int .i64 q.2))
            generalize (((w8.setCell ⟨M + 1, 0, none⟩ (.int .i64 p.1)).setCell ⟨M + 1, 1, none⟩ (.int .i64 p.2)).setCell ⟨M + 1, 2, none⟩ (.int .i64 q.1)).setCell ⟨M + 1, 3, none⟩ (.int .i64 q.2) = W9 at *
            exact ret34 r9.out ⟨⟨p, hmem.out, q, hmem2.out, t1.out, t2.out, rfl⟩, h9.out⟩
end Go.Proofs.Ythnabheibacbcaa
