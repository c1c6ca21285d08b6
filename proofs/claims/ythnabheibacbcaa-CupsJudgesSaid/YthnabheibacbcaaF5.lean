/- R.Longest. No condition. -/
import Derived.Test.YthnabheibacbcaaF2
import Derived.Test.YthnabheibacbcaaD1
import Derived.Shelf.RegionOpenPlain
namespace Go.Proofs.Ythnabheibacbcaa
open Go.RowKit Go.Shelf

theorem bfold_one {B : Nat → Int × Int} {ok : Nat → Bool} {h : Nat → Int} (e : Nat) : (bfold B ok h (e + 1)).1 = if ok e = true then max (bfold B ok h e).1 ((B e).1 + 1) else (bfold B ok h e).1 := by
  simp only [bfold]
  by_cases h1 : ok e = true
  · rw [if_pos h1]
    by_cases h2 : (bfold B ok h e).1 < (B e).1 + 1
    · rw [if_pos ⟨h1, h2⟩]; simp only; omega
    · rw [if_neg (fun h => h2 h.2)]; omega
  · rw [if_neg h1, if_neg (fun h => h1 h.1)]
theorem idx_lt {n i k : Nat} (hi : i < n) (hk : k < n) : i * n + k < n * n := by
  have h1 : (i + 1) * n ≤ n * n := Nat.mul_le_mul_right n hi
  rw [Nat.add_mul, Nat.one_mul] at h1
  omega
theorem idx_inj {n i k c d : Nat} (hk : k < n) (hd : d < n) (h : i * n + k = c * n + d) : i = c ∧ k = d := by
  have h1 : (i * n + k) / n = i := by rw [Nat.mul_comm, Nat.mul_add_div (by omega), Nat.div_eq_of_lt hk]; omega
  have h2 : (c * n + d) / n = c := by rw [Nat.mul_comm, Nat.mul_add_div (by omega), Nat.div_eq_of_lt hd]; omega
  rw [h, h2] at h1
  subst h1
  exact ⟨rfl, by omega⟩
/-- how long the longest chains are -/
def LongV (l : List Pt) (os : List Nat) (s : Int) (n : Nat) (R : Int) : Prop := (∀ c d, c < d → d < n → (BS l os s c d).1 ≤ R) ∧ (R = 2 ∨ ∃ c d, c < d ∧ d < n ∧ (BS l os s c d).1 = R)

/-- the table and the greatest, when the links that end before place k, and i more, are done -/
structure LT (l : List Pt) (os : List Nat) (s : Int) (n : Nat) (f : Nat → Int) (R : Int) (k i : Nat) : Prop where
  tab : ∀ c d, c < d → d < n → (d < k ∨ d = k ∧ c < i) → f (c * n + d) = (BS l os s c d).1
  top : ∀ c d, c < d → d < n → (d < k ∨ d = k ∧ c < i) → (BS l os s c d).1 ≤ R
  has : R = 2 ∨ ∃ c d, c < d ∧ d < n ∧ (BS l os s c d).1 = R
  lo : 2 ≤ R
  hi : R ≤ 100
section
variable {l : List Pt} {os : List Nat} {s : Int} {n : Nat} {f : Nat → Int} {R : Int} {k i : Nat}
theorem bst_le (T : Nat → Nat → Nat → Int) (h : Nat → Int) (s : Int) : ∀ (f c d : Nat), (bst T h s f c d).1 ≤ f + 2
  | 0, _, _ => by simp [bst]
  | f + 1, c, d => by
    simp only [bst]
    rcases bfold_cases (B := fun e => bst T h s f e c) (ok := fun e => decide (T e c d = s)) (h := h) c with h1 | ⟨e, _, _, h3⟩
    · rw [h1]; simp only; omega
    · rw [h3]; have := bst_le T h s f e c; simp only; omega
theorem BS_le (l : List Pt) (os : List Nat) (s : Int) (c d : Nat) : (BS l os s c d).1 ≤ c + 2 := bst_le _ _ _ _ _ _
theorem BS_ge (l : List Pt) (os : List Nat) (s : Int) (c d : Nat) : 2 ≤ (BS l os s c d).1 := Bst_ge2 _ _ _ _ _
theorem LT.upd (h : LT l os s n f R k i) (hk : k < n) (x : Int) : LT l os s n (upd f (i * n + k) x) R k i where
  tab c d h1 h2 h3 := by
    unfold Go.Proofs.Ythnabheibacbcaa.upd
    rw [if_neg]
    · exact h.tab c d h1 h2 h3
    · intro e
      have := idx_inj h2 hk e
      omega
  top := h.top
  has := h.has
  lo := h.lo
  hi := h.hi
theorem LT.next (h : LT l os s n f R k i) (hi : i < k) (hk : k < n) (hn : n ≤ 14) (hf : f (i * n + k) = (BS l os s i k).1) : LT l os s n f (max R (BS l os s i k).1) k (i + 1) where
  tab c d h1 h2 h3 := by
    by_cases e : d = k ∧ c = i
    · obtain ⟨rfl, rfl⟩ := e; exact hf
    · exact h.tab c d h1 h2 (by omega)
  top c d h1 h2 h3 := by
    by_cases e : d = k ∧ c = i
    · obtain ⟨rfl, rfl⟩ := e; omega
    · have := h.top c d h1 h2 (by omega); omega
  has := by
    rcases Int.le_total R (BS l os s i k).1 with h1 | h1
    · right; exact ⟨i, k, hi, hk, by omega⟩
    · rw [show max R (BS l os s i k).1 = R by omega]; exact h.has
  lo := by have := h.lo; omega
  hi := by have := h.hi; have := BS_le l os s i k; omega
theorem LT.row (h : LT l os s n f R k k) : LT l os s n f R (k + 1) 0 where
  tab c d h1 h2 h3 := h.tab c d h1 h2 (by omega)
  top c d h1 h2 h3 := h.top c d h1 h2 (by omega)
  has := h.has
  lo := h.lo
  hi := h.hi
end
set_option maxRecDepth 100000 in
set_option maxHeartbeats 4000000 in
theorem longestR_any (w : World) (v : Value) (l : List Pt) (s : Int) (h : Pts w v l) (hok : OkL l) (h14 : l.length ≤ 14) :
    Calls Try.prog 21 #[v, .int .i64 s] w fun e w' => ∃ R : Int, e = .returned (.int .i64 R) ∧ LongV l (ordR l l.length) s l.length R ∧ Below w.heap.size w w' := by
  have hord := Lib.hid (fun W (hb : Below w.heap.size w W) => order_any W v l (h.then hb) (by omega))
  obtain ⟨A, n, cap, rfl, hn⟩ := h.shape
  obtain ⟨_, cap', e, hl, hcm, _, hat⟩ := h.open
  injection e with e1 e2 e3
  subst e1 e3
  unfold maxLen at hcm
  rw [← e2] at hl
  have hat := Lib.hid hat
  have hn14 : n ≤ 14 := by rw [e2]; exact h14
  clear e2 h h14
  have hperm := ordR_perm l l.length
  have hol := ordR_len l l.length
  generalize ordR l l.length = os at *
  rw [← hn.out] at hol ⊢
  have hosm := Lib.hid (show ∀ k, k < n → natAt os k < l.length from fun k hk => by
    have hk' : k < os.length := by omega
    rw [natAt_eq hk']
    simpa using hperm.mem_iff.1 (List.getElem_mem hk'))
  have hol := Lib.hid hol
  have hok := Lib.hid hok
  clear hperm
  obtain ⟨M, hM⟩ : ∃ M, w.heap.size = M := ⟨_, rfl⟩
  rw [hM]
  have hN2b : n * n ≤ 196 := Nat.mul_le_mul hn14 hn14
  have hm1 : 0 ≤ (n : Int) * (n : Int) ∧ (n : Int) * (n : Int) ≤ 196 := by
    have : (n : Int) * (n : Int) = ((n * n : Nat) : Int) := (Int.natCast_mul n n).symm
    omega
  go_enter Try.func21, Try.ntmps21
  go_wp2_with (first
    | (go_at_call 44; refine (hord.out _ (Below.refl _ _)).mono ?_; rintro e w1 ⟨v1, rfl, ho, hb⟩; have hi := OwnI.ints ho; obtain ⟨A1, n1, c1, rfl, hn1⟩ := OwnL.shape ho; have hn1' := (show n1 = n by rw [hn1.out, nats_length, hol.out]); subst hn1'; have ho := Lib.hid ho; have hi := Lib.hid hi; have hb := Lib.hid hb)
    | (at_make; (refine wpList_make_ints rfl (.tmp 18) (.tmp 18) 33 rfl w1.heap.size 3 Try.underlying33 info3 (n1 * n1) rfl rfl (by omega) (Nat.le_refl _) _ rfl ?_; intro w2 hT2 hB2 hz2; have hT2 := Lib.hid hT2; have hB2 := Lib.hid hB2)))
  obtain ⟨g, hg⟩ : ∃ g, w1.heap.size = g := ⟨_, rfl⟩
  rw [hg] at hT2 hB2 hz2 ⊢
  obtain ⟨_, c1', e, _, hc1m, _, hat1⟩ := hi.out.open
  injection e with e1 e2 e3
  subst e1 e3
  clear e2
  unfold maxLen at hc1m
  have hat1 := Lib.hid (show ∀ k, k < n1 → ∃ b off, A1 = some ⟨b, off, none⟩ ∧ w1.cell? ⟨b, off + k, none⟩ = some (.int .i64 ((natAt os k : Nat) : Int)) from fun k hk => by
    obtain ⟨b, off, hA, hc⟩ := hat1 k (by rw [nats_length, hol.out]; exact hk)
    exact ⟨b, off, hA, by rwa [at0_nats] at hc⟩)
  have hBg := Lib.hid (bthen hb.out (by rw [hg]; exact hB2.out))
  have hMg : M ≤ g := by have := hb.out.size; omega
  clear hn1 hord
  go_loopw [8, 9] (fun c8 c9 wr => ∃ (k : Nat) (R : Int) (f : Nat → Int), k ≤ n1 ∧ c9 = .int .i64 (k : Int) ∧ c8 = .int .i64 R ∧ Hid (OwnT g 3 wr g (n1 * n1) (n1 * n1) f) ∧ Hid (LT l os s n1 f R k 0) ∧ 2 ≤ R ∧ R ≤ 100 ∧ Hid (Below g w1 wr)) (fun _ c _ => n1 - (intOf c).toNat)
  case atStart => exact ⟨0, 2, _, Nat.zero_le _, rfl, rfl, hT2, Lib.hid ⟨fun c d _ _ h => by omega, fun c d _ _ h => by omega, .inl rfl, by omega, by omega⟩, by omega, by omega, hB2⟩
  case round =>
    obtain ⟨k, R, f, hk, rfl, rfl, hT, hL, hR1, hR2, hB⟩ := hrel
    by_cases hlt : k < n1
    case neg =>
      obtain rfl : k = n1 := by omega
      have hres := Lib.hid (show LongV l os s k R from ⟨fun c d h1 h2 => hL.out.top c d h1 h2 (.inl h2), hL.out.has⟩)
      go_wp2
      go_ret
      refine ⟨R, rfl, hres.out, ?_⟩
      have h1 := hb.out
      rw [hM] at h1
      exact h1.trans (hB.out.mono hMg)
    have hkm := hosm.out k hlt
    obtain ⟨b1, o1, rfl, hck⟩ := hat1.out k hlt
    obtain ⟨bp, op, rfl, hck0, hck1⟩ := hat.out (natAt os k) hkm
    have hokk := hok.out (natAt os k) hkm
    go_wp2
    go_loopw [8, 10] (fun c8 c10 wr => ∃ (i : Nat) (R : Int) (f : Nat → Int), i ≤ k ∧ c10 = .int .i64 (i : Int) ∧ c8 = .int .i64 R ∧ Hid (OwnT g 3 wr g (n1 * n1) (n1 * n1) f) ∧ Hid (LT l os s n1 f R k i) ∧ 2 ≤ R ∧ R ≤ 100 ∧ Hid (Below g w1 wr)) (fun _ c _ => k - (intOf c).toNat)
    case atStart => exact ⟨0, R, f, Nat.zero_le _, rfl, rfl, hT, hL, hR1, hR2, hB⟩
    case round =>
      clear hT hL hR1 hR2 hB
      obtain ⟨i, R, f, hi, rfl, rfl, hT, hL, hR1, hR2, hB⟩ := hrel
      by_cases hlti : i < k
      case neg =>
        obtain rfl : i = k := by omega
        have hrow := Lib.hid hL.out.row
        go_wp2
        go_roundw
        case rel => exact ⟨i + 1, R, f, by omega, by go_num, rfl, hT, hrow, hR1, hR2, hB⟩
        case measure => simp [intOf]; omega
      have hin : i < n1 := by omega
      have him := hosm.out i hin
      obtain ⟨b1', o1', e, hci⟩ := hat1.out i hin
      cases e
      obtain ⟨bp', op', e, hci0, hci1⟩ := hat.out (natAt os i) him
      cases e
      have hoki := hok.out (natAt os i) him
      have hix := idx_lt (n := n1) (i := i) (k := k) hin hlt
      have hpi : (i : Int) * (n1 : Int) = ((i * n1 : Nat) : Int) := (Int.natCast_mul i n1).symm
      have hpn : (n1 : Int) * (n1 : Int) = ((n1 * n1 : Nat) : Int) := (Int.natCast_mul n1 n1).symm
      have hP1 : 0 ≤ (i : Int) * (n1 : Int) ∧ (i : Int) * (n1 : Int) ≤ 196 := by omega
      have hI1 : 0 ≤ (i : Int) * (n1 : Int) + (k : Int) ∧ (i : Int) * (n1 : Int) + (k : Int) < (n1 : Int) * (n1 : Int) := by omega
      have hto : ((i : Int) * (n1 : Int) + (k : Int)).toNat = i * n1 + k := by omega
      have hfr := hT.out.free (i * n1 + k) (by omega)
      have hce := hT.out.at (i * n1 + k) hix
      have hT1 := Lib.hid (hT.out.set (i * n1 + k) 2)
      have hL1 := Lib.hid (hL.out.upd hlt 2)
      have hg1 := Lib.hid (hB.out.setCell (p := ⟨g, i * n1 + k, none⟩) (Nat.le_refl _) (.int .i64 2))
      replace hpi := Lib.hid hpi
      replace hpn := Lib.hid hpn
      obtain ⟨F, hF⟩ : ∃ F : Nat → Int, F = fun j => (bfold (fun e => BS l os s e i) (fun e => decide (tp l os e i k = s)) (hp os) j).1 := ⟨_, rfl⟩
      have hfi := Lib.hid (show upd f (i * n1 + k) 2 (i * n1 + k) = F 0 by rw [hF]; exact if_pos rfl)
      have hBS := Lib.hid (show (BS l os s i k).1 = F i by rw [hF]; exact congrArg Prod.fst (Bst_eq _ _ _ _ _))
      have hSt := Lib.hid (show ∀ j, F (j + 1) = if tp l os j i k = s then max (F j) ((BS l os s j i).1 + 1) else F j from fun j => by
        rw [hF]
        have := bfold_one (B := fun e => BS l os s e i) (ok := fun e => decide (tp l os e i k = s)) (h := hp os) j
        simpa only [decide_eq_true_eq] using this)
      have hFb := Lib.hid (show ∀ j, j ≤ i → 2 ≤ F j ∧ F j ≤ 100 from fun j hj => by
        have h1 := bfold_mono (B := fun e => BS l os s e i) (ok := fun e => decide (tp l os e i k = s)) (h := hp os) hj
        have h2 := BS_le l os s i k
        have h3 := hBS.out
        have h4 := bfold_ge2 (B := fun e => BS l os s e i) (ok := fun e => decide (tp l os e i k = s)) (h := hp os) j
        rw [hF] at h3 ⊢
        dsimp only at h3 ⊢
        omega)
      clear hF
      clear hT hL
      go_wp2
      go_loopw [11] (fun c11 wr => ∃ (j : Nat) (f : Nat → Int), j ≤ i ∧ c11 = .int .i64 (j : Int) ∧ Hid (OwnT g 3 wr g (n1 * n1) (n1 * n1) f) ∧ Hid (LT l os s n1 f R k i) ∧ Hid (f (i * n1 + k) = F j) ∧ Hid (Below g w1 wr)) (fun c _ => i - (intOf c).toNat)
      case atStart => exact ⟨0, _, Nat.zero_le _, rfl, hT1, hL1, hfi, hg1⟩
      case round =>
        clear hT1 hL1 hfi hg1 hfr hce hB
        obtain ⟨j, f, hj, rfl, hT, hL, hf, hB⟩ := hrel
        have hce := hT.out.at (i * n1 + k) hix
        by_cases hltj : j < i
        case neg =>
          obtain rfl : j = i := by omega
          have hnx := Lib.hid (hL.out.next hlti hlt hn14 (by rw [hf.out, hBS.out]))
          rw [hf.out, ← hBS.out] at hce
          have hge := BS_ge l os s j k
          have hle := BS_le l os s j k
          generalize (BS l os s j k).1 = V at *
          go_wp2
          go_roundw
          case rel => exact ⟨j + 1, _, f, by omega, by go_num, rfl, hT, hnx, by omega, by omega, hB⟩
          case measure => simp [intOf]; omega
        have hjn : j < n1 := by omega
        have hjm := hosm.out j hjn
        obtain ⟨b1'', o1'', e, hcj⟩ := hat1.out j hjn
        cases e
        obtain ⟨bp'', op'', e, hcj0, hcj1⟩ := hat.out (natAt os j) hjm
        cases e
        have hokj := hok.out (natAt os j) hjm
        have hj2 : natAt os j < n1 := by rw [hn.out]; exact hjm
        have hi2 : natAt os i < n1 := by rw [hn.out]; exact him
        have hk2 : natAt os k < n1 := by rw [hn.out]; exact hkm
        have hw1 := (show Below w1.heap.size w1 wr by rw [hg]; exact hB.out)
        have hww := (show Below w.heap.size w wr from bthen hb.out hw1)
        have t0 := fun g : Gr wr => g.cell (cell_below hck hw1)
        have t1 := fun g : Gr wr => g.cell (cell_below hck0 hww)
        have t2 := fun g : Gr wr => g.cell (cell_below hck1 hww)
        have t3 := fun g : Gr wr => g.cell (cell_below hci hw1)
        have t4 := fun g : Gr wr => g.cell (cell_below hci0 hww)
        have t5 := fun g : Gr wr => g.cell (cell_below hci1 hww)
        have t6 := fun g : Gr wr => g.cell (cell_below hcj hw1)
        have t7 := fun g : Gr wr => g.cell (cell_below hcj0 hww)
        have t8 := fun g : Gr wr => g.cell (cell_below hcj1 hww)
        have hTu := Lib.hid (fun g : Gr wr => grow_of (g := g) (turnR_any g.w1 (ptA l (natAt os j)) (ptA l (natAt os i)) (ptA l (natAt os k)) hokj hoki hokk))
        have hstep := hSt.out j
        rw [← hf.out] at hstep
        unfold tp tur at hstep
        obtain ⟨hfb, hfl⟩ := hFb.out j hj
        rw [← hf.out] at hfb hfl
        have hzw := hB.out.size
        have hgz : g ≤ wr.heap.size := by omega
        have hVg := BS_ge l os s j i
        have hVl := BS_le l os s j i
        have hcji := hL.out.tab j i hltj hin (.inl hlti)
        have hjx := idx_lt (n := n1) (i := j) (k := i) hjn hin
        have hP2 : 0 ≤ (j : Int) * (n1 : Int) ∧ (j : Int) * (n1 : Int) ≤ 196 := by have : (j : Int) * (n1 : Int) = ((j * n1 : Nat) : Int) := (Int.natCast_mul j n1).symm; omega
        have hI2 : 0 ≤ (j : Int) * (n1 : Int) + (i : Int) ∧ (j : Int) * (n1 : Int) + (i : Int) < (n1 : Int) * (n1 : Int) := by have : (j : Int) * (n1 : Int) = ((j * n1 : Nat) : Int) := (Int.natCast_mul j n1).symm; have := hpn.out; omega
        have hto2 : ((j : Int) * (n1 : Int) + (i : Int)).toNat = j * n1 + i := by have : (j : Int) * (n1 : Int) = ((j * n1 : Nat) : Int) := (Int.natCast_mul j n1).symm; omega
        replace hf := Lib.hid hf
        have hTg := Lib.hid (fun g' : Gr wr => OwnT.below hT.out (Nat.le_refl _) g'.h)
        generalize hVe : (BS l os s j i).1 = V at *
        generalize hxe : f (i * n1 + k) = x at *
        replace hVe := Lib.hid hVe
        replace hxe := Lib.hid hxe
        generalize ptA l (natAt os j) = pj at *
        generalize ptA l (natAt os i) = pi at *
        generalize ptA l (natAt os k) = pk at *
        generalize trn pj pi pk = T at *
        obtain ⟨pj1, pj2⟩ := pj
        obtain ⟨pi1, pi2⟩ := pi
        obtain ⟨pk1, pk2⟩ := pk
        clear hw1 hww hce hcj hcj0 hcj1
        by_cases hTs : T = s
        · rw [if_pos hTs] at hstep
          have hTb : (T == s) = true := by simp [hTs]
          replace hstep := Lib.hid hstep
          go_wp2
          refine wp_region_grow (by kernel_rfl) (by kernel_rfl) ?_
          repeat (go_big_quiet_step ((go_at_call 15; exact hTu.out _)))
          refine wpQuiet_nil ?_
          rintro _ ⟨g', rfl⟩
          have hTn := hTg.out g'
          have u0 := hTn.at (i * n1 + k) hix
          have u1 := hTn.at (j * n1 + i) hjx
          have u2 := hTn.free (i * n1 + k) (by omega)
          rw [hxe.out] at u0
          rw [hcji] at u1
          have hTn := Lib.hid hTn
          have hBn := Lib.hid (hB.out.trans (g'.h.mono hgz))
          have hcji := Lib.hid hcji
          clear t0 t1 t2 t3 t4 t5 t6 t7 t8 hTu hTg
          generalize g'.w1 = wq at *
          go_wp2
          go_region
          go_wp2
          have hTn2 := OwnT.set hTn.out (i * n1 + k) (max x (V + 1))
          refine ⟨⟨j + 1, _, by omega, by go_num, Lib.hid (OwnL.drewN hTn2 1), Lib.hid (hL.out.upd hlt _), Lib.hid ?_, Lib.hid (below_drewN (hBn.out.setCell (p := ⟨g, i * n1 + k, none⟩) (Nat.le_refl _) _) 1)⟩, by simp [intOf]; omega⟩
          rw [hstep.out]
          exact if_pos rfl
        · rw [if_neg hTs] at hstep
          have hTb : (T == s) = false := by simp [hTs]
          replace hstep := Lib.hid hstep
          go_wp2
          refine wp_region_grow (by kernel_rfl) (by kernel_rfl) ?_
          repeat (go_big_quiet_step ((go_at_call 15; exact hTu.out _)))
          refine wpQuiet_nil ?_
          rintro _ ⟨g', rfl⟩
          go_wp2
          go_roundw
          case rel => exact ⟨j + 1, f, by omega, by go_num, Lib.hid (hTg.out g'), hL, Lib.hid (by rw [hstep.out]; exact hxe.out), Lib.hid (hB.out.trans (g'.h.mono hgz))⟩
          case measure => simp [intOf]; omega
end Go.Proofs.Ythnabheibacbcaa
