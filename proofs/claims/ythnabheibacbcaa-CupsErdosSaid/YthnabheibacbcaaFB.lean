/- Equal of ints; inside; isEmpty. No condition. isEmpty, isHull; IsPolygon, IsEmpty. No condition. -/
import Derived.Test.YthnabheibacbcaaF1
import Derived.Test.YthnabheibacbcaaC12
import Derived.Test.YthnabheibacbcaaF3
namespace Go.Proofs.Ythnabheibacbcaa
section
open Go.RowKit Go.Shelf

theorem take_eq_step {xs ys : List Int} {k : Nat} (h1 : k < xs.length) (h2 : k < ys.length) (h : xs.take k = ys.take k) (e : at0 xs k = at0 ys k) : xs.take (k + 1) = ys.take (k + 1) := by
  rw [take_at0 h1, take_at0 h2, h, e]
set_option maxHeartbeats 1000000 in
theorem equalI_any (w : World) (v1 v2 : Value) (xs ys : List Int) (h1 : Ints w v1 xs) (h2 : Ints w v2 ys) :
    Calls Try.prog 89 #[v1, v2] w fun e w' => e = .returned (.bool (decide (xs = ys))) ∧ Below w.heap.size w w' := by
  obtain ⟨A, cap, rfl, hl, hcm, _, hat⟩ := h1.open
  obtain ⟨A2, cap2, rfl, hl2, hcm2, _, hat2⟩ := h2.open
  have hat := Lib.hid hat
  have hat2 := Lib.hid hat2
  unfold maxLen at hcm hcm2
  obtain ⟨n, hn⟩ : ∃ n, xs.length = n := ⟨_, rfl⟩
  obtain ⟨m, hm⟩ : ∃ m, ys.length = m := ⟨_, rfl⟩
  rw [hn] at hl ⊢
  rw [hm] at hl2 ⊢
  replace hn := Lib.hid hn
  replace hm := Lib.hid hm
  clear h1 h2
  by_cases hnm : n = m
  case neg =>
    have hr := Lib.hid (show decide (xs = ys) = false by
      rw [decide_eq_false_iff_not]
      intro e
      rw [e] at hn
      exact hnm (hn.out.symm.trans hm.out))
    have hne : ((n : Int) == (m : Int)) = false := by simp; omega
    go_enter Try.func89, Try.ntmps89
    go_wp2
    go_ret
    exact ⟨ret_bool (by rw [hr.out]), Below.refl _ _⟩
  subst hnm
  go_enter Try.func89, Try.ntmps89
  go_wp2
  go_loopw [13] (fun c wr => ∃ k : Nat, k ≤ n ∧ c = .int .i64 (k : Int) ∧ Hid (xs.take k = ys.take k) ∧ Hid (Below w.heap.size w wr)) (fun c _ => n - (intOf c).toNat)
  case atStart => exact ⟨0, Nat.zero_le _, rfl, by unfold Hid; simp, Below.refl _ _⟩
  case round =>
    obtain ⟨k, hk, rfl, he, hB⟩ := hrel
    by_cases hlt : k < n
    case neg =>
      obtain rfl : n = k := by omega
      have hr := Lib.hid (show decide (xs = ys) = true by
        rw [decide_eq_true_eq]
        have := he.out
        rwa [List.take_of_length_le (by rw [hn.out]; exact Nat.le_refl _), List.take_of_length_le (by rw [hm.out]; exact Nat.le_refl _)] at this)
      go_wp2
      go_ret
      exact ⟨ret_bool (by rw [hr.out]), hB.out⟩
    have hkx : k < xs.length := by rw [hn.out]; exact hlt
    have hky : k < ys.length := by rw [hm.out]; exact hlt
    obtain ⟨b, o, rfl, hc⟩ := hat.out k hkx
    obtain ⟨b2, o2, rfl, hc2⟩ := hat2.out k hky
    have hc := cell_below hc hB.out
    have hc2 := cell_below hc2 hB.out
    have hst := Lib.hid (fun e => take_eq_step hkx hky he.out e)
    have hnot := Lib.hid (show at0 xs k ≠ at0 ys k → decide (xs = ys) = false from fun h => by
      rw [decide_eq_false_iff_not]; intro e; rw [e] at h; exact h rfl)
    generalize at0 xs k = a at *
    generalize at0 ys k = b' at *
    by_cases hab : a = b'
    · have hst := Lib.hid (hst.out hab)
      have hab' : (a == b') = true := by simp [hab]
      clear hnot
      go_wp2
      go_quiet (fail)
      go_wp2
      go_roundw
      case rel => exact ⟨k + 1, by omega, by go_num, hst, Lib.hid (below_drewN hB.out nq)⟩
      case measure => simp [intOf]; omega
    · have hr := Lib.hid (hnot.out hab)
      have hab' : (a == b') = false := by simp [hab]
      clear hnot hst
      go_wp2
      go_quiet (fail)
      go_wp2
      go_ret
      exact ⟨ret_bool (by rw [hr.out]), below_drewN hB.out nq⟩

/-- p is on the left of the first k sides -/
def insUpto (t : Nat → Nat → Nat → Int) (ns : List Nat) (p : Nat) : Nat → Bool
  | 0 => true
  | k + 1 => insUpto t ns p k && decide (0 < t (natAt ns k) (natAt ns ((k + 1) % ns.length)) p)
def insB (t : Nat → Nat → Nat → Int) (ns : List Nat) (p : Nat) : Bool := insUpto t ns p ns.length
theorem insUpto_false {t : Nat → Nat → Nat → Int} {ns : List Nat} {p k : Nat} (h : insUpto t ns p k = false) : ∀ m, k ≤ m → insUpto t ns p m = false := by
  intro m hm
  induction hm with
  | refl => exact h
  | step _ ih => simp [insUpto, ih]
set_option maxHeartbeats 1000000 in
theorem inside_any (w : World) (g L : Nat) (t : Nat → Nat → Nat → Int) (v : Value) (ns : List Nat) (p : Nat)
    (hT : ∀ i j k, i < L → j < L → k < L → w.cell? ⟨g, 1 + i * 196 + j * 14 + k, none⟩ = some (.int .i8 (t i j k))) (hL : L ≤ 14) (hx : Ints w v (nats ns)) (hns : ∀ k ∈ ns, k < L) (hp : p < L) (hlen : ns.length ≤ 1000) :
    Calls Try.prog 92 #[.pointer (some ⟨g, 0, none⟩), v, .int .i64 (p : Int)] w fun e w' => e = .returned (.bool (insB t ns p)) ∧ Below w.heap.size w w' := by
  obtain ⟨A, cap, rfl, hl, hcm, _, hat⟩ := hx.open
  have hat := Lib.hid (show ∀ i, i < ns.length → ∃ b off, A = some ⟨b, off, none⟩ ∧ w.cell? ⟨b, off + i, none⟩ = some (.int .i64 ((natAt ns i : Nat) : Int)) from fun i hi => by
    obtain ⟨b, off, hA, hc⟩ := hat i (by rw [nats_length]; exact hi)
    exact ⟨b, off, hA, by rwa [at0_nats] at hc⟩)
  unfold maxLen at hcm
  rw [nats_length] at hl ⊢
  obtain ⟨m, hm⟩ : ∃ m, ns.length = m := ⟨_, rfl⟩
  have hnL := Lib.hid (show ∀ i, i < m → natAt ns i < L from fun i hi => hns _ (by rw [natAt_eq (by omega)]; exact List.getElem_mem _))
  rw [hm] at hl hlen ⊢
  replace hm := Lib.hid hm
  replace hT := Lib.hid hT
  clear hx hns
  go_enter Try.func92, Try.ntmps92
  go_wp2
  go_loopw [11] (fun c wr => ∃ k : Nat, k ≤ m ∧ c = .int .i64 (k : Int) ∧ Hid (insUpto t ns p k = true) ∧ Hid (Below w.heap.size w wr)) (fun c _ => m - (intOf c).toNat)
  case atStart => exact ⟨0, Nat.zero_le _, rfl, rfl, Below.refl _ _⟩
  case round =>
    obtain ⟨k, hk, rfl, hi, hB⟩ := hrel
    by_cases hlt : k < m
    case neg =>
      obtain rfl : m = k := by omega
      have hr := Lib.hid (show insB t ns p = true by unfold insB; rw [hm.out]; exact hi.out)
      go_wp2
      go_ret
      exact ⟨ret_bool (by rw [hr.out]), hB.out⟩
    obtain ⟨b, o, rfl, hc⟩ := hat.out k (by rw [hm.out]; exact hlt)
    have hmod : (k + 1) % m < m := Nat.mod_lt _ (by omega)
    obtain ⟨b2, o2, e, hc2⟩ := hat.out ((k + 1) % m) (by rw [hm.out]; exact hmod)
    cases e
    have hc := cell_below hc hB.out
    have hc2 := cell_below hc2 hB.out
    have h1 := hnL.out k hlt
    have h2 := hnL.out _ hmod
    have ht := cell_below (hT.out _ _ p h1 h2 hp) hB.out
    have hst := Lib.hid (show insUpto t ns p (k + 1) = decide (0 < t (natAt ns k) (natAt ns ((k + 1) % m)) p) by simp only [insUpto, hi.out, Bool.true_and, hm.out])
    have hmi : ((k : Int) + 1).tmod (m : Int) = (((k + 1) % m : Nat) : Int) := by
      rw [Int.tmod_eq_emod_of_nonneg (by omega), Int.natCast_emod]
      rfl
    obtain ⟨q, hq⟩ : ∃ q, (k + 1) % m = q := ⟨_, rfl⟩
    rw [hq] at hmi hc2 h2 ht hst hmod
    replace hq := Lib.hid hq
    have hmne : ¬ (m : Int) = 0 := by omega
    generalize natAt ns k = x at *
    generalize natAt ns q = y at *
    generalize t x y p = T at *
    by_cases hTt : 0 < T
    · have hst := Lib.hid (show insUpto t ns p (k + 1) = true by rw [hst.out]; simp [hTt])
      have hTd : decide (T ≤ 0) = false := by simp; omega
      go_wp2
      go_quiet (fail)
      go_wp2
      go_roundw
      case rel => exact ⟨k + 1, by omega, by go_num, hst, Lib.hid (below_drewN hB.out nq)⟩
      case measure => simp [intOf]; omega
    · have hr := Lib.hid (show insB t ns p = false by
        unfold insB
        rw [hm.out]
        exact insUpto_false (k := k + 1) (by rw [hst.out]; simp [hTt]) _ (by omega))
      have hTd : decide (T ≤ 0) = true := by simp; omega
      go_wp2
      go_quiet (fail)
      go_wp2
      go_ret
      exact ⟨ret_bool (by rw [hr.out]), below_drewN hB.out nq⟩
end
section
open Go.RowKit Go.Shelf

/-- the closure of isEmpty -/
theorem empty1_any (w : World) (g L B1 B2 : Nat) (t : Nat → Nat → Nat → Int) (v : Value) (ns : List Nat) (p : Nat) (h1 : w.cell? ⟨B1, 0, none⟩ = some (.pointer (some ⟨g, 0, none⟩))) (h2 : w.cell? ⟨B2, 0, none⟩ = some v)
    (hT : ∀ i j k, i < L → j < L → k < L → w.cell? ⟨g, 1 + i * 196 + j * 14 + k, none⟩ = some (.int .i8 (t i j k))) (hL : L ≤ 14) (hx : Ints w v (nats ns)) (hns : ∀ k ∈ ns, k < L) (hp : p < L) (hlen : ns.length ≤ 1000) :
    Calls Try.prog 91 #[.int .i64 (p : Int), .pointer (some ⟨B1, 0, none⟩), .pointer (some ⟨B2, 0, none⟩)] w fun e w' => e = .returned (.bool (insB t ns p)) ∧ Below w.heap.size w w' := by
  have H := Lib.hid (inside_any w g L t v ns p hT hL hx hns hp hlen)
  obtain ⟨A, n, cap, rfl, hn⟩ := hx.shape
  clear hT hx
  go_enter Try.func91, Try.ntmps91
  go_wp2_with (go_at_call 92; refine H.out.mono ?_; rintro e w1 ⟨rfl, hb⟩; replace hb := Lib.hid hb)
  go_ret
  exact ⟨rfl, hb.out⟩
set_option maxHeartbeats 1000000 in
theorem indexF_any (w : World) (g L B1 B2 : Nat) (t : Nat → Nat → Nat → Int) (v vo : Value) (ns os : List Nat) (h1 : w.cell? ⟨B1, 0, none⟩ = some (.pointer (some ⟨g, 0, none⟩))) (h2 : w.cell? ⟨B2, 0, none⟩ = some v)
    (hT : ∀ i j k, i < L → j < L → k < L → w.cell? ⟨g, 1 + i * 196 + j * 14 + k, none⟩ = some (.int .i8 (t i j k))) (hL : L ≤ 14) (hx : Ints w v (nats ns)) (hns : ∀ k ∈ ns, k < L) (hlen : ns.length ≤ 1000) (ho : Ints w vo (nats os)) (hos : ∀ k ∈ os, k < L) :
    Calls Try.prog 84 #[vo, .func (.func 91) #[] #[.pointer (some ⟨B1, 0, none⟩), .pointer (some ⟨B2, 0, none⟩)]] w fun e w' => ∃ r : Int, e = .returned (.int .i64 r) ∧ decide (0 ≤ r) = os.any (insB t ns) ∧ Below w.heap.size w w' := by
  have hcf : ∀ (args : Array Value) (W : World), (callFunc 91 args).run Try.prog W = .ok (.enter 91 args) W := fun args W => by simp [go_sem]
  have H := Lib.hid (fun W (hb : Below w.heap.size w W) p (hp : p < L) => empty1_any W g L B1 B2 t v ns p (cell_below h1 hb) (cell_below h2 hb) (fun i j k a b c => cell_below (hT i j k a b c) hb) hL (Ints.below hx (Nat.le_refl _) hb) hns hp hlen)
  obtain ⟨A, cap, rfl, hl, hcm, _, hat⟩ := ho.open
  have hat := Lib.hid (show ∀ i, i < os.length → ∃ b off, A = some ⟨b, off, none⟩ ∧ w.cell? ⟨b, off + i, none⟩ = some (.int .i64 ((natAt os i : Nat) : Int)) from fun i hi => by
    obtain ⟨b, off, hA, hc⟩ := hat i (by rw [nats_length]; exact hi)
    exact ⟨b, off, hA, by rwa [at0_nats] at hc⟩)
  unfold maxLen at hcm
  rw [nats_length] at hl ⊢
  obtain ⟨m, hm⟩ : ∃ m, os.length = m := ⟨_, rfl⟩
  have hnL := Lib.hid (show ∀ i, i < m → natAt os i < L from fun i hi => hos _ (by rw [natAt_eq (by omega)]; exact List.getElem_mem _))
  rw [hm] at hl ⊢
  replace hm := Lib.hid hm
  clear h1 h2 hT hx ho hos hns
  go_enter Try.func84, Try.ntmps84
  go_wp2
  go_loopw [8] (fun c wr => ∃ k : Nat, k ≤ m ∧ c = .int .i64 (k : Int) ∧ Hid ((os.take k).any (insB t ns) = false) ∧ Hid (Below w.heap.size w wr)) (fun c _ => m - (intOf c).toNat)
  case atStart => exact ⟨0, Nat.zero_le _, rfl, by unfold Hid; simp, Below.refl _ _⟩
  case round =>
    obtain ⟨k, hk, rfl, hno, hB⟩ := hrel
    by_cases hlt : k < m
    case neg =>
      obtain rfl : m = k := by omega
      have hr := Lib.hid (show os.any (insB t ns) = false by have := hno.out; rwa [List.take_of_length_le (by rw [hm.out]; exact Nat.le_refl _)] at this)
      go_wp2
      go_ret
      exact ⟨_, rfl, by rw [hr.out]; rfl, hB.out⟩
    have hko : k < os.length := by rw [hm.out]; exact hlt
    obtain ⟨b, o, rfl, hc⟩ := hat.out k hko
    have hc := cell_below hc hB.out
    have hst := Lib.hid (show (os.take (k + 1)).any (insB t ns) = insB t ns (natAt os k) by
      rw [List.take_succ_eq_append_getElem hko, List.any_append, hno.out, natAt_eq hko]; simp)
    have hhit := Lib.hid (show insB t ns (natAt os k) = true → os.any (insB t ns) = true from fun h => List.any_eq_true.2 ⟨natAt os k, by rw [natAt_eq hko]; exact List.getElem_mem _, h⟩)
    have hX := Lib.hid (H.out _ hB.out (natAt os k) (hnL.out k hlt))
    generalize natAt os k = y at *
    generalize insB t ns y = b0 at *
    cases b0 with
    | true =>
      have hr := Lib.hid (hhit.out rfl)
      clear hhit
      go_wp2_with (go_at_call 91; refine hX.out.mono ?_; rintro e w1 ⟨rfl, hb⟩; have hb := Lib.hid (bthen hB.out hb))
      go_ret
      exact ⟨_, rfl, by rw [hr.out]; simp, hb.out⟩
    | false =>
      clear hhit
      go_wp2_with (go_at_call 91; refine hX.out.mono ?_; rintro e w1 ⟨rfl, hb⟩; have hb := Lib.hid (bthen hB.out hb))
      go_roundw
      case rel => exact ⟨k + 1, by omega, by go_num, hst, hb⟩
      case measure => simp [intOf]; omega
theorem containsF_any (w : World) (g L B1 B2 : Nat) (t : Nat → Nat → Nat → Int) (v vo : Value) (ns os : List Nat) (h1 : w.cell? ⟨B1, 0, none⟩ = some (.pointer (some ⟨g, 0, none⟩))) (h2 : w.cell? ⟨B2, 0, none⟩ = some v)
    (hT : ∀ i j k, i < L → j < L → k < L → w.cell? ⟨g, 1 + i * 196 + j * 14 + k, none⟩ = some (.int .i8 (t i j k))) (hL : L ≤ 14) (hx : Ints w v (nats ns)) (hns : ∀ k ∈ ns, k < L) (hlen : ns.length ≤ 1000) (ho : Ints w vo (nats os)) (hos : ∀ k ∈ os, k < L) :
    Calls Try.prog 90 #[vo, .func (.func 91) #[] #[.pointer (some ⟨B1, 0, none⟩), .pointer (some ⟨B2, 0, none⟩)]] w fun e w' => e = .returned (.bool (os.any (insB t ns))) ∧ Below w.heap.size w w' := by
  have H := Lib.hid (indexF_any w g L B1 B2 t v vo ns os h1 h2 hT hL hx hns hlen ho hos)
  clear h1 h2 hT hx ho
  go_enter Try.func90, Try.ntmps90
  go_wp2_with (go_at_call 84; refine H.out.mono ?_; rintro e w1 ⟨r, rfl, hr, hb⟩; have hr := Lib.hid hr; have hb := Lib.hid hb)
  go_ret
  exact ⟨ret_bool (by rw [← hr.out]), hb.out⟩
set_option maxHeartbeats 1000000 in
theorem isEmpty_any (w : World) (g L : Nat) (t : Nat → Nat → Nat → Int) (v vo : Value) (ns os : List Nat) (hO : w.cell? ⟨g, 2745, none⟩ = some vo)
    (hT : ∀ i j k, i < L → j < L → k < L → w.cell? ⟨g, 1 + i * 196 + j * 14 + k, none⟩ = some (.int .i8 (t i j k))) (hL : L ≤ 14) (hx : Ints w v (nats ns)) (hns : ∀ k ∈ ns, k < L) (hlen : ns.length ≤ 1000) (ho : Ints w vo (nats os)) (hos : ∀ k ∈ os, k < L) :
    Calls Try.prog 76 #[.pointer (some ⟨g, 0, none⟩), v] w fun e w' => e = .returned (.bool (!os.any (insB t ns))) ∧ Below w.heap.size w w' := by
  have hmf : ∀ (fn : Fn) (first cap : Array Value) (w : World), (Instr.makeFunc fn first cap).run Try.prog w = .ok (.func fn first cap) w := fun _ _ _ _ => rfl
  obtain ⟨A, n, cap, rfl, hn⟩ := hx.shape
  obtain ⟨W, hW⟩ : ∃ W, (w.alloc (.cells #[.pointer (some ⟨g, 0, none⟩)] 66)).alloc (.cells #[.slice A n cap] 33) = W := ⟨_, rfl⟩
  have k1 : Blk W w.heap.size 66 #[.pointer (some ⟨g, 0, none⟩)] := by rw [← hW]; exact (Blk.new w 66 _).alloc _
  have k2 : Blk W (w.heap.size + 1) 33 #[.slice A n cap] := by rw [← hW]; have := Blk.new (w.alloc (.cells #[.pointer (some ⟨g, 0, none⟩)] 66)) 33 #[.slice A n cap]; rwa [World.size_alloc] at this
  have hB : Below w.heap.size w W := by rw [← hW]; exact bthen (below1 _ _) (below1 _ _)
  have c1 := k1.cell 0
  have c2 := k2.cell 0
  simp at c1 c2
  have hO' := cell_below hO hB
  obtain ⟨Ao, no, co, rfl, hno⟩ := ho.shape
  have H := Lib.hid (containsF_any W g L w.heap.size (w.heap.size + 1) t _ _ ns os c1 c2 (fun i j k a b c => cell_below (hT i j k a b c) hB) hL (Ints.below hx (Nat.le_refl _) hB) hns hlen (Ints.below ho (Nat.le_refl _) hB) hos)
  have hB := Lib.hid hB
  clear k1 k2 hT hx ho hO
  go_enter Try.func76, Try.ntmps76
  go_wp2_with (go_at_call 90; refine H.out.mono ?_; rintro e w1 ⟨rfl, hb⟩; have hb := Lib.hid (bthen hB.out hb))
  go_ret
  exact ⟨ret_bool rfl, hb.out⟩
end
end Go.Proofs.Ythnabheibacbcaa
