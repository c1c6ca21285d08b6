/- One configuration's acceptor, and who is accepted: plain, and the law's only, the specification's Accepts. No condition. -/
import Derived.Test.YtaapnflhjbdmlaaGreatDoorZT
import Derived.Test.YtaapnflhjbdmlaaGreatDoorLC
namespace Go.Proofs.YtaapnflhjbdmlaaGreatDoor
open Go.RowKit Go.Shelf
attribute [local go_sem] Oper.semAt_some

/-! ### costs and words -/
theorem bestN_lt {n : Nat} {F : Nat → Bool} {v : Nat → Int} : ∀ m, m ≤ n → (bestN m F v < 1073741824 ↔ ∃ i, i < m ∧ F i = true ∧ v i < 1073741824)
  | 0, _ => by rw [bestN_zero]; exact ⟨fun h => by omega, fun ⟨i, h, _⟩ => by omega⟩
  | m + 1, hm => by
    rw [bestN_succ]
    have ih := bestN_lt (n := n) (F := F) (v := v) m (by omega)
    cases hF : F m with
    | false =>
      simp only [Bool.false_eq_true, if_false]
      rw [ih]
      refine ⟨fun ⟨i, a, b, c⟩ => ⟨i, by omega, b, c⟩, fun ⟨i, a, b, c⟩ => ?_⟩
      have hne : i ≠ m := fun e => by rw [e, hF] at b; cases b
      exact ⟨i, by omega, b, c⟩
    | true =>
      simp only [if_true]
      constructor
      · intro h
        by_cases hv : v m < 1073741824
        · exact ⟨m, by omega, hF, hv⟩
        · obtain ⟨i, a, b, c⟩ := ih.1 (by omega)
          exact ⟨i, by omega, b, c⟩
      · rintro ⟨i, a, b, c⟩
        rcases Nat.lt_succ_iff_lt_or_eq.1 a with h | h
        · have := ih.2 ⟨i, h, b, c⟩; omega
        · subst h; omega
theorem acc_costs {n : Nat} {X : Nat → Nat → Nat → Int} {F : Nat → Bool} (h5 : ∀ i k, i < n → k < n → ¬ X i 5 k < 1073741824) (hX : ∀ p c q, p < n → c < 5 → q < n → X p c q = 0 ∨ X p c q = 1073741824) :
    ∀ (w : List Nat) (now : Nat → Int), (∀ c ∈ w, c < 5) → (∀ i, i < n → 0 ≤ now i) → (∀ i, i < n → now i < 1073741824 → now i ≤ 0) → (bestN n F (costs n X (wrdL w) now) < 1073741824 ↔ AccN n (posT X) F w (posS n now))
  | [], now, _, _, _ => by
    rw [show costs n X (wrdL []) now = now from rfl, bestN_lt n (Nat.le_refl _)]
    exact ⟨fun ⟨i, a, b, c⟩ => ⟨i, a, ⟨a, c⟩, b⟩, fun ⟨i, a, b, c⟩ => ⟨i, a, c, b.2⟩⟩
  | c :: w, now, hw, h0, hB => by
    have hc := hw c (List.mem_cons_self ..)
    have hXB : ∀ i k, i < n → k < n → X i c k < 1073741824 → X i c k ≤ 0 := fun i k hi hk hx => by rcases hX i c k hi hc hk with e | e <;> omega
    have hX0 : ∀ i k, i < n → k < n → 0 ≤ X i c k := fun i k hi hk => by rcases hX i c k hi hc hk with e | e <;> omega
    have e : costs n X (wrdL (c :: w)) now = costs n X (wrdL w) (fun k => rd n (fun i k => X i c k) now k) := by
      show costs n X ((97 + (c : Int)) :: wrdL w) now = _
      rw [costs, show ((97 : Int) + (c : Int) - 97).toNat = c by omega]
    rw [e, acc_costs h5 hX w _ (fun d hd => hw d (List.mem_cons_of_mem _ hd)) (fun k hk => rd_ge h0 fun i hi => hX0 i k hi hk) (fun k hk hx => Int.le_trans (rd_bd hXB hB h0 k hk hx) (by omega))]
    show _ ↔ AccN n (posT X) F w (silS n (fun i k => posT X i 5 k) (rdS n (posT X) (posS n now) c))
    exact AccN.congr (fun _ _ _ _ _ _ => Iff.rfl) (fun _ _ => rfl) (fun d hd => hw d (List.mem_cons_of_mem _ hd)) fun k hk => by
      rw [silS_none (E := fun i k => posT X i 5 k) h5]
      have := rd_set hXB hB (by omega) h0 k
      exact ⟨fun h => ⟨this.1 h, hk⟩, fun h => this.2 h.1⟩
/-- a stack's letters, as a table's -/
theorem wrd_of {w : List Int} (h : Word w) : ∃ u : List Nat, wrdL u = w ∧ ∀ c ∈ u, c < 5 := by
  refine ⟨w.map fun a => (a - 97).toNat, ?_, fun c hc => ?_⟩
  · unfold wrdL
    rw [List.map_map]
    conv => rhs; rw [← List.map_id w]
    exact List.map_congr_left fun a ha => by have := h a ha; simp; omega
  · obtain ⟨a, ha, rfl⟩ := List.mem_map.1 hc
    have := h a ha
    omega
/-! ### one configuration -/
/-- the chain of a stack, as moves that are given -/
def chI (C x : Nat) (t : List Int) : List Mi := (chM C x t).map fun m => ((m.1 : Int), (m.2.1 : Int), (m.2.2 : Int))
theorem chI_mv (C x : Nat) (t : List Int) : (chI C x t).map toMv = chM C x t := by
  unfold chI
  rw [List.map_map]
  conv => rhs; rw [← List.map_id (chM C x t)]
  exact List.map_congr_left fun m _ => by simp [toMv]
theorem chI_non (C x : Nat) (t : List Int) : NonM (chI C x t) := fun m hm => by
  unfold chI at hm
  obtain ⟨m, _, rfl⟩ := List.mem_map.1 hm
  simp only
  omega
theorem chI_bof {C x : Nat} {t : List Int} (ht : Word t) : BofI (chI C x t) = Just C x t := by
  rw [← bof_bofi (chI_non C x t), chI_mv, bof_just ht]
theorem lastS_at (C x : Nat) (t : ByteArray) : (atN C x t.size : Int) = lastS C x (cs t) := by
  unfold atN lastS
  rw [cs_length]
  split
  · rfl
  · omega
theorem PathA_D {R : List Rule} {B : Int → Int → Int → Prop} {p q : Int} {w : List Int} : PathA (fun p a q => ∃ n, D R B p a q n) p w q ↔ ∃ n, Path R B p w q n := by
  constructor
  · intro h
    induction h with
    | nil => exact ⟨[], .nil _⟩
    | cons a _ ih =>
      obtain ⟨n, hn⟩ := a
      obtain ⟨k, hk⟩ := ih
      exact ⟨_, .cons hn hk⟩
  · rintro ⟨n, h⟩
    induction h with
    | nil => exact .nil _
    | cons a _ ih => exact .cons ⟨_, a⟩ ih
/-- who is accepted by the predecessors of one configuration -/
theorem before_acc {C y nS x : Nat} {l : List RuleB} {s t : ByteArray} {ms' : List Mi} (hsys : sysB C l = true) (hg : givenB C nS (chI C y (cs t)) [(atN C y t.size : Int)] = true) (hp : properB C ⟨x, s⟩ = true) (hq : properB C ⟨y, t⟩ = true) (hb : BfRes l (chI C y (cs t)) ms') :
    decide (bestN nS (ofF ([(atN C y t.size : Int)].map Int.toNat)) (costs nS (ofX (ms'.map toMv)) (cs s) (only1 x)) < 1073741824) = reachB l x s y t := by
  have hM := before_ok hsys hg hb
  have hC := (givenB_iff2 (Int.natCast_nonneg C)).1 hg
  obtain ⟨h1, h2, h3, h4⟩ := properB_iff.1 hp
  obtain ⟨g1, g2, g3, g4⟩ := properB_iff.1 hq
  simp only at h1 h2 h3 h4 g1 g2 g3 g4
  have hws : Word (cs s) := by first | exact h4 | exact h3
  have hwt : Word (cs t) := by first | exact g4 | exact g3
  obtain ⟨u, hu, hl⟩ := wrd_of hws
  have hT : ∀ p c q : Nat, c < 6 → (ofX (ms'.map toMv) p c q < 1073741824 ↔ ∃ n, D (l.map RuleB.plain) (BofI (chI C y (cs t))) p (97 + c) q n) := by
    intro p c q hc
    rw [ofX_pos, mem_toMv hM.non, hb.1]
    constructor
    · rintro ⟨p', a', q', n, hd, e⟩
      unfold mvK at e
      simp only [Prod.mk.injEq] at e
      obtain ⟨e1, e2, e3⟩ := e
      have e4 : a' = 97 + (c : Int) := by omega
      rw [← e1, ← e3, e4] at hd
      exact ⟨n, hd⟩
    · rintro ⟨n, hd⟩
      exact ⟨_, _, _, n, hd, by unfold mvK; simp; omega⟩
  have h5 : ∀ i k, i < nS → k < nS → ¬ ofX (ms'.map toMv) i 5 k < 1073741824 := fun i k _ _ h => by
    obtain ⟨n, hd⟩ := (hT i 5 k (by omega)).1 h
    have := D_in hsys hg hd
    omega
  rw [Bool.eq_iff_iff, decide_eq_true_iff, reachB_iff, ← hu, acc_costs h5 (fun p c q _ _ _ => by unfold ofX; split <;> simp) u _ hl (fun i _ => (only1_rng x i).1) (fun i _ h => only1_bd x i h),
    acc_prog (M := fun p a q => ∃ n, D (l.map RuleB.plain) (BofI (chI C y (cs t))) p a q n) h5 (fun p c q _ hc _ => hT p c q (by omega)) (fun p a q ⟨n, hd⟩ => by have := D_in hsys hg hd; omega) u _ hl]
  rw [hu]
  have hRk := rulesOk_of hsys
  have hxC : x < C := by omega
  have hyC : y < C := by omega
  rw [chI_bof hwt]
  have hfin : ∀ q : Int, (∃ i : Nat, i < nS ∧ q = (i : Int) ∧ ofF ([(atN C y t.size : Int)].map Int.toNat) i = true) ↔ q = lastS C y (cs t) := by
    intro q
    have hat := (hM.frng (atN C y t.size : Int) (by simp))
    rw [← lastS_at]
    constructor
    · rintro ⟨i, hi, rfl, hf⟩
      rw [ofF_int (by simp)] at hf
      simpa using hf
    · rintro rfl
      exact ⟨atN C y t.size, by omega, rfl, by rw [ofF_int (by simp)]; simp⟩
  constructor
  · rintro ⟨p, _, hs, q, hpq, hf⟩
    rw [pos_only1 (by omega)] at hs
    subst hs
    rw [(hfin q).1 hf] at hpq
    obtain ⟨n, hn⟩ := PathA_D.1 hpq
    exact ⟨n, run_of_path (by omega) hRk (by omega) hn⟩
  · rintro ⟨n, hn⟩
    exact ⟨x, by omega, (pos_only1 (by omega) x).2 rfl, _, PathA_D.2 ⟨n, path_of_run hRk hn⟩, (hfin _).2 rfl⟩
/-- who is accepted by the successors of one configuration -/
theorem after_acc {C x nS y n : Nat} {l : List RuleB} {s t : ByteArray} {ms' : List Mi} {fs' : List Int} (hsys : sysB C l = true) (hg : givenB C nS (chI C x (cs s)) [(atN C x s.size : Int)] = true) (hn : C + s.size = nS) (hp : properB C ⟨x, s⟩ = true) (hq : properB C ⟨y, t⟩ = true) (ha : AfRes C nS l (chI C x (cs s)) [(atN C x s.size : Int)] n ms' fs') :
    decide (bestN n (ofF (fs'.map Int.toNat)) (costs n (ofX (ms'.map toMv)) (cs t) (only1 y)) < 1073741824) = reachB l x s y t := by
  have hM := after_made hsys hg ha
  have hC := (givenB_iff2 (Int.natCast_nonneg C)).1 hg
  obtain ⟨h1, h2, h3, h4⟩ := properB_iff.1 hp
  obtain ⟨g1, g2, g3, g4⟩ := properB_iff.1 hq
  simp only at h1 h2 h3 h4 g1 g2 g3 g4
  have hws : Word (cs s) := by first | exact h4 | exact h3
  have hwt : Word (cs t) := by first | exact g4 | exact g3
  obtain ⟨u, hu, hl⟩ := wrd_of hwt
  obtain ⟨num, k1, k2, k3, k4, k5, k6, k7⟩ := ha
  have hyC : y < C := by omega
  have hxC : x < C := by omega
  have h5 : ∀ i k, i < n → k < n → ¬ ofX (ms'.map toMv) i 5 k < 1073741824 := fun i k _ _ h => by
    rw [ofX_pos, mem_toMv hM.non] at h
    have := hM.rng _ h
    simp only at this
    omega
  have hS : ∀ i, i < n → (silS n (fun i k => ofX (ms'.map toMv) i 5 k < 1073741824) (posS n (only1 y)) i ↔ posS n (only1 y) i) := fun i hi => by
    rw [silS_none h5]; exact ⟨fun h => h.1, fun h => ⟨h, hi⟩⟩
  rw [Bool.eq_iff_iff, decide_eq_true_iff, reachB_iff, ← hu, acc_costs h5 (fun p c q _ _ _ => by unfold ofX; split <;> simp) u _ hl (fun i _ => (only1_rng y i).1) (fun i _ h => only1_bd y i h),
    ← AccN.congr (fun _ _ _ _ _ _ => Iff.rfl) (fun _ _ => rfl) hl hS, after_prog hsys hg k1 k2 k4 k6 hM hyC hl, hu, chI_bof hws]
  have hst : (nS : Int) = C + (cs s).length := by rw [cs_length]; omega
  have hall := rules_all hsys
  have := AccA_iff (R := l.map RuleB.plain) (num := num) (C := C) (x0 := x) (s0 := cs s) ⟨fun r hr a b e => by rw [← hst]; exact (k2 r hr a b e).1, k3⟩ (by omega) (by omega) (fun r hr => by have := hall r hr; omega)
    (fun r hr => ⟨by have := hall r hr; omega, fun a ha => by have := (hall r hr).2.2.2 a ha; omega⟩) (fun a ha => by have := hws a ha; omega) (rules_len hsys) (fun p a q h => (after_in hsys hg (num := num) (N := n) (by omega) k2 (by rw [chI_bof hws]; exact h)).2.2.2.1) (p := y) (by omega) (w := cs t)
  unfold AccA at this
  rw [← lastS_at] at this
  exact this
end Go.Proofs.YtaapnflhjbdmlaaGreatDoor
