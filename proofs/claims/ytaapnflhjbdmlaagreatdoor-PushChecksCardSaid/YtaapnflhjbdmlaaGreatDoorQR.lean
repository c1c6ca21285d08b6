/- What Before and After give, as tables, against the specification's tables (plain). No condition. Before and After against the specification: the words that are accepted are the same (plain). No condition. -/
import Derived.Test.YtaapnflhjbdmlaaGreatDoorZX
import Derived.Test.YtaapnflhjbdmlaaGreatDoorZH
import Derived.Test.YtaapnflhjbdmlaaGreatDoorNO
namespace Go.Proofs.YtaapnflhjbdmlaaGreatDoor
section
/-- integers that are numbers -/
def toMv (m : Mi) : Mv := (m.1.toNat, m.2.1.toNat, m.2.2.toNat)
def NonM (ms : List Mi) : Prop := ∀ m ∈ ms, 0 ≤ m.1 ∧ 0 ≤ m.2.1 ∧ 0 ≤ m.2.2
theorem Els.recast {α β : Type} {E : El α} {E' : El β} {w : World} {v : Value} {l : List α} (f : α → β) (h : Els E w v l) (hk : E'.k = E.k) (he : ∀ x ∈ l, E'.enc (f x) = E.enc x) : Els E' w v (l.map f) := by
  obtain ⟨A, cap, e, h1, h2, h3, h4⟩ := h
  refine ⟨A, cap, by rw [List.length_map]; exact e, by rw [List.length_map]; exact h1, h2, h3, fun i hi => ?_⟩
  have hi' : i < l.length := by simpa using hi
  obtain ⟨b, off, h5, h6⟩ := h4 i hi'
  refine ⟨b, off, h5, fun j u hu => ?_⟩
  rw [List.getElem_map, he _ (List.getElem_mem hi')] at hu
  rw [hk]
  exact h6 j u hu
theorem els_mv {w : World} {v : Value} {ms : List Mi} (h : Els ElZ w v ms) (hn : NonM ms) : Els ElM w v (ms.map toMv) := h.recast toMv rfl fun m hm => by
  obtain ⟨a, b, c⟩ := hn m hm
  show [Value.int .i64 (m.1.toNat : Nat), .int .i64 (m.2.1.toNat : Nat), .int .i64 (m.2.2.toNat : Nat)] = [.int .i64 m.1, .int .i64 m.2.1, .int .i64 m.2.2]
  rw [Int.toNat_of_nonneg a, Int.toNat_of_nonneg b, Int.toNat_of_nonneg c]
theorem els_nat {w : World} {v : Value} {fs : List Int} (h : Els ElI w v fs) (hn : ∀ f ∈ fs, 0 ≤ f) : Els ElN w v (fs.map Int.toNat) := h.recast Int.toNat rfl fun f hf => by
  show [Value.int .i64 (f.toNat : Nat)] = [.int .i64 f]
  rw [Int.toNat_of_nonneg (hn f hf)]
theorem bof_bofi {ms : List Mi} (hn : NonM ms) : Bof (ms.map toMv) = BofI ms := by
  funext p a q
  apply propext
  unfold Bof BofI
  simp only [List.mem_map]
  constructor
  · rintro ⟨_, ⟨m, hm, rfl⟩, h1, h2, h3⟩
    obtain ⟨a1, a2, a3⟩ := hn m hm
    simp only [toMv] at h1 h2 h3
    exact ⟨m, hm, by unfold keyM; rw [h1, h2, h3, Int.toNat_of_nonneg a1, Int.toNat_of_nonneg a2, Int.toNat_of_nonneg a3]⟩
  · rintro ⟨m, hm, e⟩
    obtain ⟨a1, a2, a3⟩ := hn m hm
    unfold keyM at e
    simp only [Prod.mk.injEq] at e
    exact ⟨toMv m, ⟨m, hm, rfl⟩, by simp only [toMv]; omega, by simp only [toMv]; omega, by simp only [toMv]; omega⟩
theorem given_non {C st : Int} {ms : List Mi} {fs : List Int} (hC : 0 ≤ C) (h : givenB C st ms fs = true) : NonM ms := fun m hm => by
  have := given_in hC h m hm
  omega
theorem given_fin {C st : Int} {ms : List Mi} {fs : List Int} (hC : 0 ≤ C) (h : givenB C st ms fs = true) : ∀ f ∈ fs, 0 ≤ f ∧ f < st := fun f hf => by
  obtain ⟨i, hi, rfl⟩ := List.getElem_of_mem hf
  have h1 := ((givenB_iff2 hC).1 h).2.2.2.2 i hi
  unfold fnAt at h1
  have e : fs.getD i 0 = fs[i] := by simp [List.getD, hi]
  rw [e] at h1
  simp only [Bool.and_eq_true, Bool.not_eq_true', decide_eq_false_iff_not] at h1
  omega
/-- an acceptor in range and in order -/
theorem accB_of {C st most : Int} {ms : List Mi} {fs : List Int} (h1 : C ≤ st) (h2 : st ≤ most) (h3 : ∀ m ∈ ms, 0 ≤ m.1 ∧ m.1 < st ∧ 0 ≤ m.2.1 ∧ m.2.1 < 5 ∧ 0 ≤ m.2.2 ∧ m.2.2 < st) (h4 : ms.Pairwise (fun a b => lexLt a b = true)) (h5 : ∀ f ∈ fs, 0 ≤ f ∧ f < st) (h6 : fs.Pairwise (fun a b => a < b)) : accB C st most 0 ms fs = true := by
  refine accB_iff.2 ⟨h1, h2, fun i hi => ?_, fun i hi => ?_⟩
  · unfold mvAt
    have e : ms.getD i (0, 0, 0) = ms[i] := by simp [List.getD, hi]
    have := h3 ms[i] (List.getElem_mem hi)
    rw [e]
    simp only [mvIn, Bool.and_eq_true, Bool.not_eq_true', decide_eq_false_iff_not, Bool.or_eq_true, decide_eq_true_eq]
    refine ⟨by omega, ?_⟩
    by_cases h0 : i = 0
    · exact .inl h0
    · have e2 : ms.getD (i - 1) (0, 0, 0) = ms[i - 1] := by simp [List.getD, show i - 1 < ms.length by omega]
      rw [e2]
      exact .inr (List.pairwise_iff_getElem.1 h4 (i - 1) i (by omega) hi (by omega))
  · unfold fnAt
    have e : fs.getD i 0 = fs[i] := by simp [List.getD, hi]
    have := h5 fs[i] (List.getElem_mem hi)
    rw [e]
    simp only [Bool.and_eq_true, Bool.not_eq_true', decide_eq_false_iff_not, Bool.or_eq_true, decide_eq_true_eq]
    refine ⟨by omega, ?_⟩
    by_cases h0 : i = 0
    · exact .inl h0
    · have e2 : fs.getD (i - 1) 0 = fs[i - 1] := by simp [List.getD, show i - 1 < fs.length by omega]
      rw [e2]
      have := List.pairwise_iff_getElem.1 h6 (i - 1) i (by omega) hi (by omega)
      exact .inr (by omega)
theorem given_sorted {C st : Int} {ms : List Mi} {fs : List Int} (hC : 0 ≤ C) (h : givenB C st ms fs = true) : fs.Pairwise (fun a b => a < b) := by
  have hall := ((givenB_iff2 hC).1 h).2.2.2.2
  rw [List.pairwise_iff_getElem]
  intro i j hi hj hij
  induction j with
  | zero => omega
  | succ j ih =>
    have h1 := hall (j + 1) hj
    unfold fnAt at h1
    simp only [Nat.add_sub_cancel] at h1
    have e : fs.getD (j + 1) 0 = fs[j + 1] := by simp [List.getD, hj]
    have e2 : fs.getD j 0 = fs[j] := by simp [List.getD, show j < fs.length by omega]
    rw [e, e2] at h1
    simp at h1
    by_cases hij2 : i = j
    · subst hij2; omega
    · have := ih (by omega) (by omega)
      omega
/-- moves in order are few -/
theorem moves_few {N : Int} {ms : List Mi} (hN : N ≤ 42) (h3 : ∀ m ∈ ms, 0 ≤ m.1 ∧ m.1 < N ∧ 0 ≤ m.2.1 ∧ m.2.1 < 5 ∧ 0 ≤ m.2.2 ∧ m.2.2 < N) (h4 : ms.Pairwise (fun a b => lexLt a b = true)) : ms.length ≤ 8820 := by
  have h5 : ms.Nodup := h4.imp fun {a b} h e => by
    subst e
    unfold lexLt at h
    simp at h
  have h6 : (ms.map keyM).Nodup := by
    refine List.Pairwise.map keyM ?_ h5
    intro a b hab e
    apply hab
    unfold keyM at e
    simp only [Prod.mk.injEq] at e
    obtain ⟨e1, e2, e3⟩ := e
    exact Prod.ext e1 (Prod.ext (by omega) e3)
  have := nodup_sub_len h6 (U := univA N) fun k hk => by
    obtain ⟨m, hm, rfl⟩ := List.mem_map.1 hk
    have := h3 m hm
    exact univA_mem ⟨by omega, by omega⟩ ⟨by omega, by omega⟩ ⟨by omega, by omega⟩
  rw [List.length_map] at this
  exact Nat.le_trans this (univA_len hN)
theorem fins_few {N : Int} {fs : List Int} (hN : N ≤ 42) (h3 : ∀ f ∈ fs, 0 ≤ f ∧ f < N) (h4 : fs.Pairwise (fun a b => a < b)) : fs.length ≤ 42 := by
  have h5 : fs.Nodup := h4.imp fun {a b} h e => by omega
  have := nodup_sub_len h5 (U := (List.range 42).map fun (i : Nat) => (i : Int)) fun f hf => by
    have := h3 f hf
    exact List.mem_map.2 ⟨f.toNat, List.mem_range.2 (by omega), by omega⟩
  simpa using this
theorem ofX_pos {ms : List Mv} {p c q : Nat} : ofX ms p c q < 1073741824 ↔ (p, c, q) ∈ ms := by unfold ofX; split <;> simp_all
theorem mem_toMv {ms : List Mi} (hn : NonM ms) {p c q : Nat} : (p, c, q) ∈ ms.map toMv ↔ ((p : Int), (c : Int), (q : Int)) ∈ ms := by
  rw [List.mem_map]
  constructor
  · rintro ⟨⟨a, b, d⟩, hm, e⟩
    obtain ⟨a1, a2, a3⟩ := hn _ hm
    simp only [toMv, Prod.mk.injEq] at e a1 a2 a3
    obtain ⟨e1, e2, e3⟩ := e
    have e1' : (p : Int) = a := by omega
    have e2' : (c : Int) = b := by omega
    have e3' : (q : Int) = d := by omega
    rw [e1', e2', e3']; exact hm
  · exact fun hm => ⟨_, hm, by simp [toMv]⟩
theorem ofF_int {fs : List Int} (hn : ∀ f ∈ fs, 0 ≤ f) (i : Nat) : ofF (fs.map Int.toNat) i = true ↔ (i : Int) ∈ fs := by
  unfold ofF
  rw [decide_eq_true_iff, List.mem_map]
  constructor
  · rintro ⟨f, hf, e⟩
    have := hn f hf
    rw [show (i : Int) = f by omega]; exact hf
  · exact fun h => ⟨_, h, by simp⟩
end
section
/-- an acceptor that was made -/
structure MadeOk (C n : Int) (ms : List Mi) (fs : List Int) : Prop where
  acc : accB C n 200 0 ms fs = true
  few : ms.length ≤ 8820
  fin : fs.length ≤ 42
  non : NonM ms
  rng : ∀ m ∈ ms, m.1 < n ∧ m.2.1 < 5 ∧ m.2.2 < n
  frng : ∀ f ∈ fs, 0 ≤ f ∧ f < n
theorem made_of {C n : Int} {ms : List Mi} {fs : List Int} (h1 : C ≤ n) (h2 : n ≤ 42) (h3 : ∀ m ∈ ms, 0 ≤ m.1 ∧ m.1 < n ∧ 0 ≤ m.2.1 ∧ m.2.1 < 5 ∧ 0 ≤ m.2.2 ∧ m.2.2 < n) (h4 : ms.Pairwise (fun a b => lexLt a b = true)) (h5 : ∀ f ∈ fs, 0 ≤ f ∧ f < n) (h6 : fs.Pairwise (fun a b => a < b)) : MadeOk C n ms fs :=
  ⟨accB_of h1 (by omega) h3 h4 h5 h6, moves_few h2 h3 h4, fins_few h2 h5 h6, fun m hm => by have := h3 m hm; omega, fun m hm => by have := h3 m hm; omega, h5⟩
theorem rules_more {C n : Nat} {R : List Rule} (h : RulesIn C R) (hn : C ≤ n) : RulesIn n R := fun i r hr => by
  obtain ⟨a, b, c, d, e⟩ := h i r hr
  exact ⟨a, by omega, c, by omega, e⟩
theorem bofi_in {C st : Int} {ms : List Mi} {fs : List Int} (hC : 0 ≤ C) (h : givenB C st ms fs = true) {p a q : Int} (hb : BofI ms p a q) : 0 ≤ p ∧ p < st ∧ 97 ≤ a ∧ a ≤ 101 ∧ C ≤ q ∧ q < st := by
  unfold BofI at hb
  obtain ⟨m, hm, e⟩ := List.mem_map.1 hb
  have := given_in hC h m hm
  unfold keyM at e
  simp only [Prod.mk.injEq] at e
  omega
theorem rules_all {C : Int} {l : List RuleB} (h : sysB C l = true) : ∀ r ∈ l.map RuleB.plain, (0 ≤ r.fr ∧ r.fr < C) ∧ (0 ≤ r.to ∧ r.to < C) ∧ (97 ≤ r.top ∧ r.top ≤ 101) ∧ ∀ x ∈ r.put, 97 ≤ x ∧ x ≤ 101 := fun r hr => by
  obtain ⟨r, hr2, rfl⟩ := List.mem_map.1 hr
  have := sys_rules h r hr2
  exact ⟨this.1, this.2.1, this.2.2.1, this.2.2.2.2⟩
theorem rules_len {C : Int} {l : List RuleB} (h : sysB C l = true) : ∀ r ∈ l.map RuleB.plain, r.put.length ≤ 2 := fun r hr => by
  obtain ⟨r, hr2, rfl⟩ := List.mem_map.1 hr
  have := (sys_rules h r hr2).2.2.2.1
  show (cs r.put).length ≤ 2
  rw [cs_length]; exact this
section
variable {C st : Nat} {l : List RuleB} {ms ms' : List Mi} {fs : List Int}
theorem before_D (hsys : sysB C l = true) (hg : givenB C st ms fs = true) {X : Nat → Nat → Nat → Int} (hR : RInv (l.map RuleB.plain) (BofI ms) st X) (hcl : RCl (l.map RuleB.plain) st X) {p a q : Int} {n : List Nat} (h : D (l.map RuleB.plain) (BofI ms) p a q n) :
    (0 ≤ p ∧ p < st ∧ 97 ≤ a ∧ a ≤ 101 ∧ 0 ≤ q ∧ q < st) ∧ X p.toNat (a - 97).toNat q.toNat < 1073741824 := by
  have hC := (givenB_iff2 (Int.natCast_nonneg C)).1 hg
  have h1 := hR.complete (rules_more (by simpa using (rulesIn_of hsys).2) (by omega)) (fun p a q hb => by have := bofi_in (Int.natCast_nonneg C) hg hb; omega) hcl h
  exact ⟨h1.1, by omega⟩
theorem before_made (hsys : sysB C l = true) (hg : givenB C st ms fs = true) (hb : BfRes l ms ms') {X : Nat → Nat → Nat → Int} (hR : RInv (l.map RuleB.plain) (BofI ms) st X) (hcl : RCl (l.map RuleB.plain) st X) : MadeOk C st ms' fs := by
  have hC := (givenB_iff2 (Int.natCast_nonneg C)).1 hg
  refine made_of hC.1 (by omega) (fun m hm => ?_) hb.2 (given_fin (Int.natCast_nonneg C) hg) (given_sorted (Int.natCast_nonneg C) hg)
  obtain ⟨p, a, q, n, hd, rfl⟩ := (hb.1 m).1 hm
  have := (before_D hsys hg hR hcl hd).1
  simp only [mvK]
  omega
theorem before_alike (hsys : sysB C l = true) (hg : givenB C st ms fs = true) (hb : BfRes l ms ms') {X : Nat → Nat → Nat → Int} (hR : RInv (l.map RuleB.plain) (BofI ms) st X) (hcl : RCl (l.map RuleB.plain) st X) (heps : ∀ p q, p < st → q < st → X p 5 q = 1073741824) {F : Nat → Bool} {x : Nat → Int} {k : Nat} :
    AlikeP st (posT (ofX (ms'.map toMv))) F (silS st (fun i k => ofX (ms'.map toMv) i 5 k < 1073741824) (posS st x)) st (posT X) F (silS st (fun i k => X i 5 k < 1073741824) (posS st x)) k := by
  have hM := before_made hsys hg hb hR hcl
  have hT : ∀ p c q, p < st → c < 6 → q < st → (ofX (ms'.map toMv) p c q < 1073741824 ↔ X p c q < 1073741824) := by
    intro p c q hp hc hq
    rw [ofX_pos, mem_toMv hM.non, hb.1]
    by_cases h5 : c = 5
    · subst h5
      rw [heps p q hp hq]
      constructor
      · rintro ⟨p', a', q', n, hd, e⟩
        have := (before_D hsys hg hR hcl hd).1
        unfold mvK at e
        simp only [Prod.mk.injEq] at e
        omega
      · intro h; omega
    · constructor
      · rintro ⟨p', a', q', n, hd, e⟩
        have := (before_D hsys hg hR hcl hd)
        unfold mvK at e
        simp only [Prod.mk.injEq] at e
        obtain ⟨e1, e2, e3⟩ := e
        rw [← e1, ← e2, ← e3] at this
        simpa using this.2
      · intro h
        obtain ⟨n, hd, _⟩ := hR.sound p c q hp (by omega) hq h
        exact ⟨p, 97 + c, q, n, hd, by unfold mvK; simp; omega⟩
  intro w hw hl
  exact AccN.congr (fun p c q hp hc hq => hT p c q hp hc hq) (fun _ _ => rfl) hl fun i _ => silS_congr (fun i k hi hk => hT i 5 k hi (by omega) hk) (fun _ _ => Iff.rfl) i
theorem numS_in (hsys : sysB C l = true) : NumIn (l.map RuleB.plain) (numS st) st ∧ ∀ r ∈ l.map RuleB.plain, ∀ x y, r.put = [x, y] → numS st r.to x < st + C * 5 := by
  have hr := rules_all hsys
  have hx : ∀ r ∈ l.map RuleB.plain, ∀ x y, r.put = [x, y] → (0 ≤ r.to ∧ r.to < C) ∧ 97 ≤ x ∧ x ≤ 101 := fun r h x y e => ⟨(hr r h).2.1, (hr r h).2.2.2 x (by rw [e]; simp)⟩
  refine ⟨⟨fun r h x y e => ?_, fun r h r' h' x y x' y' e e' heq => ?_⟩, fun r h x y e => ?_⟩
  · have := hx r h x y e; unfold numS; omega
  · have := hx r h x y e; have := hx r' h' x' y' e'; unfold numS at heq; omega
  · have := hx r h x y e; unfold numS; omega
variable {n : Nat} {fs' : List Int}
theorem after_in (hsys : sysB C l = true) (hg : givenB C st ms fs = true) {num : Int → Int → Int} {N : Nat} (hN : st ≤ N) (hnum : ∀ r ∈ l.map RuleB.plain, ∀ x y, r.put = [x, y] → (st : Int) ≤ num r.to x ∧ num r.to x < N) {p a q : Int} (h : PA (BofI ms) (l.map RuleB.plain) num p a q) : 0 ≤ p ∧ p < N ∧ (a = 0 ∨ 97 ≤ a ∧ a ≤ 101) ∧ (C : Int) ≤ q ∧ q < N := by
  have hC := (givenB_iff2 (Int.natCast_nonneg C)).1 hg
  exact PA_in (Int.natCast_nonneg C) (fun p a q hb => by have := bofi_in (Int.natCast_nonneg C) hg hb; omega) (fun r hr => ⟨(rules_all hsys r hr).2.1.1, (rules_all hsys r hr).2.1.2, (rules_all hsys r hr).2.2.2⟩) (fun r hr x y e => by have := hnum r hr x y e; omega) (by omega) h
theorem after_src (hsys : sysB C l = true) (hg : givenB C st ms fs = true) {num : Int → Int → Int} {p q : Int} (h : PA (BofI ms) (l.map RuleB.plain) num p 0 q) : p < C :=
  PA_src (fun p a q hb => by have := bofi_in (Int.natCast_nonneg C) hg hb; omega) (fun r hr => ⟨(rules_all hsys r hr).2.1.2, fun x hx => by have := (rules_all hsys r hr).2.2.2 x hx; omega⟩) h rfl
theorem after_made (hsys : sysB C l = true) (hg : givenB C st ms fs = true) (ha : AfRes C st l ms fs n ms' fs') : MadeOk C n ms' fs' := by
  have hC := (givenB_iff2 (Int.natCast_nonneg C)).1 hg
  obtain ⟨num, h1, h2, h3, h4, h5, h6, h7⟩ := ha
  have hin := fun {p a q} h => after_in hsys hg (num := num) (N := n) (by omega) h2 (p := p) (a := a) (q := q) h
  refine made_of (by omega) (by omega) (fun m hm => ?_) h5 (fun f hf => ?_) h7
  · obtain ⟨p, a, q, hp, h0, rfl⟩ := (h4 m).1 hm
    have := hin hp
    simp only [mvK]
    omega
  · rcases (h6 f).1 hf with h | ⟨q, hq, hp⟩
    · have := given_fin (Int.natCast_nonneg C) hg f h; omega
    · have := after_src hsys hg hp; have := hin hp; omega
/-- the program's acceptor, word by word -/
theorem after_prog (hsys : sysB C l = true) (hg : givenB C st ms fs = true) {num : Int → Int → Int} (h1 : (st : Int) ≤ n ∧ (n : Int) ≤ st + 30) (h2 : ∀ r ∈ l.map RuleB.plain, ∀ x y, r.put = [x, y] → (st : Int) ≤ num r.to x ∧ num r.to x < n)
    (h4 : ∀ m, m ∈ ms' ↔ ∃ p a q, PA (BofI ms) (l.map RuleB.plain) num p a q ∧ a ≠ 0 ∧ m = mvK (p, a, q)) (h6 : ∀ x, x ∈ fs' ↔ x ∈ fs ∨ ∃ q, q ∈ fs ∧ PA (BofI ms) (l.map RuleB.plain) num x 0 q) (hM : MadeOk C n ms' fs') {p : Nat} (hp : p < C) {w : List Nat} (hl : ∀ c ∈ w, c < 5) :
    AccN n (posT (ofX (ms'.map toMv))) (ofF (fs'.map Int.toNat)) w (silS n (fun i k => ofX (ms'.map toMv) i 5 k < 1073741824) (posS n (only1 p))) ↔ ∃ q, PathA (LetA (BofI ms) (l.map RuleB.plain) num) p (wrdL w) q ∧ FinA (BofI ms) (l.map RuleB.plain) num fs q := by
  have hC := (givenB_iff2 (Int.natCast_nonneg C)).1 hg
  have hpn : p < n := by omega
  have hin := fun {p a q} h => after_in hsys hg (num := num) (N := n) (by omega) h2 (p := p) (a := a) (q := q) h
  have hT : ∀ p c q : Nat, c < 6 → (ofX (ms'.map toMv) p c q < 1073741824 ↔ LetA (BofI ms) (l.map RuleB.plain) num p (97 + c) q) := by
    intro p c q hc
    rw [ofX_pos, mem_toMv hM.non, h4]
    constructor
    · rintro ⟨p', a', q', hd, h0, e⟩
      unfold mvK at e
      simp only [Prod.mk.injEq] at e
      obtain ⟨e1, e2, e3⟩ := e
      have e4 : a' = 97 + (c : Int) := by omega
      rw [← e1, ← e3, e4] at hd
      exact ⟨hd, by omega⟩
    · rintro ⟨hd, h0⟩
      exact ⟨_, _, _, hd, h0, by unfold mvK; simp; omega⟩
  have h5 : ∀ i k, i < n → k < n → ¬ ofX (ms'.map toMv) i 5 k < 1073741824 := fun i k _ _ h => by
    have := hin ((hT i 5 k (by omega)).1 h).1
    omega
  have hS : ∀ i, i < n → (silS n (fun i k => ofX (ms'.map toMv) i 5 k < 1073741824) (posS n (only1 p)) i ↔ i = p) := fun i hi => by
    rw [silS_none h5, pos_only1 hpn]
    exact ⟨fun h => h.1, fun h => ⟨h, hi⟩⟩
  rw [AccN.congr (fun _ _ _ _ _ _ => Iff.rfl) (fun _ _ => rfl) hl hS, acc_prog h5 (fun p c q _ hc _ => hT p c q (by omega)) (fun p a q h => by have := hin h.1; omega) w _ hl]
  constructor
  · rintro ⟨_, _, rfl, q, hq, i, hi, e, hf⟩
    refine ⟨q, hq, ?_⟩
    rw [ofF_int (fun f hf => (hM.frng f hf).1), ← e, h6] at hf
    exact hf
  · rintro ⟨q, hq, hf⟩
    have hq' := (h6 q).2 hf
    have := hM.frng q hq'
    exact ⟨p, hpn, rfl, q, hq, q.toNat, by omega, by omega, by rw [ofF_int (fun f hf => (hM.frng f hf).1), show ((q.toNat : Nat) : Int) = q by omega]; exact hq'⟩
theorem after_alike (hsys : sysB C l = true) (hg : givenB C st ms fs = true) (ha : AfRes C st l ms fs n ms' fs') {N : Nat} (hN : st + C * 5 = N) {X : Nat → Nat → Nat → Int} (hX : AfTab (BofI ms) (l.map RuleB.plain) (numS st) N X) (hcl : AfCl (l.map RuleB.plain) (numS st) N X) {p : Nat} (hp : p < C) {k : Nat} :
    AlikeP n (posT (ofX (ms'.map toMv))) (ofF (fs'.map Int.toNat)) (silS n (fun i k => ofX (ms'.map toMv) i 5 k < 1073741824) (posS n (only1 p))) N (posT X) (ofF (fs.map Int.toNat)) (silS N (fun i k => X i 5 k < 1073741824) (posS N (only1 p))) k := by
  have hM := after_made hsys hg ha
  have hC := (givenB_iff2 (Int.natCast_nonneg C)).1 hg
  obtain ⟨num, h1, h2, h3, h4, h5, h6, h7⟩ := ha
  obtain ⟨hs1, hs2⟩ := numS_in (st := st) hsys
  have hfin := given_fin (Int.natCast_nonneg C) hg
  have hall : AfAll (BofI ms) (l.map RuleB.plain) (numS st) C N X := hX.all hcl (Int.natCast_nonneg C) (fun p a q hb => by have := bofi_in (Int.natCast_nonneg C) hg hb; omega) (rules_all hsys)
    (fun r hr x y e => by have := hs1.1 r hr x y e; have := hs2 r hr x y e; omega) (by omega)
  intro w _ hl
  rw [after_prog hsys hg h1 h2 h4 h6 hM hp hl, acc_ref hall (F := ofF (fs.map Int.toNat)) (fs := fs) (fun i _ => ofF_int (fun f hf => (hfin f hf).1) i) (fun f hf => by have := hfin f hf; omega) w _ hl]
  have hiso := acc_iso (B := BofI ms) (R := l.map RuleB.plain) (num := num) (num' := numS st) (st := st) (fs := fs) ⟨fun r hr x y e => (h2 r hr x y e).1, h3⟩ hs1 (fun p a q hb => by have := bofi_in (Int.natCast_nonneg C) hg hb; omega)
    (fun r hr => by have := rules_all hsys r hr; omega) (fun f hf => (hfin f hf).2) (w := wrdL w) (p := (p : Int)) (by omega)
  rw [hiso]
  constructor
  · exact fun h => ⟨p, by omega, (pos_only1 (by omega) p).2 rfl, h⟩
  · rintro ⟨p', _, h, h2⟩
    rw [pos_only1 (by omega)] at h
    subst h
    exact h2
end
end
end Go.Proofs.YtaapnflhjbdmlaaGreatDoor
