/- Acceptors as tables: which words a table accepts (plain), and the successors' table against the program's. No condition. Which words the tables of the predecessors and of the successors accept (plain). No condition. The successors of one configuration are what is reached from it (plain). No condition. -/
import Derived.Test.YtaapnflhjbdmlaaGreatDoorZW
namespace Go.Proofs.YtaapnflhjbdmlaaGreatDoor
section
/-! ### sets of states -/
/-- moves without a letter -/
inductive ZStar (n : Nat) (E : Nat → Nat → Prop) : Nat → Nat → Prop
  | refl {k} : k < n → ZStar n E k k
  | step {i j k} : ZStar n E i j → k < n → E j k → ZStar n E i k
def silS (n : Nat) (E : Nat → Nat → Prop) (S : Nat → Prop) : Nat → Prop := fun k => ∃ i, S i ∧ ZStar n E i k
def rdS (n : Nat) (T : Nat → Nat → Nat → Prop) (S : Nat → Prop) (c : Nat) : Nat → Prop := fun k => k < n ∧ ∃ i, i < n ∧ S i ∧ T i c k
/-- a word is accepted, from some states -/
def AccN (n : Nat) (T : Nat → Nat → Nat → Prop) (F : Nat → Bool) : List Nat → (Nat → Prop) → Prop
  | [], S => ∃ i, i < n ∧ S i ∧ F i = true
  | c :: w, S => AccN n T F w (silS n (fun i k => T i 5 k) (rdS n T S c))
theorem ZStar.lt {n : Nat} {E : Nat → Nat → Prop} {i k : Nat} (h : ZStar n E i k) : i < n ∧ k < n := by
  induction h with
  | refl h => exact ⟨h, h⟩
  | step _ h _ ih => exact ⟨ih.1, h⟩
theorem ZStar.head {n : Nat} {E : Nat → Nat → Prop} {i j k : Nat} (hi : i < n) (h0 : E i j) (h : ZStar n E j k) : ZStar n E i k := by
  induction h with
  | refl h => exact .step (.refl hi) h h0
  | step _ h e ih => exact .step ih h e
theorem ZStar.congr {n : Nat} {E E' : Nat → Nat → Prop} (h : ∀ i k, i < n → k < n → (E i k ↔ E' i k)) {i k : Nat} (hs : ZStar n E i k) : ZStar n E' i k := by
  induction hs with
  | refl h => exact .refl h
  | step hs hk e ih => exact .step ih hk ((h _ _ hs.lt.2 hk).1 e)
theorem silS_congr {n : Nat} {E E' : Nat → Nat → Prop} {S S' : Nat → Prop} (h : ∀ i k, i < n → k < n → (E i k ↔ E' i k)) (hS : ∀ i, i < n → (S i ↔ S' i)) (k : Nat) : silS n E S k ↔ silS n E' S' k :=
  ⟨fun ⟨i, a, b⟩ => ⟨i, (hS i b.lt.1).1 a, b.congr h⟩, fun ⟨i, a, b⟩ => ⟨i, (hS i b.lt.1).2 a, b.congr fun i k hi hk => (h i k hi hk).symm⟩⟩
theorem rdS_congr {n : Nat} {T T' : Nat → Nat → Nat → Prop} {S S' : Nat → Prop} {c : Nat} (hT : ∀ i k, i < n → k < n → (T i c k ↔ T' i c k)) (hS : ∀ i, i < n → (S i ↔ S' i)) (k : Nat) : rdS n T S c k ↔ rdS n T' S' c k :=
  ⟨fun ⟨hk, i, hi, a, b⟩ => ⟨hk, i, hi, (hS i hi).1 a, (hT i k hi hk).1 b⟩, fun ⟨hk, i, hi, a, b⟩ => ⟨hk, i, hi, (hS i hi).2 a, (hT i k hi hk).2 b⟩⟩
theorem AccN.congr' {n : Nat} {T T' : Nat → Nat → Nat → Prop} {F F' : Nat → Bool} (hT : ∀ p c q, p < n → c < 6 → q < n → (T p c q ↔ T' p c q)) (hF : ∀ q, q < n → F q = F' q) : ∀ (w : List Nat) (S S' : Nat → Prop), (∀ c ∈ w, c < 5) → (∀ i, i < n → (S i ↔ S' i)) → (AccN n T F w S ↔ AccN n T' F' w S')
  | [], S, S', _, hS => ⟨fun ⟨i, a, b, c⟩ => ⟨i, a, (hS i a).1 b, by rw [← hF i a]; exact c⟩, fun ⟨i, a, b, c⟩ => ⟨i, a, (hS i a).2 b, by rw [hF i a]; exact c⟩⟩
  | c :: w, S, S', hw, hS => AccN.congr' hT hF w _ _ (fun d hd => hw d (List.mem_cons_of_mem _ hd)) fun k _ =>
      silS_congr (fun i k hi hk => hT i 5 k hi (by omega) hk) (fun i _ => rdS_congr (fun i k hi hk => hT i c k hi (by have := hw c (List.mem_cons_self ..); omega) hk) hS i) k
theorem AccN.congr {n : Nat} {T T' : Nat → Nat → Nat → Prop} {F F' : Nat → Bool} (hT : ∀ p c q, p < n → c < 6 → q < n → (T p c q ↔ T' p c q)) (hF : ∀ q, q < n → F q = F' q) {w : List Nat} {S S' : Nat → Prop} (hw : ∀ c ∈ w, c < 5) (hS : ∀ i, i < n → (S i ↔ S' i)) : AccN n T F w S ↔ AccN n T' F' w S' := AccN.congr' hT hF w S S' hw hS
/-- no state: nothing is accepted -/
theorem AccN.none' {n : Nat} {T : Nat → Nat → Nat → Prop} {F : Nat → Bool} : ∀ (w : List Nat) (S : Nat → Prop), (∀ i, i < n → ¬ S i) → ¬ AccN n T F w S
  | [], _, hS, ⟨i, a, b, _⟩ => hS i a b
  | _ :: w, _, hS, h => AccN.none' w _ (fun _ _ ⟨_, hj, _⟩ => by obtain ⟨_, k, hk, hs, _⟩ := hj; exact hS k hk hs) h
theorem AccN.none {n : Nat} {T : Nat → Nat → Nat → Prop} {F : Nat → Bool} {w : List Nat} {S : Nat → Prop} (hS : ∀ i, i < n → ¬ S i) : ¬ AccN n T F w S := AccN.none' w S hS

/-! ### costs -/
/-- the states that are possible -/
def posS (n : Nat) (x : Nat → Int) : Nat → Prop := fun i => i < n ∧ x i < 1073741824
def posT (X : Nat → Nat → Nat → Int) : Nat → Nat → Nat → Prop := fun p c q => X p c q < 1073741824
theorem Sil.val {n : Nat} {E : Nat → Nat → Int} {now : Nat → Int} {k : Nat} {v : Int} (h : Sil n E now k v) (hE : ∀ i k, i < n → k < n → E i k = 0 ∨ E i k = 1073741824) (hN : ∀ i, i < n → 0 ≤ now i) :
    0 ≤ v ∧ (v < 1073741824 → ∃ i, i < n ∧ v = now i ∧ ZStar n (fun i k => E i k < 1073741824) i k) := by
  induction h with
  | base hk => exact ⟨hN _ hk, fun _ => ⟨_, hk, rfl, .refl hk⟩⟩
  | @step i k c hi hk _ ih =>
    obtain ⟨h0, h1⟩ := ih
    rcases hE i k hi hk with e | e
    · rw [e]
      refine ⟨by omega, fun hv => ?_⟩
      obtain ⟨j, hj, hv2, hs⟩ := h1 (by omega)
      exact ⟨j, hj, by omega, .step hs hk (by show E i k < _; omega)⟩
    · rw [e]
      exact ⟨by omega, fun hv => by omega⟩
theorem SilR.set {n : Nat} {E : Nat → Nat → Int} {now cur : Nat → Int} (h : SilR n E now cur) (hE : ∀ i k, i < n → k < n → E i k = 0 ∨ E i k = 1073741824) (hN : ∀ i, i < n → 0 ≤ now i) (k : Nat) :
    posS n cur k ↔ silS n (fun i k => E i k < 1073741824) (posS n now) k := by
  constructor
  · rintro ⟨hk, hc⟩
    obtain ⟨i, hi, hv, hs⟩ := ((h.sound k hk).1.val hE hN).2 hc
    exact ⟨i, ⟨hi, by omega⟩, hs⟩
  · rintro ⟨i, ⟨hi, hn⟩, hs⟩
    refine ⟨hs.lt.2, ?_⟩
    induction hs with
    | refl hk => have := (h.sound _ hi).2.2; omega
    | @step j k hs hk e ih =>
      have h1 := ih
      have h2 := h.closed j k hs.lt.2 hk
      rcases hE j k hs.lt.2 hk with e2 | e2 <;> omega
theorem SilR.bd {n : Nat} {E : Nat → Nat → Int} {now cur : Nat → Int} (h : SilR n E now cur) (hE : ∀ i k, i < n → k < n → E i k = 0 ∨ E i k = 1073741824) (hN : ∀ i, i < n → 0 ≤ now i) {B : Int} (hB : ∀ i, i < n → now i < 1073741824 → now i ≤ B) (k : Nat) (hk : k < n) (hc : cur k < 1073741824) : cur k ≤ B := by
  obtain ⟨i, hi, hv, _⟩ := ((h.sound k hk).1.val hE hN).2 hc
  have := hB i hi (by omega)
  omega
theorem rd_set {n : Nat} {X : Nat → Nat → Nat → Int} {now : Nat → Int} {c : Nat} {B D : Int} (hX : ∀ i k, i < n → k < n → X i c k < 1073741824 → X i c k ≤ D) (hB : ∀ i, i < n → now i < 1073741824 → now i ≤ B) (hBD : B + D < 1073741824) (hN : ∀ i, i < n → 0 ≤ now i)
    (k : Nat) : posS n (fun k => rd n (fun i k => X i c k) now k) k ↔ rdS n (posT X) (posS n now) c k := by
  obtain ⟨h1, h2, h3⟩ := rd_gen (fun i k => X i c k) now k n
  constructor
  · rintro ⟨hk, hc⟩
    obtain ⟨i, hi, hn, hv⟩ := h3 hc
    refine ⟨hk, i, hi, ⟨hi, hn⟩, ?_⟩
    have := hN i hi
    show X i c k < 1073741824
    (try dsimp only at hc hv)
    omega
  · rintro ⟨hk, i, hi, ⟨_, hn⟩, hx⟩
    have hx2 := hX i k hi hk hx
    have hn2 := hB i hi hn
    have := h2 i hi hn
    exact ⟨hk, by (try dsimp only); omega⟩
theorem rd_bd {n : Nat} {X : Nat → Nat → Nat → Int} {now : Nat → Int} {c : Nat} {B D : Int} (hX : ∀ i k, i < n → k < n → X i c k < 1073741824 → X i c k ≤ D) (hB : ∀ i, i < n → now i < 1073741824 → now i ≤ B) (hN : ∀ i, i < n → 0 ≤ now i)
    (k : Nat) (hk : k < n) (hc : rd n (fun i k => X i c k) now k < 1073741824) : rd n (fun i k => X i c k) now k ≤ B + D := by
  obtain ⟨h1, h2, h3⟩ := rd_gen (fun i k => X i c k) now k n
  obtain ⟨i, hi, hn, hv⟩ := h3 hc
  have := hN i hi
  have hx2 := hX i k hi hk (by (try dsimp only at hc hv); omega)
  have hn2 := hB i hi hn
  (try dsimp only at hv ⊢)
  omega

/-! ### paths of moves -/
inductive PathA (M : Int → Int → Int → Prop) : Int → List Int → Int → Prop
  | nil (p) : PathA M p [] p
  | cons {p a m w q} : M p a m → PathA M m w q → PathA M p (a :: w) q
theorem PathA.nil_iff {M : Int → Int → Int → Prop} {p q : Int} : PathA M p [] q ↔ q = p := ⟨fun h => by cases h; rfl, fun h => by subst h; exact .nil _⟩
theorem PathA.cons_iff {M : Int → Int → Int → Prop} {p a q : Int} {w : List Int} : PathA M p (a :: w) q ↔ ∃ m, M p a m ∧ PathA M m w q := ⟨fun h => by cases h with | cons a b => exact ⟨_, a, b⟩, fun ⟨_, a, b⟩ => .cons a b⟩
theorem PathA.congr {M M' : Int → Int → Int → Prop} (h : ∀ p a q, M p a q → M' p a q) {p q : Int} {w : List Int} (hp : PathA M p w q) : PathA M' p w q := by
  induction hp with
  | nil => exact .nil _
  | cons a _ ih => exact .cons (h _ _ _ a) ih

/-! ### the numbers of the new states do not matter -/
section
variable {B : Int → Int → Int → Prop} {R : List Rule} {num num' : Int → Int → Int} {C st : Int} {fs : List Int}
/-- states that stand for each other -/
def RelN (R : List Rule) (num num' : Int → Int → Int) (st p p' : Int) : Prop := (p < st ∧ p' = p) ∨ ∃ r ∈ R, ∃ x y, r.put = [x, y] ∧ p = num r.to x ∧ p' = num' r.to x
/-- the numbers lie behind the given states, each once -/
def NumIn (R : List Rule) (num : Int → Int → Int) (st : Int) : Prop :=
  (∀ r ∈ R, ∀ x y, r.put = [x, y] → st ≤ num r.to x) ∧ ∀ r ∈ R, ∀ r' ∈ R, ∀ x y x' y', r.put = [x, y] → r'.put = [x', y'] → num r.to x = num r'.to x' → r.to = r'.to ∧ x = x'
theorem RelN.low (hn : NumIn R num st) {p p' : Int} (h : RelN R num num' st p p') (hp : p < st) : p' = p := by
  rcases h with h | ⟨r, hr, x, y, hx, e, _⟩
  · exact h.2
  · have := hn.1 r hr x y hx; omega
theorem RelN.mid (hn : NumIn R num st) {p' : Int} {r : Rule} (hr : r ∈ R) {x y : Int} (hx : r.put = [x, y]) (h : RelN R num num' st (num r.to x) p') : p' = num' r.to x := by
  rcases h with h | ⟨r', hr', x', y', hx', e, e'⟩
  · have := hn.1 r hr x y hx; omega
  · obtain ⟨a, b⟩ := hn.2 r hr r' hr' x y x' y' hx hx' e
    rw [e', a, b]
theorem PA_iso (hn : NumIn R num st) (hB : ∀ p a q, B p a q → p < st ∧ q < st) (hR : ∀ r ∈ R, r.fr < st ∧ r.to < st) {p a q : Int} (h : PA B R num p a q) : ∀ p', RelN R num num' st p p' → ∃ q', RelN R num num' st q q' ∧ PA B R num' p' a q' := by
  induction h with
  | @base p a q hb =>
    intro p' hp
    obtain ⟨h1, h2⟩ := hB _ _ _ hb
    rw [hp.low hn h1]
    exact ⟨q, .inl ⟨h2, rfl⟩, .base hb⟩
  | sil h1 h2 h0 ih1 ih2 =>
    intro p' hp
    obtain ⟨q', hq, h3⟩ := ih1 p' hp
    obtain ⟨t', ht, h4⟩ := ih2 q' hq
    exact ⟨t', ht, .sil h3 h4 h0⟩
  | @zero r t hr hput h1 ih =>
    intro p' hp
    rw [hp.low hn (hR r hr).2]
    obtain ⟨t', ht, h2⟩ := ih r.fr (.inl ⟨(hR r hr).1, rfl⟩)
    exact ⟨t', ht, .zero hr hput h2⟩
  | @one r x t hr hput h1 ih =>
    intro p' hp
    rw [hp.low hn (hR r hr).2]
    obtain ⟨t', ht, h2⟩ := ih r.fr (.inl ⟨(hR r hr).1, rfl⟩)
    exact ⟨t', ht, .one hr hput h2⟩
  | @two1 r x y t hr hput h1 ih =>
    intro p' hp
    rw [hp.low hn (hR r hr).2]
    obtain ⟨t', ht, h2⟩ := ih r.fr (.inl ⟨(hR r hr).1, rfl⟩)
    exact ⟨num' r.to x, .inr ⟨r, hr, x, y, hput, rfl, rfl⟩, .two1 hr hput h2⟩
  | @two2 r x y t hr hput h1 ih =>
    intro p' hp
    rw [hp.mid hn hr hput]
    obtain ⟨t', ht, h2⟩ := ih r.fr (.inl ⟨(hR r hr).1, rfl⟩)
    exact ⟨t', ht, .two2 hr hput h2⟩
/-- moves that read a letter -/
def LetA (B : Int → Int → Int → Prop) (R : List Rule) (num : Int → Int → Int) (p a q : Int) : Prop := PA B R num p a q ∧ a ≠ 0
/-- an end, or a state that stands for one -/
def FinA (B : Int → Int → Int → Prop) (R : List Rule) (num : Int → Int → Int) (fs : List Int) (x : Int) : Prop := x ∈ fs ∨ ∃ q, q ∈ fs ∧ PA B R num x 0 q
theorem FinA_iso (hn : NumIn R num st) (hB : ∀ p a q, B p a q → p < st ∧ q < st) (hR : ∀ r ∈ R, r.fr < st ∧ r.to < st) (hf : ∀ f ∈ fs, f < st) {x x' : Int} (hx : RelN R num num' st x x') (h : FinA B R num fs x) : FinA B R num' fs x' := by
  rcases h with h | ⟨q, h1, h2⟩
  · exact .inl (by rw [hx.low hn (hf x h)]; exact h)
  · obtain ⟨q', hq, h3⟩ := PA_iso hn hB hR h2 x' hx
    rw [hq.low hn (hf q h1)] at h3
    exact .inr ⟨q, h1, h3⟩
theorem PathA_iso (hn : NumIn R num st) (hB : ∀ p a q, B p a q → p < st ∧ q < st) (hR : ∀ r ∈ R, r.fr < st ∧ r.to < st) (hf : ∀ f ∈ fs, f < st) {w : List Int} {p q : Int} (h : PathA (LetA B R num) p w q) (hq : FinA B R num fs q) : ∀ p', RelN R num num' st p p' → ∃ q', PathA (LetA B R num') p' w q' ∧ FinA B R num' fs q' := by
  induction h with
  | nil p => exact fun p' hp => ⟨p', .nil _, FinA_iso hn hB hR hf hp hq⟩
  | cons a _ ih =>
    intro p' hp
    obtain ⟨m', hm, h1⟩ := PA_iso hn hB hR a.1 p' hp
    obtain ⟨q', h2, h3⟩ := ih hq m' hm
    exact ⟨q', .cons ⟨h1, a.2⟩ h2, h3⟩
theorem acc_iso (hn : NumIn R num st) (hn' : NumIn R num' st) (hB : ∀ p a q, B p a q → p < st ∧ q < st) (hR : ∀ r ∈ R, r.fr < st ∧ r.to < st) (hf : ∀ f ∈ fs, f < st) {w : List Int} {p : Int} (hp : p < st) :
    (∃ q, PathA (LetA B R num) p w q ∧ FinA B R num fs q) ↔ ∃ q, PathA (LetA B R num') p w q ∧ FinA B R num' fs q :=
  ⟨fun ⟨_, a, b⟩ => PathA_iso hn hB hR hf a b p (.inl ⟨hp, rfl⟩), fun ⟨_, a, b⟩ => PathA_iso hn' hB hR hf a b p (.inl ⟨hp, rfl⟩)⟩
end

/-! ### the specification's table of the successors -/
/-- letter c of a table, as a letter; 5 is none -/
def letC (c : Nat) : Int := if c = 5 then 0 else 97 + c
/-- the table holds the moves -/
structure AfTab (B : Int → Int → Int → Prop) (R : List Rule) (num : Int → Int → Int) (n : Nat) (X : Nat → Nat → Nat → Int) : Prop where
  two : ∀ p c q, p < n → c < 6 → q < n → X p c q = 0 ∨ X p c q = 1073741824
  sound : ∀ p c q, p < n → c < 6 → q < n → X p c q = 0 → PA B R num p (letC c) q
  base : ∀ p c q : Nat, p < n → c < 5 → q < n → B p (97 + c) q → X p c q = 0
/-- a letter leads there, behind moves without a letter -/
def LeadX (n : Nat) (X : Nat → Nat → Nat → Int) (p c q : Nat) : Prop := ∃ p', ZStar n (fun i k => X i 5 k < 1073741824) p p' ∧ X p' c q < 1073741824
/-- nothing is left to be done -/
def AfCl (R : List Rule) (num : Int → Int → Int) (n : Nat) (X : Nat → Nat → Nat → Int) : Prop := ∀ r ∈ R, ∀ k, k < n → LeadX n X r.fr.toNat (r.top - 97).toNat k →
  (r.put = [] → X r.to.toNat 5 k = 0) ∧ (∀ x, r.put = [x] → X r.to.toNat (x - 97).toNat k = 0) ∧ ∀ x y, r.put = [x, y] → X r.to.toNat (x - 97).toNat (num r.to x).toNat = 0 ∧ X (num r.to x).toNat (y - 97).toNat k = 0
theorem AfTab.star {B : Int → Int → Int → Prop} {R : List Rule} {num : Int → Int → Int} {n : Nat} {X : Nat → Nat → Nat → Int} (h : AfTab B R num n X) {p p' : Nat} (hs : ZStar n (fun i k => X i 5 k < 1073741824) p p') {a t : Int} (ha : a ≠ 0) (ht : PA B R num p' a t) : PA B R num p a t := by
  induction hs with
  | refl => exact ht
  | @step j k hs hk e ih =>
    have h1 : X j 5 k = 0 := by rcases h.two j 5 k hs.lt.2 (by omega) hk with e2 | e2 <;> omega
    exact ih (.sil (by simpa [letC] using h.sound j 5 k hs.lt.2 (by omega) hk h1) ht ha)
theorem AfTab.lead {B : Int → Int → Int → Prop} {R : List Rule} {num : Int → Int → Int} {n : Nat} {X : Nat → Nat → Nat → Int} (h : AfTab B R num n X) {p c q : Nat} (hc : c < 5) (hq : q < n) (hl : LeadX n X p c q) : PA B R num p (97 + c) q := by
  obtain ⟨p', hs, hx⟩ := hl
  have h1 : X p' c q = 0 := by rcases h.two p' c q hs.lt.2 (by omega) hq with e2 | e2 <;> omega
  have h2 := h.sound p' c q hs.lt.2 (by omega) hq h1
  have e : letC c = 97 + c := by unfold letC; rw [if_neg (by omega)]
  rw [e] at h2
  exact h.star hs (by omega) h2
theorem LeadX.of {n : Nat} {X : Nat → Nat → Nat → Int} {p c q : Nat} (hp : p < n) (h : X p c q = 0) : LeadX n X p c q := ⟨p, .refl hp, by omega⟩
/-- what the table says, all in all -/
theorem AfTab.complete {B : Int → Int → Int → Prop} {R : List Rule} {num : Int → Int → Int} {n : Nat} {X : Nat → Nat → Nat → Int} (h : AfTab B R num n X) (hcl : AfCl R num n X) {C : Int} (h0 : 0 ≤ C) (hB : ∀ p a q, B p a q → 0 ≤ p ∧ p < n ∧ 97 ≤ a ∧ a ≤ 101 ∧ C ≤ q ∧ q < n)
    (hR : ∀ r ∈ R, (0 ≤ r.fr ∧ r.fr < C) ∧ (0 ≤ r.to ∧ r.to < C) ∧ (97 ≤ r.top ∧ r.top ≤ 101) ∧ ∀ x ∈ r.put, 97 ≤ x ∧ x ≤ 101) (hn : ∀ r ∈ R, ∀ x y, r.put = [x, y] → C ≤ num r.to x ∧ num r.to x < n) (hCn : C ≤ n) {p a q : Int} (hp : PA B R num p a q) :
    (a = 0 → X p.toNat 5 q.toNat = 0) ∧ (a ≠ 0 → LeadX n X p.toNat (a - 97).toNat q.toNat) := by
  have hin : ∀ {p a q : Int}, PA B R num p a q → 0 ≤ p ∧ p < n ∧ (a = 0 ∨ 97 ≤ a ∧ a ≤ 101) ∧ C ≤ q ∧ q < n := fun h => PA_in h0 hB (fun r hr => ⟨(hR r hr).2.1.1, (hR r hr).2.1.2, (hR r hr).2.2.2⟩) hn hCn h
  induction hp with
  | @base p a q hb =>
    obtain ⟨a1, a2, a3, a4, a5, a6⟩ := hB _ _ _ hb
    refine ⟨fun e => by omega, fun _ => LeadX.of (by omega) (h.base _ _ _ (by omega) (by omega) (by omega) ?_)⟩
    rw [show ((p.toNat : Nat) : Int) = p by omega, show ((97 : Int) + ((a - 97).toNat : Nat)) = a by omega, show ((q.toNat : Nat) : Int) = q by omega]
    exact hb
  | @sil p q a t h1 h2 ha ih1 ih2 =>
    have i1 := hin h1
    have i2 := hin h2
    refine ⟨fun e => absurd e ha, fun _ => ?_⟩
    obtain ⟨p', hs, hx⟩ := ih2.2 ha
    exact ⟨p', hs.head (by omega) (by have := ih1.1 rfl; show X p.toNat 5 q.toNat < _; omega), hx⟩
  | @zero r t hr hput h1 ih =>
    have i1 := hin h1
    have hr2 := hR r hr
    exact ⟨fun _ => (hcl r hr _ (by omega) (ih.2 (by omega))).1 hput, fun e => absurd rfl e⟩
  | @one r x t hr hput h1 ih =>
    have i1 := hin h1
    have hr2 := hR r hr
    have hx := hr2.2.2.2 x (by rw [hput]; simp)
    exact ⟨fun e => by omega, fun _ => LeadX.of (by omega) ((hcl r hr _ (by omega) (ih.2 (by omega))).2.1 x hput)⟩
  | @two1 r x y t hr hput h1 ih =>
    have i1 := hin h1
    have hr2 := hR r hr
    have hx := hr2.2.2.2 x (by rw [hput]; simp)
    exact ⟨fun e => by omega, fun _ => LeadX.of (by omega) ((hcl r hr _ (by omega) (ih.2 (by omega))).2.2 x y hput).1⟩
  | @two2 r x y t hr hput h1 ih =>
    have i1 := hin h1
    have hr2 := hR r hr
    have hx := hr2.2.2.2 y (by rw [hput]; simp)
    have hnn := hn r hr x y hput
    exact ⟨fun e => by omega, fun _ => LeadX.of (by omega) ((hcl r hr _ (by omega) (ih.2 (by omega))).2.2 x y hput).2⟩
end
section
/-- letters of a table, as letters -/
def wrdL (w : List Nat) : List Int := w.map fun (c : Nat) => 97 + (c : Int)
/-- all that the specification's table says -/
structure AfAll (B : Int → Int → Int → Prop) (R : List Rule) (num : Int → Int → Int) (C : Int) (n : Nat) (X : Nat → Nat → Nat → Int) : Prop where
  sil : ∀ p q : Nat, p < n → q < n → (X p 5 q < 1073741824 ↔ PA B R num p 0 q)
  lead : ∀ p c q : Nat, p < n → c < 5 → q < n → (LeadX n X p c q ↔ PA B R num p (97 + c) q)
  inr : ∀ p a q, PA B R num p a q → 0 ≤ p ∧ p < n ∧ (a = 0 ∨ 97 ≤ a ∧ a ≤ 101) ∧ C ≤ q ∧ q < n
  src : ∀ p q, PA B R num p 0 q → p < C
  nonneg : 0 ≤ C
theorem PA_src {B : Int → Int → Int → Prop} {R : List Rule} {num : Int → Int → Int} {C : Int} (hB : ∀ p a q, B p a q → a ≠ 0) (hR : ∀ r ∈ R, r.to < C ∧ ∀ x ∈ r.put, x ≠ 0) {p a q : Int} (h : PA B R num p a q) : a = 0 → p < C := by
  induction h with
  | base hb => exact fun e => absurd e (hB _ _ _ hb)
  | sil _ _ h0 _ _ => exact fun e => absurd e h0
  | zero hr _ _ _ => exact fun _ => (hR _ hr).1
  | one hr hp _ _ => exact fun e => absurd e ((hR _ hr).2 _ (by rw [hp]; simp))
  | two1 hr hp _ _ => exact fun e => absurd e ((hR _ hr).2 _ (by rw [hp]; simp))
  | two2 hr hp _ _ => exact fun e => absurd e ((hR _ hr).2 _ (by rw [hp]; simp))
theorem AfTab.all {B : Int → Int → Int → Prop} {R : List Rule} {num : Int → Int → Int} {n : Nat} {X : Nat → Nat → Nat → Int} (h : AfTab B R num n X) (hcl : AfCl R num n X) {C : Int} (h0 : 0 ≤ C) (hB : ∀ p a q, B p a q → 0 ≤ p ∧ p < n ∧ 97 ≤ a ∧ a ≤ 101 ∧ C ≤ q ∧ q < n)
    (hR : ∀ r ∈ R, (0 ≤ r.fr ∧ r.fr < C) ∧ (0 ≤ r.to ∧ r.to < C) ∧ (97 ≤ r.top ∧ r.top ≤ 101) ∧ ∀ x ∈ r.put, 97 ≤ x ∧ x ≤ 101) (hn : ∀ r ∈ R, ∀ x y, r.put = [x, y] → C ≤ num r.to x ∧ num r.to x < n) (hCn : C ≤ n) : AfAll B R num C n X where
  sil p q hp hq := by
    constructor
    · intro hx
      have h1 : X p 5 q = 0 := by rcases h.two p 5 q hp (by omega) hq with e2 | e2 <;> omega
      simpa [letC] using h.sound p 5 q hp (by omega) hq h1
    · intro hx
      have := (h.complete hcl h0 hB hR hn hCn hx).1 rfl
      simp only [Int.toNat_natCast] at this
      omega
  lead p c q hp hc hq := by
    refine ⟨h.lead hc hq, fun hx => ?_⟩
    have := (h.complete hcl h0 hB hR hn hCn hx).2 (by omega)
    rw [show ((97 : Int) + (c : Int) - 97).toNat = c by omega] at this
    simpa using this
  inr p a q hx := PA_in h0 hB (fun r hr => ⟨(hR r hr).2.1.1, (hR r hr).2.1.2, (hR r hr).2.2.2⟩) hn hCn hx
  src p q hx := PA_src (fun p a q hb => by have := hB p a q hb; omega) (fun r hr => ⟨(hR r hr).2.1.2, fun x hx => by have := (hR r hr).2.2.2 x hx; omega⟩) hx rfl
  nonneg := h0
theorem ZStar.flat {n : Nat} {E : Nat → Nat → Prop} (h : ∀ i j k, i < n → j < n → k < n → E i j → E j k → False) {i k : Nat} (hs : ZStar n E i k) : i = k ∨ E i k := by
  induction hs with
  | refl => exact .inl rfl
  | step hs hk e ih =>
    rcases ih with e2 | e2
    · subst e2; exact .inr e
    · exact (h _ _ _ hs.lt.1 hs.lt.2 hk e2 e).elim
theorem acc_ref {B : Int → Int → Int → Prop} {R : List Rule} {num : Int → Int → Int} {C : Int} {n : Nat} {X : Nat → Nat → Nat → Int} (h : AfAll B R num C n X) {F : Nat → Bool} {fs : List Int} (hF : ∀ i, i < n → (F i = true ↔ (i : Int) ∈ fs)) (hfs : ∀ f ∈ fs, 0 ≤ f ∧ f < n) :
    ∀ (w : List Nat) (S : Nat → Prop), (∀ c ∈ w, c < 5) → (AccN n (posT X) F w (silS n (fun i k => X i 5 k < 1073741824) S) ↔ ∃ p : Nat, p < n ∧ S p ∧ ∃ q, PathA (LetA B R num) p (wrdL w) q ∧ FinA B R num fs q)
  | [], S, _ => by
    have hflat : ∀ i j k, i < n → j < n → k < n → X i 5 j < 1073741824 → X j 5 k < 1073741824 → False := fun i j k hi hj hk h1 h2 => by
      have a := h.inr _ _ _ ((h.sil i j hi hj).1 h1)
      have b := h.src _ _ ((h.sil j k hj hk).1 h2)
      omega
    constructor
    · rintro ⟨i, hi, ⟨p, hp, hs⟩, hf⟩
      refine ⟨p, hs.lt.1, hp, p, .nil _, ?_⟩
      rcases hs.flat hflat with e | e
      · subst e; exact .inl ((hF p hi).1 hf)
      · exact .inr ⟨i, (hF i hi).1 hf, (h.sil p i hs.lt.1 hi).1 e⟩
    · rintro ⟨p, hp, hS, q, hq, hf⟩
      rw [show wrdL [] = [] from rfl, PathA.nil_iff] at hq
      subst hq
      rcases hf with hf | ⟨q, hq, h2⟩
      · exact ⟨p, hp, ⟨p, hS, .refl hp⟩, (hF p hp).2 hf⟩
      · have h3 := hfs q hq
        have e : ((q.toNat : Nat) : Int) = q := by omega
        rw [← e] at h2 hq
        exact ⟨q.toNat, by omega, ⟨p, hS, .step (.refl hp) (by omega) ((h.sil p _ hp (by omega)).2 h2)⟩, (hF _ (by omega)).2 hq⟩
  | c :: w, S, hw => by
    have hc := hw c (List.mem_cons_self ..)
    have h97 : (97 + (c : Int)) ≠ 0 := by omega
    refine (acc_ref h hF hfs w _ (fun c hc => hw c (List.mem_cons_of_mem _ hc))).trans ?_
    constructor
    · rintro ⟨p, hp, ⟨_, i, hi, ⟨s, hs, hz⟩, hx⟩, q, hq, hf⟩
      exact ⟨s, hz.lt.1, hs, q, .cons ⟨(h.lead s c p hz.lt.1 hc hp).1 ⟨i, hz, hx⟩, h97⟩ hq, hf⟩
    · rintro ⟨s, hs, hS, q, hq, hf⟩
      rw [show wrdL (c :: w) = (97 + (c : Int)) :: wrdL w from rfl, PathA.cons_iff] at hq
      obtain ⟨m, hm, hq⟩ := hq
      have h3 := h.inr _ _ _ hm.1
      have hm0 : 0 ≤ m := by have := h.nonneg; omega
      have e : ((m.toNat : Nat) : Int) = m := by omega
      rw [← e] at hm hq
      obtain ⟨i, hz, hx⟩ := (h.lead s c _ hs hc (by omega)).2 hm.1
      exact ⟨m.toNat, by omega, ⟨by omega, i, hz.lt.2, ⟨s, hS, hz⟩, hx⟩, q, hq, hf⟩
theorem silS_none {n : Nat} {E : Nat → Nat → Prop} {S : Nat → Prop} (hE : ∀ i k, i < n → k < n → ¬ E i k) (k : Nat) : silS n E S k ↔ S k ∧ k < n := by
  constructor
  · rintro ⟨i, hi, hs⟩
    have : i = k := by
      cases hs with
      | refl => rfl
      | step hs hk e => exact (hE _ _ hs.lt.2 hk e).elim
    subst this
    exact ⟨hi, hs.lt.1⟩
  · exact fun ⟨a, b⟩ => ⟨k, a, .refl b⟩
theorem acc_prog {M : Int → Int → Int → Prop} {n : Nat} {X : Nat → Nat → Nat → Int} {F : Nat → Bool} (h5 : ∀ i k, i < n → k < n → ¬ X i 5 k < 1073741824) (hX : ∀ p c q : Nat, p < n → c < 5 → q < n → (X p c q < 1073741824 ↔ M p (97 + c) q)) (hM : ∀ p a q, M p a q → 0 ≤ q ∧ q < n) :
    ∀ (w : List Nat) (S : Nat → Prop), (∀ c ∈ w, c < 5) → (AccN n (posT X) F w S ↔ ∃ p : Nat, p < n ∧ S p ∧ ∃ q, PathA M p (wrdL w) q ∧ ∃ i, i < n ∧ q = (i : Int) ∧ F i = true)
  | [], S, _ => by
    constructor
    · rintro ⟨i, hi, hS, hf⟩
      exact ⟨i, hi, hS, i, .nil _, i, hi, rfl, hf⟩
    · rintro ⟨p, hp, hS, q, hq, i, hi, e, hf⟩
      rw [show wrdL [] = [] from rfl, PathA.nil_iff] at hq
      have : p = i := by omega
      subst this
      exact ⟨p, hp, hS, hf⟩
  | c :: w, S, hw => by
    have hc := hw c (List.mem_cons_self ..)
    refine (acc_prog h5 hX hM w _ (fun c hc => hw c (List.mem_cons_of_mem _ hc))).trans ?_
    constructor
    · rintro ⟨p, hp, hS, q, hq, hf⟩
      obtain ⟨⟨_, s, hs, hS2, hx⟩, _⟩ := (silS_none (E := fun i k => posT X i 5 k) h5 p).1 hS
      exact ⟨s, hs, hS2, q, .cons ((hX s c p hs hc hp).1 hx) hq, hf⟩
    · rintro ⟨s, hs, hS, q, hq, hf⟩
      rw [show wrdL (c :: w) = (97 + (c : Int)) :: wrdL w from rfl, PathA.cons_iff] at hq
      obtain ⟨m, hm, hq⟩ := hq
      have h3 := hM _ _ _ hm
      have e : ((m.toNat : Nat) : Int) = m := by omega
      rw [← e] at hm hq
      exact ⟨m.toNat, by omega, (silS_none (E := fun i k => posT X i 5 k) h5 _).2 ⟨⟨by omega, s, hs, hS, (hX s c _ hs hc (by omega)).2 hm⟩, by omega⟩, q, hq, hf⟩
/-- two tables accept the same words -/
def AlikeP (n : Nat) (T : Nat → Nat → Nat → Prop) (F : Nat → Bool) (S : Nat → Prop) (m : Nat) (T' : Nat → Nat → Nat → Prop) (F' : Nat → Bool) (S' : Nat → Prop) (most : Nat) : Prop :=
  ∀ w : List Nat, w.length ≤ most → (∀ c ∈ w, c < 5) → (AccN n T F w S ↔ AccN m T' F' w S')
end
section
section
variable {R : List Rule} {num : Int → Int → Int} {C x0 : Int} {s0 : List Int}
/-- what is reached -/
def RchA (R : List Rule) (x0 : Int) (s0 : List Int) (p : Int) (w : List Int) : Prop := ∃ n, Steps R x0 s0 n p w
theorem RchA.step {r : Rule} (hr : r ∈ R) {w : List Int} (h : RchA R x0 s0 r.fr (r.top :: w)) : RchA R x0 s0 r.to (r.put ++ w) := by
  obtain ⟨n, hn⟩ := h
  obtain ⟨i, hi⟩ := List.getElem?_of_mem hr
  exact ⟨_, hn.trans (.step hi (.refl _ _))⟩
/-- what a state stands for -/
def SemA (R : List Rule) (num : Int → Int → Int) (C x0 : Int) (s0 : List Int) (q : Int) (w : List Int) : Prop :=
  (q < C ∧ RchA R x0 s0 q w) ∨ (C ≤ q ∧ q < C + s0.length ∧ w = s0.drop ((q - C).toNat + 1)) ∨ ∃ r ∈ R, ∃ x y, r.put = [x, y] ∧ q = num r.to x ∧ RchA R x0 s0 r.to (x :: w)
theorem SemA.ctl (hn : NumIn R num (C + s0.length)) (_hC : 0 ≤ C) {q : Int} {w : List Int} (h : SemA R num C x0 s0 q w) (hq : q < C) : RchA R x0 s0 q w := by
  rcases h with h | h | ⟨r, hr, x, y, hp, e, _⟩
  · exact h.2
  · omega
  · have := hn.1 r hr x y hp; omega
theorem SemA.low (hn : NumIn R num (C + s0.length)) {q : Int} {w : List Int} (h : SemA R num C x0 s0 q w) (hq : C ≤ q) (hq2 : q < C + s0.length) : w = s0.drop ((q - C).toNat + 1) := by
  rcases h with h | h | ⟨r, hr, x, y, hp, e, _⟩
  · omega
  · exact h.2.2
  · have := hn.1 r hr x y hp; omega
theorem SemA.mid (hn : NumIn R num (C + s0.length)) {r : Rule} (hr : r ∈ R) {x y : Int} (hp : r.put = [x, y]) {w : List Int} (h : SemA R num C x0 s0 (num r.to x) w) : RchA R x0 s0 r.to (x :: w) := by
  have hge := hn.1 r hr x y hp
  rcases h with h | h | ⟨r', hr', x', y', hp', e, h⟩
  · omega
  · omega
  · obtain ⟨a, b⟩ := hn.2 r hr r' hr' x y x' y' hp hp' e
    rw [a, b]; exact h
theorem drop_cons_of {l : List Int} {i : Nat} {a : Int} (h : l[i]? = some a) : a :: l.drop (i + 1) = l.drop i := by
  obtain ⟨hi, e⟩ := List.getElem?_eq_some_iff.1 h
  rw [List.drop_eq_getElem_cons hi, e]
theorem PA.semA (hn : NumIn R num (C + s0.length)) (hC : 0 ≤ C) (hx : x0 < C) (hR : ∀ r ∈ R, r.fr < C ∧ r.to < C) {p a q : Int} (h : PA (Just C x0 s0) R num p a q) (hz : ∀ r ∈ R, r.top ≠ 0 ∧ ∀ x ∈ r.put, x ≠ 0) (hz0 : ∀ a ∈ s0, a ≠ 0) :
    ∀ {u : List Int}, SemA R num C x0 s0 q u → SemA R num C x0 s0 p (if a = 0 then u else a :: u) := by
  induction h with
  | @base p a q hb =>
    intro u hu
    obtain ⟨i, hi, e1, e2⟩ := hb
    have hlt : i < s0.length := (List.getElem?_eq_some_iff.1 hi).1
    have ha : a ≠ 0 := hz0 a (List.mem_of_getElem? hi)
    rw [if_neg ha]
    have h1 := hu.low hn (by omega) (by omega)
    rw [e1, show ((C + (i : Int) - C).toNat + 1) = i + 1 by omega] at h1
    rw [h1, drop_cons_of hi]
    by_cases h0 : i = 0
    · rw [if_pos h0] at e2
      subst h0
      exact .inl ⟨by omega, ⟨[], by rw [e2]; exact .refl _ _⟩⟩
    · rw [if_neg h0] at e2
      exact .inr (.inl ⟨by omega, by omega, by rw [e2, show ((C + (i : Int) - 1 - C).toNat + 1) = i by omega]⟩)
  | @sil p q a t _ _ ha ih1 ih2 =>
    intro u hu
    have h2 := ih2 hu
    rw [if_neg ha] at h2 ⊢
    have h1 := ih1 h2
    rw [if_pos rfl] at h1
    exact h1
  | @zero r t hr hp h1 ih =>
    intro u hu
    rw [if_pos rfl]
    have h2 := ih hu
    rw [if_neg (hz r hr).1] at h2
    have := (h2.ctl hn hC (hR r hr).1).step hr
    rw [hp, List.nil_append] at this
    exact .inl ⟨(hR r hr).2, this⟩
  | @one r x t hr hp h1 ih =>
    intro u hu
    rw [if_neg ((hz r hr).2 x (by rw [hp]; simp))]
    have h2 := ih hu
    rw [if_neg (hz r hr).1] at h2
    have := (h2.ctl hn hC (hR r hr).1).step hr
    rw [hp] at this
    exact .inl ⟨(hR r hr).2, this⟩
  | @two1 r x y t hr hp h1 ih =>
    intro u hu
    rw [if_neg ((hz r hr).2 x (by rw [hp]; simp))]
    exact .inl ⟨(hR r hr).2, hu.mid hn hr hp⟩
  | @two2 r x y t hr hp h1 ih =>
    intro u hu
    rw [if_neg ((hz r hr).2 y (by rw [hp]; simp))]
    have h2 := ih hu
    rw [if_neg (hz r hr).1] at h2
    have := (h2.ctl hn hC (hR r hr).1).step hr
    rw [hp] at this
    exact .inr (.inr ⟨r, hr, x, y, hp, rfl, this⟩)
theorem PathA.semA (hn : NumIn R num (C + s0.length)) (hC : 0 ≤ C) (hx : x0 < C) (hR : ∀ r ∈ R, r.fr < C ∧ r.to < C) (hz : ∀ r ∈ R, r.top ≠ 0 ∧ ∀ x ∈ r.put, x ≠ 0) (hz0 : ∀ a ∈ s0, a ≠ 0) {p q : Int} {w : List Int} (h : PathA (LetA (Just C x0 s0) R num) p w q) (hq : SemA R num C x0 s0 q []) : SemA R num C x0 s0 p w := by
  induction h with
  | nil => exact hq
  | @cons p a m w q a1 _ ih =>
    have := a1.1.semA hn hC hx hR hz hz0 (ih hq)
    rw [if_neg a1.2] at this
    exact this
theorem FinA.semA (hn : NumIn R num (C + s0.length)) (hC : 0 ≤ C) (hx : x0 < C) (hR : ∀ r ∈ R, r.fr < C ∧ r.to < C) (hz : ∀ r ∈ R, r.top ≠ 0 ∧ ∀ x ∈ r.put, x ≠ 0) (hz0 : ∀ a ∈ s0, a ≠ 0) {q : Int} (h : FinA (Just C x0 s0) R num [lastS C x0 s0] q) : SemA R num C x0 s0 q [] := by
  have h0 : SemA R num C x0 s0 (lastS C x0 s0) [] := by
    unfold lastS
    split
    · rename_i h0
      have : s0 = [] := List.eq_nil_of_length_eq_zero h0
      exact .inl ⟨hx, ⟨[], by rw [this]; exact .refl _ _⟩⟩
    · rename_i h0
      exact .inr (.inl ⟨by omega, by omega, by rw [show ((C + (s0.length : Int) - 1 - C).toNat + 1) = s0.length by omega, List.drop_length]⟩)
  rcases h with h | ⟨f, hf, h1⟩
  · rw [List.mem_singleton] at h; rw [h]; exact h0
  · rw [List.mem_singleton] at hf
    rw [hf] at h1
    have := h1.semA hn hC hx hR hz hz0 h0
    rw [if_pos rfl] at this
    exact this
/-- what is accepted -/
def AccA (R : List Rule) (num : Int → Int → Int) (C x0 : Int) (s0 : List Int) (p : Int) (w : List Int) : Prop := ∃ q, PathA (LetA (Just C x0 s0) R num) p w q ∧ FinA (Just C x0 s0) R num [lastS C x0 s0] q
theorem AccA.begin (hz0 : ∀ a ∈ s0, a ≠ 0) : AccA R num C x0 s0 x0 s0 := by
  have h : ∀ k, k ≤ s0.length → PathA (LetA (Just C x0 s0) R num) (if k = 0 then x0 else C + k - 1) (s0.drop k) (lastS C x0 s0) := by
    intro k
    induction hk : s0.length - k generalizing k with
    | zero =>
      intro hle
      have e : k = s0.length := by omega
      rw [e, List.drop_length]
      unfold lastS
      exact .nil _
    | succ m ih =>
      intro hle
      have hlt : k < s0.length := by omega
      have hg : s0[k]? = some s0[k] := List.getElem?_eq_getElem hlt
      rw [← drop_cons_of hg]
      refine .cons (m := C + k) ⟨.base ⟨k, hg, rfl, rfl⟩, hz0 _ (List.getElem_mem _)⟩ ?_
      have := ih (k + 1) (by omega) (by omega)
      rw [if_neg (by omega), show (C + ((k + 1 : Nat) : Int) - 1) = C + k by omega] at this
      exact this
  have := h 0 (by omega)
  rw [if_pos rfl, List.drop_zero] at this
  exact ⟨_, this, .inl (by simp)⟩
theorem AccA.next (_hC : 0 ≤ C) (hR : ∀ r ∈ R, r.to < C ∧ ∀ x ∈ r.put, x ≠ 0) (hz0 : ∀ a ∈ s0, a ≠ 0) (hlen : ∀ r ∈ R, r.put.length ≤ 2) (hge : ∀ p a q, PA (Just C x0 s0) R num p a q → C ≤ q) {r : Rule} (hr : r ∈ R) {w : List Int} (h : AccA R num C x0 s0 r.fr (r.top :: w)) : AccA R num C x0 s0 r.to (r.put ++ w) := by
  obtain ⟨q, hp, hf⟩ := h
  obtain ⟨m, h1, h2⟩ := PathA.cons_iff.1 hp
  have hsrc : ∀ p q, PA (Just C x0 s0) R num p 0 q → p < C := fun p q h => PA_src (C := C) (fun p a q ⟨i, hi, _, _⟩ => hz0 a (List.mem_of_getElem? hi)) hR h rfl
  have hl := hlen r hr
  match hput : r.put, hl with
  | [], _ =>
    have hz := PA.zero hr hput h1.1
    rw [List.nil_append]
    cases h2 with
    | nil =>
      refine ⟨r.to, .nil _, ?_⟩
      rcases hf with hf | ⟨f, hf, h3⟩
      · exact .inr ⟨_, hf, hz⟩
      · exact absurd (hsrc _ _ h3) (by have := hge _ _ _ h1.1; omega)
    | cons a b => exact ⟨q, .cons ⟨.sil hz a.1 a.2, a.2⟩ b, hf⟩
  | [x], _ => exact ⟨q, .cons ⟨.one hr hput h1.1, (hR r hr).2 x (by rw [hput]; simp)⟩ h2, hf⟩
  | [x, y], _ => exact ⟨q, .cons ⟨.two1 hr hput h1.1, (hR r hr).2 x (by rw [hput]; simp)⟩ (.cons ⟨.two2 hr hput h1.1, (hR r hr).2 y (by rw [hput]; simp)⟩ h2), hf⟩
  | _ :: _ :: _ :: _, hl => simp at hl
/-- THE LAW: what is accepted is what is reached -/
theorem AccA_iff (hn : NumIn R num (C + s0.length)) (hC : 0 ≤ C) (hx : x0 < C) (hR : ∀ r ∈ R, r.fr < C ∧ r.to < C) (hz : ∀ r ∈ R, r.top ≠ 0 ∧ ∀ x ∈ r.put, x ≠ 0) (hz0 : ∀ a ∈ s0, a ≠ 0) (hlen : ∀ r ∈ R, r.put.length ≤ 2) (hge : ∀ p a q, PA (Just C x0 s0) R num p a q → C ≤ q) {p : Int} (hp : p < C) {w : List Int} :
    AccA R num C x0 s0 p w ↔ RchA R x0 s0 p w := by
  constructor
  · rintro ⟨q, h1, h2⟩
    exact (h1.semA hn hC hx hR hz hz0 (h2.semA hn hC hx hR hz hz0)).ctl hn hC hp
  · rintro ⟨n, hs⟩
    have key : ∀ {p w n q u}, Steps R p w n q u → AccA R num C x0 s0 p w → AccA R num C x0 s0 q u := by
      intro p w n q u h
      induction h with
      | refl => exact id
      | step hr _ ih => exact fun ha => ih (ha.next hC (fun r hr => ⟨(hR r hr).2, (hz r hr).2⟩) hz0 hlen hge (List.mem_of_getElem? hr))
    exact key hs (AccA.begin hz0)
end
end
end Go.Proofs.YtaapnflhjbdmlaaGreatDoor
