/- best: the best worth and the first best allocation. -/
import Derived.Laws.EntriesVeiled
import Derived.Test.YtadonoacmpkolaaW7
namespace Go.Proofs.Ytadonoacmpkolaa
open Go.RowKit Go.Shelf
attribute [local go_sem] Oper.semAt_some
attribute [local go_sem high] walk_shl walk_shr walk_bit walk_rem walk_and walk_or walk_andNot

theorem info95 : (Try.prog.info? 95).map (fun i => (i.zero, i.size, i.bytes)) = some (some (.agg (Array.replicate 64 (.int .i64 0))), 64, 512) := by kernel_rfl
theorem made64 (n : Nat) : madeCells (Array.replicate 64 (.int .i64 0)) n = (tab n fun _ => Value.int .i64 0).toArray := by
  refine Array.ext (by rw [size_madeCells]; simp [tab]) fun i h1 h2 => ?_
  rw [size_madeCells] at h1
  have h3 : i % 64 < 64 := Nat.mod_lt _ (by decide)
  simp [madeCells, tab, h3]
theorem make88 (n : Nat) (hn : n ≤ 1000) (W : World) : (Instr.makeSlice 88 (.int .i64 ((n : Int) + 1)) (.int .i64 ((n : Int) + 1))).run Try.prog W =
    .ok (.slice (some ⟨W.heap.size, 0, none⟩) (n + 1) (n + 1)) (W.alloc (.cells (tab ((n + 1) * 64) fun _ => Value.int .i64 0).toArray 95)) := by
  obtain ⟨i, hi, hz0, hz1, hz2⟩ := info_parts info95
  have hr := run_make (P := Try.prog) W 88 95 i _ Try.underlying88 hi hz0 .i64 .i64 ((n : Int) + 1) ((n : Int) + 1) (by omega) (Int.le_refl _) (by rw [hz2]; omega) (by omega)
  have e : ((n : Int) + 1).toNat = n + 1 := by omega
  rw [e, hz1] at hr
  rw [hr]
  have : (Value.agg (Array.replicate 64 (.int .i64 0))).cells = Array.replicate 64 (.int .i64 0) := rfl
  rw [this, made64]

theorem field90_0 (a b : Int) (w : World) : (Instr.field 90 (.agg #[.int .i64 a, .int .i64 b]) 0).run Try.prog w = .ok (.int .i64 a) w := by kernel_rfl
theorem field90_1 (a b : Int) (w : World) : (Instr.field 90 (.agg #[.int .i64 a, .int .i64 b]) 1).run Try.prog w = .ok (.int .i64 b) w := by kernel_rfl

/-! ### the best worths -/
/-- the best worths of these bidders, of each set of items -/
def wts : List (List Int) → Nat → Int
  | [], _ => 0
  | b :: bs, items => (pickF b (wts bs) items (subs items)).1
/-- the first best allocation of these bidders -/
def alloc : List (List Int) → Nat → List Nat
  | [], _ => []
  | b :: bs, items => (pickF b (wts bs) items (subs items)).2 :: alloc bs (andN items (pickF b (wts bs) items (subs items)).2)
/-- bids as they must be: m items -/
def okRow (m : Nat) (b : List Int) : Prop := b.length = p2 m ∧ ∀ s, 0 ≤ at0 b s ∧ at0 b s ≤ 1000000

theorem subs_mem {s set : Nat} : s ∈ subs set ↔ s ≤ set ∧ s &&& set = s := by
  unfold subs
  simp [List.mem_filter]
  omega
theorem pick_bounds (b : List Int) (R : Nat → Int) (items : Nat) (B C : Int) (hb : ∀ s, 0 ≤ at0 b s ∧ at0 b s ≤ B) (hR : ∀ s, 0 ≤ R s ∧ R s ≤ C) : ∀ (l : List Nat), (l ≠ [] → 0 ≤ (pickF b R items l).1) ∧ -1 ≤ (pickF b R items l).1 ∧ (pickF b R items l).1 ≤ B + C := by
  have h0 : 0 ≤ B + C := by have := hb 0; have := hR 0; omega
  have key : ∀ (l : List Nat) (p : Int × Nat), -1 ≤ p.1 → p.1 ≤ B + C → (l ≠ [] ∨ 0 ≤ p.1 → 0 ≤ (l.foldl (pickOne b R items) p).1) ∧ -1 ≤ (l.foldl (pickOne b R items) p).1 ∧ (l.foldl (pickOne b R items) p).1 ≤ B + C := by
    intro l
    induction l with
    | nil => intro p h1 h2; exact ⟨fun h => h.resolve_left (by simp), h1, h2⟩
    | cons s l ih =>
      intro p h1 h2
      rw [List.foldl_cons]
      have hs := hb s
      have hr := hR (andN items s)
      have hv : 0 ≤ (pickOne b R items p s).1 ∧ (pickOne b R items p s).1 ≤ B + C := by
        unfold pickOne
        split
        · exact ⟨by dsimp only; omega, by dsimp only; omega⟩
        · rename_i hbt
          refine ⟨?_, h2⟩
          unfold betterB at hbt
          simp at hbt
          omega
      have := ih _ (by omega) hv.2
      exact ⟨fun _ => this.1 (.inr hv.1), this.2⟩
  intro l
  have := key l (-1, 0) (by simp) (by simp; omega)
  exact ⟨fun h => this.1 (.inl h), this.2⟩
theorem subs_ne (items : Nat) : subs items ≠ [] := by
  have : (0 : Nat) ∈ subs items := subs_mem.2 ⟨Nat.zero_le _, Nat.zero_and _⟩
  intro h; rw [h] at this; cases this
theorem wts_bounds : ∀ (bs : List (List Int)), (∀ b ∈ bs, ∀ s, 0 ≤ at0 b s ∧ at0 b s ≤ 1000000) → ∀ items, 0 ≤ wts bs items ∧ wts bs items ≤ 1000000 * bs.length
  | [], _, _ => by simp [wts]
  | b :: bs, h, items => by
    have ih := wts_bounds bs (fun b' hb' => h b' (List.mem_cons_of_mem _ hb'))
    have := pick_bounds b (wts bs) items 1000000 (1000000 * bs.length) (h b List.mem_cons_self) ih (subs items)
    refine ⟨this.1 (subs_ne items), ?_⟩
    rw [wts, List.length_cons]
    have h2 := this.2.2
    simp only [Int.natCast_add, Int.mul_add]
    omega
theorem pick_congr (b : List Int) (R R' : Nat → Int) (items : Nat) (h : ∀ j, j ≤ items → R j = R' j) (l : List Nat) : pickF b R items l = pickF b R' items l := by
  unfold pickF
  congr 1
  funext p s
  unfold pickOne
  rw [h _ (andN_le items s)]

theorem pick_snd (b : List Int) (R : Nat → Int) (items : Nat) (l : List Nat) : (pickF b R items l).2 = 0 ∨ (pickF b R items l).2 ∈ l := by
  have key : ∀ (l : List Nat) (p : Int × Nat), (l.foldl (pickOne b R items) p).2 = p.2 ∨ (l.foldl (pickOne b R items) p).2 ∈ l := by
    intro l
    induction l with
    | nil => intro p; exact .inl rfl
    | cons s l ih =>
      intro p
      rw [List.foldl_cons]
      rcases ih (pickOne b R items p s) with h | h
      · rw [h]
        unfold pickOne
        split
        · exact .inr List.mem_cons_self
        · exact .inl rfl
      · exact .inr (List.mem_cons_of_mem _ h)
  exact key l (-1, 0)
theorem pick_snd_le (b : List Int) (R : Nat → Int) (items : Nat) : (pickF b R items (subs items)).2 ≤ items := by
  rcases pick_snd b R items (subs items) with h | h
  · omega
  · exact (subs_mem.1 h).1

/-- what the table holds in row k -/
def rowT (m : Nat) (bids : List (List Int)) (k j : Nat) : Int := if j < p2 m then wts (bids.drop k) j else 0
/-- the table when rows from k on are full -/
def tabT (m : Nat) (bids : List (List Int)) (k i : Nat) : Int := if k ≤ i / 64 then rowT m bids (i / 64) (i % 64) else 0

/-- the blocks that best lays -/
structure MemB (w : World) (A : Option Addr) (n cap : Nat) (f : Nat → Int) (W : World) : Prop where
  b0 : Blk W w.heap.size 22 #[.slice A n cap]
  b1 : Blk W (w.heap.size + 1) 95 (tab ((n + 1) * 64) fun i => Value.int .i64 (f i)).toArray
  b2 : Blk W (w.heap.size + 2) 88 #[.slice (some ⟨w.heap.size + 1, 0, none⟩) (n + 1) (n + 1)]
  b3 : Blk W (w.heap.size + 3) 97 #[.func (.func 67) #[] #[.pointer (some ⟨w.heap.size, 0, none⟩), .pointer (some ⟨w.heap.size + 1 + 1, 0, none⟩)]]
  bel : Below w.heap.size w W

/-- the table while row k is being filled -/
def tabIn (m : Nat) (bids : List (List Int)) (k : Nat) (l : List Nat) (i : Nat) : Int := if k + 1 ≤ i / 64 then rowT m bids (i / 64) (i % 64) else if i / 64 = k ∧ i % 64 ∈ l then wts (bids.drop k) (i % 64) else 0
theorem tabT_last {m n i : Nat} {bids : List (List Int)} (hn : n = bids.length) (hi : i < (n + 1) * 64) : tabT m bids n i = 0 := by
  unfold tabT rowT
  split
  · have : i / 64 = n := by omega
    rw [this, hn, List.drop_length]
    split <;> rfl
  · rfl
theorem tabIn_start {m k i : Nat} {bids : List (List Int)} : tabIn m bids k [] i = tabT m bids (k + 1) i := by
  unfold tabIn tabT
  split
  · rfl
  · simp
theorem tabIn_end {m k i : Nat} {bids : List (List Int)} (_ : m ≤ 6) : tabIn m bids k (subs (p2 m - 1)) i = tabT m bids k i := by
  have hp := p2_pos m
  unfold tabIn tabT
  by_cases h1 : k + 1 ≤ i / 64
  · rw [if_pos h1, if_pos (by omega)]
  · rw [if_neg h1]
    by_cases h2 : i / 64 = k
    · rw [if_pos (show k ≤ i / 64 by omega)]
      unfold rowT
      rw [h2]
      by_cases h3 : i % 64 < p2 m
      · have h4 : (i % 64) &&& (p2 m - 1) = i % 64 := by unfold p2 at h3 ⊢; rw [Nat.and_two_pow_sub_one_eq_mod, Nat.mod_eq_of_lt h3]
        rw [if_pos h3, if_pos ⟨rfl, subs_mem.2 ⟨by omega, h4⟩⟩]
      · rw [if_neg h3, if_neg (fun h => h3 (by have := (subs_mem.1 h.2).1; omega))]
    · rw [if_neg (fun h => h2 h.1), if_neg (by omega)]
theorem tabIn_snoc {m k x : Nat} {bids : List (List Int)} {l : List Nat} (hx : x < 64) (i : Nat) : upd (tabIn m bids k l) (k * 64 + x) (wts (bids.drop k) x) i = tabIn m bids k (l ++ [x]) i := by
  unfold upd tabIn
  by_cases h : i = k * 64 + x
  · rw [if_pos h, if_neg (by omega), if_pos ⟨by omega, by rw [show i % 64 = x by omega]; simp⟩, show i % 64 = x by omega]
  · rw [if_neg h]
    by_cases h1 : k + 1 ≤ i / 64
    · rw [if_pos h1, if_pos h1]
    · rw [if_neg h1, if_neg h1]
      by_cases h2 : i / 64 = k ∧ i % 64 ∈ l
      · rw [if_pos h2, if_pos ⟨h2.1, by simp [h2.2]⟩]
      · rw [if_neg h2, if_neg]
        rintro ⟨h3, h4⟩
        rcases List.mem_append.1 h4 with h5 | h5
        · exact h2 ⟨h3, h5⟩
        · have : i % 64 = x := by simpa using h5
          omega

theorem MemB.cellR {w W : World} {A : Option Addr} {n cap : Nat} {f : Nat → Int} (h : MemB w A n cap f W) (i : Nat) (hi : i < (n + 1) * 64) : W.cell? ⟨w.heap.size + 1, i, none⟩ = some (.int .i64 (f i)) := by
  rw [h.b1.cell i]
  simp [tab, hi]
theorem MemB.below {w W W' : World} {A : Option Addr} {n cap : Nat} {f : Nat → Int} (h : MemB w A n cap f W) (hb : Below W.heap.size W W') : MemB w A n cap f W' :=
  ⟨h.b0.below hb h.b0.lt, h.b1.below hb h.b1.lt, h.b2.below hb h.b2.lt, h.b3.below hb h.b3.lt, h.bel.trans (hb.mono h.bel.size)⟩
theorem MemB.congr {w W : World} {A : Option Addr} {n cap : Nat} {f g : Nat → Int} (h : MemB w A n cap f W) (hg : ∀ i, i < (n + 1) * 64 → f i = g i) : MemB w A n cap g W :=
  ⟨h.b0, by rw [← tab_congr (f := fun i => Value.int .i64 (f i)) fun i hi => by rw [hg i hi]]; exact h.b1, h.b2, h.b3, h.bel⟩
theorem MemB.set {w W : World} {A : Option Addr} {n cap : Nat} {f : Nat → Int} (h : MemB w A n cap f W) (i : Nat) (x : Int) : MemB w A n cap (upd f i x) (W.setCell ⟨w.heap.size + 1, i, none⟩ (.int .i64 x)) := by
  refine ⟨h.b0.far (by simp) _, ?_, h.b2.far (by simp) _, h.b3.far (by simp) _, h.bel.setCell (p := ⟨w.heap.size + 1, i, none⟩) (by simp) _⟩
  have := h.b1.set i (.int .i64 x)
  rw [List.setIfInBounds_toArray, tab_set] at this
  have e : (tab ((n + 1) * 64) fun j => Value.int .i64 (upd f i x j)) = tab ((n + 1) * 64) (upd (fun j => Value.int .i64 (f j)) i (.int .i64 x)) := tab_congr fun j _ => by unfold upd; split <;> rfl
  rw [e]
  exact this
theorem ownFrom_memB {β : Type} (B : Nat) {w : World} {A : Option Addr} {n cap : Nat} (f : β → Nat → Int) (hB : w.heap.size ≤ B) : OwnFrom B (fun (s : β) W => MemB w A n cap (f s) W) := by
  intro s W W' row h hg hr
  exact ⟨ownFrom_blk B _ _ (fun _ : Unit => _) () W W' row h.b0 hg hr, ownFrom_blk B _ _ (fun _ : Unit => _) () W W' row h.b1 hg hr, ownFrom_blk B _ _ (fun _ : Unit => _) () W W' row h.b2 hg hr, ownFrom_blk B _ _ (fun _ : Unit => _) () W W' row h.b3 hg hr,
    h.bel.grown hg h.bel.size (fun k hk => Nat.le_trans hB (hr k hk).1)⟩

def marks (Ds : List Nat) : List Deferred := Ds.map fun D => { target := .collected D, args := #[] }
def marked (B : Nat) (Ds : List Nat) (W : World) : Prop := Ds.Nodup ∧ ∀ D ∈ Ds, B ≤ D ∧ W.heap[D]? = some (.deferred (some []))
/-- only blocks from B on that hold no cells have turned -/
def Turned (B : Nat) (W W' : World) : Prop := Below B W W' ∧ ∀ (k : Nat) (c : Array Value) (t : TypeId) (f : Nat × Nat), W.heap[k]? = some (Obj.cells c t f) → W'.heap[k]? = W.heap[k]?
theorem OwnI.turned {B lo e : Nat} {w w' : World} {v : Value} {xs : List Int} (h : OwnI lo e w v xs) (ht : Turned B w w') : OwnI lo e w' v xs := by
  obtain ⟨cs, hl, h, hR⟩ := h
  refine ⟨cs, hl, ⟨h.1, ?_⟩, hR⟩
  rcases h.2 with hn | ⟨g, cap, cur, rfl, hbb, hgg, rest⟩
  · exact .inl hn
  · exact .inr ⟨g, cap, cur, rfl, hbb, (ht.2 g _ _ _ hgg).trans hgg, rest⟩
theorem leavesM_marks {F : Fence} {n : Nat} {P : Program} {fn : Func} {tmps : Array Value} {R : Ending → World → Prop} (B : Nat) : ∀ (Ds : List Nat) (W : World), marked B Ds W →
    (∀ W', Turned B W W' → ∃ v, (results fn tmps).run P W' = .ok v W' ∧ R (.returned v) W') → LeavesInM F n P fn tmps R (marks Ds) .returning W
  | [], W, _, h => by
    obtain ⟨v, h1, h2⟩ := h W ⟨Below.refl _ _, fun _ _ _ _ _ => rfl⟩
    exact ⟨v, h1, h2⟩
  | D :: Ds, W, hm, h => by
    obtain ⟨hnd, hall⟩ := hm
    obtain ⟨hB, hD⟩ := hall D List.mem_cons_self
    have hnd' := List.nodup_cons.1 hnd
    refine ⟨by simp, .inl ⟨D, _, rfl, run_takeDeferred hD, ?_⟩⟩
    refine leavesM_marks B Ds _ ⟨hnd'.2, fun D' hd => ?_⟩ fun W' hW' => h W' ?_
    · obtain ⟨h1, h2⟩ := hall D' (List.mem_cons_of_mem _ hd)
      exact ⟨h1, (World.putObj_heap_other (fun e => hnd'.1 (by rw [← e]; exact hd))).trans h2⟩
    · have hbel : Below B W (W.putObj D (.deferred none)) := (Below.refl B W).grown (grownBy_putObj' W D _) (by have := (Array.getElem?_eq_some_iff.1 hD).1; omega) (fun k e => by cases e; exact hB)
      refine ⟨hbel.trans hW'.1, fun k c t f hk => ?_⟩
      have hne : k ≠ D := fun e => by rw [e, hD] at hk; cases hk
      have h1 : (W.putObj D (.deferred none)).heap[k]? = W.heap[k]? := World.putObj_heap_other hne
      exact (hW'.2 k c t f (h1.trans hk)).trans h1

def muB (a : Act) (W : World) : Nat := (intOf ((match a.tmps.getD 9 undef with | .pointer (some p) => W.cell? p | _ => none).getD undef) + 1).toNat

set_option maxHeartbeats 1000000 in
theorem best_any (w : World) (v : Value) (m : Nat) (bids : List (List Int)) (hv : Rows2 w v bids) (hm0 : 1 ≤ m) (hm : m ≤ 6) (hb6 : bids.length ≤ 6) (hok : ∀ b ∈ bids, okRow m b) :
    Calls Try.prog 52 #[.int .i64 (m : Int), v] w fun e w' => ∃ v', e = .returned (.tuple #[.int .i64 (wts bids (p2 m - 1)), v']) ∧ OwnI w.heap.size 3 w' v' ((alloc bids (p2 m - 1)).map (fun (s : Nat) => (s : Int))) ∧ Below w.heap.size w w' := by
  refine (callsIn_wide (n := 3)).1 ?_
  refine callsIn_of_wp_marks Try.func52 rfl trivial ?_ rfl
  simp only [Try.ntmps52, List.size_toArray, List.length_cons, List.length_nil, Nat.reduceAdd, Nat.reduceSub, Array.replicate_succ, Array.replicate_zero, List.push_toArray, List.append_toArray, List.nil_append, List.cons_append]
  refine (wpIn_wide (n := 3)).2 ?_
  obtain ⟨A, n, cap, rfl, hn⟩ := hv.shape
  have hn6 : n ≤ 6 := by have := hn.out; omega
  have hsm : smallS m := smallS_of (by omega)
  have hp1 := p2_pos m
  have hp64 := p2_le64 hm
  have hmk := make88 n (by omega)
  have hmf : ∀ (fn : Fn) (first cap : Array Value) (w : World), (Instr.makeFunc fn first cap).run Try.prog w = .ok (.func fn first cap) w := fun _ _ _ _ => rfl
  replace hv := Lib.hid hv
  replace hok := Lib.hid hok
  go_wp2_with fail
  clear hmk hmf
  obtain ⟨all, hall⟩ : ∃ all : Nat, p2 m = all + 1 := ⟨p2 m - 1, by omega⟩
  have eall : ((p2 m : Int) - 1) = (all : Int) := by omega
  rw [eall]
  replace eall := Lib.hid eall
  replace hall := Lib.hid hall
  refine wp_loop (fun a W => ∃ (u27 u28 u29 u30 u31 u32 u44 : Value) (j Bw : Nat) (Ds : List Nat), (j ≤ n ∧ w.heap.size + 4 ≤ Bw ∧ Blk W Bw 3 #[.int .i64 ((j : Int) - 1)] ∧ MemB w A n cap (tabT m bids j) W ∧ marked (w.heap.size + 4) Ds W) ∧
    a = { tmps := #[.int .i64 (m : Int), .slice A n cap, undef, .pointer (some ⟨w.heap.size, 0, none⟩), .int .i64 0, .slice none 0 0, .int .i64 (all : Int), .pointer (some ⟨w.heap.size + 1 + 1, 0, none⟩), .pointer (some ⟨w.heap.size + 1 + 1 + 1, 0, none⟩), .pointer (some ⟨Bw, 0, none⟩),
      undef, undef, undef, undef, undef, .int .i64 (m : Int), .int .u64 (m : Int), .int .i64 (p2 m : Int), .int .i64 (all : Int), .slice A n cap, .int .i64 (n : Int), .int .i64 ((n : Int) + 1), .slice (some ⟨w.heap.size + 1, 0, none⟩) (n + 1) (n + 1),
      .func (.func 67) #[] #[.pointer (some ⟨w.heap.size, 0, none⟩), .pointer (some ⟨w.heap.size + 1 + 1, 0, none⟩)], .slice A n cap, .int .i64 (n : Int), .int .i64 ((n : Int) - 1), u27, u28, u29, u30, u31, u32, undef, undef, undef, undef, undef, undef, undef, undef, undef, undef, undef, u44, undef, undef, undef, undef, undef, undef, undef, undef, undef, undef, undef, undef, undef, undef, undef, undef, undef, undef, undef, undef, undef, undef, undef, undef, undef], defers := marks Ds }) muB ?_ ?_
  · refine ⟨_, _, _, _, _, _, _, n, _, [], ⟨Nat.le_refl _, ?_, ?_, ⟨?_, ?_, ?_, ?_, ?_⟩, ?_⟩, rfl⟩
    · simp
    · have := Blk.new ((((w.alloc (Obj.cells #[Value.slice A n cap] 22)).alloc (Obj.cells (tab ((n + 1) * 64) fun _ => Value.int IntKind.i64 0).toArray 95)).alloc
          (Obj.cells #[Value.slice (some { block := w.heap.size + 1, off := 0 }) (n + 1) (n + 1)] 88)).alloc (Obj.cells #[Value.func (Fn.func 67) #[] #[Value.pointer (some { block := w.heap.size, off := 0 }), Value.pointer (some { block := w.heap.size + 1 + 1, off := 0 })]] 97)) 3 #[.int .i64 ((n : Int) - 1)]
      simp only [World.size_alloc] at this
      exact this
    · exact ((((Blk.new w 22 _).alloc _).alloc _).alloc _).alloc _
    · have e : (tab ((n + 1) * 64) fun i => Value.int .i64 (tabT m bids n i)) = tab ((n + 1) * 64) fun _ => Value.int .i64 0 := tab_congr fun i hi => by rw [tabT_last hn.out hi]
      rw [e]
      have := Blk.new (w.alloc (Obj.cells #[Value.slice A n cap] 22)) 95 (tab ((n + 1) * 64) fun _ => Value.int IntKind.i64 0).toArray
      simp only [World.size_alloc] at this
      exact ((this.alloc _).alloc _).alloc _
    · have := Blk.new ((w.alloc (Obj.cells #[Value.slice A n cap] 22)).alloc (Obj.cells (tab ((n + 1) * 64) fun _ => Value.int IntKind.i64 0).toArray 95)) 88 #[Value.slice (some { block := w.heap.size + 1, off := 0 }) (n + 1) (n + 1)]
      simp only [World.size_alloc] at this
      exact (this.alloc _).alloc _
    · have := Blk.new (((w.alloc (Obj.cells #[Value.slice A n cap] 22)).alloc (Obj.cells (tab ((n + 1) * 64) fun _ => Value.int IntKind.i64 0).toArray 95)).alloc
          (Obj.cells #[Value.slice (some { block := w.heap.size + 1, off := 0 }) (n + 1) (n + 1)] 88)) 97 #[Value.func (Fn.func 67) #[] #[Value.pointer (some { block := w.heap.size, off := 0 }), Value.pointer (some { block := w.heap.size + 1 + 1, off := 0 })]]
      simp only [World.size_alloc] at this
      exact this.alloc _
    · exact (((((Below.refl _ _).alloc (Nat.le_refl _) _).alloc (by simp) _).alloc (by simp; omega) _).alloc (by simp; omega) _).alloc (by simp; omega) _
    · exact ⟨List.nodup_nil, fun D h => by cases h⟩
  · rintro a W ⟨u27, u28, u29, u30, u31, u32, u44, j, Bw, Ds, ⟨hj, hBw, hw, hM, hD⟩, rfl⟩
    have c1 := hw.cell 0
    have c2 : W.cell? ⟨w.heap.size, 0, none⟩ = _ := hM.b0.cell 0
    have c3 : W.cell? ⟨w.heap.size + 1 + 1, 0, none⟩ = _ := hM.b2.cell 0
    have c4 : W.cell? ⟨w.heap.size + 1 + 1 + 1, 0, none⟩ = _ := hM.b3.cell 0
    simp at c1 c2 c3 c4
    cases j with
    | zero =>
      replace hw := Lib.hid hw
      replace hM := Lib.hid hM
      replace hD := Lib.hid hD
      have hneg : ¬ (0 ≤ (((0 : Nat) : Int) - 1)) := by omega
      go_wp2_with fail
      go_loopw [11, 12, 48] (fun o it i wr => ∃ (k s : Nat) (dn : List Nat), k ≤ n ∧ s ≤ all ∧ i = .int .i64 (k : Int) ∧ it = .int .i64 (s : Int) ∧ Hid (alloc bids all = dn ++ alloc (bids.drop k) s) ∧ Hid (dn.length = k) ∧
        Hid (OwnI W.heap.size 3 wr o (dn.map fun (s : Nat) => (s : Int))) ∧ Hid (Below W.heap.size W wr)) (fun _ _ i _ => n - (intOf i).toNat)
      case atStart => exact ⟨0, all, [], Nat.zero_le _, Nat.le_refl _, rfl, rfl, rfl, rfl, own_nil _ _ _, Below.refl _ _⟩
      case round =>
        obtain ⟨k, s, dn, hk, hs, rfl, rfl, ha, hdl, ho, hB⟩ := hrel
        clear c1 c2 c3 c4
        have hMr := hM.out.below hB.out
        have c3 : wr.cell? ⟨w.heap.size + 1 + 1, 0, none⟩ = some (.slice (some ⟨w.heap.size + 1, 0, none⟩) (n + 1) (n + 1)) := hMr.b2.cell 0
        have c4 : wr.cell? ⟨w.heap.size + 1 + 1 + 1, 0, none⟩ = some (.func (.func 67) #[] #[.pointer (some ⟨w.heap.size, 0, none⟩), .pointer (some ⟨w.heap.size + 1 + 1, 0, none⟩)]) := hMr.b3.cell 0
        by_cases hkn : k < n
        · have hn' := hn.out
          have hkb : k < bids.length := by omega
          have hall' := hall.out
          have hrowok := hok.out (rowAt bids k) (by rw [rowAt_eq hkb]; exact List.getElem_mem hkb)
          have hRb : ∀ j, 0 ≤ rowT m bids (k + 1) j ∧ rowT m bids (k + 1) j ≤ 100000000 := fun j => by
            have := wts_bounds (bids.drop (k + 1)) (fun b hb => (hok.out b (List.mem_of_mem_drop hb)).2) j
            rw [List.length_drop] at this
            unfold rowT
            split
            · omega
            · simp
          have hcall := Lib.hid (choose_any wr bids (.slice A n cap) w.heap.size (w.heap.size + 1 + 1) (w.heap.size + 1) (n + 1) k s (rowT m bids (k + 1)) (hMr.b0.cell 0)
            (Rows2.below hv.out (Nat.le_refl _) hMr.bel) (hMr.b2.cell 0) (fun j hj => by
              rw [hMr.cellR ((k + 1) * 64 + j) (by omega)]
              unfold tabT
              rw [show ((k + 1) * 64 + j) / 64 = k + 1 by omega, show ((k + 1) * 64 + j) % 64 = j by omega, if_pos (Nat.zero_le _)]) (by omega) hkb (by omega) (by omega) (by rw [hrowok.1]; omega) hrowok.2 hRb)
          have hpc := pick_congr (rowAt bids k) (wts (bids.drop (k + 1))) (rowT m bids (k + 1)) s (fun j hj => by unfold rowT; rw [if_pos (by omega)]) (subs s)
          have hal : alloc (bids.drop k) s = (pickF (rowAt bids k) (rowT m bids (k + 1)) s (subs s)).2 :: alloc (bids.drop (k + 1)) (andN s (pickF (rowAt bids k) (rowT m bids (k + 1)) s (subs s)).2) := by
            rw [List.drop_eq_getElem_cons hkb, alloc, ← rowAt_eq hkb, hpc]
          have hqle := pick_snd_le (rowAt bids k) (rowT m bids (k + 1)) s
          clear hRb hrowok hpc
          generalize (pickF (rowAt bids k) (rowT m bids (k + 1)) s (subs s)).1 = q1 at hcall
          generalize (pickF (rowAt bids k) (rowT m bids (k + 1)) s (subs s)).2 = q2 at hcall hal hqle
          have hf1 := field90_1 q1 (q2 : Int)
          have hss : small s := small_of (by omega)
          have hqs : small q2 := small_of (by omega)
          have hle := andN_le s q2
          have ha2 := Lib.hid (show alloc bids all = (dn ++ [q2]) ++ alloc (bids.drop (k + 1)) (andN s q2) by rw [ha.out, hal]; simp)
          have hdn6 := Lib.hid (show dn.length + 1 ≤ 1000000 by have := hdl.out; omega)
          clear ha hal hMr hall' hn'
          go_wp2_with (first
            | (go_at_call 67; refine hcall.out.mono ?_; rintro e w1 ⟨rfl, hb⟩; replace hb := Lib.hid hb)
            | (at_builtin; refine wpList_append_int rfl (.tmp 56) (.tmp 58) 40 rfl W.heap.size 3 Try.underlying40 info3 _ _ rfl rfl (OwnL.below ho.out (Nat.le_refl _) hb.out) rfl rfl (by rw [List.length_map]; exact hdn6.out) (Nat.le_trans hB.out.size hb.out.size) ?_; intro v' w' h3 h4 _; replace h3 := Lib.hid h3; replace h4 := Lib.hid h4))
          go_roundw
          case rel => exact ⟨k + 1, andN s q2, dn ++ [q2], by omega, by omega, by go_num, rfl, ha2, by have := hdl.out; unfold Hid; simp; omega, by rw [List.map_append]; exact h3, (hB.out.trans (hb.out.mono hB.out.size)).trans h4.out⟩
          case measure => simp [intOf]; omega
        · obtain rfl : k = n := by omega
          have ha64 : all < 64 := by have := hall.out; omega
          have c5 := hMr.cellR all (by omega)
          have hMr' := Lib.hid hMr
          clear hMr
          go_wp2
          have hDr : marked (w.heap.size + 4) Ds wr := ⟨hD.out.1, fun D hd => by
            obtain ⟨h1, h2⟩ := hD.out.2 D hd
            exact ⟨h1, (hB.out.block _ (Array.getElem?_eq_some_iff.1 h2).1).trans h2⟩⟩
          refine leavesM_marks (w.heap.size + 4) Ds wr hDr fun W' hW' => ⟨_, results_tmp2 rfl _ _ _, u11, ?_, ?_, ?_⟩
          · have e1 : tabT m bids 0 all = wts bids (p2 m - 1) := by
              unfold tabT rowT
              have := hall.out
              rw [if_pos (Nat.zero_le _), show all % 64 = all by omega, show all / 64 = 0 by omega, if_pos (by omega), List.drop_zero, show p2 m - 1 = all by omega]
            rw [← e1]
            rfl
          · have h1 := ha.out
            rw [hn.out, List.drop_length, alloc, List.append_nil] at h1
            rw [show p2 m - 1 = all by have := hall.out; omega, h1]
            exact OwnL.lo_le (OwnI.turned ho.out hW') hM.out.bel.size
          · exact (hM.out.bel.trans (hB.out.mono hM.out.bel.size)).trans (hW'.1.mono (by omega))
    | succ k =>
      have ek : (((k + 1 : Nat) : Int) - 1) = (k : Int) := by omega
      rw [ek] at hw
      simp at c1
      replace hw := Lib.hid hw
      replace hM := Lib.hid hM
      replace hD := Lib.hid hD
      replace ek := Lib.hid ek
      go_wp2_with (go_at_call 68; refine (within_any _ _).mono ?_; rintro e w1 ⟨rfl, rfl⟩)
      obtain ⟨W1, hW1⟩ : ∃ W1, W1 = W.alloc (Obj.cells #[.int .i64 (all : Int)] 3) := ⟨_, rfl⟩
      rw [← hW1]
      have hz : W1.heap.size = W.heap.size + 1 := by rw [hW1]; simp
      have hBl : Below W.heap.size W W1 := by rw [hW1]; exact (Below.refl _ _).alloc (Nat.le_refl _) _
      have hset : Blk W1 W.heap.size 3 #[.int .i64 (all : Int)] := by rw [hW1]; exact Blk.new W 3 _
      clear hW1
      have hsz : w.heap.size + 4 < W.heap.size := by have := hw.out.lt; omega
      have hM1 : MemB w A n cap (tabIn m bids k []) W1 := by
        have hM' := hM.out
        refine ⟨hM'.b0.below hBl hM'.b0.lt, ?_, hM'.b2.below hBl hM'.b2.lt, hM'.b3.below hBl hM'.b3.lt, hM'.bel.trans (hBl.mono (by omega))⟩
        have e : (tab ((n + 1) * 64) fun i => Value.int .i64 (tabIn m bids k [] i)) = tab ((n + 1) * 64) fun i => Value.int .i64 (tabT m bids (k + 1) i) := tab_congr fun i _ => by rw [tabIn_start]
        rw [e]
        exact hM'.b1.below hBl hM'.b1.lt
      have hD1 : ∀ D ∈ Ds, W1.heap[D]? = some (.deferred (some [])) := fun D hd => by
        obtain ⟨h1, h2⟩ := hD.out.2 D hd
        exact (hBl.block D (Array.getElem?_eq_some_iff.1 h2).1).trans h2
      have hDl : ∀ D ∈ Ds, D < W1.heap.size := fun D hd => (Array.getElem?_eq_some_iff.1 (hD1 D hd)).1
      replace hDl := Lib.hid hDl
      refine (wpIn_wide (n := 3)).1 ?_
      refine wpIn_rangeFunc_ownF (n := 3) rfl (by omega) (gf := 74) (lb := #[.pointer (some ⟨W.heap.size, 0, none⟩)]) rfl trivial (enters_of Try.func74 (by kernel_rfl) rfl)
        (within1_stops all (by have := hall.out; omega) 2 W.heap.size (by omega) W1 (hset.cell 0)) (fun h k => k.trans h) (fun W' l o o' hl h hc hw => World.putObj_heap_other (by omega)) (Below.refl _ _) (fun _ => rfl)
        (fun pre W' => (Blk W' Bw 3 #[.int .i64 (k : Int)] ∧ Blk W' W.heap.size 3 #[.int .i64 (all : Int)]) ∧ MemB w A n cap (tabIn m bids k (pre.map (·.1))) W' ∧ ∀ D ∈ Ds, W'.heap[D]? = some (.deferred (some [])))
        (fun _ _ _ => False) ?_ (fun _ _ _ _ _ h _ _ => h) ⟨⟨hw.out.below hBl hw.out.lt, hset⟩, hM1, hD1⟩
        (fun x => { tmps := #[.int .i64 (m : Int), .slice A n cap, undef, .pointer (some ⟨w.heap.size, 0, none⟩), .int .i64 0, .slice none 0 0, .int .i64 (all : Int), .pointer (some ⟨w.heap.size + 1 + 1, 0, none⟩), .pointer (some ⟨w.heap.size + 1 + 1 + 1, 0, none⟩), .pointer (some ⟨Bw, 0, none⟩),
      .int .i64 (x.1 : Int), undef, undef, undef, undef, .int .i64 (m : Int), .int .u64 (m : Int), .int .i64 (p2 m : Int), .int .i64 (all : Int), .slice A n cap, .int .i64 (n : Int), .int .i64 ((n : Int) + 1), .slice (some ⟨w.heap.size + 1, 0, none⟩) (n + 1) (n + 1),
      .func (.func 67) #[] #[.pointer (some ⟨w.heap.size, 0, none⟩), .pointer (some ⟨w.heap.size + 1 + 1, 0, none⟩)], .slice A n cap, .int .i64 (n : Int), .int .i64 ((n : Int) - 1), .int .i64 (k : Int), .bool true, u29, u30, .int .i64 (all : Int), .func (.func 74) #[] #[.pointer (some ⟨W.heap.size, 0, none⟩)], .int .i64 (x.1 : Int), undef, undef, undef, undef, undef, undef, undef, undef, undef, undef, u44, undef, undef, undef, undef, undef, undef, undef, undef, undef, undef, undef, undef, undef, undef, undef, undef, undef, undef, undef, undef, undef, undef, undef, undef, undef], defers := [] }) ?assign ?body ?done ?stop
      · refine ((ownFrom_blk _ _ _ (fun _ => _)).and (ownFrom_blk _ _ _ (fun _ => _))).and ((ownFrom_memB _ (fun (pre : List (Sb all)) => tabIn m bids k (pre.map (·.1))) (by omega)).and ?_)
        intro s Wa Wb row h hg hr D hd
        have h1 := h D hd
        refine (hg.block D (Array.getElem?_eq_some_iff.1 h1).1 fun e => ?_).trans h1
        have h2 := (hr D e.symm).1
        have h3 := hDl.out D hd
        omega
      case assign =>
        intro l x W K hK
        unfold encSb
        gi_wp2
        exact hK
      case body =>
        rintro l pre ⟨x, hx⟩ W5 ⟨⟨hb0, hb1⟩, hM5, hD5⟩ _
        have hxle := sub_le hx
        have hall' := hall.out
        have hn' := hn.out
        have hkn : k < bids.length := by omega
        have hrowok := hok.out (rowAt bids k) (by rw [rowAt_eq hkn]; exact List.getElem_mem hkn)
        have hRb : ∀ j, 0 ≤ rowT m bids (k + 1) j ∧ rowT m bids (k + 1) j ≤ 100000000 := fun j => by
          have := wts_bounds (bids.drop (k + 1)) (fun b hb => (hok.out b (List.mem_of_mem_drop hb)).2) j
          rw [List.length_drop] at this
          unfold rowT
          split
          · omega
          · simp
        have hcall := Lib.hid (choose_any W5.drew bids (.slice A n cap) w.heap.size (w.heap.size + 1 + 1) (w.heap.size + 1) (n + 1) k x (rowT m bids (k + 1)) (hM5.b0.cell 0)
          (Rows2.below hv.out (Nat.le_refl _) hM5.bel.drew) (hM5.b2.cell 0) (fun j hj => by
            rw [show W5.drew.cell? ⟨w.heap.size + 1, (k + 1) * 64 + j, none⟩ = W5.cell? ⟨w.heap.size + 1, (k + 1) * 64 + j, none⟩ from rfl, hM5.cellR _ (by omega)]
            unfold tabIn
            rw [show ((k + 1) * 64 + j) / 64 = k + 1 by omega, show ((k + 1) * 64 + j) % 64 = j by omega, if_pos (Nat.le_refl _)]) (by omega) hkn (by omega) (by omega) (by rw [hrowok.1]; omega) hrowok.2 hRb)
        have hwt : wts (bids.drop k) x = (pickF (rowAt bids k) (rowT m bids (k + 1)) x (subs x)).1 := by
          rw [List.drop_eq_getElem_cons hkn, wts, ← rowAt_eq hkn]
          rw [pick_congr (rowAt bids k) (wts (bids.drop (k + 1))) (rowT m bids (k + 1)) x (fun j hj => by unfold rowT; rw [if_pos (by omega)]) (subs x)]
        rw [← hwt] at hcall
        generalize (pickF (rowAt bids k) (rowT m bids (k + 1)) x (subs x)).2 = q2 at hcall
        have hsn := Lib.hid (fun i => tabIn_snoc (m := m) (k := k) (x := x) (bids := bids) (l := pre.map (·.1)) (by omega) i)
        clear hwt hRb hrowok
        generalize wts (bids.drop k) x = q1 at hcall hsn
        have f1 : W5.cell? ⟨w.heap.size + 1 + 1, 0, none⟩ = some (.slice (some ⟨w.heap.size + 1, 0, none⟩) (n + 1) (n + 1)) := hM5.b2.cell 0
        have f2 : W5.cell? ⟨Bw, 0, none⟩ = some (.int .i64 (k : Int)) := hb0.cell 0
        have f3 : W5.cell? ⟨w.heap.size + 1 + 1 + 1, 0, none⟩ = some (.func (.func 67) #[] #[.pointer (some ⟨w.heap.size, 0, none⟩), .pointer (some ⟨w.heap.size + 1 + 1, 0, none⟩)]) := hM5.b3.cell 0
        have hmx : Try.prog.follows .mixedOrders = true := by kernel_rfl
        have g1 : k < n + 1 := by omega
        have g2 : (k : Int) < (n : Int) + 1 := by omega
        have g3 : x < 64 := by omega
        have g4 : (x : Int) < 64 := by omega
        have hfacts := Lib.hid (And.intro (And.intro hb0 hb1) (And.intro hM5 hD5))
        clear hb0 hb1 hM5 hD5 hn' hall'
        gi_wp2
        refine wpIn_region_conf hmx (fun _ => trivial) 6 (fun i => i == 7 || i == 9) (fun v w1 => v = .agg #[.int .i64 q1, .int .i64 (q2 : Int)] ∧ Below W5.drew.heap.size W5.drew w1)
          (fun _ => #[.int .i64 (m : Int), .slice A n cap, undef, .pointer (some ⟨w.heap.size, 0, none⟩), .int .i64 0, .slice none 0 0, .int .i64 (all : Int), .pointer (some ⟨w.heap.size + 1 + 1, 0, none⟩), .pointer (some ⟨w.heap.size + 1 + 1 + 1, 0, none⟩), .pointer (some ⟨Bw, 0, none⟩),
      .int .i64 (x : Int), undef, undef, undef, undef, .int .i64 (m : Int), .int .u64 (m : Int), .int .i64 (p2 m : Int), .int .i64 (all : Int), .slice A n cap, .int .i64 (n : Int), .int .i64 ((n : Int) + 1), .slice (some ⟨w.heap.size + 1, 0, none⟩) (n + 1) (n + 1),
      .func (.func 67) #[] #[.pointer (some ⟨w.heap.size, 0, none⟩), .pointer (some ⟨w.heap.size + 1 + 1, 0, none⟩)], .slice A n cap, .int .i64 (n : Int), .int .i64 ((n : Int) - 1), .int .i64 (k : Int), .bool true, u29, u30, .int .i64 (all : Int), .func (.func 74) #[] #[.pointer (some ⟨W.heap.size, 0, none⟩)], .int .i64 (x : Int), .slice (some ⟨w.heap.size + 1, 0, none⟩) (n + 1) (n + 1), .int .i64 (k : Int), .int .i64 (x : Int), .func (.func 67) #[] #[.pointer (some ⟨w.heap.size, 0, none⟩), .pointer (some ⟨w.heap.size + 1 + 1, 0, none⟩)], .int .i64 (k : Int), .int .i64 (x : Int), .agg #[.int .i64 q1, .int .i64 (q2 : Int)], .int .i64 q1, .pointer (some ⟨w.heap.size + 1, k * 64, none⟩), .pointer (some ⟨w.heap.size + 1, k * 64 + x, none⟩), u44, undef, undef, undef, undef, undef, undef, undef, undef, undef, undef, undef, undef, undef, undef, undef, undef, undef, undef, undef, undef, undef, undef, undef, undef, undef]) .nilFunc
          (by kernel_rfl) (by kernel_rfl) (by kernel_rfl) (by kernel_rfl) (by decide) ?_ ?_ (fun _ _ _ _ _ _ _ _ => rfl) ?_ ?_ ?_ ?_
        · intro v
          unfold fills
          kernel_rfl
        · rintro v w1 d ⟨rfl, _⟩ hd
          obtain rfl : 40 = d := by simpa [dstOf] using hd
          rfl
        · dsimp only
          repeat (first | (refine readsOk_one rfl ?_ ?_; · go_simp) | refine readsOk_skip rfl ?_)
          trivial
        · intro v w1 hv1
          obtain ⟨rfl, hb⟩ := hv1
          have hb' : Below W5.heap.size W5 w1 := ⟨hb.os, hb.tape, hb.output, hb.size, hb.block⟩
          have f4 := (hb'.cell (p := ⟨w.heap.size + 1 + 1, 0, none⟩) (lt_of_cell f1)).trans f1
          have f5 := (hb'.cell (p := ⟨Bw, 0, none⟩) (lt_of_cell f2)).trans f2
          have f6 := (hb'.cell (p := ⟨w.heap.size + 1 + 1 + 1, 0, none⟩) (lt_of_cell f3)).trans f3
          replace hb := Lib.hid hb
          replace hb' := Lib.hid hb'
          clear f1 f2 f3
          dsimp only
          constructor
          · repeat (first | (refine readsOk_one rfl ?_ ?_; · go_simp) | refine readsOk_skip rfl ?_)
            trivial
          · have hf0 := field90_0 q1 (q2 : Int)
            repeat (first | (refine hangOk_skip rfl ?_) | (refine hangOk_one rfl ?_ ?_; · go_simp))
            trivial
        · intro o ho a K hK
          obtain rfl := Option.some.inj ho.symm
          dsimp only
          replace hK := Lib.hid hK
          go_simp
          exact (CallsIn.inRound l ((callsIn_wide (n := 0)).2 hcall.out)).mono fun e w' ⟨he, hb⟩ => by subst he; exact hK.out _ _ ⟨rfl, hb⟩
        · intro o ho v w1 hv1
          obtain ⟨rfl, hb⟩ := hv1
          have hb' : Below W5.heap.size W5 w1 := ⟨hb.os, hb.tape, hb.output, hb.size, hb.block⟩
          obtain ⟨⟨hb0, hb1⟩, hM5, hD5⟩ := hfacts.out
          have hM6 := hM5.below hb'
          have f7 := hM6.cellR (k * 64 + x) (by omega)
          have f8 := hM6.b1.free (k * 64 + x)
          replace hb := Lib.hid hb
          replace hb' := Lib.hid hb'
          replace hM6 := Lib.hid hM6
          clear f1 f2 f3 hb0 hb1 hM5 hD5
          obtain rfl := Option.some.inj ho.symm
          dsimp only
          go_simp
          obtain ⟨⟨hb0, hb1⟩, hM5, hD5⟩ := hfacts.out
          have hbb := hb'.out
          have hne : W.heap.size ≠ w.heap.size + 1 := by omega
          have hne2 : Bw ≠ w.heap.size + 1 := by omega
          have hb4 : w.heap.size ≤ w.heap.size + 1 := by omega
          refine ⟨(keepsOthers_below hbb).trans (KeepsOthers.setCell _ _ _), ?_, ⟨(hb0.below hbb hb0.lt).far (p := ⟨w.heap.size + 1, k * 64 + x, none⟩) hne2 _, (hb1.below hbb hb1.lt).far (p := ⟨w.heap.size + 1, k * 64 + x, none⟩) hne _⟩, ?_, fun D hd => ?_⟩
          · unfold keepB
            rw [Below.heap_setCell _ _ _ _ hne]
            exact hbb.block _ hb1.lt
          · refine (hM6.out.set (k * 64 + x) q1).congr fun i _ => ?_
            rw [hsn.out i, List.map_append]
            rfl
          · have h5 := hD5 D hd
            have h6 := (hD.out.2 D hd).1
            rw [Below.heap_setCell _ _ _ _ (by simp; omega)]
            exact (hbb.block _ (Array.getElem?_eq_some_iff.1 h5).1).trans h5
      case done =>
        rintro D xs W5 hDD hxs ⟨⟨hb0, hb1⟩, hM5, hD5⟩ hK
        have f2 : W5.cell? ⟨Bw, 0, none⟩ = some (.int .i64 (k : Int)) := hb0.cell 0
        rw [hxs] at hM5
        have hfacts := Lib.hid (And.intro hb0 (And.intro hM5 (And.intro hD5 hK)))
        clear hb0 hb1 hM5 hD5 hK
        go_wp2
        obtain ⟨hb0, hM5, hD5, hK⟩ := hfacts.out
        have hBa : Below W5.heap.size W5 (W5.alloc (Obj.cells #[.int .i64 ((k : Int) - 1)] 3)) := (Below.refl _ _).alloc (Nat.le_refl _) _
        have hnew := Blk.new W5 3 #[.int .i64 ((k : Int) - 1)]
        have hW5 := hM5.b3.lt
        have hDlt := (Array.getElem?_eq_some_iff.1 hK).1
        refine ⟨⟨_, _, _, _, _, _, _, k, W5.heap.size, D :: Ds, ⟨by omega, by omega, hnew, (hM5.below hBa).congr fun i _ => ?_, ?_, fun D' hd => ?_⟩, rfl⟩, ?_⟩
        · rw [show all = p2 m - 1 by have := hall.out; omega]
          exact tabIn_end hm
        · refine List.nodup_cons.2 ⟨fun hd => ?_, hD.out.1⟩
          have := hDl.out D hd
          omega
        · rcases List.mem_cons.1 hd with rfl | hd
          · exact ⟨by omega, (hBa.block _ hDlt).trans hK⟩
          · have h5 := hD5 D' hd
            exact ⟨(hD.out.2 D' hd).1, (hBa.block _ (Array.getElem?_eq_some_iff.1 h5).1).trans h5⟩
        · unfold muB
          simp [c1, intOf] <;> omega
      case stop =>
        rintro D c pre W5 _ _ h _
        exact h.elim
end Go.Proofs.Ytadonoacmpkolaa
