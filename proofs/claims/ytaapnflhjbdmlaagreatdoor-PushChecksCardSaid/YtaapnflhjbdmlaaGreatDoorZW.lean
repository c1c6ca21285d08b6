/- Keys that are two ints. No condition. successors' inner function: a move is added. No condition. Successors: what the moves are (plain), and the state of the loop. No condition. Successors: the numbers of the new states (plain). No condition. slices.Sort and slices.Compact at an own row of ints. No condition. -/
import Derived.Test.YtaapnflhjbdmlaaGreatDoorZV
import Derived.Sort.OwnSortedInts
namespace Go.Proofs.YtaapnflhjbdmlaaGreatDoor
section
open Go.RowKit Go.Shelf
attribute [local go_sem] Oper.semAt_some

abbrev sv2 (p : Int × Int) : Value := .agg #[.int .i64 p.1, .int .i64 p.2]
theorem equal131 (w : World) (a b : Int × Int) : (Op.equal 131 (sv2 a) (sv2 b)).run Tryz.prog w = .ok (decide (a = b)) w := by
  obtain ⟨a1, a2⟩ := a
  obtain ⟨b1, b2⟩ := b
  unfold sv2 Op.equal
  rw [show Op.maxDepth = 9998 + 1 + 1 from rfl, Op.equalIn]
  simp only [Sem.run_bind, run_underlying Tryz.underlying131, Result.andThen_ok]
  have x1 : ∀ a b : Int, (part 3 #[.int .i64 a, .int .i64 b] 0).run Tryz.prog w = .ok (.int .i64 a) w := fun a b => by kernel_rfl
  have x2 : ∀ a b : Int, (part 3 #[.int .i64 a, .int .i64 b] 1).run Tryz.prog w = .ok (.int .i64 b) w := fun a b => by kernel_rfl
  have z : (Go.sizeOf 3).run Tryz.prog w = .ok 1 w := by kernel_rfl
  have q : ∀ d a b, (Op.equalIn (d + 1) 3 (.int .i64 a) (.int .i64 b)).run Tryz.prog w = .ok (a == b) w := fun d a b => run_equalIn_int w d 3 .i64 .i64 a b Tryz.underlying3
  simp only [z, Result.andThen_ok]
  by_cases e1 : a1 = b1 <;> by_cases e2 : a2 = b2 <;> simp [x1, x2, q, e1, e2, List.range'_succ]
theorem key131 : KeyT Tryz.prog 131 sv2 := by
  refine KeyT.deep Tryz.underlying131 (fun a b => rfl) (fun w em a => ?_) equal131 (fun a => ?_)
  · unfold sv2
    have e1 : (part 3 #[.int .i64 a.1, .int .i64 a.2] 0).run Tryz.prog w = .ok (.int .i64 a.1) w := by kernel_rfl
    have e2 : (part 3 #[.int .i64 a.1, .int .i64 a.2] 1).run Tryz.prog w = .ok (.int .i64 a.2) w := by kernel_rfl
    have z : (Go.sizeOf 3).run Tryz.prog w = .ok 1 w := by kernel_rfl
    have key0 : ∀ d x, (Instr.checkKey em (d + 1) 3 (.int .i64 x)).run Tryz.prog w = .ok () w := fun d x => by
      simp [Instr.checkKey, run_underlying Tryz.underlying3]
    have key : ∀ d, (Instr.checkKey em (d + 1 + 1) 131 (.agg #[.int .i64 a.1, .int .i64 a.2])).run Tryz.prog w = .ok () w := fun d => by
      rw [Instr.checkKey]
      simp only [Sem.run_bind, run_underlying Tryz.underlying131, Result.andThen_ok]
      simp [e1, e2, key0, z, List.range'_succ]
    exact key 9998
  · simp [Instr.sameBits]
end
section
open Go.RowKit Go.Shelf
attribute [local go_sem] Oper.semAt_some

/-- the table with a move, of no cost where it is new -/
def addL (L : List (Key × Cost)) (k : Key) : List (Key × Cost) := if (cget L k).isSome then L else cput L k ⟨0, 0, 0⟩
theorem addL_keys {L : List (Key × Cost)} {k k' : Key} : k' ∈ (addL L k).map (·.1) ↔ k' = k ∨ k' ∈ L.map (·.1) := by
  unfold addL
  rw [← cget_iff, ← cget_iff]
  split
  · rename_i h
    constructor
    · intro h2; exact .inr h2
    · rintro (rfl | h2)
      · exact Option.isSome_iff_exists.1 h
      · exact h2
  · simp only [cget_cput]
    by_cases e : k' = k
    · simp [e]
    · simp [e]
theorem addL_len (L : List (Key × Cost)) (k : Key) : (addL L k).length ≤ L.length + 1 := by
  unfold addL
  split
  · omega
  · exact cput_len _ _ _

set_option maxHeartbeats 2000000 in
theorem add_any (w : World) (Bm Bc b : Nat) (L : List (Key × Cost)) (k1 k2 k3 : Int) (v0 : Bool) (hm : w.cell? ⟨Bm, 0, none⟩ = some (.map (some b))) (hc : Blk w Bc 4 #[.bool v0]) (hL : MMap w b L) (hbc : b ≠ Bc) (hbm : b ≠ Bm ∧ Bc ≠ Bm) :
    Calls Tryz.prog 63 #[mv (k1, k2, k3), .pointer (some ⟨Bm, 0, none⟩), .pointer (some ⟨Bc, 0, none⟩)] w fun e w' => e = .returned (.tuple #[]) ∧ MMap w' b (addL L (k1, k2, k3)) ∧ Blk w' Bc 4 #[.bool (v0 || !(cget L (k1, k2, k3)).isSome)] ∧ BX [b, Bc] w w' := by
  unfold MMap at *
  have hL2 := Lib.hid (fun o1 => AMap.below hL (below1 w o1) (AMap.lt hL))
  have B3 : ∀ o1 o2, Below w.heap.size w ((w.alloc o1).alloc o2) := fun o1 o2 => bthen (below1 _ _) (below1 _ _)
  have hL3 := Lib.hid (fun o1 o2 => AMap.below hL (B3 o1 o2) (AMap.lt hL))
  have hm2 := fun o1 => cell_below hm (below1 w o1)
  have hm3 := fun o1 o2 => cell_below hm (B3 o1 o2)
  have hc3 := Lib.hid (fun o1 o2 => Blk.below hc (B3 o1 o2) hc.lt)
  replace B3 := Lib.hid B3
  have hltc := hc.lt
  clear hL hc hm
  have hag := aget_cval L (k1, k2, k3)
  cases hg : cget L (k1, k2, k3) with
  | none =>
    have hi := Lib.hid (show addL L (k1, k2, k3) = cput L (k1, k2, k3) ⟨0, 0, 0⟩ by unfold addL; rw [hg]; rfl)
    rw [hg] at hag
    replace hag := Lib.hid hag
    have hput := Lib.hid (aput_cval L (k1, k2, k3) ⟨0, 0, 0⟩)
    go_enter Tryz.func63, Tryz.ntmps63
    go_wp2_with (first
      | (at_lookup; refine wpList_lookup_ok_a _ rfl (.tmp 7) (.tmp 8) 81 rfl 104 106 key94 Tryz.underlying81 (zero96 _) rfl (hL2.out _) (k1, k2, k3) rfl (costV ⟨0, 0, 0⟩) (by rw [hag.out]; rfl) false (by rw [hag.out]; rfl) ?_)
      | (at_mapUpdate; refine wpList_mapUpdate_a _ rfl (.tmp 14) (.tmp 15) (.tmp 16) 81 rfl 104 106 key94 Tryz.underlying81 rfl (hL3.out _ _) (k1, k2, k3) rfl (costV ⟨0, 0, 0⟩) rfl ?_; intro w2 hA2 hg2 hs2; have kc : Blk w2 Bc 4 #[.bool v0] := (hg2.block _ (hc3.out _ _).lt (by simp; omega)).trans (hc3.out _ _); have c0 := kc.cell 0; have f0 := kc.free 0; simp at c0; replace kc := Lib.hid kc; replace hA2 := Lib.hid hA2; have hbx := Lib.hid ((BX.of_below (xs := [b, Bc]) (B3.out _ _)).trans (BX.of_grown hg2 (by simp))); clear hg2 hs2))
    go_end0
    refine ⟨rfl, ?_, ?_, hbx.out.set (by simp) _⟩
    · rw [hi.out, ← hput.out]
      exact hA2.out.setCell _ _
    · have := kc.out.set 0 (.bool true)
      simpa using this
  | some d =>
    have hi := Lib.hid (show addL L (k1, k2, k3) = L by unfold addL; rw [hg]; rfl)
    rw [hg] at hag
    replace hag := Lib.hid hag
    obtain ⟨d1, d2, d3⟩ := d
    go_enter Tryz.func63, Tryz.ntmps63
    go_wp2_with (at_lookup; refine wpList_lookup_ok_a _ rfl (.tmp 7) (.tmp 8) 81 rfl 104 106 key94 Tryz.underlying81 (zero96 _) rfl (hL2.out _) (k1, k2, k3) rfl (costV ⟨d1, d2, d3⟩) (by rw [hag.out]; rfl) true (by rw [hag.out]; rfl) ?_)
    go_end0
    refine ⟨rfl, ?_, ?_, BX.of_below (B3.out _ _)⟩
    · rw [hi.out]; exact hL3.out _ _
    · simpa using hc3.out _ _
end
section
open Go.RowKit Go.Shelf

/-- the moves of the successors; 0 is no letter -/
inductive PA (B : Int → Int → Int → Prop) (R : List Rule) (num : Int → Int → Int) : Int → Int → Int → Prop
  | base {p a q} : B p a q → PA B R num p a q
  | sil {p q a t} : PA B R num p 0 q → PA B R num q a t → a ≠ 0 → PA B R num p a t
  | zero {r t} : r ∈ R → r.put = [] → PA B R num r.fr r.top t → PA B R num r.to 0 t
  | one {r x t} : r ∈ R → r.put = [x] → PA B R num r.fr r.top t → PA B R num r.to x t
  | two1 {r x y t} : r ∈ R → r.put = [x, y] → PA B R num r.fr r.top t → PA B R num r.to x (num r.to x)
  | two2 {r x y t} : r ∈ R → r.put = [x, y] → PA B R num r.fr r.top t → PA B R num (num r.to x) y t

/-- how many of U are not in K -/
def potK {α : Type} [DecidableEq α] (U K : List α) : Nat := U.countP fun x => !decide (x ∈ K)
theorem potK_mono {α : Type} [DecidableEq α] {U K K' : List α} (h : ∀ x, x ∈ K → x ∈ K') : potK U K' ≤ potK U K := by
  unfold potK
  refine List.countP_mono_left fun x _ hx => ?_
  simp only [Bool.not_eq_true', decide_eq_false_iff_not] at hx ⊢
  exact fun h2 => hx (h x h2)
theorem potK_lt {α : Type} [DecidableEq α] {U K K' : List α} (h : ∀ x, x ∈ K → x ∈ K') {k : α} (hU : k ∈ U) (hk : k ∉ K) (hk' : k ∈ K') : potK U K' < potK U K := by
  induction U with
  | nil => cases hU
  | cons u U ih =>
    unfold potK at *
    rw [List.countP_cons, List.countP_cons]
    have hm : List.countP (fun x => !decide (x ∈ K')) U ≤ List.countP (fun x => !decide (x ∈ K)) U := potK_mono h
    by_cases e : k = u
    · subst e
      simp only [hk, hk', decide_true, decide_false, Bool.not_true, Bool.not_false]
      simp only [if_true, Bool.false_eq_true, if_false]
      omega
    · have h1 := ih (by rcases List.mem_cons.1 hU with h | h; exact absurd h e; exact h)
      by_cases e2 : u ∈ K
      · simp only [e2, h u e2, decide_true, Bool.not_true, Bool.false_eq_true, if_false]; omega
      · by_cases e3 : u ∈ K' <;> simp only [e2, e3, decide_true, decide_false, Bool.not_true, Bool.not_false, Bool.false_eq_true, if_false, if_true] <;> omega
theorem potK_le {α : Type} [DecidableEq α] (U K : List α) : potK U K ≤ U.length := List.countP_le_length

def sval (S : List (Int × Int)) : List ((Int × Int) × Value) := S.map fun p => (p, Value.bool true)
def addS (S : List (Int × Int)) (p : Int × Int) : List (Int × Int) := if p ∈ S then S else S ++ [p]
theorem sval_keys (S : List (Int × Int)) : (sval S).map (·.1) = S := by simp [sval, List.map_map, Function.comp_def]
theorem aget_sval (S : List (Int × Int)) (p : Int × Int) : aget (sval S) p = if p ∈ S then some (.bool true) else none := by
  induction S with
  | nil => rfl
  | cons s S ih =>
    show aget ((s, Value.bool true) :: sval S) p = _
    rw [aget_cons, ih]
    by_cases e : p = s
    · simp [e]
    · simp [e]
theorem aput_sval (S : List (Int × Int)) (p : Int × Int) : aput (sval S) p (.bool true) = sval (addS S p) := by
  unfold aput addS
  rw [aget_sval]
  by_cases e : p ∈ S
  · simp only [e, if_true, Option.isSome_some]
    unfold sval
    rw [List.map_map]
    refine List.map_congr_left fun x _ => ?_
    simp only [Function.comp_apply]
    split <;> rfl
  · simp [e, sval]
theorem addS_mem {S : List (Int × Int)} {p q : Int × Int} : q ∈ addS S p ↔ q = p ∨ q ∈ S := by
  unfold addS
  split
  · rename_i h
    constructor
    · exact .inr
    · rintro (rfl | h2); exact h; exact h2
  · simp [or_comm]
theorem addS_len (S : List (Int × Int)) (p : Int × Int) : (addS S p).length ≤ S.length + 1 := by
  unfold addS; split <;> simp

section
variable (B : Int → Int → Int → Prop) (R : List Rule) (num : Int → Int → Int) (U : List Key) (U2 : List (Int × Int)) (b bS : Nat)
/-- the tables of the moves and of the silent moves, in memory -/
structure AfSt (w : World) (L : List (Key × Cost)) (S : List (Int × Int)) : Prop where
  map : MMap w b L
  smap : AMap sv2 w bS (sval S)
  snd : ∀ k ∈ L.map (·.1), PA B R num k.1 k.2.1 k.2.2 ∧ k.2.1 ≠ 0
  ssnd : ∀ p ∈ S, PA B R num p.1 0 p.2
  bas : ∀ p a q, B p a q → (p, a, q) ∈ L.map (·.1)
  len : L.length + potK U (L.map (·.1)) ≤ 900000
  slen : S.length + potK U2 S ≤ 900000
/-- a round's way -/
structure AfPr (L : List (Key × Cost)) (S : List (Int × Int)) (L' : List (Key × Cost)) (S' : List (Int × Int)) (c : Bool) : Prop where
  keys : ∀ k, k ∈ L.map (·.1) → k ∈ L'.map (·.1)
  sil : ∀ p, p ∈ S → p ∈ S'
  same : c = false → L' = L ∧ S' = S
  le : potK U (L'.map (·.1)) + potK U2 S' ≤ potK U (L.map (·.1)) + potK U2 S
  lt : c = true → potK U (L'.map (·.1)) + potK U2 S' < potK U (L.map (·.1)) + potK U2 S
end
section
variable {B : Int → Int → Int → Prop} {R : List Rule} {num : Int → Int → Int} {U : List Key} {U2 : List (Int × Int)} {b bS : Nat} {w w' : World} {L L' : List (Key × Cost)} {S S' : List (Int × Int)} {c : Bool}
theorem AfPr.refl (U : List Key) (U2 : List (Int × Int)) (L : List (Key × Cost)) (S : List (Int × Int)) : AfPr U U2 L S L S false := ⟨fun _ h => h, fun _ h => h, fun _ => ⟨rfl, rfl⟩, Nat.le_refl _, fun h => by cases h⟩
theorem AfSt.of_block (h : AfSt B R num U U2 b bS w L S) (h1 : w'.heap[b]? = w.heap[b]?) (h2 : w'.heap[bS]? = w.heap[bS]?) : AfSt B R num U U2 b bS w' L S := { h with map := AMap.of_block h.map h1, smap := AMap.of_block h.smap h2 }
theorem AfSt.then (h : AfSt B R num U U2 b bS w L S) (hb : Below w.heap.size w w') : AfSt B R num U U2 b bS w' L S := h.of_block (hb.block _ (AMap.lt h.map)) (hb.block _ (AMap.lt h.smap))
theorem AfSt.add (h : AfSt B R num U U2 b bS w L S) {L0 : List (Key × Cost)} {S0 : List (Int × Int)} (hp : AfPr U U2 L0 S0 L S c) (k : Key) (hk : PA B R num k.1 k.2.1 k.2.2) (h0 : k.2.1 ≠ 0) (hU : k ∈ U) (hm : MMap w' b (addL L k)) (hs : w'.heap[bS]? = w.heap[bS]?) :
    AfSt B R num U U2 b bS w' (addL L k) S ∧ AfPr U U2 L0 S0 (addL L k) S (c || !(cget L k).isSome) := by
  have hmono : ∀ x, x ∈ L.map (·.1) → x ∈ (addL L k).map (·.1) := fun x hx => addL_keys.2 (.inr hx)
  have hle := potK_mono (U := U) hmono
  cases hg : (cget L k).isSome with
  | true =>
    have e : addL L k = L := by unfold addL; rw [if_pos hg]
    rw [e] at hm ⊢
    refine ⟨{ h with map := hm, smap := AMap.of_block h.smap hs }, ?_⟩
    simpa using hp
  | false =>
    have hnk : k ∉ L.map (·.1) := fun h2 => by
      obtain ⟨c, hc⟩ := cget_iff.2 h2
      rw [hc] at hg; cases hg
    have hlt := potK_lt (U := U) hmono hU hnk (addL_keys.2 (.inl rfl))
    refine ⟨⟨hm, AMap.of_block h.smap hs, fun x hx => ?_, h.ssnd, fun p a q hb => hmono _ (h.bas p a q hb), ?_, h.slen⟩, ⟨fun x hx => hmono x (hp.keys x hx), hp.sil, fun e => ?_, ?_, fun _ => ?_⟩⟩
    · rcases addL_keys.1 hx with rfl | h2
      · exact ⟨hk, h0⟩
      · exact h.snd x h2
    · have := addL_len L k; have := h.len; omega
    · simp at e
    · have := hp.le; omega
    · have := hp.le; omega
theorem AfSt.addS (h : AfSt B R num U U2 b bS w L S) {L0 : List (Key × Cost)} {S0 : List (Int × Int)} (hp : AfPr U U2 L0 S0 L S c) (p : Int × Int) (hk : PA B R num p.1 0 p.2) (hU : p ∈ U2) (hn : p ∉ S) (hs : AMap sv2 w' bS (sval (addS S p))) (hm : w'.heap[b]? = w.heap[b]?) :
    AfSt B R num U U2 b bS w' L (Go.Proofs.YtaapnflhjbdmlaaGreatDoor.addS S p) ∧ AfPr U U2 L0 S0 L (Go.Proofs.YtaapnflhjbdmlaaGreatDoor.addS S p) true := by
  have hmono : ∀ x, x ∈ S → x ∈ Go.Proofs.YtaapnflhjbdmlaaGreatDoor.addS S p := fun x hx => addS_mem.2 (.inr hx)
  have hlt := potK_lt (U := U2) hmono hU hn (addS_mem.2 (.inl rfl))
  refine ⟨⟨AMap.of_block h.map hm, hs, h.snd, fun x hx => ?_, h.bas, h.len, ?_⟩, ⟨hp.keys, fun x hx => hmono x (hp.sil x hx), (fun e => by cases e), ?_, fun _ => ?_⟩⟩
  · rcases addS_mem.1 hx with rfl | h2
    · exact hk
    · exact h.ssnd x h2
  · have := addS_len S p; have := h.slen; omega
  · have := hp.le; omega
  · have := hp.le; omega
end

/-- what a rule wants of the tables, at a move's end -/
def AfWant (num : Int → Int → Int) (L' : List (Key × Cost)) (S' : List (Int × Int)) (r : Rule) (t : Int) : Prop :=
  (r.put = [] → (r.to, t) ∈ S') ∧ (∀ x, r.put = [x] → (r.to, x, t) ∈ L'.map (·.1)) ∧ ∀ x y, r.put = [x, y] → (r.to, x, num r.to x) ∈ L'.map (·.1) ∧ (num r.to x, y, t) ∈ L'.map (·.1)
theorem AfWant.mono {num : Int → Int → Int} {L' L2 : List (Key × Cost)} {S' S2 : List (Int × Int)} {r : Rule} {t : Int} (h : AfWant num L' S' r t) (hk : ∀ k, k ∈ L'.map (·.1) → k ∈ L2.map (·.1)) (hs : ∀ p, p ∈ S' → p ∈ S2) : AfWant num L2 S2 r t :=
  ⟨fun e => hs _ (h.1 e), fun x e => hk _ (h.2.1 x e), fun x y e => ⟨hk _ (h.2.2 x y e).1, hk _ (h.2.2 x y e).2⟩⟩

/-- closed tables hold all -/
theorem PA_closed {B : Int → Int → Int → Prop} {R : List Rule} {num : Int → Int → Int} {L : List (Key × Cost)} {S : List (Int × Int)} (hb : ∀ p a q, B p a q → (p, a, q) ∈ L.map (·.1) ∧ a ≠ 0)
    (hs : ∀ p q a t, (p, q) ∈ S → (q, a, t) ∈ L.map (·.1) → (p, a, t) ∈ L.map (·.1)) (hr : ∀ r ∈ R, ∀ t, (r.fr, r.top, t) ∈ L.map (·.1) → AfWant num L S r t) (h0 : ∀ r ∈ R, r.top ≠ 0 ∧ ∀ x ∈ r.put, x ≠ 0)
    {p a q : Int} (h : PA B R num p a q) : (a = 0 → (p, q) ∈ S) ∧ (a ≠ 0 → (p, a, q) ∈ L.map (·.1)) := by
  induction h with
  | base h => exact ⟨fun e => absurd e (hb _ _ _ h).2, fun _ => (hb _ _ _ h).1⟩
  | sil h1 h2 h3 ih1 ih2 => exact ⟨fun e => absurd e h3, fun _ => hs _ _ _ _ (ih1.1 rfl) (ih2.2 h3)⟩
  | zero hm hp _ ih => exact ⟨fun _ => (hr _ hm _ (ih.2 (h0 _ hm).1)).1 hp, fun e => absurd rfl e⟩
  | @one r x t hm hp _ ih =>
    have hx : x ≠ 0 := (h0 _ hm).2 x (by rw [hp]; simp)
    exact ⟨fun e => absurd e hx, fun _ => (hr _ hm _ (ih.2 (h0 _ hm).1)).2.1 _ hp⟩
  | @two1 r x y t hm hp _ ih =>
    have hx : x ≠ 0 := (h0 _ hm).2 x (by rw [hp]; simp)
    exact ⟨fun e => absurd e hx, fun _ => ((hr _ hm _ (ih.2 (h0 _ hm).1)).2.2 _ _ hp).1⟩
  | @two2 r x y t hm hp _ ih =>
    have hx : y ≠ 0 := (h0 _ hm).2 y (by rw [hp]; simp)
    exact ⟨fun e => absurd e hx, fun _ => ((hr _ hm _ (ih.2 (h0 _ hm).1)).2.2 _ _ hp).2⟩
end
section
open Go.RowKit Go.Shelf
attribute [local go_sem] Oper.semAt_some

/-- heads with numbers from s on -/
def nval (s : Int) : List Head → List (Head × Value)
  | [] => []
  | h :: t => (h, .int .i64 s) :: nval (s + 1) t
theorem aget_nval (s : Int) (Hs : List Head) (h : Head) : aget (nval s Hs) h = if h ∈ Hs then some (.int .i64 (s + Hs.idxOf h)) else none := by
  induction Hs generalizing s with
  | nil => rfl
  | cons x Hs ih =>
    show aget ((x, Value.int .i64 s) :: nval (s + 1) Hs) h = _
    rw [aget_cons, ih]
    by_cases e : h = x
    · subst e; simp
    · have e' : x ≠ h := fun e2 => e e2.symm
      have e5 : (x == h) = false := by simpa using e'
      have e4 : (x :: Hs).idxOf h = Hs.idxOf h + 1 := by rw [List.idxOf_cons, e5]; rfl
      rw [e4, if_neg e]
      by_cases e3 : h ∈ Hs
      · simp [e3]; omega
      · simp [e, e3]
theorem nval_snoc (s : Int) (Hs : List Head) (h : Head) : nval s (Hs ++ [h]) = nval s Hs ++ [(h, .int .i64 (s + Hs.length))] := by
  induction Hs generalizing s with
  | nil => simp [nval]
  | cons x Hs ih =>
    show (x, Value.int .i64 s) :: nval (s + 1) (Hs ++ [h]) = (x, Value.int .i64 s) :: (nval (s + 1) Hs ++ _)
    rw [ih]
    simp
    omega
theorem aput_nval (s : Int) (Hs : List Head) (h : Head) (hn : h ∉ Hs) : aput (nval s Hs) h (.int .i64 (s + Hs.length)) = nval s (Hs ++ [h]) := by
  unfold aput
  rw [aget_nval, if_neg hn, nval_snoc]
  rfl
/-- the number of a head, or 0 -/
def numZ (s : Int) (Hs : List Head) (h : Head) : Int := if h ∈ Hs then s + Hs.idxOf h else 0
theorem numZ_get (s : Int) (Hs : List Head) (h : Head) : (aget (nval s Hs) h).getD (.int .i64 0) = .int .i64 (numZ s Hs h) := by
  rw [aget_nval]; unfold numZ; split <;> rfl
theorem numZ_zero {s : Int} {Hs : List Head} {h : Head} (hs : 1 ≤ s) : numZ s Hs h = 0 ↔ h ∉ Hs := by
  unfold numZ; split
  · rename_i h1; constructor
    · intro h2; omega
    · intro h2; exact absurd h1 h2
  · rename_i h1; simp [h1]
theorem numZ_mem {s : Int} {Hs : List Head} {h : Head} (hh : h ∈ Hs) : numZ s Hs h = s + Hs.idxOf h ∧ s ≤ numZ s Hs h ∧ numZ s Hs h < s + Hs.length := by
  unfold numZ; rw [if_pos hh]
  have := List.idxOf_lt_length_of_mem hh
  exact ⟨rfl, by omega, by omega⟩
theorem numZ_inj {s : Int} {Hs : List Head} {h h' : Head} (hh : h ∈ Hs) (hh' : h' ∈ Hs) (e : numZ s Hs h = numZ s Hs h') : h = h' := by
  rw [(numZ_mem hh).1, (numZ_mem hh').1] at e
  have e2 : Hs.idxOf h = Hs.idxOf h' := by omega
  have a := List.getElem_idxOf (List.idxOf_lt_length_of_mem hh)
  have b := List.getElem_idxOf (List.idxOf_lt_length_of_mem hh')
  rw [← a, ← b]
  congr 1
/-- the heads of the rules that put two letters are numbered -/
def NumOk (l : List RuleB) (i : Nat) (Hs : List Head) : Prop := Hs.length ≤ i ∧ ∀ k, k < i → (rAt l k).put.size = 2 → ((rAt l k).to, ch (rAt l k).put 0) ∈ Hs
theorem NumOk.skip {l : List RuleB} {i : Nat} {Hs : List Head} (h : NumOk l i Hs) (h2 : (rAt l i).put.size = 2 → ((rAt l i).to, ch (rAt l i).put 0) ∈ Hs) : NumOk l (i + 1) Hs :=
  ⟨by have := h.1; omega, fun k hk hs => by
    by_cases e : k = i
    · subst e; exact h2 hs
    · exact h.2 k (by omega) hs⟩
theorem NumOk.put {l : List RuleB} {i : Nat} {Hs : List Head} (h : NumOk l i Hs) : NumOk l (i + 1) (Hs ++ [((rAt l i).to, ch (rAt l i).put 0)]) :=
  ⟨by have := h.1; simp; omega, fun k hk hs => by
    by_cases e : k = i
    · subst e; simp
    · have := h.2 k (by omega) hs; simp [this]⟩
theorem zero3 (w : World) : (zeroValue 3).run Tryz.prog w = .ok (.int .i64 0) w := by kernel_rfl

/-! ### where the moves lie -/
theorem PA_in {B : Int → Int → Int → Prop} {R : List Rule} {num : Int → Int → Int} {C N : Int} (h0 : 0 ≤ C) (hB : ∀ p a q, B p a q → 0 ≤ p ∧ p < N ∧ 97 ≤ a ∧ a ≤ 101 ∧ C ≤ q ∧ q < N)
    (hR : ∀ r ∈ R, 0 ≤ r.to ∧ r.to < C ∧ ∀ x ∈ r.put, 97 ≤ x ∧ x ≤ 101) (hn : ∀ r ∈ R, ∀ x y, r.put = [x, y] → C ≤ num r.to x ∧ num r.to x < N) (hCN : C ≤ N)
    {p a q : Int} (h : PA B R num p a q) : 0 ≤ p ∧ p < N ∧ (a = 0 ∨ 97 ≤ a ∧ a ≤ 101) ∧ C ≤ q ∧ q < N := by
  induction h with
  | base h => have := hB _ _ _ h; omega
  | sil h1 h2 h3 ih1 ih2 => omega
  | zero hm hp _ ih => have := hR _ hm; omega
  | @one r x t hm hp _ ih =>
    have h1 := hR _ hm
    have h2 := h1.2.2 x (by rw [hp]; simp)
    omega
  | @two1 r x y t hm hp _ ih =>
    have h1 := hR _ hm
    have h2 := h1.2.2 x (by rw [hp]; simp)
    have h3 := hn _ hm _ _ hp
    omega
  | @two2 r x y t hm hp _ ih =>
    have h1 := hR _ hm
    have h2 := h1.2.2 y (by rw [hp]; simp)
    have h3 := hn _ hm _ _ hp
    omega
def univA (N : Int) : List Key := (List.range N.toNat).flatMap fun p : Nat => (List.range 5).flatMap fun a : Nat => (List.range N.toNat).map fun q : Nat => ((p : Int), 97 + (a : Int), (q : Int))
def univB (N : Int) : List (Int × Int) := (List.range N.toNat).flatMap fun p : Nat => (List.range N.toNat).map fun q : Nat => ((p : Int), (q : Int))
theorem univA_mem {N p a q : Int} (h : 0 ≤ p ∧ p < N) (ha : 97 ≤ a ∧ a ≤ 101) (hq : 0 ≤ q ∧ q < N) : (p, a, q) ∈ univA N := by
  unfold univA
  refine List.mem_flatMap.2 ⟨p.toNat, List.mem_range.2 (by omega), List.mem_flatMap.2 ⟨(a - 97).toNat, List.mem_range.2 (by omega), List.mem_map.2 ⟨q.toNat, List.mem_range.2 (by omega), ?_⟩⟩⟩
  rw [Int.toNat_of_nonneg h.1, Int.toNat_of_nonneg (by omega), Int.toNat_of_nonneg hq.1]
  congr 2; omega
theorem univB_mem {N p q : Int} (h : 0 ≤ p ∧ p < N) (hq : 0 ≤ q ∧ q < N) : (p, q) ∈ univB N := by
  unfold univB
  refine List.mem_flatMap.2 ⟨p.toNat, List.mem_range.2 (by omega), List.mem_map.2 ⟨q.toNat, List.mem_range.2 (by omega), ?_⟩⟩
  rw [Int.toNat_of_nonneg h.1, Int.toNat_of_nonneg hq.1]
theorem length_flatMap_le {α β : Type} (l : List α) (f : α → List β) (k : Nat) (h : ∀ x ∈ l, (f x).length ≤ k) : (l.flatMap f).length ≤ l.length * k := by
  induction l with
  | nil => simp
  | cons x l ih =>
    rw [List.flatMap_cons, List.length_append, List.length_cons, Nat.add_mul, Nat.one_mul]
    have h1 := h x (by simp)
    have h2 := ih fun y hy => h y (by simp [hy])
    omega
theorem univA_len {N : Int} (h : N ≤ 42) : (univA N).length ≤ 8820 := by
  have h1 : N.toNat ≤ 42 := by omega
  refine Nat.le_trans (length_flatMap_le _ _ 210 fun p _ => Nat.le_trans (length_flatMap_le _ _ 42 fun a _ => by simp; omega) (by simp)) (by simp; omega)
theorem univB_len {N : Int} (h : N ≤ 42) : (univB N).length ≤ 1764 := by
  have h1 : N.toNat ≤ 42 := by omega
  exact Nat.le_trans (length_flatMap_le _ _ 42 fun a _ => by simp; omega) (by simp; omega)
theorem sys_rules {C : Int} {l : List RuleB} (h : sysB C l = true) : ∀ r ∈ l, (0 ≤ r.fr ∧ r.fr < C) ∧ (0 ≤ r.to ∧ r.to < C) ∧ (97 ≤ r.top ∧ r.top ≤ 101) ∧ r.put.size ≤ 2 ∧ ∀ x ∈ cs r.put, 97 ≤ x ∧ x ≤ 101 := fun r hr => by
  obtain ⟨i, hi, rfl⟩ := List.getElem_of_mem hr
  have h1 := (sysB_iff.1 h).2.2.2 i hi
  rw [← rAt_eq hi]
  simp only [rOk, ruleB, ctlB, wordB, Bool.and_eq_true, decide_eq_true_eq, Bool.not_eq_true', decide_eq_false_iff_not, List.all_eq_true] at h1
  obtain ⟨⟨⟨⟨⟨⟨h1, h2⟩, h3⟩, h4⟩, h5⟩, h6⟩, _⟩ := h1
  exact ⟨h1, h2, ⟨by omega, by omega⟩, by omega, h6⟩
theorem sval_mem {S : List (Int × Int)} {p : Int × Int} {v : Value} (h : (p, v) ∈ sval S) : p ∈ S := by
  obtain ⟨x, hx, e⟩ := List.mem_map.1 h
  cases e; exact hx
theorem BX.trans' {xs : List Nat} {a b c : World} (h : BX xs a b) {r : Nat} (hg : b.grownBy c (some r)) (hr : a.heap.size ≤ r) : BX xs a c :=
  ⟨hg.os.trans h.os, hg.tape.trans h.tape, hg.output.trans h.output, by have := hg.size; have := h.size; omega, fun k hk hx => (hg.block k (by have := h.size; omega) (by simp; omega)).trans (h.block k hk hx)⟩
theorem left_split {α : Type} {left pre post : List α} {x y : α} (h : left = pre ++ x :: post) (hn : y ∉ pre ++ post) : y = x ∨ y ∉ left := by
  classical
  by_cases e : y = x
  · exact .inl e
  · refine .inr fun hm => ?_
    rw [h] at hm
    simp only [List.mem_append, List.mem_cons] at hm hn
    rcases hm with h | h | h
    · exact hn (.inl h)
    · exact e h
    · exact hn (.inr h)
theorem BX.dropB {a w : World} {b c d : Nat} (h : BX [b, c, d] a w) (hd : a.heap.size ≤ d) : BX [b, c] a w :=
  ⟨h.os, h.tape, h.output, h.size, fun k hk hx => h.block k hk (by simp at hx ⊢; omega)⟩
theorem nval_look {w : World} {bN : Nat} {st : Int} {Hs : List Head} (h : AMap hv w bN (nval st Hs)) (x : Head) : (Instr.lookup 129 (.map (some bN)) (hv x) false).run Tryz.prog w = .ok (.int .i64 (numZ st Hs x)) w := by
  have := AMap.run_lookup (P := Tryz.prog) key77 Tryz.underlying129 (zero3 w) h x false
  rw [this, numZ_get]
  rfl
theorem want_zero {num : Int → Int → Int} {L : List (Key × Cost)} {S : List (Int × Int)} {fr tp o t : Int} (h : (o, t) ∈ S) : AfWant num L S ⟨fr, tp, o, []⟩ t :=
  ⟨fun _ => h, fun x e => (by cases e), fun x y e => (by cases e)⟩
theorem want_one {num : Int → Int → Int} {L : List (Key × Cost)} {S : List (Int × Int)} {fr tp o x t : Int} (h : (o, x, t) ∈ L.map (·.1)) : AfWant num L S ⟨fr, tp, o, [x]⟩ t :=
  ⟨fun e => (by cases e), fun x e => (by cases e; exact h), fun x y e => (by cases e)⟩
theorem want_two {num : Int → Int → Int} {L : List (Key × Cost)} {S : List (Int × Int)} {fr tp o x y t : Int} (h : (o, x, num o x) ∈ L.map (·.1)) (h2 : (num o x, y, t) ∈ L.map (·.1)) : AfWant num L S ⟨fr, tp, o, [x, y]⟩ t :=
  ⟨fun e => (by cases e), fun x e => (by cases e), fun x y e => (by cases e; exact ⟨h, h2⟩)⟩
theorem nodup_sub_len {α : Type} [DecidableEq α] : ∀ {K U : List α}, K.Nodup → (∀ x ∈ K, x ∈ U) → K.length ≤ U.length
  | [], _, _, _ => Nat.zero_le _
  | k :: K, U, hn, hs => by
    have hk : k ∈ U := hs k (by simp)
    have h1 := nodup_sub_len (K := K) (U := U.erase k) (List.nodup_cons.1 hn).2 fun x hx => by
      have hne : x ≠ k := fun e => (List.nodup_cons.1 hn).1 (e ▸ hx)
      exact (List.mem_erase_of_ne hne).2 (hs x (by simp [hx]))
    rw [List.length_erase_of_mem hk] at h1
    have := List.length_pos_of_mem hk
    simp; omega
theorem sub_len {w : World} {bS : Nat} {S U2 : List (Int × Int)} (h : AMap sv2 w bS (sval S)) (hs : ∀ p ∈ S, p ∈ U2) (hU : U2.length ≤ 1764) : S.length ≤ 20000 := by
  have hn := h.nodup
  rw [sval_keys] at hn
  have := nodup_sub_len hn hs
  omega
theorem fin_step {S : List (Int × Int)} {left pre post : List ((Int × Int) × Value)} {p q : Int} {v : Value} {fs fs2 fs3 : List Int} (hleft : left = pre ++ ((p, q), v) :: post)
    (hm : ∀ x, x ∈ fs2 ↔ x ∈ fs ∨ ∃ q, (x, q) ∈ S ∧ (x, q) ∉ left.map (·.1) ∧ q ∈ fs) (hS : (p, q) ∈ S) (hn : (left.map (·.1)).Nodup) (h : (q ∉ fs ∧ fs3 = fs2) ∨ (q ∈ fs ∧ fs3 = fs2 ++ [p])) :
    ∀ x, x ∈ fs3 ↔ x ∈ fs ∨ ∃ q, (x, q) ∈ S ∧ (x, q) ∉ (pre ++ post).map (·.1) ∧ q ∈ fs := by
  intro x
  have e1 : x ∈ fs3 ↔ x ∈ fs2 ∨ (q ∈ fs ∧ x = p) := by
    rcases h with ⟨h1, rfl⟩ | ⟨h1, rfl⟩
    · simp [h1]
    · simp [h1]
  rw [e1, hm]
  constructor
  · rintro ((h | ⟨q', h1, h2, h3⟩) | ⟨h1, rfl⟩)
    · exact .inl h
    · refine .inr ⟨q', h1, fun hn => h2 ?_, h3⟩
      rw [hleft]
      simp only [List.map_append, List.map_cons, List.mem_append, List.mem_cons] at hn ⊢
      rcases hn with h | h
      · exact .inl h
      · exact .inr (.inr h)
    · refine .inr ⟨q, hS, fun hc => ?_, h1⟩
      rw [hleft] at hn
      have hp : (pre ++ ((x, q), v) :: post).Perm (((x, q), v) :: (pre ++ post)) := List.perm_middle
      have hn2 := (hp.map (·.1)).nodup_iff.1 hn
      rw [List.map_cons, List.nodup_cons] at hn2
      exact hn2.1 hc
  · rintro (h | ⟨q', h1, h2, h3⟩)
    · exact .inl (.inl h)
    · by_cases e : (x, q') = (p, q)
      · cases e; exact .inr ⟨h3, rfl⟩
      · refine .inl (.inr ⟨q', h1, fun hn => ?_, h3⟩)
        rw [hleft] at hn
        simp only [List.map_append, List.map_cons, List.mem_append, List.mem_cons] at hn h2
        rcases hn with h | h | h
        · exact h2 (.inl h)
        · exact e h
        · exact h2 (.inr h)
/-- a silent move's round: what was done, and this one -/
theorem silent_done {S : List (Int × Int)} {L L' L4 : List (Key × Cost)} {left pre post : List ((Int × Int) × Value)} {p q : Int} {v : Value} {S2 : List (Head × Value)} {f : Head → List Int} {lo : Nat} {w : World}
    (hleft : left = pre ++ ((p, q), v) :: post) (hD : ∀ p q a t, (p, q) ∈ S → (p, q) ∉ left.map (·.1) → (q, a, t) ∈ L.map (·.1) → (p, a, t) ∈ L'.map (·.1)) (hM : ∀ k, k ∈ L'.map (·.1) → k ∈ L4.map (·.1))
    (hD4 : ∀ h u, (h, u) ∈ S2 → (h, u) ∉ ([] : List (Head × Value)) → h.1 = q → ∀ t ∈ f h, (p, h.2, t) ∈ L4.map (·.1)) (_hn : (S2.map (·.1)).Nodup)
    (hf : ∀ h, (f h = [] ∧ aget S2 h = none) ∨ ∃ v, aget S2 h = some v ∧ f h ≠ [] ∧ OwnE ElI 3 lo w v (f h)) (hE : ∀ h q, q ∈ f h ↔ (h.1, h.2, q) ∈ L.map (·.1))
    {p' q' a t : Int} (h1 : (p', q') ∈ S) (h2 : (p', q') ∉ (pre ++ post).map (·.1)) (h3 : (q', a, t) ∈ L.map (·.1)) : (p', a, t) ∈ L4.map (·.1) := by
  by_cases e : (p', q') = (p, q)
  · simp only [Prod.mk.injEq] at e
    obtain ⟨rfl, rfl⟩ := e
    have ht : t ∈ f (q', a) := (hE (q', a) t).2 h3
    rcases hf (q', a) with ⟨h4, _⟩ | ⟨u, h4, _, _⟩
    · rw [h4] at ht; cases ht
    · exact hD4 (q', a) u (aget_some_mem h4) (by simp) rfl t ht
  · refine hM _ (hD p' q' a t h1 (fun hm => ?_) h3)
    rw [hleft] at hm
    simp only [List.map_append, List.map_cons, List.mem_append, List.mem_cons] at hm h2
    rcases hm with h | h | h
    · exact h2 (.inl h)
    · exact e h
    · exact h2 (.inr h)
/-- the tables are closed -/
def AfClosed (num : Int → Int → Int) (R : List Rule) (L : List (Key × Cost)) (S : List (Int × Int)) : Prop :=
  (∀ p q a t, (p, q) ∈ S → (q, a, t) ∈ L.map (·.1) → (p, a, t) ∈ L.map (·.1)) ∧ ∀ r ∈ R, ∀ t, (r.fr, r.top, t) ∈ L.map (·.1) → AfWant num L S r t
end
section
open Go.RowKit Go.Shelf
attribute [local go_sem] Oper.semAt_some

open Go.Sort in
theorem sortI_any (w : World) (v : Value) (zs : List Int) (lo : Nat) (h : OwnE ElI 3 lo w v zs) (hl : zs.length ≤ 1000000) :
    Calls Tryz.prog 65 #[v] w fun e w' => e = .returned (.tuple #[]) ∧ OwnE ElI 3 lo w' v (zs.mergeSort fun x y => decide (x ≤ y)) ∧ BX v.ownBlock.toList w w' := by
  obtain ⟨hfl, h2 | ⟨g, cap, cur, rfl, hlo, hg, hnc, hcm, hcs, hct⟩⟩ := h
  · obtain ⟨rfl, h0⟩ := h2
    have hz : zs = [] := List.eq_nil_of_length_eq_zero h0
    subst hz
    refine (Tryz.slices_Sort_int_none none 0 w).mono ?_
    rintro e w' ⟨rfl, rfl⟩
    exact ⟨rfl, by simpa using OwnE.nil (E := ElI) 3 lo w', BX.refl _ _⟩
  · have hct' : cur.toList.take zs.length = zs.map (Value.int .i64) := by rw [← flatI, ← hct]; congr 1; simp [ElI]
    have hlt : g < w.heap.size := (Array.getElem?_eq_some_iff.1 hg).1
    refine (Tryz.slices_Sort_int g 0 cap zs w (holds_of_blockI hg hct') hlt (by omega)).mono ?_
    rintro e w' ⟨rfl, n, os, rfl⟩
    have hm : (zs.mergeSort fun x y => decide (x ≤ y)).length = zs.length := List.length_mergeSort _
    have ho := ownsRow_sortedI (n := n) (os := os) hm hlo hg hnc hcm (show cur.size = cap * 1 from hcs)
    refine ⟨rfl, ?_, ?_⟩
    · unfold OwnE
      rw [flatI, hm]
      exact ho
    · exact BX.of_grown (grownBy_sortedI _) (by simp [Value.ownBlock])

theorem compact_mem (zs : List Int) (x : Int) : x ∈ Lib.compact zs ↔ x ∈ zs := by
  have key : ∀ m, m ≤ zs.length → (x ∈ Lib.compactUpTo zs.toArray m ↔ ∃ j, j < m ∧ zs.toArray[j]! = x) := by
    intro m
    induction m with
    | zero => intro _; simp [Lib.compactUpTo]
    | succ m ih =>
      intro hm
      rw [Lib.compactUpTo_succ, List.mem_append, ih (by omega)]
      constructor
      · rintro (⟨j, h1, h2⟩ | h)
        · exact ⟨j, by omega, h2⟩
        · split at h
          · exact ⟨m, by omega, (List.mem_singleton.1 h).symm⟩
          · cases h
      · rintro ⟨j, h1, h2⟩
        by_cases e : j = m
        · subst e
          cases hk : Lib.keeps zs.toArray j with
          | true => right; simp [h2]
          | false =>
            left
            unfold Lib.keeps at hk
            simp only [decide_eq_false_iff_not, not_or, ne_eq, Decidable.not_not] at hk
            exact ⟨j - 1, by omega, by rw [← hk.2]; exact h2⟩
        · left; exact ⟨j, by omega, h2⟩
  unfold Lib.compact
  rw [key _ (Nat.le_refl _)]
  constructor
  · rintro ⟨j, hj, rfl⟩
    rw [getElem!_pos _ _ (by simpa using hj)]
    simp
  · intro h
    obtain ⟨j, hj, rfl⟩ := List.getElem_of_mem h
    exact ⟨j, hj, by rw [getElem!_pos _ _ (by simpa using hj)]; simp⟩
theorem compact_sorted {zs : List Int} (h : zs.Pairwise (fun a b => a ≤ b)) : (Lib.compact zs).Pairwise (fun a b => a < b) := by
  have hle : ∀ i j, i ≤ j → j < zs.length → zs.toArray[i]! ≤ zs.toArray[j]! := by
    intro i j hij hj
    rw [getElem!_pos _ _ (by simpa using (by omega : i < zs.length)), getElem!_pos _ _ (by simpa using hj)]
    rcases Nat.eq_or_lt_of_le hij with e | e
    · subst e; exact Int.le_refl _
    · simpa using List.pairwise_iff_getElem.1 h i j (by omega) hj e
  have key : ∀ m, m ≤ zs.length → (Lib.compactUpTo zs.toArray m).Pairwise (fun a b => a < b) ∧ ∀ y ∈ Lib.compactUpTo zs.toArray m, 0 < m ∧ y ≤ zs.toArray[m - 1]! := by
    intro m
    induction m with
    | zero => intro _; exact ⟨by simp [Lib.compactUpTo], by simp [Lib.compactUpTo]⟩
    | succ m ih =>
      intro hm
      obtain ⟨h1, h2⟩ := ih (by omega)
      rw [Lib.compactUpTo_succ]
      cases hk : Lib.keeps zs.toArray m with
      | false =>
        simp only [Bool.false_eq_true, if_false, List.append_nil]
        refine ⟨h1, fun y hy => ⟨by omega, ?_⟩⟩
        have := h2 y hy
        have h3 := hle (m - 1) m (by omega) (by omega)
        have e : m + 1 - 1 = m := by omega
        rw [e]; omega
      | true =>
        simp only [if_true]
        have e : m + 1 - 1 = m := by omega
        refine ⟨List.pairwise_append.2 ⟨h1, by simp, fun a ha b hb => ?_⟩, fun y hy => ⟨by omega, ?_⟩⟩
        · rw [List.mem_singleton.1 hb]
          have h4 := h2 a ha
          have h3 := hle (m - 1) m (by omega) (by omega)
          unfold Lib.keeps at hk
          simp only [decide_eq_true_eq] at hk
          rcases hk with hk | hk
          · omega
          · have : zs.toArray[m]! ≠ zs.toArray[m - 1]! := hk
            omega
        · rw [e]
          rcases List.mem_append.1 hy with h5 | h5
          · have := h2 y h5
            have h3 := hle (m - 1) m (by omega) (by omega)
            omega
          · rw [List.mem_singleton.1 h5]; exact Int.le_refl _
  exact (key _ (Nat.le_refl _)).1
theorem sort_compact (zs : List Int) : (∀ x, x ∈ Lib.compact (zs.mergeSort fun x y => decide (x ≤ y)) ↔ x ∈ zs) ∧ (Lib.compact (zs.mergeSort fun x y => decide (x ≤ y))).Pairwise (fun a b => a < b) := by
  refine ⟨fun x => by rw [compact_mem]; exact (List.mergeSort_perm zs _).mem_iff, compact_sorted ?_⟩
  have := List.pairwise_mergeSort (le := fun x y : Int => decide (x ≤ y)) (fun a b c h1 h2 => by simp at *; omega) (fun a b => by simp; omega) zs
  exact this.imp (fun h => by simpa using h)

open Go.Sort in
theorem compI_any (w : World) (v : Value) (zs : List Int) (lo : Nat) (h : OwnE ElI 3 lo w v zs) (hl : zs.length ≤ 1000000) :
    Calls Tryz.prog 66 #[v] w fun e w' => ∃ v', e = .returned v' ∧ Els ElI w' v' (Lib.compact zs) ∧ BX v.ownBlock.toList w w' := by
  obtain ⟨hfl, h2 | ⟨g, cap, cur, rfl, hlo, hg, hnc, hcm, hcs, hct⟩⟩ := h
  · obtain ⟨rfl, h0⟩ := h2
    have hz : zs = [] := List.eq_nil_of_length_eq_zero h0
    subst hz
    refine (Tryz.slices_Compact_int_empty none 0 w).mono ?_
    rintro e w' ⟨rfl, rfl⟩
    exact ⟨_, rfl, Els.nil _, BX.refl _ _⟩
  · have hct' : cur.toList.take zs.length = zs.map (Value.int .i64) := by rw [← flatI, ← hct]; congr 1; simp [ElI]
    have hlt : g < w.heap.size := (Array.getElem?_eq_some_iff.1 hg).1
    have hcl := Lib.compact_length_le zs
    refine (Tryz.slices_Compact_int g 0 cap zs w (holds_of_blockI hg hct') (by omega) hnc).mono ?_
    rintro e w' ⟨rfl, n, rfl⟩
    have hm : (Lib.compact zs ++ List.replicate (zs.length - (Lib.compact zs).length) 0).length = zs.length := by simp; omega
    have ho := ownsRow_sortedI (n := n) (os := #[]) hm hlo hg hnc hcm (show cur.size = cap * 1 from hcs)
    rw [grow_empty] at ho
    have ho2 : OwnE ElI 3 lo (putRow (Value.int .i64) (Sort.ahead w n) g 0 (Lib.compact zs ++ List.replicate (zs.length - (Lib.compact zs).length) 0).toArray) (.slice (some ⟨g, 0, none⟩) zs.length cap) (Lib.compact zs ++ List.replicate (zs.length - (Lib.compact zs).length) 0) := by
      unfold OwnE
      rw [flatI, hm]
      exact ho
    have hT := ho2.els.take (Lib.compact zs).length (by simp)
    rw [List.take_left] at hT
    refine ⟨_, rfl, hT, ?_⟩
    have hgr := grownBy_sortedI (w := w) (g := g) (n := n) (os := #[]) (Lib.compact zs ++ List.replicate (zs.length - (Lib.compact zs).length) 0).toArray
    rw [grow_empty] at hgr
    exact BX.of_grown hgr (by simp [Value.ownBlock])
theorem contI_any (w : World) (v : Value) (l : List Int) (x : Int) (h : Els ElI w v l) (hl : l.length ≤ 1000000) :
    Calls Tryz.prog 64 #[v, .int .i64 x] w fun e w' => e = .returned (.bool (l.contains x)) ∧ w' = w := by
  obtain ⟨A, cap, rfl, h1, h2, h3, h4⟩ := h
  rcases Nat.eq_zero_or_pos l.length with h0 | h0
  · have h00 : l = [] := List.eq_nil_of_length_eq_zero h0
    subst h00
    exact Tryz.slices_Contains_int_empty A cap x w
  · obtain ⟨b, off, he, _⟩ := h4 0 h0
    subst he
    refine (Tryz.slices_Contains_int b off l.length cap l x w (Nat.le_refl _) (by omega) ?_).mono ?_
    · intro j hj
      obtain ⟨b', off', he', hc⟩ := h4 j hj
      cases he'
      have := hc 0 (.int .i64 l[j]) rfl
      rw [List.getD_eq_getElem?_getD, List.getElem?_eq_getElem hj]
      simpa [ElI] using this
    · rintro e w' ⟨rfl, rfl⟩
      rw [List.take_length]
      exact ⟨rfl, rfl⟩
theorem OwnE.ne_iter {α : Type} {E : El α} {e lo : Nat} {w : World} {v : Value} {l : List α} (h : OwnE E e lo w v l) {κ : Type} {ke : κ → Value} {b r : Nat} {L left : List (κ × Value)} (hI : AIter ke w b r L left) : v.ownBlock ≠ Option.some r := by
  obtain ⟨_, _, _, _, _, _, _, _, _, _, h6, _⟩ := hI
  exact h.ne_obj h6 (fun _ h => by cases h)
def SameW (a b : World) : Prop := b.heap = a.heap ∧ b.os = a.os ∧ b.tape = a.tape ∧ b.output = a.output
theorem SameW.below {a b : World} (h : SameW a b) (B : Nat) : Below B a b := ⟨h.2.1, h.2.2.1, h.2.2.2, by rw [h.1]; exact Nat.le_refl _, fun k _ => by rw [h.1]⟩
theorem compI_same {w : World} {v : Value} {zs : List Int} {lo : Nat} (h : OwnE ElI 3 lo w v zs) (hl : zs.length ≤ 1000000) (W' : World) (hs : SameW w W') :
    Calls Tryz.prog 66 #[v] W' fun e w' => ∃ v', e = .returned v' ∧ Els ElI w' v' (Lib.compact zs) ∧ BX v.ownBlock.toList w w' :=
  (compI_any W' v zs lo (h.then (hs.below _)) hl).mono fun _e _w' ⟨v', h1, h2, h3⟩ => ⟨v', h1, h2, (BX.of_below (hs.below _)).trans h3⟩
theorem macc_same {w : World} {b : Nat} {L : List (Key × Cost)} {n : Int} {vf : Value} {fs : List Int} (h : MMap w b L) (hf : Els ElI w vf fs) (hlen : L.length ≤ 900000) (hfl : fs.length ≤ 900000) (hk : ∀ k ∈ L.map (·.1), 97 ≤ k.2.1 ∧ k.2.1 ≤ 101) (W' : World) (hs : SameW w W') :
    Calls Tryz.prog 37 #[.map (some b), .int .i64 n, vf] W' fun e w' => ∃ vm' vf' ms, e = .returned (acV n vm' vf') ∧ OwnE ElZ 78 w.heap.size w' vm' ms ∧ OwnE ElI 3 w.heap.size w' vf' fs ∧ ms.Perm ((L.map (·.1)).map mvK) ∧ ms.Pairwise (fun a b => lexLt b a = false) ∧ Below w.heap.size w w' :=
  (macc_any W' b L n vf fs (AMap.of_block h (by rw [hs.1])) (hf.then (hs.below _)) hlen hfl hk).mono fun e w' ⟨a, b, c, h1, h2, h3, h4, h5, h6⟩ => ⟨a, b, c, h1, h2.lo_le (by rw [hs.1]; exact Nat.le_refl _), h3.lo_le (by rw [hs.1]; exact Nat.le_refl _), h4, h5, (hs.below _).trans (h6.mono (by rw [hs.1]; exact Nat.le_refl _))⟩
/-- final states are few -/
theorem fin_len {C st : Int} {ms : List Mi} {fs : List Int} (hC : 0 ≤ C) (h : givenB C st ms fs = true) : fs.length ≤ 12 := by
  have hg := (givenB_iff2 hC).1 h
  have hf := hg.2.2.2.2
  have key : ∀ i, i < fs.length → (i : Int) ≤ fs.getD i 0 := by
    intro i
    induction i with
    | zero =>
      intro hi
      have h1 := hf 0 hi
      simp [fnAt] at h1
      have := h1.1
      simp; omega
    | succ i ih =>
      intro hi
      have h1 := hf (i + 1) hi
      simp [fnAt] at h1
      have h2 := ih (by omega)
      have h3 := h1.2
      simp only [List.getD_eq_getElem?_getD] at h2 ⊢
      omega
  rcases Nat.eq_zero_or_pos fs.length with h0 | h0
  · omega
  · have h1 := key (fs.length - 1) (by omega)
    have h2 := hf (fs.length - 1) (by omega)
    simp only [fnAt, Bool.and_eq_true, Bool.not_eq_true', decide_eq_false_iff_not] at h2
    have h3 := h2.1.2
    have := hg.2.1
    omega
/-- what successors gives -/
def AfRes (_C st : Int) (l : List RuleB) (ms : List Mi) (fs : List Int) (n : Int) (ms' : List Mi) (fs' : List Int) : Prop := ∃ num : Int → Int → Int,
  (st ≤ n ∧ n ≤ st + 30) ∧ (∀ r ∈ l.map RuleB.plain, ∀ x y, r.put = [x, y] → st ≤ num r.to x ∧ num r.to x < n) ∧
  (∀ r ∈ l.map RuleB.plain, ∀ r' ∈ l.map RuleB.plain, ∀ x y x' y', r.put = [x, y] → r'.put = [x', y'] → num r.to x = num r'.to x' → r.to = r'.to ∧ x = x') ∧
  (∀ m, m ∈ ms' ↔ ∃ p a q, PA (BofI ms) (l.map RuleB.plain) num p a q ∧ a ≠ 0 ∧ m = mvK (p, a, q)) ∧ ms'.Pairwise (fun a b => lexLt a b = true) ∧
  (∀ x, x ∈ fs' ↔ x ∈ fs ∨ ∃ q, q ∈ fs ∧ PA (BofI ms) (l.map RuleB.plain) num x 0 q) ∧ fs'.Pairwise (fun a b => a < b)
theorem lex_of_two {a b : Mi} (h : lexLt b a = false) (hn : a ≠ b) : lexLt a b = true := by
  rw [lexLt_iff]
  have h1 : ¬ (b.1 < a.1 ∨ b.1 = a.1 ∧ (b.2.1 < a.2.1 ∨ b.2.1 = a.2.1 ∧ b.2.2 < a.2.2)) := fun h2 => by rw [lexLt_iff.2 h2] at h; cases h
  obtain ⟨a1, a2, a3⟩ := a
  obtain ⟨b1, b2, b3⟩ := b
  simp only [ne_eq, Prod.mk.injEq, not_and] at hn
  dsimp only at *
  omega
theorem afres_of {C st : Int} {l : List RuleB} {ms : List Mi} {fs fs2 fs' : List Int} {R : List Rule} {num : Int → Int → Int} {Hs : List Head} {L : List (Key × Cost)} {S : List (Int × Int)} {ms' : List Mi} {w : World} {b : Nat}
    (_hst : 1 ≤ st) (hR : l.map RuleB.plain = R) (hnum : num = fun p x => numZ st Hs (p, x)) (hHs : NumOk l l.length Hs) (hnumR : ∀ r ∈ R, ∀ x y, r.put = [x, y] → (r.to, x) ∈ Hs ∧ C ≤ num r.to x ∧ num r.to x < st + 30)
    (hAll : ∀ p a q, PA (BofI ms) R num p a q ↔ (a = 0 ∧ (p, q) ∈ S) ∨ (a ≠ 0 ∧ (p, a, q) ∈ L.map (·.1))) (hin : ∀ k ∈ L.map (·.1), 97 ≤ k.2.1 ∧ k.2.1 ≤ 101)
    (hmem : ∀ x, x ∈ fs2 ↔ x ∈ fs ∨ ∃ q, (x, q) ∈ S ∧ (x, q) ∉ (([] : List ((Int × Int) × Value)).map (·.1)) ∧ q ∈ fs) (hsc : (∀ x, x ∈ fs' ↔ x ∈ fs2) ∧ fs'.Pairwise (fun a b => a < b)) (hm : MMap w b L)
    (hp : ms'.Perm ((L.map (·.1)).map mvK)) (hs : ms'.Pairwise (fun a b => lexLt b a = false)) (hl : l.length ≤ 30) : AfRes C st l ms fs (st + Hs.length) ms' fs' := by
  refine ⟨num, ⟨by omega, by have := hHs.1; omega⟩, ?_, ?_, ?_, ?_, ?_, hsc.2⟩
  · intro r hr x y hx
    rw [hR] at hr
    have h1 := (hnumR r hr x y hx).1
    have := numZ_mem (s := st) h1
    rw [hnum]
    exact ⟨this.2.1, this.2.2⟩
  · intro r hr r' hr' x y x' y' hx hx' e
    rw [hR] at hr hr'
    rw [hnum] at e
    have := numZ_inj (hnumR r hr x y hx).1 (hnumR r' hr' x' y' hx').1 e
    simp only [Prod.mk.injEq] at this
    exact this
  · intro m
    rw [hp.mem_iff, hR]
    constructor
    · intro h
      obtain ⟨k, hk, rfl⟩ := List.mem_map.1 h
      have h0 : k.2.1 ≠ 0 := by have := hin k hk; omega
      exact ⟨k.1, k.2.1, k.2.2, (hAll _ _ _).2 (.inr ⟨h0, hk⟩), h0, rfl⟩
    · rintro ⟨p, a, q, h, h0, rfl⟩
      rcases (hAll _ _ _).1 h with ⟨e, _⟩ | ⟨_, h2⟩
      · exact absurd e h0
      · exact List.mem_map.2 ⟨_, h2, rfl⟩
  · have hnd : ms'.Nodup := by
      refine hp.nodup_iff.2 ?_
      have hn : (L.map (·.1)).Nodup := by have := AMap.nodup hm; rwa [cval_keys] at this
      unfold List.Nodup
      rw [List.pairwise_map]
      refine hn.imp fun {a b} hne e => hne ?_
      obtain ⟨a1, a2, a3⟩ := a
      obtain ⟨b1, b2, b3⟩ := b
      unfold mvK at e
      simp only [Prod.mk.injEq] at e ⊢
      omega
    exact (hs.and hnd).imp fun {a b} h => lex_of_two h.1 h.2
  · intro x
    rw [hsc.1, hmem, hR]
    constructor
    · rintro (h | ⟨q, h1, _, h3⟩)
      · exact .inl h
      · exact .inr ⟨q, h3, (hAll _ _ _).2 (.inl ⟨rfl, h1⟩)⟩
    · rintro (h | ⟨q, h1, h2⟩)
      · exact .inl h
      · rcases (hAll _ _ _).1 h2 with ⟨_, h3⟩ | ⟨h3, _⟩
        · exact .inr ⟨q, h3, by simp, h1⟩
        · exact absurd rfl h3
end
end Go.Proofs.YtaapnflhjbdmlaaGreatDoor
