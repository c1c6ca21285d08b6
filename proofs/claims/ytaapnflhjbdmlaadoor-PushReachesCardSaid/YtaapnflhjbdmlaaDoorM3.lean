/- saturate's inner function: a cost that is less. No condition. -/
import Derived.Test.YtaapnflhjbdmlaaDoorM1
namespace Go.Proofs.YtaapnflhjbdmlaaDoor
open Go.RowKit
attribute [local go_sem] Oper.semAt_some

/-- nothing that lay has turned but some blocks -/
structure BX (xs : List Nat) (w w' : World) : Prop where
  os : w'.os = w.os
  tape : w'.tape = w.tape
  output : w'.output = w.output
  size : w.heap.size ≤ w'.heap.size
  block : ∀ k, k < w.heap.size → k ∉ xs → w'.heap[k]? = w.heap[k]?
theorem BX.refl (xs : List Nat) (w : World) : BX xs w w := ⟨rfl, rfl, rfl, Nat.le_refl _, fun _ _ _ => rfl⟩
theorem BX.trans {xs : List Nat} {a b c : World} (h : BX xs a b) (h2 : BX xs b c) : BX xs a c :=
  ⟨h2.os.trans h.os, h2.tape.trans h.tape, h2.output.trans h.output, Nat.le_trans h.size h2.size, fun k hk hx => (h2.block k (Nat.lt_of_lt_of_le hk h.size) hx).trans (h.block k hk hx)⟩
theorem BX.of_below {xs : List Nat} {w w' : World} (h : Below w.heap.size w w') : BX xs w w' := ⟨h.os, h.tape, h.output, h.size, fun k hk _ => h.block k hk⟩
theorem BX.of_grown {xs : List Nat} {w w' : World} {b : Nat} (h : w.grownBy w' (some b)) (hb : b ∈ xs) : BX xs w w' := ⟨h.os, h.tape, h.output, h.size, fun k hk hx => h.block k hk (by intro e; cases e; exact hx hb)⟩
theorem BX.below {xs : List Nat} {w w' : World} (h : BX xs w w') {B : Nat} (hB : B ≤ w.heap.size) (hx : ∀ x ∈ xs, B ≤ x) : Below B w w' := ⟨h.os, h.tape, h.output, h.size, fun k hk => h.block k (by omega) (fun hm => by have := hx k hm; omega)⟩
theorem BX.cell {xs : List Nat} {w w' : World} (h : BX xs w w') {p : Addr} {c : Value} (hc : w.cell? p = some c) (hx : p.block ∉ xs) : w'.cell? p = some c := (World.cell?_of_block (h.block p.block (lt_of_cell hc) hx)).trans hc
theorem BX.set {xs : List Nat} {w w' : World} (h : BX xs w w') {p : Addr} (hp : p.block ∈ xs) (u : Value) : BX xs w (w'.setCell p u) :=
  ⟨h.os, h.tape, h.output, by simpa [World.setCell] using h.size, fun k hk hx => (Below.heap_setCell w' p u k (fun e => hx (by rw [e]; exact hp))).trans (h.block k hk hx)⟩
theorem Blk.bx {xs : List Nat} {w w' : World} {g t : Nat} {cs : Array Value} (h : Blk w g t cs) (hb : BX xs w w') (hx : g ∉ xs) : Blk w' g t cs := (hb.block g h.lt hx).trans h
theorem BX.mono {xs ys : List Nat} {w w' : World} (h : BX xs w w') (hs : ∀ x ∈ xs, x ∈ ys) : BX ys w w' := ⟨h.os, h.tape, h.output, h.size, fun k hk hx => h.block k hk (fun hm => hx (hs k hm))⟩

/-- the list behind a store -/
def cput (L : List (Key × Cost)) (k : Key) (c : Cost) : List (Key × Cost) := if (cget L k).isSome then L.map (fun p => if k = p.1 then (p.1, c) else p) else L ++ [(k, c)]
theorem aput_cval (L : List (Key × Cost)) (k : Key) (c : Cost) : aput (cval L) k (costV c) = cval (cput L k c) := by
  unfold aput cput
  rw [aget_cval]
  by_cases h : (cget L k).isSome = true
  · rw [if_pos (by simpa using h), if_pos h]
    unfold cval
    rw [List.map_map, List.map_map]
    refine List.map_congr_left fun p _ => ?_
    simp only [Function.comp]
    split <;> rfl
  · rw [if_neg (by simpa using h), if_neg h]
    simp [cval]
theorem costV_inj {a b : Cost} (h : costV a = costV b) : a = b := by
  obtain ⟨a1, a2, a3⟩ := a
  obtain ⟨b1, b2, b3⟩ := b
  simp at h
  obtain ⟨rfl, rfl, rfl⟩ := h
  rfl
theorem cget_cput (L : List (Key × Cost)) (k k' : Key) (c : Cost) : cget (cput L k c) k' = if k' = k then some c else cget L k' := by
  have h := aget_aput (cval L) k k' (costV c)
  rw [aput_cval, aget_cval, aget_cval] at h
  by_cases e : k' = k
  · rw [if_pos e] at h ⊢
    cases hx : cget (cput L k c) k' with
    | none => rw [hx] at h; cases h
    | some d => rw [hx] at h; exact congrArg some (costV_inj (Option.some.inj h))
  · rw [if_neg e] at h ⊢
    cases hx : cget (cput L k c) k' with
    | none => rw [hx] at h; cases hy : cget L k' with
      | none => rfl
      | some d => rw [hy] at h; cases h
    | some d =>
      rw [hx] at h
      cases hy : cget L k' with
      | none => rw [hy] at h; cases h
      | some d' => rw [hy] at h; exact congrArg some (costV_inj (Option.some.inj h))

/-- whether a cost is less than what is known, and the table then -/
def isLess (L : List (Key × Cost)) (k : Key) (c : Cost) : Bool := match cget L k with
  | none => true
  | some d => decide (c.steps < d.steps)
def lessL (L : List (Key × Cost)) (k : Key) (c : Cost) : List (Key × Cost) := if isLess L k c then cput L k ⟨min c.steps far, c.rule, c.middle⟩ else L

theorem zero96 (w : World) : (zeroValue 96).run Tryd.prog w = .ok (costV ⟨0, 0, 0⟩) w := by kernel_rfl

set_option maxHeartbeats 2000000 in
theorem less_any (w : World) (Bm Bc b : Nat) (L : List (Key × Cost)) (k1 k2 k3 s r m : Int) (v0 : Bool) (hm : w.cell? ⟨Bm, 0, none⟩ = some (.map (some b))) (hc : Blk w Bc 4 #[.bool v0]) (hL : MMap w b L)
    (hfar : ∀ d, cget L (k1, k2, k3) = some d → d.steps ≤ far) (hbc : b ≠ Bc) (hbm : b ≠ Bm ∧ Bc ≠ Bm) :
    Calls Tryd.prog 47 #[mv (k1, k2, k3), costV ⟨s, r, m⟩, .pointer (some ⟨Bm, 0, none⟩), .pointer (some ⟨Bc, 0, none⟩)] w fun e w' => e = .returned (.tuple #[]) ∧ MMap w' b (lessL L (k1, k2, k3) ⟨s, r, m⟩) ∧ Blk w' Bc 4 #[.bool (v0 || isLess L (k1, k2, k3) ⟨s, r, m⟩)] ∧ BX [b, Bc] w w' := by
  unfold MMap at *
  have B3 : ∀ o1 o2 o3, Below w.heap.size w (((w.alloc o1).alloc o2).alloc o3) := fun o1 o2 o3 => bthen (below1 _ _) (bthen (below1 _ _) (below1 _ _))
  have hL2 := Lib.hid (fun o1 o2 => AMap.below hL (bthen (below1 w o1) (below1 _ o2)) (AMap.lt hL))
  have hL3 := Lib.hid (fun o1 o2 o3 => AMap.below hL (B3 o1 o2 o3) (AMap.lt hL))
  have hm2 := fun o1 o2 => cell_below hm (bthen (below1 w o1) (below1 _ o2))
  have hm3 := fun o1 o2 o3 => cell_below hm (B3 o1 o2 o3)
  have hc3 := Lib.hid (fun o1 o2 o3 => Blk.below hc (B3 o1 o2 o3) hc.lt)
  replace B3 := Lib.hid B3
  have hltc := hc.lt
  clear hL hc hm
  have hag := aget_cval L (k1, k2, k3)
  cases hg : cget L (k1, k2, k3) with
  | none =>
    have hi := Lib.hid (show isLess L (k1, k2, k3) ⟨s, r, m⟩ = true by unfold isLess; rw [hg])
    rw [hg] at hag
    replace hag := Lib.hid hag
    have hput := Lib.hid (aput_cval L (k1, k2, k3) ⟨min s far, r, m⟩)
    go_enter Tryd.func47, Tryd.ntmps47
    go_wp2_with (first
      | (at_lookup; refine wpList_lookup_ok_a _ rfl (.tmp 9) (.tmp 10) 70 rfl 94 96 key94 Tryd.underlying70 (zero96 _) rfl (hL2.out _ _) (k1, k2, k3) rfl (costV ⟨0, 0, 0⟩) (by rw [hag.out]; rfl) false (by rw [hag.out]; rfl) ?_)
      | (at_mapUpdate; refine wpList_mapUpdate_a _ rfl (.tmp 35) (.tmp 36) (.tmp 37) 70 rfl 94 96 key94 Tryd.underlying70 rfl (hL3.out _ _ _) (k1, k2, k3) rfl (costV ⟨min s far, r, m⟩) rfl ?_; intro w2 hA2 hg2 hs2; have kc : Blk w2 Bc 4 #[.bool v0] := (hg2.block _ (hc3.out _ _ _).lt (by simp; omega)).trans (hc3.out _ _ _); have c0 := kc.cell 0; have f0 := kc.free 0; simp at c0; have kc := Lib.hid kc; have hA2 := Lib.hid hA2; have hbx := Lib.hid ((BX.of_below (xs := [b, Bc]) (B3.out _ _ _)).trans (BX.of_grown hg2 (by simp))); clear hg2 hs2))
    go_end0
    refine ⟨rfl, ?_, ?_, hbx.out.set (by simp) _⟩
    · unfold lessL
      rw [hi.out, if_pos rfl, ← hput.out]
      exact hA2.out.setCell _ _
    · have := kc.out.set 0 (.bool true)
      rw [hi.out, Bool.or_true]
      simpa using this
  | some d =>
    have hd := hfar d hg
    rw [hg] at hag
    replace hag := Lib.hid hag
    obtain ⟨d1, d2, d3⟩ := d
    dsimp only at hd
    unfold far at hd
    have hput := Lib.hid (aput_cval L (k1, k2, k3) ⟨min s far, r, m⟩)
    by_cases hlt : s < d1
    · have hne : (min s 1099511627776 == d1) = false := by simp; omega
      have hi := Lib.hid (show isLess L (k1, k2, k3) ⟨s, r, m⟩ = true by unfold isLess; rw [hg]; simp [hlt])
      go_enter Tryd.func47, Tryd.ntmps47
      go_wp2_with (first
        | (at_lookup; refine wpList_lookup_ok_a _ rfl (.tmp 9) (.tmp 10) 70 rfl 94 96 key94 Tryd.underlying70 (zero96 _) rfl (hL2.out _ _) (k1, k2, k3) rfl (costV ⟨d1, d2, d3⟩) (by rw [hag.out]; rfl) true (by rw [hag.out]; rfl) ?_)
        | (at_mapUpdate; refine wpList_mapUpdate_a _ rfl (.tmp 35) (.tmp 36) (.tmp 37) 70 rfl 94 96 key94 Tryd.underlying70 rfl (hL3.out _ _ _) (k1, k2, k3) rfl (costV ⟨min s far, r, m⟩) rfl ?_; intro w2 hA2 hg2 hs2; have kc : Blk w2 Bc 4 #[.bool v0] := (hg2.block _ (hc3.out _ _ _).lt (by simp; omega)).trans (hc3.out _ _ _); have c0 := kc.cell 0; have f0 := kc.free 0; simp at c0; have kc := Lib.hid kc; have hA2 := Lib.hid hA2; have hbx := Lib.hid ((BX.of_below (xs := [b, Bc]) (B3.out _ _ _)).trans (BX.of_grown hg2 (by simp))); clear hg2 hs2))
      go_end0
      refine ⟨rfl, ?_, ?_, hbx.out.set (by simp) _⟩
      · unfold lessL
        rw [hi.out, if_pos rfl, ← hput.out]
        exact hA2.out.setCell _ _
      · have := kc.out.set 0 (.bool true)
        rw [hi.out, Bool.or_true]
        simpa using this
    · have hi := Lib.hid (show isLess L (k1, k2, k3) ⟨s, r, m⟩ = false by unfold isLess; rw [hg]; simp; omega)
      go_enter Tryd.func47, Tryd.ntmps47
      go_wp2_with (first
        | (at_lookup; refine wpList_lookup_ok_a _ rfl (.tmp 9) (.tmp 10) 70 rfl 94 96 key94 Tryd.underlying70 (zero96 _) rfl (hL2.out _ _) (k1, k2, k3) rfl (costV ⟨d1, d2, d3⟩) (by rw [hag.out]; rfl) true (by rw [hag.out]; rfl) ?_))
      go_end0
      refine ⟨rfl, ?_, ?_, BX.of_below (B3.out _ _ _)⟩
      · unfold lessL
        rw [hi.out]; exact hL3.out _ _ _
      · rw [hi.out, Bool.or_false]; exact hc3.out _ _ _
end Go.Proofs.YtaapnflhjbdmlaaDoor
