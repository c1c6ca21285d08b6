/- The specification's add, leads, some, began. No condition. The specification's some, began, alike, Alike. No condition. The specification's alike: the walk. No condition. -/
import Derived.Test.YtaapnflhjbdmlaaGreatDoorZX
import Derived.Deep.RegionHeld3
import Derived.Deep.CutRange
namespace Go.Proofs.YtaapnflhjbdmlaaGreatDoor
section
open Go.RowKit Go.Shelf
attribute [local go_sem] Oper.semAt_some

abbrev agA (vC : Value) (gF n : Nat) : Value := .agg #[vC, .slice (some ⟨gF, 0, none⟩) n n]
theorem Il.free {w : World} {g n : Nat} {f : Nat → Int} (h : Il w g n f) (i : Nat) : w.frozen? ⟨g, i, none⟩ = false := Blk.free h i

set_option maxRecDepth 8000 in
set_option maxHeartbeats 4000000 in
theorem addR_any (w : World) (n p c q gF b cap kp gr ro : Nat) (x : Nat → Int) (hp : p < n) (hc : c < 6) (hq : q < n) (hn : n ≤ 400) (hcap : n ≤ cap) (_ : 6 ≤ kp)
    (h0 : w.cell? ⟨b, p, none⟩ = some (.slice (some ⟨gr, 0, none⟩) 6 kp)) (h1 : w.cell? ⟨gr, c, none⟩ = some (.slice (some ⟨ro, 0, none⟩) n n)) (h2 : Il w ro n x) :
    Calls Tryz.prog 44 #[agA (.slice (some ⟨b, 0, none⟩) n cap) gF n, .int .i64 p, .int .i64 c, .int .i64 q] w fun e w' =>
      e = .returned (.bool (!decide (x q = 0))) ∧ Il w' ro n (fun j => if j = q then 0 else x j) ∧ BX [ro] w w' := by
  have hpI : (p : Int) < n := by omega
  have hqI : (q : Int) < n := by omega
  have hcI : (c : Int) < 6 := by omega
  have hnI : (n : Int) ≤ 400 := by omega
  have hcapI : (n : Int) ≤ cap := by omega
  obtain ⟨W, hW⟩ : ∃ W, w.alloc (.cells #[.slice (some ⟨b, 0, none⟩) n cap, .slice (some ⟨gF, 0, none⟩) n n] 49) = W := ⟨_, rfl⟩
  have hb := show Below w.heap.size w W by rw [← hW]; exact below1 _ _
  have kA := show Blk W w.heap.size 49 #[.slice (some ⟨b, 0, none⟩) n cap, .slice (some ⟨gF, 0, none⟩) n n] by rw [← hW]; exact Blk.new _ _ _
  have a0 : W.cell? ⟨w.heap.size, 0, none⟩ = some (.slice (some ⟨b, 0, none⟩) n cap) := kA.cell 0
  have c0 := cell_below h0 hb
  have c1 := cell_below h1 hb
  have hI := Blk.below h2 hb (Blk.lt h2)
  have c2 := Il.cell hI hq
  have f2 := Il.free hI q
  have hset := Lib.hid (Il.set hI (i := q) 0)
  have hbx := Lib.hid (show BX [ro] w (W.setCell ⟨ro, q, none⟩ (.int .i64 0)) from (BX.of_below hb).set (by simp) _)
  have hbx0 := Lib.hid (show BX [ro] w W from BX.of_below hb)
  replace hI := Lib.hid hI
  clear h0 h1 h2
  generalize hx : x q = xq at *
  replace hx := Lib.hid hx
  by_cases hz : xq = 0
  · have hz2 : (xq == 0) = true := by simpa using hz
    have hsame := Lib.hid (show Il W ro n (fun j => if j = q then 0 else x j) from Il.congr hI.out fun j _ => by
      by_cases e : j = q
      · rw [if_pos e, e, hx.out, hz]
      · rw [if_neg e])
    replace hz := Lib.hid hz
    go_enter Tryz.func44, Tryz.ntmps44
    go_wp2
    go_ret
    exact ⟨by rw [decide_eq_true hz.out]; rfl, hsame.out, hbx0.out⟩
  · have hz2 : (xq == 0) = false := by simpa using hz
    replace hz := Lib.hid hz
    go_enter Tryz.func44, Tryz.ntmps44
    go_wp2
    go_ret
    exact ⟨by rw [decide_eq_false hz.out]; rfl, hset.out, hbx.out⟩

open Classical in
noncomputable def leadB (n : Nat) (X : Nat → Nat → Nat → Int) (p c q : Nat) : Bool := decide (LeadX n X p c q)
theorem leadB_iff {n : Nat} {X : Nat → Nat → Nat → Int} {p c q : Nat} : leadB n X p c q = true ↔ LeadX n X p c q := by unfold leadB; simp
/-- a table that the walks may use -/
structure TOk (n : Nat) (X : Nat → Nat → Nat → Int) : Prop where
  rng : ∀ p c q, p < n → c < 6 → q < n → 0 ≤ X p c q ∧ X p c q ≤ 1073741824
  eps : ∀ p q, p < n → q < n → X p 5 q = 0 ∨ X p 5 q = 1073741824
  bd : ∀ p c q, p < n → c < 5 → q < n → X p c q < 1073741824 → X p c q ≤ 1001
theorem pos_only1 {n p : Nat} (hp : p < n) (i : Nat) : posS n (only1 p) i ↔ i = p := by
  unfold posS only1 farR
  constructor
  · rintro ⟨_, h⟩; split at h
    · assumption
    · omega
  · rintro rfl; exact ⟨hp, by simp⟩
theorem only1_rng (p i : Nat) : 0 ≤ only1 p i ∧ only1 p i ≤ 1073741824 := by unfold only1 farR; split <;> omega
theorem only1_bd (p i : Nat) (h : only1 p i < 1073741824) : only1 p i ≤ 0 := by unfold only1 farR at *; split at h <;> simp_all
theorem rd_rng {n : Nat} {X : Nat → Nat → Nat → Int} {now : Nat → Int} {c : Nat} (hX : TOk n X) (hc : c < 6) (hN : ∀ i, i < n → 0 ≤ now i) (k : Nat) (hk : k < n) : 0 ≤ rd n (fun i k => X i c k) now k ∧ rd n (fun i k => X i c k) now k ≤ 1073741824 :=
  ⟨rd_ge hN fun i hi => (hX.rng i c k hi hc hk).1, rd_le _ _ _ _⟩
theorem lead_of {n : Nat} {X : Nat → Nat → Nat → Int} {cur : Nat → Int} {p c q : Nat} (hX : TOk n X) (hp : p < n) (hc : c < 5) (hq : q < n) (h : SilR n (fun i k => X i 5 k) (only1 p) cur) : decide (rd n (fun i k => X i c k) cur q < 1073741824) = leadB n X p c q := by
  have hE : ∀ i k, i < n → k < n → (fun i k => X i 5 k) i k = 0 ∨ (fun i k => X i 5 k) i k = 1073741824 := fun i k hi hk => hX.eps i k hi hk
  have h1 := h.set hE (fun i _ => (only1_rng p i).1)
  have hb := h.bd hE (fun i _ => (only1_rng p i).1) (B := 0) (fun i _ hi => only1_bd p i hi)
  have h2 := rd_set (X := X) (now := cur) (c := c) (B := 0) (D := 1001) (fun i k hi hk hx => hX.bd i c k hi hc hk hx) hb (by omega) (fun i hi => (h.sound i hi).2.1) q
  rw [Bool.eq_iff_iff, leadB_iff, decide_eq_true_iff]
  constructor
  · intro hr
    obtain ⟨_, i, hi, hs, hx⟩ := h2.1 ⟨hq, hr⟩
    obtain ⟨j, hj, hz⟩ := (h1 i).1 hs
    rw [pos_only1 hp] at hj
    subst hj
    exact ⟨i, hz, hx⟩
  · rintro ⟨i, hz, hx⟩
    exact (h2.2 ⟨hq, i, hz.lt.2, (h1 i).2 ⟨p, (pos_only1 hp p).2 rfl, hz⟩, hx⟩).2
theorem cells2 {w w' : World} {g t : Nat} {u v : Value} (h : Blk w g t #[u, v]) (hb : Below w.heap.size w w') : w'.cell? ⟨g, 0, none⟩ = some u ∧ w'.cell? ⟨g, 1, none⟩ = some v := ⟨(h.below hb h.lt).cell 0, (h.below hb h.lt).cell 1⟩
theorem cells2x {xs : List Nat} {w w' : World} {g t : Nat} {u v : Value} (h : Blk w g t #[u, v]) (hb : BX xs w w') (hg : g ∉ xs) : w'.cell? ⟨g, 0, none⟩ = some u ∧ w'.cell? ⟨g, 1, none⟩ = some v := ⟨(h.bx hb hg).cell 0, (h.bx hb hg).cell 1⟩

set_option maxRecDepth 8000 in
set_option maxHeartbeats 8000000 in
theorem leads_any (w : World) (n p c q gF : Nat) (vC : Value) (X : Nat → Nat → Nat → Int) (hn4 : n ≤ 400) (hX : Cua w vC n X) (hp : p < n) (hc : c < 5) (hq : q < n) (hT : TOk n X) :
    Calls Tryz.prog 43 #[agA vC gF n, .int .i64 p, .int .i64 c, .int .i64 q] w fun e w' => e = .returned (.bool (leadB n X p c q)) ∧ Below w.heap.size w w' := by
  obtain ⟨b, off, cap, rfl⟩ := hX.shape
  have hn : 1 ≤ n := by omega
  have hnI : (1 : Int) ≤ n := by omega
  have hnJ : (n : Int) ≤ 400 := by omega
  have hpI : (p : Int) < n := by omega
  have hqI : (q : Int) < n := by omega
  obtain ⟨W, hW⟩ : ∃ W, w.alloc (.cells #[.slice (some ⟨b, off, none⟩) n cap, .slice (some ⟨gF, 0, none⟩) n n] 49) = W := ⟨_, rfl⟩
  have hBW : Below w.heap.size w W := by rw [← hW]; exact below1 _ _
  have kA := show Blk W w.heap.size 49 #[.slice (some ⟨b, off, none⟩) n cap, .slice (some ⟨gF, 0, none⟩) n n] by rw [← hW]; exact Blk.new w 49 _
  have s1 : W.cell? ⟨w.heap.size, 1, none⟩ = some (.slice (some ⟨gF, 0, none⟩) n n) := kA.cell 1
  replace kA := Lib.hid kA
  replace hBW := Lib.hid hBW
  replace hX := Lib.hid hX
  replace hT := Lib.hid hT
  go_enter Tryz.func43, Tryz.ntmps43
  go_upto_region 3 with (at_make; refine wpList_make_row rfl _ _ 26 rfl Tryz.underlying26 info3 n rfl rfl hn (by omega) ?_; intro w1 hB hb1; have hB := Lib.hid hB; have hb1 := Lib.hid hb1)
  clear s1
  obtain ⟨g, hg⟩ : ∃ g, W.heap.size = g := ⟨_, rfl⟩
  rw [hg] at hB ⊢
  have hgw := Lib.hid (show w.heap.size + 1 ≤ g from by have := kA.out.lt; omega)
  replace hg := Lib.hid hg
  go_wp2
  go_loopw [11] (fun c7 wr => ∃ i : Nat, i ≤ n ∧ c7 = .int .i64 (i : Int) ∧ Hid (Il wr g n (fun j => if j < i then 1073741824 else 0)) ∧ Hid (Below W.heap.size W wr)) (fun c7 _ => n - (intOf c7).toNat)
  case atStart => exact ⟨0, Nat.zero_le _, rfl, hB.out.congr fun i _ => by simp, hb1.out⟩
  case round =>
    obtain ⟨i, hi, rfl, hBr, hxr⟩ := hrel
    by_cases hlt : i < n
    case pos =>
      have hltI : (i : Int) < n := by omega
      have hfr := Blk.free hBr.out i
      have hce := Il.cell hBr.out hlt
      simp only [Nat.lt_irrefl, if_false] at hce
      have hnew := Lib.hid (show Il (wr.setCell ⟨g, i, none⟩ (.int .i64 1073741824)) g n (fun j => if j < i + 1 then 1073741824 else 0) from (Il.set hBr.out (i := i) 1073741824).congr fun j _ => by
        by_cases h1 : j = i
        · subst h1; simp
        · rw [if_neg h1]
          have : (j < i + 1) = (j < i) := by apply propext; omega
          simp only [this])
      have hxn := Lib.hid (hxr.out.setCell (p := ⟨g, i, none⟩) (Nat.le_of_eq hg.out) (.int .i64 1073741824))
      go_wp2
      go_roundw
      case rel => exact ⟨i + 1, by omega, by go_num, hnew.out, hxn.out⟩
      case measure => simp [intOf]; omega
    have hge : ¬ (i : Int) < n := by omega
    have hfill := Lib.hid (show Il wr g n (fun _ => 1073741824) from hBr.out.congr fun j hj => by rw [if_pos (by omega)])
    have hce := Il.cell hfill.out hp
    have hfr := Blk.free hfill.out p
    clear hlt hi
    go_upto_region 8 with (fail)
    clear hge hBr hce hfr
    obtain ⟨V, hV⟩ : ∃ V, wr.setCell ⟨g, p, none⟩ (.int .i64 0) = V := ⟨_, rfl⟩
    rw [hV]
    have hNV := Lib.hid (show Il V g n (only1 p) from by
      rw [← hV]
      exact (Il.set hfill.out (i := p) 0).congr fun j _ => rfl)
    have hBV := Lib.hid (show Below W.heap.size W V from by rw [← hV]; exact hxr.out.setCell (Nat.le_of_eq hg.out) _)
    clear hV hfill hxr
    have hkw := Lib.hid (show ∀ wr, Below W.heap.size W wr → KeepC w wr from fun wr h => (KeepC.below hBW.out).trans (KeepC.below h))
    have hsil := Lib.hid (fun (V' : World) (hV' : Below V.heap.size V V') => silent_any V' w n g gF (.slice (some ⟨b, off, none⟩) n cap) X (only1 p) hn hn4 hX.out (hkw.out _ (bthen hBV.out hV')) (by have := hgw.out; omega) (Blk.below hNV.out hV' (Blk.lt hNV.out)) (fun p q hp hq => hT.out.rng p 5 q hp (by omega) hq) (fun i _ => only1_rng p i))
    have hread := Lib.hid (fun (V5 : World) (cur : Nat → Int) (hS : SilR n (fun i k => X i 5 k) (only1 p) cur) (hI5 : Il V5 g n cur) (hk : KeepC w V5) => read_any V5 n c g gF (.slice (some ⟨b, off, none⟩) n cap) X cur hn hn4 (by omega) (hX.out.keep hk) hI5 (fun p q hp hq => hT.out.rng p c q hp (by omega) hq)
      (fun i hi => ⟨(hS.sound i hi).2.1, by have := (hS.sound i hi).2.2; have := (only1_rng p i).2; omega⟩))
    have kV := Lib.hid (kA.out.below hBV.out kA.out.lt)
    have hans := Lib.hid (fun (cur : Nat → Int) (h : SilR n (fun i k => X i 5 k) (only1 p) cur) => lead_of hT.out hp hc hq h)
    have hV8 := Lib.hid (show w.heap.size ≠ g from by have := hgw.out; omega)
    clear hNV hT hX
    have a1 := kV.out.cell 0
    have a2 := kV.out.cell 1
    simp at a1 a2
    go_region_with (first
      | (go_at_call 67; refine (hsil.out _ (below_drew V)).mono ?_; rintro e w5 ⟨rfl, cur, hS, hI5, hx5, _⟩; have hk5 := Lib.hid (cells2x (kV.out.below (below_drew V) kV.out.lt) hx5 (by simpa using hV8.out)); have hB5 := Lib.hid (show Below W.heap.size W w5 from (bthen hBV.out (below_drew V)).trans (hx5.below (bthen hBV.out (below_drew V)).size (by simp; have := hg.out; omega))); have d0 := hk5.out.1; have d1 := hk5.out.2; replace hS := Lib.hid hS; replace hI5 := Lib.hid hI5; replace hx5 := Lib.hid hx5)
      | (go_at_call 42; refine (hread.out _ cur hS.out hI5.out (hkw.out _ hB5.out)).mono ?_; rintro e w6 ⟨g6, rfl, hg6, hI6, hb6⟩; have hc6 := Il.cell hI6 hq; replace hI6 := Lib.hid hI6; replace hb6 := Lib.hid hb6))
    all_goals
      go_wp2
      go_ret
      exact ⟨(by rw [← hans.out cur hS.out]; rfl), bthen hBW.out (bthen hB5.out hb6.out)⟩
end
section
open Go.RowKit Go.Shelf
attribute [local go_sem] Oper.semAt_some

/-- some state is possible; some final one is -/
def someB (n : Nat) (x : Nat → Int) : Bool := (List.range n).any fun j => decide (x j < 1073741824)
def finB (n : Nat) (x : Nat → Int) (F : Nat → Bool) : Bool := (List.range n).any fun j => decide (x j < 1073741824) && F j
theorem someB_succ (n : Nat) (x : Nat → Int) : someB (n + 1) x = (someB n x || decide (x n < 1073741824)) := by simp [someB, List.range_succ]
theorem finB_succ (n : Nat) (x : Nat → Int) (F : Nat → Bool) : finB (n + 1) x F = (finB n x F || (decide (x n < 1073741824) && F n)) := by simp [finB, List.range_succ]
theorem someB_iff {n : Nat} {x : Nat → Int} : someB n x = true ↔ ∃ i, i < n ∧ posS n x i := by
  simp only [someB, List.any_eq_true, List.mem_range, decide_eq_true_eq, posS]
  exact ⟨fun ⟨i, a, b⟩ => ⟨i, a, a, b⟩, fun ⟨i, a, _, b⟩ => ⟨i, a, b⟩⟩
theorem finB_iff {n : Nat} {x : Nat → Int} {F : Nat → Bool} : finB n x F = true ↔ ∃ i, i < n ∧ posS n x i ∧ F i = true := by
  simp only [finB, List.any_eq_true, List.mem_range, Bool.and_eq_true, decide_eq_true_eq, posS]
  exact ⟨fun ⟨i, a, b, c⟩ => ⟨i, a, ⟨a, b⟩, c⟩, fun ⟨i, a, ⟨_, b⟩, c⟩ => ⟨i, a, b, c⟩⟩

set_option maxRecDepth 8000 in
set_option maxHeartbeats 8000000 in
theorem some_any (w : World) (n gx gF b off cap : Nat) (x : Nat → Int) (F : Nat → Bool) (hn4 : n ≤ 400) (hx : Il w gx n x) (hF : Bl w gF n F) :
    Calls Tryz.prog 68 #[agA (.slice (some ⟨b, off, none⟩) n cap) gF n, .slice (some ⟨gx, 0, none⟩) n n] w fun e w' => e = .returned (.tuple #[.bool (someB n x), .bool (finB n x F)]) ∧ Below w.heap.size w w' := by
  have hnJ : (n : Int) ≤ 400 := by omega
  obtain ⟨W, hW⟩ : ∃ W, w.alloc (.cells #[.slice (some ⟨b, off, none⟩) n cap, .slice (some ⟨gF, 0, none⟩) n n] 49) = W := ⟨_, rfl⟩
  have hBW : Below w.heap.size w W := by rw [← hW]; exact below1 _ _
  have kA := show Blk W w.heap.size 49 #[.slice (some ⟨b, off, none⟩) n cap, .slice (some ⟨gF, 0, none⟩) n n] by rw [← hW]; exact Blk.new w 49 _
  replace hx := Lib.hid (Blk.below hx hBW (Blk.lt hx))
  replace hF := Lib.hid (Blk.below hF hBW (Blk.lt hF))
  have s1 : W.cell? ⟨w.heap.size, 1, none⟩ = some (.slice (some ⟨gF, 0, none⟩) n n) := kA.cell 1
  replace hBW := Lib.hid hBW
  clear kA
  go_enter Tryz.func68, Tryz.ntmps68
  go_wp2
  go_loop [6, 7, 8] (fun c6 c7 c8 => ∃ i : Nat, i ≤ n ∧ c8 = .int .i64 (i : Int) ∧ c6 = .bool (someB i x) ∧ c7 = .bool (finB i x F)) (fun _ _ c8 => n - (intOf c8).toNat)
  case atStart => exact ⟨0, Nat.zero_le _, rfl, rfl, rfl⟩
  case round =>
    obtain ⟨i, hi, rfl, rfl, rfl⟩ := hrel
    by_cases hlt : i < n
    case neg =>
      have hge : ¬ (i : Int) < n := by omega
      obtain rfl : i = n := by omega
      go_wp2
      exact bodyPost_ret (v := .tuple #[.bool (someB i x), .bool (finB i x F)]) (by simp [results, Tryz.results68, go_sem]) rfl ⟨rfl, hBW.out⟩
    have hltI : (i : Int) < n := by omega
    have c0 := Il.cell hx.out hlt
    have c1 := Bl.cell hF.out hlt
    have hs2 := Lib.hid (someB_succ i x)
    have hf2 := Lib.hid (finB_succ i x F)
    generalize someB i x = sa at *
    generalize finB i x F = fa at *
    generalize x i = vx at *
    generalize F i = Fi at *
    by_cases hv : vx < 1073741824
    all_goals
      cases sa <;> cases fa <;> cases Fi
    all_goals
      go_wp2
      go_round
      case rel => exact ⟨i + 1, by omega, by go_num, by rw [hs2.out]; simp [hv], by rw [hf2.out]; simp [hv]⟩
      case measure => simp [intOf]; omega

set_option maxRecDepth 8000 in
set_option maxHeartbeats 8000000 in
theorem began_any (w : World) (n p gF : Nat) (vC : Value) (X : Nat → Nat → Nat → Int) (hn4 : n ≤ 400) (hX : Cua w vC n X) (hp : p < n) (hT : TOk n X) :
    Calls Tryz.prog 40 #[agA vC gF n, .int .i64 p] w fun e w' => ∃ g cur, e = .returned (.slice (some ⟨g, 0, none⟩) n n) ∧ w.heap.size ≤ g ∧ Il w' g n cur ∧ SilR n (fun i k => X i 5 k) (only1 p) cur ∧ Below w.heap.size w w' := by
  obtain ⟨b, off, cap, rfl⟩ := hX.shape
  have hn : 1 ≤ n := by omega
  have hnI : (1 : Int) ≤ n := by omega
  have hnJ : (n : Int) ≤ 400 := by omega
  have hpI : (p : Int) < n := by omega
  obtain ⟨W, hW⟩ : ∃ W, w.alloc (.cells #[.slice (some ⟨b, off, none⟩) n cap, .slice (some ⟨gF, 0, none⟩) n n] 49) = W := ⟨_, rfl⟩
  have hBW : Below w.heap.size w W := by rw [← hW]; exact below1 _ _
  have kA := show Blk W w.heap.size 49 #[.slice (some ⟨b, off, none⟩) n cap, .slice (some ⟨gF, 0, none⟩) n n] by rw [← hW]; exact Blk.new w 49 _
  have s1 : W.cell? ⟨w.heap.size, 1, none⟩ = some (.slice (some ⟨gF, 0, none⟩) n n) := kA.cell 1
  replace kA := Lib.hid kA
  replace hBW := Lib.hid hBW
  replace hX := Lib.hid hX
  replace hT := Lib.hid hT
  go_enter Tryz.func40, Tryz.ntmps40
  go_upto_region 2 with (at_make; refine wpList_make_row rfl _ _ 26 rfl Tryz.underlying26 info3 n rfl rfl hn (by omega) ?_; intro w1 hB hb1; have hB := Lib.hid hB; have hb1 := Lib.hid hb1)
  clear s1
  obtain ⟨g, hg⟩ : ∃ g, W.heap.size = g := ⟨_, rfl⟩
  rw [hg] at hB ⊢
  have hgw := Lib.hid (show w.heap.size + 1 ≤ g from by have := kA.out.lt; omega)
  replace hg := Lib.hid hg
  go_wp2
  go_loopw [6] (fun c7 wr => ∃ i : Nat, i ≤ n ∧ c7 = .int .i64 (i : Int) ∧ Hid (Il wr g n (fun j => if j < i then 1073741824 else 0)) ∧ Hid (Below W.heap.size W wr)) (fun c7 _ => n - (intOf c7).toNat)
  case atStart => exact ⟨0, Nat.zero_le _, rfl, hB.out.congr fun i _ => by simp, hb1.out⟩
  case round =>
    obtain ⟨i, hi, rfl, hBr, hxr⟩ := hrel
    by_cases hlt : i < n
    case pos =>
      have hltI : (i : Int) < n := by omega
      have hfr := Blk.free hBr.out i
      have hce := Il.cell hBr.out hlt
      simp only [Nat.lt_irrefl, if_false] at hce
      have hnew := Lib.hid (show Il (wr.setCell ⟨g, i, none⟩ (.int .i64 1073741824)) g n (fun j => if j < i + 1 then 1073741824 else 0) from (Il.set hBr.out (i := i) 1073741824).congr fun j _ => by
        by_cases h1 : j = i
        · subst h1; simp
        · rw [if_neg h1]
          have : (j < i + 1) = (j < i) := by apply propext; omega
          simp only [this])
      have hxn := Lib.hid (hxr.out.setCell (p := ⟨g, i, none⟩) (Nat.le_of_eq hg.out) (.int .i64 1073741824))
      go_wp2
      go_roundw
      case rel => exact ⟨i + 1, by omega, by go_num, hnew.out, hxn.out⟩
      case measure => simp [intOf]; omega
    have hge : ¬ (i : Int) < n := by omega
    have hfill := Lib.hid (show Il wr g n (fun _ => 1073741824) from hBr.out.congr fun j hj => by rw [if_pos (by omega)])
    have hce := Il.cell hfill.out hp
    have hfr := Blk.free hfill.out p
    clear hlt hi
    go_upto_region 7 with (fail)
    clear hge hBr hce hfr
    obtain ⟨V, hV⟩ : ∃ V, wr.setCell ⟨g, p, none⟩ (.int .i64 0) = V := ⟨_, rfl⟩
    rw [hV]
    have hNV := Lib.hid (show Il V g n (only1 p) from by
      rw [← hV]
      exact (Il.set hfill.out (i := p) 0).congr fun j _ => rfl)
    have hBV := Lib.hid (show Below W.heap.size W V from by rw [← hV]; exact hxr.out.setCell (Nat.le_of_eq hg.out) _)
    clear hV hfill hxr
    have hkw := Lib.hid (show ∀ wr, Below W.heap.size W wr → KeepC w wr from fun wr h => (KeepC.below hBW.out).trans (KeepC.below h))
    have hsil := Lib.hid (silent_any V w n g gF (.slice (some ⟨b, off, none⟩) n cap) X (only1 p) hn hn4 hX.out (hkw.out _ hBV.out) (by have := hgw.out; omega) hNV.out (fun p q hp hq => hT.out.rng p 5 q hp (by omega) hq) (fun i _ => only1_rng p i))
    have m0 : V.cell? ⟨w.heap.size, 0, none⟩ = some (.slice (some ⟨b, off, none⟩) n cap) := (kA.out.below hBV.out kA.out.lt).cell 0
    have m1 : V.cell? ⟨w.heap.size, 1, none⟩ = some (.slice (some ⟨gF, 0, none⟩) n n) := (kA.out.below hBV.out kA.out.lt).cell 1
    go_wp2_with (go_at_call 67; refine hsil.out.mono ?_; rintro e w5 ⟨rfl, cur, hS, hI5, hx5, _⟩; have hS := Lib.hid hS; have hI5 := Lib.hid hI5; have hx5 := Lib.hid hx5)
    go_ret
    exact ⟨g, cur, rfl, by have := hgw.out; omega, hI5.out, hS.out, bthen hBW.out (hBV.out.trans (hx5.out.below hBV.out.size (by simp; exact Nat.le_of_eq hg.out)))⟩

/-! ### alike -/
/-- the states behind a letter -/
def nextS (n : Nat) (X : Nat → Nat → Nat → Int) (S : Nat → Prop) (c : Nat) : Nat → Prop := silS n (fun i k => posT X i 5 k) (rdS n (posT X) S c)
theorem alike_succ {n m : Nat} {X Y : Nat → Nat → Nat → Int} {F G : Nat → Bool} {S T : Nat → Prop} {k : Nat} :
    AlikeP n (posT X) F S m (posT Y) G T (k + 1) ↔ AlikeP n (posT X) F S m (posT Y) G T 0 ∧ ∀ c, c < 5 → AlikeP n (posT X) F (nextS n X S c) m (posT Y) G (nextS m Y T c) k := by
  constructor
  · intro h
    exact ⟨fun w hw => h w (by omega), fun c hc w hw hl => h (c :: w) (by simp; omega) (fun x hx => by
      rcases List.mem_cons.1 hx with rfl | hx
      · exact hc
      · exact hl x hx)⟩
  · rintro ⟨h0, h1⟩ w hw hl
    cases w with
    | nil => exact h0 [] (by simp) (by simp)
    | cons c w => exact h1 c (hl c (by simp)) w (by simpa using hw) (fun x hx => hl x (by simp [hx]))
theorem alike_zero {n m : Nat} {x y : Nat → Int} {X Y : Nat → Nat → Nat → Int} {F G : Nat → Bool} : AlikeP n (posT X) F (posS n x) m (posT Y) G (posS m y) 0 ↔ finB n x F = finB m y G := by
  rw [Bool.eq_iff_iff, finB_iff, finB_iff]
  constructor
  · exact fun h => h [] (by simp) (by simp)
  · intro h w hw _
    obtain rfl : w = [] := List.eq_nil_of_length_eq_zero (by omega)
    exact h
theorem alike_none {n m : Nat} {x y : Nat → Int} {X Y : Nat → Nat → Nat → Int} {F G : Nat → Bool} (h1 : someB n x = false) (h2 : someB m y = false) (k : Nat) : AlikeP n (posT X) F (posS n x) m (posT Y) G (posS m y) k := by
  intro w _ _
  have a : ∀ i, i < n → ¬ posS n x i := fun i hi h => by rw [someB_iff.2 ⟨i, hi, h⟩] at h1; cases h1
  have b : ∀ i, i < m → ¬ posS m y i := fun i hi h => by rw [someB_iff.2 ⟨i, hi, h⟩] at h2; cases h2
  exact ⟨fun h => absurd h (AccN.none a), fun h => absurd h (AccN.none b)⟩
theorem alike_congr {n m : Nat} {T T' : Nat → Nat → Nat → Prop} {F G : Nat → Bool} {S S' U U' : Nat → Prop} (hS : ∀ i, i < n → (S i ↔ S' i)) (hU : ∀ i, i < m → (U i ↔ U' i)) (k : Nat) : AlikeP n T F S m T' G U k ↔ AlikeP n T F S' m T' G U' k :=
  ⟨fun h w hw hl => ((AccN.congr (fun _ _ _ _ _ _ => Iff.rfl) (fun _ _ => rfl) hl hS).symm.trans (h w hw hl)).trans (AccN.congr (fun _ _ _ _ _ _ => Iff.rfl) (fun _ _ => rfl) hl hU),
   fun h w hw hl => ((AccN.congr (fun _ _ _ _ _ _ => Iff.rfl) (fun _ _ => rfl) hl hS).trans (h w hw hl)).trans (AccN.congr (fun _ _ _ _ _ _ => Iff.rfl) (fun _ _ => rfl) hl hU).symm⟩
/-- a row of costs that may be read on -/
structure ROk (n : Nat) (x : Nat → Int) (D : Int) : Prop where
  rng : ∀ i, i < n → 0 ≤ x i ∧ x i ≤ 1073741824
  bd : ∀ i, i < n → x i < 1073741824 → x i ≤ D
theorem ROk.rd {n : Nat} {X : Nat → Nat → Nat → Int} {x : Nat → Int} {D : Int} (h : ROk n x D) (hX : TOk n X) {c : Nat} (hc : c < 5) : ROk n (fun k => rd n (fun i k => X i c k) x k) (D + 1001) :=
  ⟨fun k hk => rd_rng hX (by omega) (fun i hi => (h.rng i hi).1) k hk, fun k hk hx => rd_bd (fun i k hi hk hx => hX.bd i c k hi hc hk hx) h.bd (fun i hi => (h.rng i hi).1) k hk hx⟩
theorem ROk.sil {n : Nat} {X : Nat → Nat → Nat → Int} {x cur : Nat → Int} {D : Int} (h : ROk n x D) (hX : TOk n X) (hS : SilR n (fun i k => X i 5 k) x cur) : ROk n cur D :=
  ⟨fun k hk => ⟨(hS.sound k hk).2.1, by have := (hS.sound k hk).2.2; have := (h.rng k hk).2; omega⟩, fun k hk hx => hS.bd (fun i k hi hk => hX.eps i k hi hk) (fun i hi => (h.rng i hi).1) h.bd k hk hx⟩
theorem next_set {n : Nat} {X : Nat → Nat → Nat → Int} {x cur : Nat → Int} {D : Int} (h : ROk n x D) (hD : D + 1001 < 1073741824) (hX : TOk n X) {c : Nat} (hc : c < 5) (hS : SilR n (fun i k => X i 5 k) (fun k => rd n (fun i k => X i c k) x k) cur) (i : Nat) : posS n cur i ↔ nextS n X (posS n x) c i := by
  rw [hS.set (fun i k hi hk => hX.eps i k hi hk) (fun i hi => ((h.rd hX hc).rng i hi).1) i]
  exact silS_congr (fun _ _ _ _ => Iff.rfl) (fun k hk => by
    have := rd_set (X := X) (now := x) (c := c) (B := D) (D := 1001) (fun i k hi hk hx => hX.bd i c k hi hc hk hx) h.bd (by omega) (fun i hi => (h.rng i hi).1) k
    exact this) i
/-- a table in memory, with what else a call of alike asks -/
structure TM (w : World) (n gF b off cap : Nat) (X : Nat → Nat → Nat → Int) (F : Nat → Bool) : Prop where
  le : 1 ≤ n ∧ n ≤ 400
  cua : Cua w (.slice (some ⟨b, off, none⟩) n cap) n X
  fin : Bl w gF n F
  ok : TOk n X
theorem TM.then {w w' : World} {n gF b off cap : Nat} {X : Nat → Nat → Nat → Int} {F : Nat → Bool} (h : TM w n gF b off cap X F) (hb : Below w.heap.size w w') : TM w' n gF b off cap X F := ⟨h.le, h.cua.below hb, Blk.below h.fin hb (Blk.lt h.fin), h.ok⟩
end
section
open Go.RowKit Go.Shelf
attribute [local go_sem] Oper.semAt_some

/-- a bool that tells P -/
def TellP (P : Prop) (w : World) (e : Ending) (w' : World) : Prop := ∃ bv : Bool, e = .returned (.bool bv) ∧ (bv = true ↔ P) ∧ Below w.heap.size w w'

set_option maxRecDepth 8000 in
set_option maxHeartbeats 16000000 in
theorem alike_any : ∀ (k : Nat) (w : World) (n gF b off cap m gG b2 off2 cap2 gx gy : Nat) (X Y : Nat → Nat → Nat → Int) (F G : Nat → Bool) (x y : Nat → Int) (D : Int), TM w n gF b off cap X F → TM w m gG b2 off2 cap2 Y G → Il w gx n x → Il w gy m y → ROk n x D → ROk m y D → 0 ≤ D → D + 1001 * (k + 1) < 1073741824 →
    Calls Tryz.prog 41 #[agA (.slice (some ⟨b, off, none⟩) n cap) gF n, agA (.slice (some ⟨b2, off2, none⟩) m cap2) gG m, .slice (some ⟨gx, 0, none⟩) n n, .slice (some ⟨gy, 0, none⟩) m m, .int .i64 k] w (TellP (AlikeP n (posT X) F (posS n x) m (posT Y) G (posS m y) k) w) := by
  intro k
  induction k with
  | zero =>
    intro w n gF b off cap m gG b2 off2 cap2 gx gy X Y F G x y D hA hB hx hy hRx hRy hD0 hD
    have hn4 : n ≤ 400 := hA.le.2
    have hm4 : m ≤ 400 := hB.le.2
    obtain ⟨W, hW⟩ : ∃ W, (w.alloc (.cells #[.slice (some ⟨b, off, none⟩) n cap, .slice (some ⟨gF, 0, none⟩) n n] 49)).alloc (.cells #[.slice (some ⟨b2, off2, none⟩) m cap2, .slice (some ⟨gG, 0, none⟩) m m] 49) = W := ⟨_, rfl⟩
    have hBW : Below w.heap.size w W := by rw [← hW]; exact bthen (below1 _ _) (below1 _ _)
    have kA := show Blk W w.heap.size 49 #[.slice (some ⟨b, off, none⟩) n cap, .slice (some ⟨gF, 0, none⟩) n n] by rw [← hW]; exact (Blk.new w 49 _).alloc _
    have kB := show Blk W (w.heap.size + 1) 49 #[.slice (some ⟨b2, off2, none⟩) m cap2, .slice (some ⟨gG, 0, none⟩) m m] by rw [← hW]; have := Blk.new (w.alloc (.cells #[.slice (some ⟨b, off, none⟩) n cap, .slice (some ⟨gF, 0, none⟩) n n] 49)) 49 #[.slice (some ⟨b2, off2, none⟩) m cap2, .slice (some ⟨gG, 0, none⟩) m m]; rw [alloc_size] at this; exact this
    have hs1 := Lib.hid (fun (V : World) (hV : Below W.heap.size W V) => some_any V n gx gF b off cap x F hn4 (Blk.below (Blk.below hx hBW (Blk.lt hx)) hV (Blk.lt (Blk.below hx hBW (Blk.lt hx)))) ((hA.then hBW).then hV).fin)
    have hs2 := Lib.hid (fun (V : World) (hV : Below W.heap.size W V) => some_any V m gy gG b2 off2 cap2 y G hm4 (Blk.below (Blk.below hy hBW (Blk.lt hy)) hV (Blk.lt (Blk.below hy hBW (Blk.lt hy)))) ((hB.then hBW).then hV).fin)
    have hz := Lib.hid (alike_zero (n := n) (m := m) (x := x) (y := y) (X := X) (Y := Y) (F := F) (G := G))
    have c0 : W.cell? ⟨w.heap.size, 0, none⟩ = some (.slice (some ⟨b, off, none⟩) n cap) := kA.cell 0
    have c1 : W.cell? ⟨w.heap.size, 1, none⟩ = some (.slice (some ⟨gF, 0, none⟩) n n) := kA.cell 1
    replace hBW := Lib.hid hBW
    replace kA := Lib.hid kA
    replace kB := Lib.hid kB
    clear hA hB hx hy hRx hRy hD0 hD
    generalize someB n x = sx at *
    generalize finB n x F = fx at *
    generalize someB m y = sy at *
    generalize finB m y G = fy at *
    go_enter Tryz.func41, Tryz.ntmps41
    go_upto_region 2 with (go_at_call 68; refine (hs1.out W (Below.refl _ _)).mono ?_; rintro e w1 ⟨rfl, hb1⟩; clear c0 c1; have c0 := cell_below (kB.out.cell 0) hb1; have c1 := cell_below (kB.out.cell 1) hb1; replace hb1 := Lib.hid hb1)
    simp at c0 c1
    go_upto_region 3 with (go_at_call 68; refine (hs2.out w1 hb1.out).mono ?_; rintro e w2 ⟨rfl, hb2⟩; clear c0 c1; replace hb2 := Lib.hid hb2)
    have hfin := Lib.hid (bthen hBW.out (bthen hb1.out hb2.out))
    cases fx <;> cases fy
    all_goals
      go_wp2
      go_ret
      exact ⟨_, rfl, (by rw [hz.out]; try simp), hfin.out⟩
  | succ k ih =>
    intro w n gF b off cap m gG b2 off2 cap2 gx gy X Y F G x y D hA hB hx hy hRx hRy hD0 hD
    have hn := hA.le.1
    have hm := hB.le.1
    have hn4 : n ≤ 400 := hA.le.2
    have hm4 : m ≤ 400 := hB.le.2
    have hkJ : (k : Int) ≤ 1073741824 := by omega
    obtain ⟨W, hW⟩ : ∃ W, (w.alloc (.cells #[.slice (some ⟨b, off, none⟩) n cap, .slice (some ⟨gF, 0, none⟩) n n] 49)).alloc (.cells #[.slice (some ⟨b2, off2, none⟩) m cap2, .slice (some ⟨gG, 0, none⟩) m m] 49) = W := ⟨_, rfl⟩
    have hBW : Below w.heap.size w W := by rw [← hW]; exact bthen (below1 _ _) (below1 _ _)
    have kA := show Blk W w.heap.size 49 #[.slice (some ⟨b, off, none⟩) n cap, .slice (some ⟨gF, 0, none⟩) n n] by rw [← hW]; exact (Blk.new w 49 _).alloc _
    have kB := show Blk W (w.heap.size + 1) 49 #[.slice (some ⟨b2, off2, none⟩) m cap2, .slice (some ⟨gG, 0, none⟩) m m] by rw [← hW]; have := Blk.new (w.alloc (.cells #[.slice (some ⟨b, off, none⟩) n cap, .slice (some ⟨gF, 0, none⟩) n n] 49)) 49 #[.slice (some ⟨b2, off2, none⟩) m cap2, .slice (some ⟨gG, 0, none⟩) m m]; rw [alloc_size] at this; exact this
    have hs1 := Lib.hid (fun (V : World) (hV : Below W.heap.size W V) => some_any V n gx gF b off cap x F hn4 (Blk.below (Blk.below hx hBW (Blk.lt hx)) hV (Blk.lt (Blk.below hx hBW (Blk.lt hx)))) ((hA.then hBW).then hV).fin)
    have hs2 := Lib.hid (fun (V : World) (hV : Below W.heap.size W V) => some_any V m gy gG b2 off2 cap2 y G hm4 (Blk.below (Blk.below hy hBW (Blk.lt hy)) hV (Blk.lt (Blk.below hy hBW (Blk.lt hy)))) ((hB.then hBW).then hV).fin)
    have hz := Lib.hid (alike_zero (n := n) (m := m) (x := x) (y := y) (X := X) (Y := Y) (F := F) (G := G))
    have hno := Lib.hid (fun h1 h2 => alike_none (n := n) (m := m) (x := x) (y := y) (X := X) (Y := Y) (F := F) (G := G) h1 h2 (k + 1))
    have hsc := Lib.hid (alike_succ (n := n) (m := m) (X := X) (Y := Y) (F := F) (G := G) (S := posS n x) (T := posS m y) (k := k))
    have c0 : W.cell? ⟨w.heap.size, 0, none⟩ = some (.slice (some ⟨b, off, none⟩) n cap) := kA.cell 0
    have c1 : W.cell? ⟨w.heap.size, 1, none⟩ = some (.slice (some ⟨gF, 0, none⟩) n n) := kA.cell 1
    have hAW := Lib.hid (hA.then hBW)
    have hBBW := Lib.hid (hB.then hBW)
    have hxW := Lib.hid (Blk.below hx hBW (Blk.lt hx))
    have hyW := Lib.hid (Blk.below hy hBW (Blk.lt hy))
    -- the call for the next letter
    have hrec := Lib.hid (fun (V : World) (hV : Below W.heap.size W V) (c ga gb : Nat) (hc : c < 5) (cua cub : Nat → Int) (hSa : SilR n (fun i k => X i 5 k) (fun k => rd n (fun i k => X i c k) x k) cua) (hSb : SilR m (fun i k => Y i 5 k) (fun k => rd m (fun i k => Y i c k) y k) cub) (hIa : Il V ga n cua) (hIb : Il V gb m cub) =>
      (ih V n gF b off cap m gG b2 off2 cap2 ga gb X Y F G cua cub (D + 1001) ((hA.then hBW).then hV) ((hB.then hBW).then hV) hIa hIb ((hRx.rd hA.ok hc).sil hA.ok hSa) ((hRy.rd hB.ok hc).sil hB.ok hSb) (by omega) (by have : ((k + 1 : Nat) : Int) = k + 1 := (by omega); omega)).mono
        (R' := TellP (AlikeP n (posT X) F (nextS n X (posS n x) c) m (posT Y) G (nextS m Y (posS m y) c) k) V) fun e w' ⟨bv, h1, h2, h3⟩ => ⟨bv, h1, (h2.trans (alike_congr (fun i _ => next_set hRx (by omega) hA.ok hc hSa i) (fun i _ => next_set hRy (by omega) hB.ok hc hSb i) k)), h3⟩)
    have hreadA := Lib.hid (fun (V : World) (hV : Below W.heap.size W V) (c : Nat) (hc : c < 5) => read_any V n c gx gF (.slice (some ⟨b, off, none⟩) n cap) X x hn hn4 (by omega) ((hA.then hBW).then hV).cua (Blk.below (Blk.below hx hBW (Blk.lt hx)) hV (Blk.lt (Blk.below hx hBW (Blk.lt hx)))) (fun p q hp hq => hA.ok.rng p c q hp (by omega) hq) hRx.rng)
    have hreadB := Lib.hid (fun (V : World) (hV : Below W.heap.size W V) (c : Nat) (hc : c < 5) => read_any V m c gy gG (.slice (some ⟨b2, off2, none⟩) m cap2) Y y hm hm4 (by omega) ((hB.then hBW).then hV).cua (Blk.below (Blk.below hy hBW (Blk.lt hy)) hV (Blk.lt (Blk.below hy hBW (Blk.lt hy)))) (fun p q hp hq => hB.ok.rng p c q hp (by omega) hq) hRy.rng)
    have hsilA := Lib.hid (fun (V : World) (hV : Below W.heap.size W V) (c g : Nat) (hc : c < 5) (hg : W.heap.size ≤ g) (hI : Il V g n (fun k => rd n (fun i k => X i c k) x k)) => silent_any V W n g gF (.slice (some ⟨b, off, none⟩) n cap) X _ hn hn4 (hA.then hBW).cua (KeepC.below hV) hg hI (fun p q hp hq => hA.ok.rng p 5 q hp (by omega) hq) ((hRx.rd hA.ok hc).rng))
    have hsilB := Lib.hid (fun (V : World) (hV : Below W.heap.size W V) (c g : Nat) (hc : c < 5) (hg : W.heap.size ≤ g) (hI : Il V g m (fun k => rd m (fun i k => Y i c k) y k)) => silent_any V W m g gG (.slice (some ⟨b2, off2, none⟩) m cap2) Y _ hm hm4 (hB.then hBW).cua (KeepC.below hV) hg hI (fun p q hp hq => hB.ok.rng p 5 q hp (by omega) hq) ((hRy.rd hB.ok hc).rng))
    have hkI : (1 : Int) ≤ ((k + 1 : Nat) : Int) := by omega
    have hkm : ((k + 1 : Nat) : Int) - 1 = (k : Int) := by omega
    have hkz : (((k + 1 : Nat) : Int) == 0) = false := by simp; omega
    have hkb : ((k + 1 : Nat) : Int) ≤ 1073741824 := by omega
    generalize ((k + 1 : Nat) : Int) = kI at *
    replace hrec := hrec.out
    simp only [← hkm] at hrec
    replace hrec := Lib.hid hrec
    replace hkm := Lib.hid hkm
    replace hBW := Lib.hid hBW
    replace kA := Lib.hid kA
    replace kB := Lib.hid kB
    clear hA hB hx hy hRx hRy hD0 hD ih
    generalize hsx : someB n x = sx at *
    generalize hfx : finB n x F = fx at *
    generalize hsy : someB m y = sy at *
    generalize hfy : finB m y G = fy at *
    clear hsx hfx hsy hfy
    go_enter Tryz.func41, Tryz.ntmps41
    go_upto_region 2 with (go_at_call 68; refine (hs1.out W (Below.refl _ _)).mono ?_; rintro e w1 ⟨rfl, hb1⟩; clear c0 c1; have c0 := cell_below (kB.out.cell 0) hb1; have c1 := cell_below (kB.out.cell 1) hb1; replace hb1 := Lib.hid hb1)
    simp at c0 c1
    go_upto_region 3 with (go_at_call 68; refine (hs2.out w1 hb1.out).mono ?_; rintro e w2 ⟨rfl, hb2⟩; clear c0 c1; replace hb2 := Lib.hid hb2)
    have hw2 := Lib.hid (bthen hb1.out hb2.out)
    clear hs1 hs2
    by_cases hff : fx = fy
    case neg =>
      have hans := Lib.hid (show ¬ AlikeP n (posT X) F (posS n x) m (posT Y) G (posS m y) (k + 1) from fun h => hff (hz.out.1 (hsc.out.1 h).1))
      have hfin := Lib.hid (bthen hBW.out hw2.out)
      cases fx <;> cases fy
      · exact absurd rfl hff
      · clear hff
        go_wp2
        go_ret
        exact ⟨_, rfl, ⟨(fun h => by cases h), fun h => absurd h hans.out⟩, hfin.out⟩
      · clear hff
        go_wp2
        go_ret
        exact ⟨_, rfl, ⟨(fun h => by cases h), fun h => absurd h hans.out⟩, hfin.out⟩
      · exact absurd rfl hff
    subst hff
    have hz0 := Lib.hid (hz.out.2 rfl)
    by_cases hem : sx = false ∧ sy = false
    case pos =>
      obtain ⟨rfl, rfl⟩ := hem
      have hans := Lib.hid (hno.out rfl rfl)
      have hfin := Lib.hid (bthen hBW.out hw2.out)
      have hb0 : (fx != fx) = false := by cases fx <;> rfl
      cases fx
      all_goals
        go_wp2
        go_ret
        exact ⟨_, rfl, ⟨fun _ => hans.out, fun _ => rfl⟩, hfin.out⟩
    clear hno hz
    have hff0 : (fx != fx) = false := by cases fx <;> rfl
    go_upto_region 5 with (fail)
    clear hff0
    go_cut [40] from 31 to 40 (fun u40 wx => u40 = .bool false ∧ Hid (Below W.heap.size W wx))
    case first =>
      cases sx <;> cases sy
      · exact absurd ⟨rfl, rfl⟩ hem
      all_goals
        clear hem
        go_wp2
        go_meet
        exact ⟨rfl, hw2.out⟩
    case rest =>
    obtain ⟨rfl, hBv⟩ := hcut
    clear hem hw2 hb1 hb2
    go_wp2
    go_loopw [15] (fun c15 wr => ∃ c : Nat, c ≤ 5 ∧ c15 = .int .i64 (c : Int) ∧ Hid (∀ c', c' < c → AlikeP n (posT X) F (nextS n X (posS n x) c') m (posT Y) G (nextS m Y (posS m y) c') k) ∧ Hid (Below W.heap.size W wr)) (fun c15 _ => 5 - (intOf c15).toNat)
    case atStart => exact ⟨0, by omega, rfl, fun c' hc' => by omega, hBv.out⟩
    case round =>
      obtain ⟨c, hc, rfl, hdone, hBr⟩ := hrel
      by_cases hlt : c < 5
      case neg =>
        have hge : ¬ (c : Int) < 5 := by omega
        have hans := Lib.hid (show AlikeP n (posT X) F (posS n x) m (posT Y) G (posS m y) (k + 1) from hsc.out.2 ⟨hz0.out, fun c' hc' => hdone.out c' (by omega)⟩)
        have hfin := Lib.hid (bthen hBW.out hBr.out)
        go_wp2
        go_ret
        exact ⟨_, rfl, ⟨fun _ => hans.out, fun _ => rfl⟩, hfin.out⟩
      have hltI : (c : Int) < 5 := by omega
      go_upto_region 10 with (fail)
      go_cut [62] from 45 to 62 (fun u62 wx => ∃ bv : Bool, u62 = .bool (!bv) ∧ Hid (bv = true ↔ AlikeP n (posT X) F (nextS n X (posS n x) c) m (posT Y) G (nextS m Y (posS m y) c) k) ∧ Hid (Below W.heap.size W wx))
      case first =>
        have hkeep := Lib.hid (show ∀ V, Below W.heap.size W V → V.cell? ⟨w.heap.size, 0, none⟩ = some (.slice (some ⟨b, off, none⟩) n cap) ∧ V.cell? ⟨w.heap.size, 1, none⟩ = some (.slice (some ⟨gF, 0, none⟩) n n) ∧ V.cell? ⟨w.heap.size + 1, 0, none⟩ = some (.slice (some ⟨b2, off2, none⟩) m cap2) ∧ V.cell? ⟨w.heap.size + 1, 1, none⟩ = some (.slice (some ⟨gG, 0, none⟩) m m) from
          fun V hV => ⟨(cells2 kA.out hV).1, (cells2 kA.out hV).2, (cells2 kB.out hV).1, (cells2 kB.out hV).2⟩)
        have hB0 := Lib.hid (hBr.out.trans ((below_drew wr).mono hBr.out.size))
        have hwr : IntKind.i64.wrap (kI - 1) = kI - 1 := IntWalk.i64_in _ (by omega)
        go_region_held3 (fun V => V.cell? ⟨w.heap.size, 0, none⟩ = some (.slice (some ⟨b, off, none⟩) n cap) ∧ V.cell? ⟨w.heap.size, 1, none⟩ = some (.slice (some ⟨gF, 0, none⟩) n n) ∧ V.cell? ⟨w.heap.size + 1, 0, none⟩ = some (.slice (some ⟨b2, off2, none⟩) m cap2) ∧ V.cell? ⟨w.heap.size + 1, 1, none⟩ = some (.slice (some ⟨gG, 0, none⟩) m m))
          (exact hkeep.out _ (‹Hid (Below W.heap.size W _)›).out)
          (first
          | (go_at_call 42; with_reducible refine (hreadA.out _ (by exact (‹Hid (Below W.heap.size W _)›).out) c hlt).mono ?_; rintro e wA ⟨gA, rfl, hgA, hIA, hbA⟩; (try (have hne := Lib.hid (show gA ≠ gB from by have := Blk.lt hJB.out; omega))); (try (have hne := Lib.hid (show gA ≠ gB from by have := Blk.lt hIB.out; omega))); (try (replace hIB := Lib.hid (Blk.below hIB.out hbA (Blk.lt hIB.out)))); (try (replace hJB := Lib.hid (Blk.below hJB.out hbA (Blk.lt hJB.out)))); have hBA := Lib.hid (show Below W.heap.size W wA from bthen (by exact (‹Hid (Below W.heap.size W _)›).out) hbA); replace hgA := Lib.hid (show W.heap.size ≤ gA from Nat.le_trans (Below.size (‹Hid (Below W.heap.size W _)›).out) hgA); replace hIA := Lib.hid hIA; replace hbA := Lib.hid hbA)
          | (go_at_call 42; with_reducible refine (hreadB.out _ (by exact (‹Hid (Below W.heap.size W _)›).out) c hlt).mono ?_; rintro e wB ⟨gB, rfl, hgB, hIB, hbB⟩; (try (have hne := Lib.hid (show gA ≠ gB from by have := Blk.lt hJA.out; omega))); (try (have hne := Lib.hid (show gA ≠ gB from by have := Blk.lt hIA.out; omega))); (try (replace hIA := Lib.hid (Blk.below hIA.out hbB (Blk.lt hIA.out)))); (try (replace hJA := Lib.hid (Blk.below hJA.out hbB (Blk.lt hJA.out)))); have hBB := Lib.hid (show Below W.heap.size W wB from bthen (by exact (‹Hid (Below W.heap.size W _)›).out) hbB); replace hgB := Lib.hid (show W.heap.size ≤ gB from Nat.le_trans (Below.size (‹Hid (Below W.heap.size W _)›).out) hgB); replace hIB := Lib.hid hIB; replace hbB := Lib.hid hbB)
          | (go_at_call 67; with_reducible refine (hsilA.out _ (by exact (‹Hid (Below W.heap.size W _)›).out) c gA hlt hgA.out hIA.out).mono ?_; rintro e vA ⟨rfl, cuA, hSA, hJA, hxA, _⟩; (try (replace hIB := Lib.hid (Blk.bx hIB.out hxA (by simpa using hne.out.symm)))); (try (replace hJB := Lib.hid (Blk.bx hJB.out hxA (by simpa using hne.out.symm)))); have hCA := Lib.hid (show Below W.heap.size W vA from Below.trans (by exact (‹Hid (Below W.heap.size W _)›).out) (hxA.below (Below.size (by exact (‹Hid (Below W.heap.size W _)›).out)) (by simpa using hgA.out))); replace hSA := Lib.hid hSA; replace hJA := Lib.hid hJA; replace hxA := Lib.hid hxA; clear hIA)
          | (go_at_call 67; with_reducible refine (hsilB.out _ (by exact (‹Hid (Below W.heap.size W _)›).out) c gB hlt hgB.out hIB.out).mono ?_; rintro e vB ⟨rfl, cuB, hSB, hJB, hxB, _⟩; (try (replace hIA := Lib.hid (Blk.bx hIA.out hxB (by simpa using hne.out)))); (try (replace hJA := Lib.hid (Blk.bx hJA.out hxB (by simpa using hne.out)))); have hCB := Lib.hid (show Below W.heap.size W vB from Below.trans (by exact (‹Hid (Below W.heap.size W _)›).out) (hxB.below (Below.size (by exact (‹Hid (Below W.heap.size W _)›).out)) (by simpa using hgB.out))); replace hSB := Lib.hid hSB; replace hJB := Lib.hid hJB; replace hxB := Lib.hid hxB; clear hIB)
          | (go_at_call 41; refine (hrec.out _ (by exact (‹Hid (Below W.heap.size W _)›).out) c gA gB hlt cuA cuB hSA.out hSB.out hJA.out hJB.out).mono ?_; rintro e w9 ⟨bv, rfl, hbv, hb9⟩; have hbv := Lib.hid hbv; have hB9 := Lib.hid (show Below W.heap.size W w9 from bthen (by exact (‹Hid (Below W.heap.size W _)›).out) hb9); replace hb9 := Lib.hid hb9))
        all_goals
          go_wp2
          go_meet
          exact ⟨bv, rfl, hbv, hB9⟩
      case rest =>
        obtain ⟨bv, rfl, hbv, hBc⟩ := hcut
        cases bv with
        | false =>
          have hans := Lib.hid (show ¬ AlikeP n (posT X) F (posS n x) m (posT Y) G (posS m y) (k + 1) from fun h => by
            have := hbv.out.2 ((hsc.out.1 h).2 c hlt)
            cases this)
          have hfin := Lib.hid (bthen hBW.out hBc.out)
          go_wp2
          go_ret
          exact ⟨_, rfl, ⟨(fun h => by cases h), fun h => absurd h hans.out⟩, hfin.out⟩
        | true =>
          have hnew := Lib.hid (show ∀ c', c' < c + 1 → AlikeP n (posT X) F (nextS n X (posS n x) c') m (posT Y) G (nextS m Y (posS m y) c') k from fun c' hc' => by
            by_cases e : c' = c
            · subst e; exact hbv.out.1 rfl
            · exact hdone.out c' (by omega))
          go_wp2
          go_roundw
          case rel => exact ⟨c + 1, by omega, by go_num, hnew.out, hBc.out⟩
          case measure => simp [intOf]; omega
end
end Go.Proofs.YtaapnflhjbdmlaaGreatDoor
