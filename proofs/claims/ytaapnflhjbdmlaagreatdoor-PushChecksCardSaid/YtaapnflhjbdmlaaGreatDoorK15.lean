/- push.Endless. No condition. -/
import Derived.Test.YtaapnflhjbdmlaaGreatDoorKC
namespace Go.Proofs.YtaapnflhjbdmlaaGreatDoor
open Go.RowKit Go.Shelf
attribute [local go_sem] Oper.semAt_some

open Classical in
noncomputable def endlessB (l : List RuleB) (x : Int) (s : ByteArray) : Bool := decide (EndlessP (l.map RuleB.plain) x (cs s))

/-- the heads are heads in range -/
theorem HM.ok {R : List Rule} {p : Int} {w : List Int} {k : Nat} {a : Int} {m : Nat} {H : List Head} (h : HM R p w k a m H) (hw : Word w) (ha : w[k]? = some a) (hr : ∀ j q, Popped R p (w.take j) q → 0 ≤ q ∧ q < 5) : ∀ x ∈ H, HOk 5 x := by
  intro x hx
  rcases (h x).1 hx with ⟨j, b, _, h2, h3, h4⟩ | ⟨h1, h2, _, h4⟩
  · have hb := hw b (List.mem_of_getElem? h2)
    rw [← h4] at hb
    exact ⟨(hr _ _ h3).1, by have := (hr _ _ h3).2; omega, hb.1, hb.2⟩
  · have hb := hw a (List.mem_of_getElem? ha)
    rw [← h1] at hb
    exact ⟨h2, by have := (hr _ _ h4).2; omega, hb.1, hb.2⟩
theorem marks_nodup {w : World} {b : Nat} {H : List Head} (h : AMap hv w b (marks H)) : H.Nodup := by
  have := h.nodup
  unfold marks at this
  rwa [List.map_map, show ((fun x : Head × Value => x.1) ∘ fun h => (h, Value.bool true)) = id from rfl, List.map_id] at this
theorem VKeep.mono {xs ys : List Nat} {w w' : World} {v v' : Value} (h : VKeep xs w w' v v') (hs : ∀ x ∈ xs, x ∈ ys) : VKeep ys w w' v v' :=
  ⟨h.size, fun k hk h1 h2 => h.block k hk (fun hx => h1 (hs k hx)) h2, h.own, h.os, h.tape, h.output⟩
theorem VKeep.bx {xs ys : List Nat} {a b c : World} {u v : Value} (h : VKeep xs a b u v) (hb : BX ys b c) (hy : ∀ y ∈ ys, a.heap.size ≤ y) : VKeep xs a c u v :=
  ⟨Nat.le_trans h.size hb.size, fun k hk h1 h2 => (hb.block k (Nat.lt_of_lt_of_le hk h.size) (fun hm => by have := hy k hm; omega)).trans (h.block k hk h1 h2), h.own, hb.os.trans h.os, hb.tape.trans h.tape, hb.output.trans h.output⟩
theorem HSt.bx {w w' : World} {Bs Bh b lo : Nat} {v : Value} {H : List Head} {ys : List Nat} (h : HSt w Bs Bh b lo v H) (hb : BX ys w w') (hy : ∀ y ∈ ys, y ≠ Bs ∧ y ≠ Bh ∧ y ≠ b ∧ v.ownBlock ≠ some y) : HSt w' Bs Bh b lo v H := by
  refine ⟨h.seen.bx hb fun hm => (hy _ hm).1 rfl, h.map.of_block (hb.block b h.map.lt fun hm => (hy _ hm).2.2.1 rfl), h.var.bx hb fun hm => (hy _ hm).2.1 rfl, h.own.of_block fun g hg => hb.block g (h.own.lt g hg).2 fun hm => (hy _ hm).2.2.2 hg⟩

theorem ruleB_of {C : Int} {l : List RuleB} (h : sysB C l = true) {i : Nat} (hi : i < l.length) : 97 ≤ (rAt l i).top ∧ (rAt l i).top ≤ 101 ∧ Word (cs (rAt l i).put) := by
  obtain ⟨_, _, _, h4⟩ := sysB_iff.1 h
  have h5 := h4 i hi
  rw [rOk] at h5
  simp only [ruleB, Bool.and_eq_true, Bool.not_eq_true', decide_eq_false_iff_not] at h5
  obtain ⟨⟨⟨⟨⟨⟨_, _⟩, e⟩, f⟩, _⟩, k⟩, _⟩ := h5
  exact ⟨by omega, by omega, word_iff.1 k⟩
theorem rulesIn_of {C : Int} {l : List RuleB} (h : sysB C l = true) : RulesOk (C.toNat : Nat) (l.map RuleB.plain) ∧ RulesIn C.toNat (l.map RuleB.plain) := by
  have hr := rulesOk_of h
  obtain ⟨hC, _⟩ := sysB_iff.1 h
  have e : ((C.toNat : Nat) : Int) = C := by omega
  rw [e]
  refine ⟨hr, fun i r hi => ?_⟩
  obtain ⟨h1, h2, h3, h4, _⟩ := hr i r hi
  obtain ⟨hil, rfl⟩ := plain_get.1 hi
  obtain ⟨a, b, c⟩ := ruleB_of h hil
  exact ⟨h1, by omega, h3, by omega, a, b, c⟩
theorem star_ok {C : Nat} {R : List Rule} (hl : RulesOk C R) (hi : RulesIn C R) {a b : Head} (h : Star R a b) (ha : HOk C a) : HOk C b := by
  induction h with
  | refl => exact ha
  | step h1 _ ih => exact ih (follows_ok hl hi h1).2
theorem BX.of_grown' {w w' : World} {row : Option Nat} (h : w.grownBy w' row) : BX row.toList w w' :=
  ⟨h.os, h.tape, h.output, h.size, fun k hk hx => h.block k hk fun e => hx (by rw [← e]; simp)⟩

set_option maxRecDepth 8000 in
set_option maxHeartbeats 8000000 in
theorem Endless_ok (w : World) (C x : Int) (v : Value) (l : List RuleB) (s : ByteArray) (h : Rls w v l) (hs : ∀ r ∈ l, r.put.size ≤ 9223372036854775807) (hss : s.size ≤ 9223372036854775807) (he : allE C l [⟨x, s⟩] = 0) :
    Calls Tryz.prog 33 #[sv C v, cv ⟨x, s⟩] w fun e w' => e = .returned (.tuple #[.bool (endlessB l x s), .int .i64 0]) ∧ Below w.heap.size w w' := by
  obtain ⟨A, n, cap, rfl, hn⟩ := Els.shape h
  obtain ⟨W, hW⟩ : ∃ W, ((w.alloc (.cells #[.int .i64 C, .slice A n cap] 40)).alloc (.cells #[.int .i64 x, .string s] 60)).alloc (.cells #[.int .i64 x, .string s] 60) = W := ⟨_, rfl⟩
  have hBW : Below w.heap.size w W := by rw [← hW]; exact bthen (below1 _ _) (bthen (below1 _ _) (below1 _ _))
  have kS : Blk W w.heap.size 40 #[.int .i64 C, .slice A n cap] := by rw [← hW]; exact ((Blk.new w 40 _).alloc _).alloc _
  have kc : Blk W (w.heap.size + 1) 60 #[.int .i64 x, .string s] := by rw [← hW]; have := Blk.new (w.alloc (.cells #[.int .i64 C, .slice A n cap] 40)) 60 #[.int .i64 x, .string s]; rw [alloc_size] at this; exact this.alloc _
  have k4 : Blk W (w.heap.size + 1 + 1) 60 #[.int .i64 x, .string s] := by rw [← hW]; have := Blk.new ((w.alloc (.cells #[.int .i64 C, .slice A n cap] 40)).alloc (.cells #[.int .i64 x, .string s] 60)) 60 #[.int .i64 x, .string s]; rw [alloc_size, alloc_size] at this; exact this
  have H := checkAll_any W C (.slice A n cap) (.slice (some ⟨w.heap.size + 1 + 1, 0, none⟩) 1 1) l [⟨x, s⟩] (Els.then h hBW) (els_one (E := ElC) k4 rfl) hs (by simp; exact hss)
  rw [he] at H
  have hsys : sysB C l = true := by
    unfold allE at he
    split at he
    · assumption
    · cases he
  have hpr : properB C ⟨x, s⟩ = true := by
    unfold allE at he
    rw [if_pos hsys] at he
    split at he
    · rename_i h2; simpa using h2
    · cases he
  obtain ⟨hx0, hx, hwd, hs20⟩ := properB_iff.1 hpr
  dsimp only at hx0 hx hwd hs20
  obtain ⟨hC1, hC5, hl30, _⟩ := sysB_iff.1 hsys
  obtain ⟨xn, rfl⟩ : ∃ xn : Nat, x = (xn : Int) := ⟨x.toNat, by omega⟩
  have hx5 : xn < 5 := by omega
  have hx5' : (xn : Int) < 5 := by omega
  have c0 : W.cell? ⟨w.heap.size, 0, none⟩ = some (.int .i64 C) := kS.cell 0
  have c1 : W.cell? ⟨w.heap.size, 1, none⟩ = some (.slice A n cap) := kS.cell 1
  have c4 : W.cell? ⟨w.heap.size + 1, 0, none⟩ = some (.int .i64 (xn : Int)) := kc.cell 0
  have c5 : W.cell? ⟨w.heap.size + 1, 1, none⟩ = some (.string s) := kc.cell 1
  have hto := Lib.hid (to_mem hsys)
  have hput := Lib.hid (put2 hsys)
  replace H := Lib.hid H
  replace hsys := Lib.hid hsys
  replace hwd := Lib.hid hwd
  have hrW := Lib.hid (show Rls W (.slice A n cap) l from Els.then h hBW)
  replace hBW := Lib.hid hBW
  replace kS := Lib.hid kS
  replace kc := Lib.hid kc

  clear h hs hss he k4 hpr
  go_enter Tryz.func33, Tryz.ntmps33
  go_wp2
  go_step3
  go_upto_region 11 with (first
    | (go_at_call 46; refine H.out.mono ?_; rintro e w1 ⟨rfl, hb⟩; replace c0 := cell_below c0 hb; replace c1 := cell_below c1 hb; replace c4 := cell_below c4 hb; replace c5 := cell_below c5 hb; replace hb := Lib.hid hb; have c0a := fun o => cell_below c0 (below1 w1 o); have c1a := fun o => cell_below c1 (below1 w1 o); have hmk := makeMap70 w1)
    | (go_at_call 36; refine (saturate_any (w1.alloc (.map #[] 0)) C _ l w1.heap.size [] NoB [0, 1, 2, 3, 4] ((hrW.out.then hb.out).then (below1 _ _)) hsys.out (AMap.made mv w1) (inv_nil _) (fun k ⟨c, hc⟩ => by cases hc) hto.out (by simp)).mono ?_; rintro e w2 ⟨rfl, L, hS2, hcl, hX2⟩; have hS2 := Lib.hid hS2; have hcl := Lib.hid hcl; have hX2 := Lib.hid hX2)
    | (go_at_call 55; refine (sets_any w2 w1.heap.size L hS2.out.map (by have := hS2.out.len; rw [univ_len] at this; simp at this; omega)).mono ?_; rintro e w3 ⟨b2, rfl, hb2, hst2, hB3⟩; have hb2 := Lib.hid hb2; have hst2 := Lib.hid hst2; have hB3 := Lib.hid hB3; have hmk75 := makeMap75 ((w3.alloc (.cells #[.map (some b2)] 114)).alloc (.cells #[.slice none 0 0] 116))))
  obtain ⟨Z, hZ⟩ : ∃ Z, w3.heap.size = Z := ⟨_, rfl⟩
  obtain ⟨V, hV⟩ : ∃ V, ((((w3.alloc (.cells #[.map (some b2)] 114)).alloc (.cells #[.slice none 0 0] 116)).alloc (.map #[] 0)).alloc (.cells #[.map (some (w3.heap.size + 1 + 1))] 117)).alloc (.cells #[.bool false, .bool false, .bool false, .bool false, .bool false] 120) = V := ⟨_, rfl⟩
  have hB3V : Below w3.heap.size w3 V := by rw [← hV]; exact bthen (below1 _ _) (bthen (below1 _ _) (bthen (below1 _ _) (bthen (below1 _ _) (below1 _ _))))
  have kG : Blk V Z 114 #[.map (some b2)] := by rw [← hV, ← hZ]; exact ((((Blk.new w3 114 _).alloc _).alloc _).alloc _).alloc _
  have kH : Blk V (Z + 1) 116 #[.slice none 0 0] := by
    rw [← hV, ← hZ]
    have := Blk.new (w3.alloc (.cells #[.map (some b2)] 114)) 116 #[.slice none 0 0]
    rw [alloc_size] at this
    exact ((this.alloc _).alloc _).alloc _
  have kM : AMap hv V (Z + 1 + 1) [] := by
    rw [← hV, ← hZ]
    have := AMap.made hv ((w3.alloc (.cells #[.map (some b2)] 114)).alloc (.cells #[.slice none 0 0] 116))
    rw [alloc_size, alloc_size] at this
    exact (this.alloc _).alloc _
  have kB : Blk V (Z + 1 + 1 + 1) 117 #[.map (some (Z + 1 + 1))] := by
    rw [← hV, ← hZ]
    have := Blk.new (((w3.alloc (.cells #[.map (some b2)] 114)).alloc (.cells #[.slice none 0 0] 116)).alloc (.map #[] 0)) 117 #[.map (some (w3.heap.size + 1 + 1))]
    rw [alloc_size, alloc_size, alloc_size] at this
    exact this.alloc _
  have kN : Blk V (Z + 1 + 1 + 1 + 1) 120 (ctlA fun _ => false) := by
    rw [← hV, ← hZ]
    have := Blk.new ((((w3.alloc (.cells #[.map (some b2)] 114)).alloc (.cells #[.slice none 0 0] 116)).alloc (.map #[] 0)).alloc (.cells #[.map (some (w3.heap.size + 1 + 1))] 117)) 120 (ctlA fun _ => false)
    rw [alloc_size, alloc_size, alloc_size, alloc_size] at this
    exact this
  rw [hV, hZ]
  have hz12 : w1.heap.size < w2.heap.size := AMap.lt hS2.out.map
  have hBw3 : Below w1.heap.size w1 w3 := (((Below.refl _ _).alloc (Nat.le_refl _) _).trans (hX2.out.below (B := w1.heap.size) (by simp) (by simp))).trans (hB3.out.mono (by omega))
  clear hV hmk hmk75
  obtain ⟨f, hSI, hEk, hEl⟩ := hst2.out
  have hM : ∀ h, (f h).length ≤ 150 := fun h => by
    have h1 := hEl h
    have h2 := hS2.out.len
    rw [univ_len] at h2
    simp only [List.length_nil, List.length_cons] at h2
    omega
  have hfP : ∀ h q, q ∈ f h ↔ Pops (l.map RuleB.plain) h.1 h.2 q := fun h q => by rw [hEk, pops_key hS2.out.inv hcl.out]
  have hRok := rulesOk_of hsys.out
  have hBwV : Below w1.heap.size w1 V := hBw3.trans (hB3V.mono (by have := hBw3.size; omega))
  have e4 := cell_below c4 hBwV
  have e5 := cell_below c5 hBwV
  have n0 : V.cell? ⟨Z + 1 + 1 + 1 + 1, xn, none⟩ = some (.bool false) := by rw [kN.cell, ctlA_get _ hx5]
  have n1 := kN.free xn
  obtain ⟨V1, hV1⟩ : ∃ V1, V.setCell ⟨Z + 1 + 1 + 1 + 1, xn, none⟩ (.bool true) = V1 := ⟨_, rfl⟩
  have hzV : Z + 1 + 1 + 1 + 1 < V.heap.size := kN.lt
  have kN1 : Blk V1 (Z + 1 + 1 + 1 + 1) 120 (ctlA (at1 xn)) := by
    rw [← hV1]
    have := kN.set xn (.bool true)
    rw [ctlA_set _ hx5] at this
    exact this
  have hVk1 : VKeep [Z + 1 + 1, Z + 1, Z + 1 + 1 + 1 + 1] V V1 (.slice none 0 0) (.slice none 0 0) := by rw [← hV1]; exact .set _ _ (by simp) _
  have e5' : V1.cell? ⟨w.heap.size + 1, 1, none⟩ = some (.string s) := by
    rw [← hV1]
    have hlt5 : w.heap.size + 1 < w1.heap.size := lt_of_cell c5
    have : w.heap.size + 1 < Z := by have := hBw3.size; omega
    exact (World.cell?_of_block (w := V) (Below.heap_setCell _ _ _ _ (by show w.heap.size + 1 ≠ Z + 1 + 1 + 1 + 1; omega))).trans e5
  obtain ⟨W6, cp, hcv, hby, hB6⟩ := way_bytes V1 s
  have hzV1 : V1.heap.size = V.heap.size := by rw [← hV1]; simp
  have kG6 : Blk W6 Z 114 #[.map (some b2)] := (hVk1.blk kG (by simp; omega) (by simp [Value.ownBlock])).below hB6 (by rw [hzV1]; omega)
  have kN6 := kN1.below hB6 kN1.lt
  have hH6 : HSt W6 (Z + 1 + 1 + 1) (Z + 1) (Z + 1 + 1) Z (.slice none 0 0) [] := by
    refine HSt.then (w := V1) ⟨hVk1.blk kB (by simp; omega) (by simp [Value.ownBlock]), ?_, ?_, OwnE.nil _ _ _⟩ hB6
    · rw [← hV1]; exact kM.setCell _ _
    · rw [← hV1]; exact kH.far (by show Z + 1 ≠ Z + 1 + 1 + 1 + 1; omega) _
  have hB36 : Below Z w3 W6 := by
    have h1 : Below Z V V1 := hVk1.to_below (by omega) (by simp; omega) (by intro k e; cases e)
    rw [hZ] at hB3V
    exact (hB3V.trans h1).trans (hB6.mono (by omega))
  have hZ6 : Z + 1 + 1 + 1 + 1 < W6.heap.size := kN6.lt
  have hbb : V1.heap.size < W6.heap.size ∨ s.size = 0 := by
    by_cases h0 : s.size = 0
    · exact .inr h0
    · exact .inl (lt_of_cell (hby 0 (by omega)))
  have hzV1' : Z + 1 + 1 + 1 + 1 < V1.heap.size := by omega
  have hbZ : ∀ wr v, VKeep [Z + 1 + 1, Z + 1, Z + 1 + 1 + 1 + 1] W6 wr (.slice none 0 0) v → Below Z w3 wr := fun wr v hk => hB36.trans (hk.to_below (by omega) (by simp; omega) (by intro k e; cases e))
  have hw1Z : w1.heap.size ≤ Z := by have := hBw3.size; omega
  have hBw1 : Below w.heap.size w w1 := bthen hBW.out hb.out
  have hw01 : w.heap.size ≤ w1.heap.size := hBw1.size
  replace hbZ := Lib.hid hbZ
  replace hbb := Lib.hid hbb
  replace hby := Lib.hid hby
  replace hB6 := Lib.hid hB6
  replace kG6 := Lib.hid kG6
  replace kN6 := Lib.hid kN6
  replace hH6 := Lib.hid hH6
  replace hB36 := Lib.hid hB36
  replace hfP := Lib.hid hfP
  replace hM := Lib.hid hM
  replace hSI := Lib.hid hSI
  replace hRok := Lib.hid hRok
  replace hBw3 := Lib.hid hBw3
  replace hBw1 := Lib.hid hBw1
  replace hZ := Lib.hid hZ
  replace hzV1 := Lib.hid hzV1
  have hfin0 := Lib.hid (show (l.map RuleB.plain) = (l.map RuleB.plain) from rfl)
  clear hEk hEl hS2 hcl hst2 hBwV kG kH kM kB kN hVk1 hB3V kN1 c0a c1a hX2 hB3 hb2
  go_wp2
  clear hcv e4 e5 e5' n0 n1 hV1
  have hs64 : s.size ≤ 20 := hs20
  go_loopw [49] (fun c wr => ∃ (i : Nat) (H : List Head) (v : Value) (now : Nat → Bool), i ≤ s.size ∧ c = .int .i64 (i : Int) ∧ Hid (HSt wr (Z + 1 + 1 + 1) (Z + 1) (Z + 1 + 1) Z v H) ∧ Hid (HK (l.map RuleB.plain) xn (cs s) i H) ∧
    Hid (Blk wr (Z + 1 + 1 + 1 + 1) 120 (ctlA now)) ∧ Hid (∀ q : Nat, q < 5 → (now q = true ↔ Popped (l.map RuleB.plain) xn ((cs s).take i) (q : Int))) ∧ Hid (VKeep [Z + 1 + 1, Z + 1, Z + 1 + 1 + 1 + 1] W6 wr (.slice none 0 0) v)) (fun c _ => s.size - (intOf c).toNat)
  case atStart =>
    refine ⟨0, [], _, at1 xn, Nat.zero_le _, rfl, hH6, HK.zero _ _, kN6, fun q hq => ?_, VKeep.refl _ _ _⟩
    rw [List.take_zero, popped_nil]
    unfold at1
    simp only [decide_eq_true_eq]
    omega
  case round =>
    obtain ⟨i, H, v, now, hi, rfl, hst, hHK, kn, hnow, hvk⟩ := hrel
    by_cases hlt : i < s.size
    case neg =>
      obtain rfl : i = s.size := by omega
      have hHeads := HK.heads (w := cs s) (by rw [cs_length]; exact hHK.out)
      have hI0 : HInv (l.map RuleB.plain) xn (cs s) H 0 := ⟨fun h hh => (hHeads h).2 hh, fun h hh => ⟨h, (hHeads h).1 hh, .refl _⟩, fun j hj => by omega⟩
      replace hI0 := Lib.hid hI0
      have hCn : xn < C.toNat := by omega
      have hokH : ∀ H' k, HInv (l.map RuleB.plain) xn (cs s) H' k → ∀ x ∈ H', HOk C.toNat x := fun H' k hI x hx => by
        obtain ⟨h0, h1, h2⟩ := hI.reach x hx
        obtain ⟨r1, r2⟩ := rulesIn_of hsys.out
        exact star_ok r1 r2 h2 (heads_ok r1 ⟨by omega, by omega⟩ hwd.out h1)
      have hlenH : ∀ H' k w' b, HInv (l.map RuleB.plain) xn (cs s) H' k → AMap hv w' b (marks H') → H'.length ≤ 25 := fun H' k w' b hI hA => hok_len (C := C.toNat) (by omega) (marks_nodup hA) (hokH H' k hI)
      have hold : ∀ w' v', VKeep [Z + 1 + 1, Z + 1, Z + 1 + 1 + 1 + 1] W6 w' (.slice none 0 0) v' → w'.cell? ⟨w.heap.size, 0, none⟩ = some (.int .i64 C) ∧ w'.cell? ⟨w.heap.size, 1, none⟩ = some (.slice A n cap) ∧ w'.cell? ⟨Z, 0, none⟩ = some (.map (some b2)) ∧ Rls w' (.slice A n cap) l ∧ SInv w2.heap.size w' b2 f ∧ Below w.heap.size w w' := fun w' v' hk => by
        have hB := hbZ.out w' v' hk
        have h3 : Below w3.heap.size w3 w' := by rw [hZ.out]; exact hB
        have h1 := bthen hBw3.out h3
        exact ⟨cell_below c0 h1, cell_below c1 h1, (hk.blk kG6.out (by simp; omega) (by simp [Value.ownBlock])).cell 0, (hrW.out.then hb.out).then h1, hSI.out.then h3, bthen hBw1.out h1⟩
      have hfolM : ∀ h, (folL f l h).length ≤ 4530 := fun h => folL_len (M := 150) hM.out l h hl30
      have hfolI : ∀ h x, x ∈ folL f l h ↔ Follows (l.map RuleB.plain) h x := fun h x => folL_iff (fun y q => hfP.out y q) hput.out
      have hcallF : ∀ w' v' p t, VKeep [Z + 1 + 1, Z + 1, Z + 1 + 1 + 1 + 1] W6 w' (.slice none 0 0) v' → Calls Tryz.prog 57 #[hv (p, t), .pointer (some ⟨w.heap.size, 0, none⟩), .pointer (some ⟨Z, 0, none⟩)] w' fun e w'' => ∃ v', e = .returned v' ∧ OwnE ElH 102 w'.heap.size w'' v' (folL f l (p, t)) ∧ Below w'.heap.size w' w'' := fun w' v' p t hk => by
        obtain ⟨x1, x2, x3, x4, x5, _⟩ := hold w' v' hk
        exact follows_any w' C p t w.heap.size Z b2 w2.heap.size 150 A n cap l f x4 hl30 hput.out x1 x2 x3 x5 hM.out (by omega)
      replace hlenH := Lib.hid hlenH
      replace hold := Lib.hid hold
      replace hfolM := Lib.hid hfolM
      replace hfolI := Lib.hid hfolI
      replace hcallF := Lib.hid hcallF
      clear hHeads hokH hHK kn hnow c0 c1 c4 c5
      go_wp2
      go_step3
      go_wp2
      go_loopg [21, 22] 26 (fun k c21 c22 wr => ∃ (i : Nat) (H2 : List Head) (v2 : Value), k = 26 - i ∧ i ≤ H2.length ∧ H2.length ≤ 25 ∧ c21 = .bool false ∧ c22 = .int .i64 (i : Int) ∧ Hid (HSt wr (Z + 1 + 1 + 1) (Z + 1) (Z + 1 + 1) Z v2 H2) ∧
        Hid (HInv (l.map RuleB.plain) xn (cs s) H2 i) ∧ Hid (VKeep [Z + 1 + 1, Z + 1, Z + 1 + 1 + 1 + 1] W6 wr (.slice none 0 0) v2))
      case atStart => exact ⟨0, H, v, rfl, Nat.zero_le _, hlenH.out _ _ _ _ hI0.out hst.out.map, rfl, rfl, hst.out, hI0.out, hvk.out⟩
      case round =>
        rename_i J0 K0 ja ka
        have pj := PLift.up ja
        clear ja
        obtain ⟨i, H2, v2, rfl, hi, hH25, rfl, rfl, hst2, hI2, hvk2⟩ := hrel
        obtain ⟨Av, nv, cv', rfl, hnv⟩ := OwnE.shape hst2.out.own
        have g0 : wr.cell? ⟨Z + 1, 0, none⟩ = some (.slice Av nv cv') := hst2.out.var.cell 0
        have hnv1 : nv ≤ H2.length := Nat.le_of_eq hnv.out
        have hnv2 : H2.length ≤ nv := Nat.le_of_eq hnv.out.symm
        by_cases hlt : i < nv
        case neg =>
          have hno := Lib.hid (hI2.out.not (by omega))
          have hBf := Lib.hid (hold.out _ _ hvk2.out).2.2.2.2.2
          have hend := Lib.hid (show endlessB l xn s = false by unfold endlessB; simpa using hno.out)
          go_wp2
          rw [Exit.noGoto_ret]
          exact bodyPost_ret (v := .tuple #[.bool false, .int .i64 0]) (by simp [results, Tryz.results33, go_sem]) rfl ⟨by rw [hend.out], hBf.out⟩
        have hil : i < H2.length := by omega
        obtain ⟨bh, offh, rfl, hath⟩ := Els.cell hst2.out.own.els (by omega)
        have a0 := hath i hil 0 _ rfl
        have a1 := hath i hil 1 _ rfl
        have h1H : H2[i] ∈ H2 := List.getElem_mem hil
        have h1i : H2[i]? = some H2[i] := List.getElem?_eq_getElem hil
        clear hath
        generalize H2[i] = h1 at *
        obtain ⟨p1, t1⟩ := h1
        change wr.cell? ⟨bh, offh + i * 2 + 0, none⟩ = some (.int .i64 p1) at a0
        change wr.cell? ⟨bh, offh + i * 2 + 1, none⟩ = some (.int .u8 t1) at a1
        rw [Nat.add_zero] at a0
        have hcf := Lib.hid (hcallF.out wr _ p1 t1 hvk2.out)
        replace h1H := Lib.hid h1H
        replace h1i := Lib.hid h1i
        go_wp2_with (go_at_call 57; refine hcf.out.mono ?_; rintro e w5 ⟨v5, rfl, ho5, hB5⟩; obtain ⟨A5, n5, c5, rfl, hn5⟩ := OwnE.shape ho5; have hmk := makeMap75 w5; have ho5 := Lib.hid ho5; have hB5 := Lib.hid hB5)
        clear hmk a0 a1 g0
        have hwr6 : W6.heap.size ≤ wr.heap.size := hvk2.out.size
        obtain ⟨bM, hbM⟩ : ∃ bM, w5.heap.size = bM := ⟨_, rfl⟩
        have hvkm := (hvk2.out.below hB5.out).below (below1 w5 (.map #[] 0))
        have hstm := (hst2.out.then hB5.out).then (below1 w5 (.map #[] 0))
        have hom := (ho5.out.then (below1 w5 (.map #[] 0))).oo.lo_le hwr6
        have hAm := AMap.made hv w5
        have hdj : ∀ g, (Value.slice A5 n5 c5).ownBlock = some g → (Value.slice (some ⟨bh, offh, none⟩) nv cv').ownBlock ≠ some g := fun g hg e => by
          have h1 := (ho5.out.lt g hg).1
          have h2 := (hst2.out.own.lt g e).2
          omega
        have hwbM : wr.heap.size ≤ bM := by rw [← hbM]; exact hB5.out.size
        have hfl := hfolM.out (p1, t1)
        have hQ0 := Lib.hid (QInv.start (H := H2) (fun x => hfolI.out (p1, t1) x))
        rw [hbM] at hAm ⊢
        replace hvkm := Lib.hid hvkm
        replace hstm := Lib.hid hstm
        replace hom := Lib.hid hom
        replace hAm := Lib.hid hAm
        replace hdj := Lib.hid hdj
        have hlen0 := Lib.hid (show (125000 + (folL f l (p1, t1)).length) = (25 - ([] : List Head).length) * 5000 + (folL f l (p1, t1)).length from rfl)
        go_loopg [21, 23] (125000 + (folL f l (p1, t1)).length) (fun k c21 c23 wp => ∃ (Q S H3 : List Head) (v3 : Value), c21 = .bool false ∧ k = (25 - S.length) * 5000 + Q.length ∧ Q.length ≤ 4530 * (S.length + 1) ∧ S.length ≤ 25 ∧ H3.length ≤ 25 ∧ i < H3.length ∧ Hid (OwnO ElH 102 W6.heap.size wp c23 Q) ∧ Hid (AMap hv wp bM (marks S)) ∧
          Hid (HSt wp (Z + 1 + 1 + 1) (Z + 1) (Z + 1 + 1) Z v3 H3) ∧ Hid (HInv (l.map RuleB.plain) xn (cs s) H3 i) ∧ Hid (QInv (l.map RuleB.plain) (p1, t1) Q S H3) ∧ Hid (H3[i]? = some (p1, t1)) ∧ Hid (VKeep [Z + 1 + 1, Z + 1, Z + 1 + 1 + 1 + 1] W6 wp (.slice none 0 0) v3) ∧
          Hid (∀ g, c23.ownBlock = some g → v3.ownBlock ≠ some g))
        case atStart => exact ⟨_, [], H2, _, rfl, rfl, by simpa using hfl, by simp, hH25, hil, hom.out, hAm.out, hstm.out, hI2.out, hQ0.out, h1i.out, hvkm.out, hdj.out⟩
        case round =>
          rename_i J1 K1 jb kb
          have pj2 := PLift.up jb
          clear jb
          obtain ⟨Q, S, H3, v3, rfl, rfl, hQl, hSl, hH3, hiH, hoQ, hAS, hst3, hI3, hQ3, h13, hvk3, hdj3⟩ := hrel
          obtain ⟨Aq, nq, cq, rfl, hnq⟩ := OwnO.shape hoQ.out
          cases Q with
          | nil =>
            obtain rfl : nq = 0 := hnq.out
            have hIn := Lib.hid (hI3.out.next h13.out hQ3.out)
            go_wp2
            have jc := pj.down
            go_roundg (26 - (i + 1))
            case rel => exact ⟨i + 1, H3, v3, rfl, by omega, hH3, rfl, by go_num, hst3.out, hIn.out, hvk3.out⟩
            case measure => omega
          | cons h Q' =>
            obtain ⟨gq, offq, rfl, hnq', hncq, hcqm, hT1, hT2⟩ := hoQ.out.tail
            obtain ⟨p2, t2⟩ := h
            have hels := hoQ.out.els
            obtain ⟨_, _, e', hatq⟩ := Els.cell hels (by simp)
            cases e'
            have a0 := hatq 0 (by simp) 0 _ rfl
            have a1 := hatq 0 (by simp) 1 _ rfl
            change wr.cell? ⟨gq, offq + 0 * 2 + 0, none⟩ = some (.int .i64 p2) at a0
            change wr.cell? ⟨gq, offq + 0 * 2 + 1, none⟩ = some (.int .u8 t2) at a1
            simp only [Nat.zero_mul, Nat.add_zero] at a0 a1
            have hnq0 : 0 < nq := by omega
            have hnq1 : 1 ≤ nq := by omega
            have hnq0' : (0 : Int) < (nq : Int) := by omega
            have hnc1 : 1 ≤ cq := by omega
            unfold maxLen at hcqm
            obtain ⟨X, hX⟩ : ∃ X, wr.alloc (.cells #[.int .i64 p2, .int .u8 t2] 102) = X := ⟨_, rfl⟩
            have hBX : Below wr.heap.size wr X := by rw [← hX]; exact below1 _ _
            have k25 := Lib.hid (show Blk X wr.heap.size 102 #[.int .i64 p2, .int .u8 t2] by rw [← hX]; exact Blk.new _ _ _)
            replace hT1 := Lib.hid hT1
            replace hT2 := Lib.hid hT2
            clear hatq hels
            go_upto_region 38 with (fail)
            clear a0 a1
            go_cut [23] from 96 to 123 (fun u23 wx => wx = X ∧ Hid (∃ A' n' c', u23 = .slice A' n' c') ∧ Hid (OwnO ElH 102 W6.heap.size X u23 Q') ∧ Hid (∀ g, u23.ownBlock = some g → g = gq))
            case first =>
              by_cases hc1 : cq = 1
              · have hT := Lib.hid (hT1.out hc1)
                have hQn : Q'.length = 0 := by omega
                have hc1' : cq - 1 = 0 := by omega
                have hT' := hT.out
                rw [show Q'.length = nq - 1 by omega] at hT'
                replace hT' := Lib.hid hT'
                replace hc1 := Lib.hid hc1
                replace hnq' := Lib.hid hnq'
                go_wp2
                go_meet
                exact ⟨rfl, ⟨_, _, _, rfl⟩, hT'.out.then hBX, fun g hg => by cases hg; rfl⟩
              · have hT := Lib.hid (hT2.out hc1)
                go_wp2
                go_meet
                exact ⟨rfl, ⟨_, _, _, rfl⟩, hT.out.then hBX, fun g hg => by cases hg; rfl⟩
            case rest =>
              obtain ⟨rfl, ⟨A7, n7, c7, rfl⟩, hoQ7, hg7⟩ := hcut
              have hst7 := Lib.hid (hst3.out.then hBX)
              have hAS7 := Lib.hid (hAS.out.below hBX hAS.out.lt)
              have hvk7 := Lib.hid (hvk3.out.below hBX)
              have hgo := (hoQ.out.lt gq rfl)
              have hne3 := hdj3.out gq rfl
              have hlo3 : Z ≤ wc.heap.size := by have := hst7.out.var.lt; omega
              have hcall := Lib.hid (come_any wc (Z + 1 + 1 + 1) (Z + 1) (Z + 1 + 1) Z p2 t2 v3 H3 hst7.out (by omega) hlo3)
              have b0 := k25.out.cell 0
              have b1 := k25.out.cell 1
              simp at b0 b1
              have hvlt : ∀ g, v3.ownBlock = some g → g < wr.heap.size := fun g hg => (hst3.out.own.lt g hg).2
              have hZ1wr : Z + 1 < wr.heap.size := hst3.out.var.lt
              have h1n := Lib.hid ((getElem?_addH (h := ((p2, t2) : Head)) hiH).trans h13.out)
              have hIc := Lib.hid (hI3.out.come (by omega) (List.mem_of_getElem? h13.out) (hQ3.out.q _ List.mem_cons_self))
              replace hvlt := Lib.hid hvlt
              replace hne3 := Lib.hid hne3
              obtain ⟨Br, hBr⟩ : ∃ Br, wr.heap.size = Br := ⟨_, rfl⟩
              rw [hBr] at k25 hgo hvlt hZ1wr b0 b1 ⊢
              go_upto_region 40 with (go_at_call 56; refine hcall.out.mono ?_; rintro e w8 ⟨rfl, v8, hst8, hk8⟩; have hst8 := Lib.hid hst8; have hk8 := Lib.hid hk8)
              have k8 := hk8.out.blk k25.out (by simp; omega) (fun e => by have := hvlt.out _ e; omega)
              have d0 : w8.cell? ⟨Br, 0, none⟩ = some (.int .i64 p2) := k8.cell 0
              have d1 : w8.cell? ⟨Br, 1, none⟩ = some (.int .u8 t2) := k8.cell 1
              obtain ⟨A8, n8, c8, rfl, hn8⟩ := OwnE.shape hst8.out.own
              have d2 : w8.cell? ⟨Z + 1, 0, none⟩ = some (.slice A8 n8 c8) := hst8.out.var.cell 0
              have hi8 : i < (addH H3 (p2, t2)).length := Nat.lt_of_lt_of_le hiH (addH_len _ _)
              have hi8' : i < n8 := by rw [hn8.out]; exact hi8
              have hi8I : (i : Int) < (n8 : Int) := by omega
              obtain ⟨b8, off8, rfl, hat8⟩ := Els.cell hst8.out.own.els (by omega)
              have d3 := hat8 i hi8 0 _ rfl
              have d4 := hat8 i hi8 1 _ rfl
              have h1e : (addH H3 (p2, t2))[i] = (p1, t1) := by have := h1n.out; rw [List.getElem?_eq_getElem hi8] at this; exact Option.some.inj this
              rw [h1e] at d3 d4
              change w8.cell? ⟨b8, off8 + i * 2 + 0, none⟩ = some (.int .i64 p1) at d3
              change w8.cell? ⟨b8, off8 + i * 2 + 1, none⟩ = some (.int .u8 t1) at d4
              rw [Nat.add_zero] at d3
              have hQc := Lib.hid hQ3.out
              clear hat8 h1e b0 b1
              replace k8 := Lib.hid k8
              go_cut [112] from 96 to 123 (fun u112 wx => u112 = .bool (decide ((p2, t2) = ((p1, t1) : Head))) ∧ Hid (Below w8.heap.size w8 wx))
              case first =>
                by_cases hpq : p2 = p1
                · by_cases htq : t2 = t1
                  · have hdq := Lib.hid (show decide ((p2, t2) = ((p1, t1) : Head)) = true by simp [hpq, htq])
                    have hpq' : (p2 == p1) = true := by simpa using hpq
                    have htq' : (t2 == t1) = true := by simpa using htq
                    replace hpq := Lib.hid hpq
                    replace htq := Lib.hid htq
                    go_quiet (fail)
                    go_wp2
                    go_meet
                    exact ⟨by rw [hdq.out], below_drewN (Below.refl _ _) _⟩
                  · have hdq := Lib.hid (show decide ((p2, t2) = ((p1, t1) : Head)) = false by simp [htq])
                    have hpq' : (p2 == p1) = true := by simpa using hpq
                    have htq' : (t2 == t1) = false := by simpa using htq
                    replace hpq := Lib.hid hpq
                    replace htq := Lib.hid htq
                    go_quiet (fail)
                    go_wp2
                    go_meet
                    exact ⟨by rw [hdq.out], below_drewN (Below.refl _ _) _⟩
                · have hdq := Lib.hid (show decide ((p2, t2) = ((p1, t1) : Head)) = false by simp [hpq])
                  have hpq' : (p2 == p1) = false := by simpa using hpq
                  replace hpq := Lib.hid hpq
                  go_quiet (fail)
                  go_wp2
                  go_meet
                  exact ⟨by rw [hdq.out], below_drewN (Below.refl _ _) _⟩
              case rest =>
                obtain ⟨rfl, hBc⟩ := hcut
                have hvk8 := hvk7.out.trans (hk8.out.mono (ys := [Z + 1 + 1, Z + 1, Z + 1 + 1 + 1 + 1]) (by simp))
                have hvkc := Lib.hid (hvk8.below hBc.out)
                have hstc := Lib.hid (hst8.out.then hBc.out)
                have hH25' := hlenH.out _ _ _ _ hIc.out hst8.out.map
                clear d0 d1 d2 d3 d4
                by_cases heq : ((p2, t2) : Head) = (p1, t1)
                · have hdec : decide ((p2, t2) = ((p1, t1) : Head)) = true := by simpa using heq
                  have hyes : EndlessP (l.map RuleB.plain) xn (cs s) := hIc.out.yes (h := (p1, t1)) (List.mem_of_getElem? h1n.out) (by rw [← heq]; rw [← heq] at hQc; exact hQc.out.q _ List.mem_cons_self)
                  have hend := Lib.hid (show endlessB l xn s = true by unfold endlessB; simpa using hyes)
                  have hBf := Lib.hid (hold.out _ _ hvkc.out).2.2.2.2.2
                  rw [hdec]
                  clear hdec hyes
                  replace heq := Lib.hid heq
                  go_wp2
                  rw [Exit.noGoto_ret]
                  exact bodyPost_ret (v := .tuple #[.bool true, .int .i64 0]) (by simp [results, Tryz.results33, go_sem]) rfl ⟨by rw [hend.out], hBf.out⟩
                have hdec : decide ((p2, t2) = ((p1, t1) : Head)) = false := by simpa using heq
                rw [hdec]
                clear hdec
                replace heq := Lib.hid heq
                have hbMlt := hAS7.out.lt
                have hgq7 : ∀ g, (Value.slice A7 n7 c7).ownBlock = some g → g = gq := hg7.out
                have hoQ8 := Lib.hid ((hoQ7.out.of_block fun g hg => by
                  obtain rfl := hgq7 g hg
                  exact hk8.out.block _ (hoQ7.out.lt _ hg).2 (by simp; omega) hne3.out).then hBc.out)
                have hbMZ : Z + 1 + 1 + 1 + 1 < bM := by omega
                have hAS8 := Lib.hid ((hAS7.out.of_block (hk8.out.block bM hbMlt (by simp; omega) (hst7.out.own.ne_map hAS7.out))).below hBc.out (by have := hk8.out.size; omega))
                have k25c := Lib.hid (k8.out.below hBc.out k8.out.lt)
                have hdj8 : ∀ g, (Value.slice A7 n7 c7).ownBlock = some g → (Value.slice (some ⟨b8, off8, none⟩) n8 c8).ownBlock ≠ some g := fun g hg e => by
                  obtain rfl := hgq7 g hg
                  rcases hk8.out.own with h5 | ⟨g', h5, h6⟩
                  · exact hne3.out (h5.symm.trans e)
                  · rw [h5] at e
                    cases e
                    have := (hoQ7.out.lt _ hg).2
                    omega
                replace hdj8 := Lib.hid hdj8
                have e0 := k25c.out.cell 0
                have e1 := k25c.out.cell 1
                simp at e0 e1
                clear hgq7 hvk8 hk8 hne3
                by_cases hin : (p2, t2) ∈ S
                · have hget := Lib.hid (show (aget (marks S) (p2, t2)).getD (.bool false) = .bool true by rw [aget_marks, if_pos hin]; rfl)
                  have hQn := Lib.hid (hQc.out.skip hin)
                  replace hin := Lib.hid hin
                  go_wp2_with (at_lookup; refine wpList_lookup_a _ rfl (.tmp 113) (.tmp 114) 117 rfl 102 4 key77 Tryz.underlying117 (zero4 _) rfl hAS8.out (p2, t2) rfl _ hget.out ?_)
                  have jc := pj2.down
                  go_roundg ((25 - S.length) * 5000 + Q'.length)
                  case rel => exact ⟨Q', S, addH H3 (p2, t2), _, rfl, rfl, by simp only [List.length_cons] at hQl; omega, hSl, hH25', hi8, hoQ8.out, hAS8.out, hstc.out, hIc.out, hQn.out, h1n.out, hvkc.out, hdj8.out⟩
                  case measure => simp only [List.length_cons]; omega
                have hget := Lib.hid (show (aget (marks S) (p2, t2)).getD (.bool false) = .bool false by rw [aget_marks, if_neg hin]; rfl)
                have hput' := Lib.hid (aput_marks hin)
                have hQn := Lib.hid (hQc.out.more heq.out (F := folL f l (p2, t2)) (fun x => hfolI.out (p2, t2) x))
                replace hin := Lib.hid hin
                have hcF := Lib.hid (fun w9 (hk : VKeep [Z + 1 + 1, Z + 1, Z + 1 + 1 + 1 + 1] W6 w9 (.slice none 0 0) (.slice (some ⟨b8, off8, none⟩) n8 c8)) => hcallF.out w9 _ p2 t2 hk)
                have hneM : ∀ y ∈ [bM], y ≠ Z + 1 + 1 + 1 ∧ y ≠ Z + 1 ∧ y ≠ Z + 1 + 1 ∧ (Value.slice (some ⟨b8, off8, none⟩) n8 c8).ownBlock ≠ some y := fun y hy => by
                  simp only [List.mem_cons, List.not_mem_nil, or_false] at hy
                  subst hy
                  exact ⟨by omega, by omega, by omega, hstc.out.own.ne_map hAS8.out⟩
                replace hneM := Lib.hid hneM
                have hBrM : Br ≠ bM := fun e => (hAS8.out.ne_blk k25c.out) e.symm
                have hgM : ∀ g, (Value.slice A7 n7 c7).ownBlock = some g → g ≠ bM := fun g hg e => by
                  obtain ⟨cur, h5⟩ := hoQ8.out.cells g hg
                  obtain ⟨es, cl, h6, _⟩ := hAS8.out
                  rw [← e, h5] at h6
                  cases h6
                replace hgM := Lib.hid hgM
                have hW6c : W6.heap.size ≤ wc.heap.size := hvkc.out.size
                go_wp2_with (first
                  | (at_lookup; refine wpList_lookup_a _ rfl (.tmp 113) (.tmp 114) 117 rfl 102 4 key77 Tryz.underlying117 (zero4 _) rfl hAS8.out (p2, t2) rfl _ hget.out ?_)
                  | (at_mapUpdate; refine wpList_mapUpdate_a _ rfl (.tmp 117) (.tmp 118) (.const (.bool true)) 117 rfl 102 4 key77 Tryz.underlying117 rfl hAS8.out (p2, t2) rfl (.bool true) rfl ?_; intro w9 hA9 hg9 hs9; rw [hput'.out] at hA9; have hbx9 := BX.of_grown (xs := [bM]) hg9 (by simp); have k9 := k25c.out.bx hbx9 (by simp; omega); have hst9 := hstc.out.bx hbx9 hneM.out; have hvk9 := hvkc.out.bx hbx9 (by simp; omega); have hoQ9 := hoQ8.out.of_block (fun g hg => hbx9.block g (hoQ8.out.lt g hg).2 (by simp; exact hgM.out g hg)); have e0' := k9.cell 0; have e1' := k9.cell 1; simp at e0' e1'; have hcall9 := Lib.hid (hcF.out w9 hvk9); replace hA9 := Lib.hid hA9; replace hst9 := Lib.hid hst9; replace hvk9 := Lib.hid hvk9; replace hoQ9 := Lib.hid hoQ9; clear hg9 hs9 hbx9 k9)
                  | (go_at_call 57; refine hcall9.out.mono ?_; rintro e w10 ⟨v10, rfl, ho10, hB10⟩; obtain ⟨A10, n10, c10, rfl, hn10⟩ := OwnE.shape ho10; have hoQ10 := Lib.hid (hoQ9.out.then hB10); have hel10 := Lib.hid ho10.els; have hst10 := Lib.hid (hst9.out.then hB10); have hvk10 := Lib.hid (hvk9.out.below hB10); have hA10 := Lib.hid (hA9.out.below hB10 hA9.out.lt); clear ho10 hB10)
                  | (at_builtin; refine wpList_append_oo (E := ElH) _ rfl (.tmp 119) (.tmp 122) 116 rfl W6.heap.size Tryz.underlying116 info77 rfl rfl (by decide) (.slice A7 n7 c7) Q' rfl hoQ10.out (.slice A10 n10 c10) rfl (folL f l (p2, t2)) hel10.out ?_ ?_ ?_))
                · have := hfolM.out (p2, t2)
                  simp only [List.length_cons] at hQl
                  omega
                · exact hvk10.out.size
                intro v11 w11 ho11 hb11 hg11 hl11
                obtain ⟨A11, n11, c11, rfl, hn11⟩ := OwnO.shape ho11
                have hbx11 := BX.of_grown' hg11
                have hown : ∀ y ∈ (Value.slice A7 n7 c7).ownBlock.toList, (Value.slice A7 n7 c7).ownBlock = some y := fun y hy => by
                  cases ho : (Value.slice A7 n7 c7).ownBlock with
                  | none => rw [ho] at hy; simp at hy
                  | some z => rw [ho] at hy; simp at hy; rw [hy]
                have hneQ : ∀ y ∈ (Value.slice A7 n7 c7).ownBlock.toList, y ≠ Z + 1 + 1 + 1 ∧ y ≠ Z + 1 ∧ y ≠ Z + 1 + 1 ∧ (Value.slice (some ⟨b8, off8, none⟩) n8 c8).ownBlock ≠ some y := fun y hy => by
                  have h1 := hown y hy
                  have h2 := (hoQ10.out.lt y h1).1
                  exact ⟨by omega, by omega, by omega, hdj8.out y h1⟩
                have hst11 := Lib.hid (hst10.out.bx hbx11 hneQ)
                have hvk11 := Lib.hid (hvk10.out.bx hbx11 (fun y hy => (hoQ10.out.lt y (hown y hy)).1))
                have hA11 := Lib.hid (hA10.out.kept hg11 (fun e => hgM.out bM e.symm rfl))
                have hdj11 : ∀ g, (Value.slice A11 n11 c11).ownBlock = some g → (Value.slice (some ⟨b8, off8, none⟩) n8 c8).ownBlock ≠ some g := fun g hg => by
                  rcases hl11 with h5 | h5
                  · exact hdj8.out g (h5.symm.trans hg)
                  · rw [h5] at hg
                    cases hg
                    intro e
                    have := (hst10.out.own.lt _ e).2
                    omega
                replace hdj11 := Lib.hid hdj11
                replace ho11 := Lib.hid ho11
                have hSn : (S ++ [(p2, t2)]).length ≤ 25 := Nat.le_trans (nodup_len (marks_nodup hA9.out) fun x hx => (hQn.out.s x hx).2.2) hH25'
                simp only [List.length_append, List.length_cons, List.length_nil] at hSn
                have hFl := hfolM.out (p2, t2)
                clear hb11 hg11 hl11 hbx11 hown hneQ
                (try go_frame)
                go_wp2
                have jc := pj2.down
                go_roundg ((25 - (S ++ [(p2, t2)]).length) * 5000 + (Q' ++ folL f l (p2, t2)).length)
                case rel => exact ⟨Q' ++ folL f l (p2, t2), S ++ [(p2, t2)], addH H3 (p2, t2), _, rfl, rfl, by simp only [List.length_cons, List.length_append, List.length_nil] at hQl ⊢; omega, by simp only [List.length_append, List.length_cons, List.length_nil]; omega, hH25', hi8, ho11.out, hA11.out, hst11.out, hIc.out, hQn.out, h1n.out, hvk11.out, hdj11.out⟩
                case measure => simp only [List.length_cons, List.length_append, List.length_nil]; omega
    have hbi : wr.cell? ⟨V1.heap.size, i, none⟩ = some (.int .u8 (ch s i)) := (World.cell?_of_block (w := W6) (hvk.out.block _ (by rcases hbb.out with h | h; exact h; omega) (by simp; omega) (by simp [Value.ownBlock]))).trans (hby.out i hlt)
    have q0 : ∀ o, (wr.alloc o).cell? ⟨Z + 1 + 1 + 1 + 1, 0, none⟩ = some (.bool (now 0)) := fun o => (kn.out.alloc o).cell 0
    have q1 : ∀ o, (wr.alloc o).cell? ⟨Z + 1 + 1 + 1 + 1, 1, none⟩ = some (.bool (now 1)) := fun o => (kn.out.alloc o).cell 1
    have q2 : ∀ o, (wr.alloc o).cell? ⟨Z + 1 + 1 + 1 + 1, 2, none⟩ = some (.bool (now 2)) := fun o => (kn.out.alloc o).cell 2
    have q3 : ∀ o, (wr.alloc o).cell? ⟨Z + 1 + 1 + 1 + 1, 3, none⟩ = some (.bool (now 3)) := fun o => (kn.out.alloc o).cell 3
    have q4 : ∀ o, (wr.alloc o).cell? ⟨Z + 1 + 1 + 1 + 1, 4, none⟩ = some (.bool (now 4)) := fun o => (kn.out.alloc o).cell 4
    have hlet : (cs s)[i]? = some (ch s i) := cs_at hlt
    replace hlet := Lib.hid hlet
    generalize ch s i = a at *
    go_wp2
    clear q0 q1 q2 q3 q4
    obtain ⟨X, hX⟩ : ∃ X, wr.alloc (.cells #[.bool false, .bool false, .bool false, .bool false, .bool false] 120) = X := ⟨_, rfl⟩
    have hBX : Below wr.heap.size wr X := by rw [← hX]; exact below1 _ _
    have kx : Blk X wr.heap.size 120 (ctlA fun _ => false) := by rw [← hX]; exact Blk.new _ _ _
    have knX := kn.out.below hBX kn.out.lt
    rw [hX]
    clear hX
    have hrng : ∀ j q, Popped (l.map RuleB.plain) xn ((cs s).take j) q → 0 ≤ q ∧ q < 5 := fun j q h => popped_range hRok.out hC5 ⟨by omega, by omega⟩ h
    have hst0 := Lib.hid (hst.out.then hBX)
    have hvk0 := Lib.hid (hvk.out.below hBX)
    have hHM0 := Lib.hid (HM.zero (a := a) hHK.out)
    have hwr6 : W6.heap.size ≤ wr.heap.size := hvk.out.size
    have hZwr : Z + 1 + 1 + 1 + 1 < wr.heap.size := kn.out.lt
    replace hrng := Lib.hid hrng
    replace knX := Lib.hid knX
    replace kx := Lib.hid kx
    clear hst hvk hHK kn hBX
    obtain ⟨Bx, hBx⟩ : ∃ Bx, wr.heap.size = Bx := ⟨_, rfl⟩
    rw [hBx] at kx hwr6 hZwr ⊢
    go_loopw [55] (fun c wp => ∃ (m : Nat) (H2 : List Head) (v2 : Value) (g : Nat → Bool), m ≤ 5 ∧ c = .int .i64 (m : Int) ∧ Hid (HSt wp (Z + 1 + 1 + 1) (Z + 1) (Z + 1 + 1) Z v2 H2) ∧ Hid (HM (l.map RuleB.plain) xn (cs s) i a m H2) ∧
      Hid (Blk wp (Z + 1 + 1 + 1 + 1) 120 (ctlA now)) ∧ Hid (Blk wp Bx 120 (ctlA g)) ∧ Hid (NX (l.map RuleB.plain) xn (cs s) i a m g) ∧ Hid (VKeep [Z + 1 + 1, Z + 1, Z + 1 + 1 + 1 + 1] W6 wp (.slice none 0 0) v2)) (fun c _ => 5 - (intOf c).toNat)
    case atStart => exact ⟨0, H, v, _, by omega, rfl, hst0, hHM0, knX, kx, NX.zero _ _ _ _, hvk0⟩
    case round =>
      obtain ⟨m, H2, v2, g, hm, rfl, hst2, hHM, kn2, kx2, hNX, hvk2⟩ := hrel
      by_cases hm5 : m < 5
      case neg =>
        obtain rfl : m = 5 := by omega
        have hdn := Lib.hid (hHM.out.done hlet.out (hrng.out i))
        have hnx := Lib.hid (hNX.out.done hlet.out (hrng.out i))
        have z0 := kx2.out.cell 0
        have z1 := kx2.out.cell 1
        have z2 := kx2.out.cell 2
        have z3 := kx2.out.cell 3
        have z4 := kx2.out.cell 4
        have y0 := kn2.out.cell 0
        have y1 := kn2.out.cell 1
        have y2 := kn2.out.cell 2
        have y3 := kn2.out.cell 3
        have y4 := kn2.out.cell 4
        have f0 := kn2.out.free 0
        have f1 := kn2.out.free 1
        have f2 := kn2.out.free 2
        have f3 := kn2.out.free 3
        have f4 := kn2.out.free 4
        simp at z0 z1 z2 z3 z4 y0 y1 y2 y3 y4
        go_wp2
        clear z0 z1 z2 z3 z4 y0 y1 y2 y3 y4 f0 f1 f2 f3 f4
        have hbx : ∀ u0 u1 u2 u3 u4, BX [Z + 1 + 1 + 1 + 1] wr (((((wr.setCell ⟨Z + 1 + 1 + 1 + 1, 0, none⟩ u0).setCell ⟨Z + 1 + 1 + 1 + 1, 1, none⟩ u1).setCell ⟨Z + 1 + 1 + 1 + 1, 2, none⟩ u2).setCell ⟨Z + 1 + 1 + 1 + 1, 3, none⟩ u3).setCell ⟨Z + 1 + 1 + 1 + 1, 4, none⟩ u4) := fun u0 u1 u2 u3 u4 =>
          (((((BX.refl _ wr).set (by simp) u0).set (by simp) u1).set (by simp) u2).set (by simp) u3).set (by simp) u4
        have hkn := ((((kn2.out.set 0 (.bool (g 0))).set 1 (.bool (g 1))).set 2 (.bool (g 2))).set 3 (.bool (g 3))).set 4 (.bool (g 4))
        have hne2 := hst2.out.own.ne_blk kn2.out (by decide)
        have hvs : ∀ u0 u1 u2 u3 u4, VKeep [Z + 1 + 1, Z + 1, Z + 1 + 1 + 1 + 1] wr (((((wr.setCell ⟨Z + 1 + 1 + 1 + 1, 0, none⟩ u0).setCell ⟨Z + 1 + 1 + 1 + 1, 1, none⟩ u1).setCell ⟨Z + 1 + 1 + 1 + 1, 2, none⟩ u2).setCell ⟨Z + 1 + 1 + 1 + 1, 3, none⟩ u3).setCell ⟨Z + 1 + 1 + 1 + 1, 4, none⟩ u4) v2 v2 := fun u0 u1 u2 u3 u4 =>
          ((((VKeep.set wr v2 (by simp) u0).trans (.set _ v2 (by simp) u1)).trans (.set _ v2 (by simp) u2)).trans (.set _ v2 (by simp) u3)).trans (.set _ v2 (by simp) u4)
        go_roundw
        case rel =>
          refine ⟨i + 1, H2, v2, g, by omega, by go_num, hst2.out.bx (hbx _ _ _ _ _) (fun y hy => ?_), hdn.out, ?_, hnx.out, hvk2.out.trans (hvs _ _ _ _ _)⟩
          · simp only [List.mem_cons, List.not_mem_nil, or_false] at hy
            subst hy
            exact ⟨by omega, by omega, by omega, hne2⟩
          · show Blk _ _ _ _
            simpa using hkn
        case measure => simp [intOf]; omega
      have hidx := fun w' => index80 w' now hm5
      have hnm := hnow.out m hm5
      have hm5' : (m : Int) < 5 := by omega
      cases hnv : now m with
      | false =>
        have hnp : ¬ Popped (l.map RuleB.plain) xn ((cs s).take i) (m : Int) := fun hp => by rw [hnm.2 hp] at hnv; cases hnv
        have hHM2 := Lib.hid (hHM.out.skip hnp)
        have hNX2 := Lib.hid (hNX.out.skip hnp)
        rw [hnv] at hidx
        clear hnm hnp
        replace hnv := Lib.hid hnv
        go_wp2
        go_roundw
        case rel => exact ⟨m + 1, H2, v2, g, by omega, by go_num, hst2.out, hHM2.out, kn2.out, kx2.out, hNX2.out, hvk2.out⟩
        case measure => simp [intOf]; omega
      | true =>
        have hp := hnm.1 hnv
        have hHM2 := Lib.hid (hHM.out.come hp)
        have hwdo := hwd.out
        have hlen2 := Lib.hid (hok_len (C := 5) (by omega) (marks_nodup hst2.out.map) (hHM.out.ok hwdo hlet.out hrng.out))
        have hpp := Lib.hid hp
        rw [hnv] at hidx
        have hcall := Lib.hid (come_any wr (Z + 1 + 1 + 1) (Z + 1) (Z + 1 + 1) Z m a v2 H2 hst2.out (by have := hlen2.out; omega) (by have := hst2.out.var.lt; omega))
        obtain ⟨Aq, nq, cq, hlk, hoq⟩ := hSI.out.look ((m : Int), a)
        have hnq := Lib.hid (Els.len hoq.els).1
        have hnq2 : nq ≤ 150 := by have := hM.out ((m : Int), a); have := hnq.out; omega
        replace hoq := Lib.hid hoq
        replace hlk := Lib.hid hlk
        clear hnm hp hwdo
        replace hnv := Lib.hid hnv
        go_wp2_with (go_at_call 56; refine hcall.out.mono ?_; rintro e w5 ⟨rfl, v5, hst5, hk5⟩; have hk6 := hvk2.out.trans (hk5.mono (ys := [Z + 1 + 1, Z + 1, Z + 1 + 1 + 1 + 1]) (by simp)); have d0 : w5.cell? ⟨Z, 0, none⟩ = some (.map (some b2)) := (hk6.blk kG6.out (by simp; omega) (by simp [Value.ownBlock])).cell 0; have d1 := hlk.out w5 ((hbZ.out _ _ hk6).block b2 (by have := hSI.out.lt; have := hZ.out; omega)); have hst5 := Lib.hid hst5; have hk5 := Lib.hid hk5; have hk6 := Lib.hid hk6)
        have hnB := hst2.out.own.ne_blk kx2.out (by decide)
        have hnN := hst2.out.own.ne_blk kn2.out (by decide)
        have kx5 := Lib.hid (hk5.out.blk kx2.out (by simp; omega) hnB)
        have kn5 := Lib.hid (hk5.out.blk kn2.out (by simp; omega) hnN)
        replace hnB := Lib.hid hnB
        replace hnN := Lib.hid hnN
        clear d0 d1 hcall hidx
        go_loopw [72] (fun c wp => ∃ (j : Nat) (g3 : Nat → Bool), j ≤ nq ∧ c = .int .i64 (j : Int) ∧ Hid (Blk wp Bx 120 (ctlA g3)) ∧ Hid (∀ q : Nat, q < 5 → (g3 q = true ↔ g q = true ∨ (q : Int) ∈ (f ((m : Int), a)).take j)) ∧ Hid (BX [Bx] w5 wp)) (fun c _ => nq - (intOf c).toNat)
        case atStart => exact ⟨0, g, Nat.zero_le _, rfl, kx5, fun q hq => by simp, BX.refl _ _⟩
        case round =>
          obtain ⟨j, g3, hj, rfl, kx6, hg3, hbx⟩ := hrel
          by_cases hjl : j < nq
          case neg =>
            obtain rfl : j = nq := by omega
            have htk : (f ((m : Int), a)).take j = f ((m : Int), a) := List.take_of_length_le (by have := hnq.out; omega)
            have hNX2 := Lib.hid (hNX.out.add hpp.out (g' := g3) fun q hq => by rw [hg3.out q hq, htk, hfP.out])
            have hneBx : ∀ y ∈ [Bx], y ≠ Z + 1 + 1 + 1 ∧ y ≠ Z + 1 ∧ y ≠ Z + 1 + 1 ∧ v5.ownBlock ≠ some y := fun y hy => by
              simp only [List.mem_cons, List.not_mem_nil, or_false] at hy
              subst hy
              exact ⟨by omega, by omega, by omega, hst5.out.own.ne_blk kx5.out (by decide)⟩
            have hst7 := Lib.hid (hst5.out.bx hbx.out hneBx)
            have hk7 := Lib.hid (hk6.out.bx hbx.out (by simp; omega))
            have kn7 := Lib.hid (kn5.out.bx hbx.out (by simp; omega))
            clear htk hneBx
            go_wp2
            go_roundw
            case rel => exact ⟨m + 1, addH H2 ((m : Int), a), v5, g3, by omega, by go_num, hst7.out, hHM2.out, kn7.out, kx6.out, hNX2.out, hk7.out⟩
            case measure => simp [intOf]; omega
          have hjl2 : j < (f ((m : Int), a)).length := by have := hnq.out; omega
          have hk7 := hk6.out.bx hbx.out (by simp; omega)
          have hEl := (hoq.out.els.then (w' := wr) (by rw [hZ.out]; exact hbZ.out _ _ hk7))
          obtain ⟨bq, offq, rfl, hatq⟩ := Els.cell hEl (by omega)
          have eq := hatq j hjl2 0 _ rfl
          have htk : (f ((m : Int), a)).take (j + 1) = (f ((m : Int), a)).take j ++ [(f ((m : Int), a))[j]] := List.take_succ_eq_append_getElem hjl2
          have hqm : (f ((m : Int), a))[j] ∈ f ((m : Int), a) := List.getElem_mem hjl2
          have hqr := (pops_lt hRok.out ((hfP.out _ _).1 hqm)).2
          clear hatq hEl hqm hk7
          generalize (f ((m : Int), a))[j] = q at *
          replace eq : wr.cell? ⟨bq, offq + j, none⟩ = some (.int .i64 q) := by simpa [ElI] using eq
          obtain ⟨qn, rfl⟩ : ∃ qn : Nat, q = (qn : Int) := ⟨q.toNat, by omega⟩
          have hq5 : qn < 5 := by omega
          have hq5' : (qn : Int) < 5 := by omega
          have b0 : wr.cell? ⟨Bx, qn, none⟩ = some (.bool (g3 qn)) := by rw [kx6.out.cell, ctlA_get _ hq5]
          have b1 := kx6.out.free qn
          have hset := Lib.hid (show (ctlA g3).setIfInBounds qn (.bool true) = ctlA (fun q => g3 q || decide (q = qn)) from ctlA_set _ hq5)
          have hg4 := Lib.hid (show ∀ q : Nat, q < 5 → ((fun q => g3 q || decide (q = qn)) q = true ↔ g q = true ∨ (q : Int) ∈ (f ((m : Int), a)).take (j + 1)) from fun q hq => by
            rw [htk]
            simp only [Bool.or_eq_true, hg3.out q hq, decide_eq_true_eq, List.mem_append, List.mem_cons, List.not_mem_nil, or_false]
            constructor
            · rintro ((h | h) | h)
              · exact .inl h
              · exact .inr (.inl h)
              · exact .inr (.inr (by omega))
            · rintro (h | h | h)
              · exact .inl (.inl h)
              · exact .inl (.inr h)
              · exact .inr (by omega))
          clear htk hqr
          go_wp2
          go_roundw
          case rel =>
            refine ⟨j + 1, fun q => g3 q || decide (q = qn), by omega, by go_num, ?_, hg4.out, hbx.out.set (by simp) _⟩
            show Blk _ _ _ _
            rw [← hset.out]
            exact kx6.out.set _ _
          case measure => simp [intOf]; omega
end Go.Proofs.YtaapnflhjbdmlaaGreatDoor
