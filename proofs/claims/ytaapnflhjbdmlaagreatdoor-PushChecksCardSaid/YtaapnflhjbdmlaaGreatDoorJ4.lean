/- way. No condition. -/
import Derived.Test.YtaapnflhjbdmlaaGreatDoorJ3
import Derived.Lib.ConvBytes
namespace Go.Proofs.YtaapnflhjbdmlaaGreatDoor
open Go.RowKit Go.Shelf
attribute [local go_sem] Oper.semAt_some

theorem SetsOk.then {lo : Nat} {w w' : World} {b2 : Nat} {L : List (Key × Cost)} (h : SetsOk lo w b2 L) (hb : Below w.heap.size w w') : SetsOk lo w' b2 L := by
  obtain ⟨f, ⟨S, hA, hf, hd⟩, hm⟩ := h
  refine ⟨f, ⟨S, hA.below hb hA.lt, fun x => ?_, hd⟩, hm⟩
  rcases hf x with h1 | ⟨v, h1, h2, h3⟩
  · exact .inl h1
  · exact .inr ⟨v, h1, h2, h3.then hb⟩
theorem JustOk.inv' {C p0 : Int} {s : ByteArray} {L : List (Key × Cost)} (h : JustOk C p0 s s.size L) : ∀ k, (∃ c, cget L k = some c) → k.2.2 ∈ (List.range s.size).map (fun (i : Nat) => C + (i : Int)) := by
  rintro k ⟨c, hk⟩
  obtain ⟨_, j, hj, rfl⟩ := (h.2 k c).1 hk
  exact List.mem_map.2 ⟨j, by simpa using hj, rfl⟩

theorem AIter.apart_r {κ : Type} {ke : κ → Value} {w : World} {b r : Nat} {l left : List (κ × Value)} (h : AIter ke w b r l left) {p : Addr} {c : Value} (hc : w.cell? p = some c) : p.block ≠ r := by
  rintro rfl
  obtain ⟨_, _, _, _, _, _, _, _, _, _, h6, _⟩ := h
  unfold World.cell? at hc
  rw [h6] at hc
  cases hc
theorem way_bytes (V : World) (s : ByteArray) : ∃ W6 cp, (convert 9 121 (.string s)).run Tryz.prog V = .ok (.slice (some ⟨V.heap.size, 0, none⟩) s.size cp) W6 ∧ (∀ j, j < s.size → W6.cell? ⟨V.heap.size, j, none⟩ = some (.int .u8 (ch s j))) ∧ Below V.heap.size V W6 := by
  refine ⟨_, _, Lib.run_convert_string_bytes V 9 121 5 s Tryz.underlying9 Tryz.underlying121 Tryz.underlying5, fun j hj => ?_, ?_⟩
  · rw [Lib.bytesWorld_cell V 5 s j hj, ch_eq hj]
    congr 3
    simp only [List.getD, Array.getElem?_toList]
    rw [Array.getElem?_eq_getElem (show j < s.data.size from hj)]
    rfl
  · exact ⟨rfl, rfl, rfl, by rw [Lib.bytesWorld_size]; omega, fun k hk => Lib.bytesWorld_at_old V 5 s k hk⟩
theorem way_mid {W w1 w2 w3 : World} {bm : Nat} (h1 : Below W.heap.size W w1) (h2 : BX [bm] w1 w2) (hb : W.heap.size ≤ bm) (h3 : Below w2.heap.size w2 w3) :
    ∃ W4, (Instr.makeMap 142 none).run Tryz.prog w3 = .ok (.map (some w3.heap.size)) W4 ∧ AMap kv W4 w3.heap.size [] ∧ Below w3.heap.size w3 W4 ∧ Below W.heap.size W W4 ∧ W.heap.size ≤ w3.heap.size := by
  have a := h1.trans (h2.below h1.size (by simpa using hb))
  exact ⟨_, makeMap119 w3, AMap.made kv w3, below1 _ _, bthen (bthen a h3) (below1 _ _), (bthen a h3).size⟩
theorem OwnE.addr {α : Type} {E : El α} {e lo : Nat} {w : World} {A : Option Addr} {n cap : Nat} {l : List α} (h : OwnE E e lo w (.slice A n cap) l) : ∀ a, A = Option.some a → lo ≤ a.block := by
  rintro a rfl
  rcases h.2 with ⟨e, _⟩ | ⟨g, c, cur, e, hg, _⟩
  · cases e
  · cases e; exact hg

set_option maxRecDepth 8000 in
set_option maxHeartbeats 8000000 in
theorem way_any (w : World) (C : Int) (v : Value) (l : List RuleB) (x y : Int) (s t : ByteArray) (hr : Rls w v l) (hsys : sysB C l = true) (hs : s.size ≤ 1000) (ht : t.size ≤ 1000) :
    Calls Tryz.prog 47 #[sv C v, cv ⟨x, s⟩, cv ⟨y, t⟩] w fun e w' => ∃ pv bm L ok, e = .returned (.tuple #[pv, .map (some bm), .bool ok]) ∧ WayOk C l x s y t w' pv bm L ok ∧ Below w.heap.size w w' := by
  obtain ⟨A, n, cap, rfl, hn⟩ := Els.shape hr
  obtain ⟨hC1, hC5, hl30, _⟩ := sysB_iff.1 hsys
  obtain ⟨Qs, hQs⟩ : ∃ Qs, l.map RuleB.to ++ (List.range t.size).map (fun (i : Nat) => C + (i : Int)) = Qs := ⟨_, rfl⟩
  have hQl : Qs.length ≤ 1030 := by rw [← hQs]; simp; omega
  have hQ1 : ∀ r ∈ l, r.to ∈ Qs := fun r hr => by rw [← hQs]; exact List.mem_append_left _ (List.mem_map_of_mem hr)
  have hQ2 : ∀ q ∈ (List.range t.size).map (fun (i : Nat) => C + (i : Int)), q ∈ Qs := fun q hq => by rw [← hQs]; exact List.mem_append_right _ hq
  obtain ⟨W, hW⟩ : ∃ W, (((w.alloc (.cells #[.int .i64 C, .slice A n cap] 40)).alloc (.cells #[.int .i64 x, .string s] 60)).alloc (.cells #[.int .i64 y, .string t] 60)).alloc (.cells #[.int .i64 0, .slice none 0 0] 96) = W := ⟨_, rfl⟩
  have hBW : Below w.heap.size w W := by rw [← hW]; exact bthen (below1 _ _) (bthen (below1 _ _) (bthen (below1 _ _) (below1 _ _)))
  have kS : Blk W w.heap.size 40 #[.int .i64 C, .slice A n cap] := by rw [← hW]; exact (((Blk.new w 40 _).alloc _).alloc _).alloc _
  have kc : Blk W (w.heap.size + 1) 60 #[.int .i64 x, .string s] := by rw [← hW]; have := Blk.new (w.alloc (.cells #[.int .i64 C, .slice A n cap] 40)) 60 #[.int .i64 x, .string s]; rw [alloc_size] at this; exact (this.alloc _).alloc _
  have kd : Blk W (w.heap.size + 1 + 1) 60 #[.int .i64 y, .string t] := by rw [← hW]; have := Blk.new ((w.alloc (.cells #[.int .i64 C, .slice A n cap] 40)).alloc (.cells #[.int .i64 x, .string s] 60)) 60 #[.int .i64 y, .string t]; rw [alloc_size, alloc_size] at this; exact this.alloc _
  have k6 : Blk W (w.heap.size + 1 + 1 + 1) 96 #[.int .i64 0, .slice none 0 0] := by rw [← hW]; have := Blk.new (((w.alloc (.cells #[.int .i64 C, .slice A n cap] 40)).alloc (.cells #[.int .i64 x, .string s] 60)).alloc (.cells #[.int .i64 y, .string t] 60)) 96 #[.int .i64 0, .slice none 0 0]; rw [alloc_size, alloc_size, alloc_size] at this; exact this
  have c0 : W.cell? ⟨w.heap.size, 0, none⟩ = some (.int .i64 C) := kS.cell 0
  have c1 : W.cell? ⟨w.heap.size, 1, none⟩ = some (.slice A n cap) := kS.cell 1
  have c2 : W.cell? ⟨w.heap.size + 1 + 1, 0, none⟩ = some (.int .i64 y) := kd.cell 0
  have c3 : W.cell? ⟨w.heap.size + 1 + 1, 1, none⟩ = some (.string t) := kd.cell 1
  have c4 : W.cell? ⟨w.heap.size + 1, 0, none⟩ = some (.int .i64 x) := kc.cell 0
  have c5 : W.cell? ⟨w.heap.size + 1, 1, none⟩ = some (.string s) := kc.cell 1
  have hrW : Rls W (.slice A n cap) l := Els.then hr hBW
  have hjust := Lib.hid (just_any W C y t A n cap ⟨by omega, hC5⟩ ht)
  have hall := Lib.hid (And.intro hBW (And.intro kS (And.intro kc (And.intro kd (And.intro k6 hrW)))))
  replace hQ1 := Lib.hid hQ1
  replace hQ2 := Lib.hid hQ2
  replace hsys := Lib.hid hsys
  clear hr hBW kS kc kd k6 hrW hQs
  go_enter Tryz.func47, Tryz.ntmps47
  go_wp2_with (first
    | (go_at_call 72; refine hjust.out.mono ?_; rintro e w1 ⟨bm, L0, rfl, hbm, hm1, hj1, hB1⟩; have d0 := cell_below c0 hB1; have d1 := cell_below c1 hB1; replace hm1 := Lib.hid hm1; replace hj1 := Lib.hid hj1; replace hB1 := Lib.hid hB1; replace hbm := Lib.hid hbm)
    | (go_at_call 36; refine (saturate_any w1 C _ l bm L0 (Just C y (cs t)) Qs (Els.then hall.out.2.2.2.2.2 hB1.out) hsys.out hm1.out hj1.out.inv (fun k hk => hQ2.out _ (hj1.out.inv' k hk)) hQ1.out (by have := hj1.out.1; omega)).mono ?_; rintro e w2 ⟨rfl, L, hS2, hcl, hX2⟩; replace hS2 := Lib.hid hS2; replace hcl := Lib.hid hcl; replace hX2 := Lib.hid hX2)
    | (go_at_call 55; refine (sets_any w2 bm L hS2.out.map (by have := hS2.out.len; rw [univ_len] at this; have := hj1.out.1; have : l.length * Qs.length ≤ 30 * Qs.length := Nat.mul_le_mul_right _ hl30; omega)).mono ?_; rintro e w3 ⟨b2, rfl, hb2, hst2, hB3⟩; obtain ⟨W4, hmk, hA4, hB4, hBV4, hWz⟩ := way_mid hB1.out hX2.out hbm.out hB3; have e0 := cell_below c4 hBV4; replace hb2 := Lib.hid hb2; replace hst2 := Lib.hid hst2; replace hB3 := Lib.hid hB3; replace hA4 := Lib.hid hA4; replace hB4 := Lib.hid hB4; replace hBV4 := Lib.hid hBV4)
    | (refine wpList_insert_a _ rfl (.tmp 37) (.tmp 39) (.tmp 40) 142 rfl 3 96 key3 Tryz.underlying142 rfl hA4.out x rfl (.agg #[.int .i64 0, .slice none 0 0]) rfl ?_; intro V hA5 hg5 hs5; clear hs5; have hBV := hBV4.out.trans (below_of_grown hg5 hBV4.out.size (by intro k e; cases e; exact hWz)); have e1 := cell_below c5 hBV; replace hBV := Lib.hid hBV; obtain ⟨W6, cp, hcv, hby, hB6⟩ := way_bytes V s; replace hby := Lib.hid hby; replace hB6 := Lib.hid hB6))
  clear hmk hcv c0 c1 c2 c3 c4 c5 d0 d1 e0 e1 hW
  have hlt7 : bm < w1.heap.size := AMap.lt hm1.out
  have hbmz := hbm.out
  have hz3 : w2.heap.size ≤ w3.heap.size := hB3.out.size
  have hz2 : w1.heap.size ≤ w2.heap.size := hX2.out.size
  have hB35 : Below w3.heap.size w3 V := hB4.out.trans (below_of_grown hg5 hB4.out.size (by intro k e; cases e; omega))
  have hB36 := bthen hB35 hB6.out
  have hPV : PMap W6.heap.size V w3.heap.size (aput [] x (.agg #[.int .i64 0, .slice none 0 0])) (now0 x) := by
    have h0 : PMap W6.heap.size W4 w3.heap.size [] (fun _ => none) := ⟨hA4.out, fun _ => rfl⟩
    exact h0.put (ks := []) (Els.nil _) (by intro a h; cases h) hA5 hg5
  have hP6 := Lib.hid (hPV.below hB6.out)
  have hm6 := Lib.hid (show MMap W6 bm L from AMap.below (AMap.below hS2.out.map hB3.out (AMap.lt hS2.out.map)) hB36 (by omega))
  have hst6 := Lib.hid (hst2.out.then hB36)
  have hBW6 := Lib.hid (bthen hBV.out hB6.out)
  have kc6 := Lib.hid (hall.out.2.2.1.below hBW6.out hall.out.2.2.1.lt)
  have k66 := Lib.hid (hall.out.2.2.2.2.1.below hBW6.out hall.out.2.2.2.2.1.lt)
  have hBw6 := Lib.hid (bthen hall.out.1 hBW6.out)
  have hI := Lib.hid hS2.out.inv
  have hlast := lastS C y (cs t)
  have hb2' : w2.heap.size ≤ b2 := hb2.out
  have hB3' := Lib.hid (show w2.heap.size ≤ W6.heap.size from Nat.le_trans hB3.out.size hB36.size)
  clear hg5 hA5 hB35 hB36 hPV hA4 hB4 hB3 hX2 hB1 hBV hBV4 hm1 hj1 hS2 hst2 hjust
  have hend := Lib.hid (⟨_, rfl⟩ : ∃ z, lastS C y (cs t) = z)
  go_loopg [12, 46] s.size (fun k c12 c46 wr => ∃ (i bn : Nat) (S : List (Int × Value)) (f : Int → Option (Int × List Key)), i ≤ s.size ∧ k = s.size - i ∧ c12 = .map (some bn) ∧ c46 = .int .i64 (i : Int) ∧ Hid (PMap W6.heap.size wr bn S f) ∧ Hid (NowOk (cget L) x ((cs s).take i) f) ∧ Hid (Below W6.heap.size W6 wr))
  case atStart => exact ⟨0, _, _, _, Nat.zero_le _, rfl, rfl, rfl, hP6, NowOk.zero x, Below.refl _ _⟩
  case round =>
    rename_i J0 K0 ja ka
    have pj := PLift.up ja
    clear ja
    obtain ⟨i, bn, S, f, hi, rfl, rfl, rfl, hPm, hN, hBr⟩ := hrel
    by_cases hlt : i < s.size
    case neg =>
      obtain rfl : i = s.size := by omega
      have hts : (cs s).take s.size = cs s := List.take_of_length_le (by rw [cs_length]; omega)
      rw [hts] at hN
      have h6r := k66.out.below hBr.out k66.out.lt
      have hent := hPm.out.2 (lastS C y (cs t))
      obtain ⟨st, A', n', cap', ok, hv, hok, hT, hF⟩ : ∃ (st : Int) (A' : Option Addr) (n' cap' : Nat) (ok : Bool), (aget S (lastS C y (cs t))).getD (.agg #[.int .i64 0, .slice none 0 0]) = .agg #[.int .i64 st, .slice A' n' cap'] ∧ (aget S (lastS C y (cs t))).isSome = ok ∧
        (ok = true → ∃ ks, (Els ElK wr (.slice A' n' cap') ks ∧ ∀ a, A' = some a → W6.heap.size ≤ a.block) ∧ Chain (cget L) x (cs s) ks (lastS C y (cs t)) ∧ st = min (csum (cget L) ks) far ∧ ∀ ks', Chain (cget L) x (cs s) ks' (lastS C y (cs t)) → st ≤ csum (cget L) ks') ∧
        (ok = false → ∀ ks, ¬ Chain (cget L) x (cs s) ks (lastS C y (cs t))) := by
        generalize lastS C y (cs t) = z at hent ⊢
        cases hf : f z with
        | none =>
          rw [hf] at hent
          have he : aget S z = none := hent
          refine ⟨0, none, 0, 0, false, by rw [he]; rfl, by rw [he]; rfl, (fun h => by cases h), fun _ ks hk => ?_⟩
          obtain ⟨st, ks', h1, _⟩ := hN.out.2 _ _ hk
          rw [hf] at h1
          cases h1
        | some p =>
          obtain ⟨st, ks⟩ := p
          rw [hf] at hent
          obtain ⟨A', n', cap', he, hE, hlo⟩ := hent
          obtain ⟨h1, h2⟩ := hN.out.1 _ _ _ hf
          refine ⟨st, A', n', cap', true, by rw [he]; rfl, by rw [he]; rfl, fun _ => ⟨ks, ⟨hE, hlo⟩, h1, h2, fun ks' hk => ?_⟩, fun h => by cases h⟩
          obtain ⟨st2, ks2, h3, h4⟩ := hN.out.2 _ _ hk
          rw [hf] at h3
          cases h3
          exact h4
      clear hent
      replace hT := Lib.hid hT
      replace hF := Lib.hid hF
      replace hv := Lib.hid hv
      replace hok := Lib.hid hok
      have f0 := fun o => (h6r.alloc o).free 0
      have f1 := fun o => (h6r.alloc o).free 1
      have g0 := fun o => (h6r.alloc o).cell 0
      have g1 := fun o => (h6r.alloc o).cell 1
      have g2 := h6r.cell 0
      have g3 := h6r.cell 1
      have f2 := h6r.free 0
      have f3 := h6r.free 1
      simp at g0 g1 g2 g3
      have B2 := Lib.hid (((h6r.set 0 (.int .i64 st)).set 1 (.slice A' n' cap')).alloc (.cells #[.int .i64 st, .slice A' n' cap'] 96))
      have hz66 := k66.out.lt
      have hX6 := Lib.hid ((((BX.refl [w.heap.size + 1 + 1 + 1] wr).set (p := ⟨w.heap.size + 1 + 1 + 1, 0, none⟩) (by simp) (.int .i64 st)).set (p := ⟨w.heap.size + 1 + 1 + 1, 1, none⟩) (by simp) (.slice A' n' cap')).trans (BX.of_below (below1 _ (.cells #[.int .i64 st, .slice A' n' cap'] 96))))
      have hz6 := h6r.lt
      have hEw := Lib.hid (below1 wr (.cells #[.int .i64 st, .slice A' n' cap'] 96))
      clear h6r
      go_wp2_with (at_lookup; refine wpList_lookup_ok_a _ rfl (.tmp 109) (.tmp 110) 142 rfl 3 96 key3 Tryz.underlying142 (zero89 _) rfl hPm.out.1 (lastS C y (cs t)) rfl _ hv.out _ hok.out ?_)
      have e0 := B2.out.cell 0
      have e1 := B2.out.cell 1
      simp at e0 e1
      refine bodyPost_ret (v := .tuple #[.agg #[.int .i64 st, .slice A' n' cap'], .map (some bm), .bool ok]) (by simp [results, Tryz.results47, go_sem, e0, e1]) rfl ⟨_, _, L, ok, rfl, ⟨?_, hI.out, hcl.out, st, A', n', cap', rfl, fun e => ?_, hF.out⟩, ?_⟩
      · have h1 : MMap wr bm L := AMap.below hm6.out hBr.out (AMap.lt hm6.out)
        exact AMap.of_block h1 (hX6.out.block bm (AMap.lt h1) (by have := hall.out.2.2.2.2.1.lt; simp; omega))
      · obtain ⟨ks, ⟨h1, h2⟩, h3⟩ := hT.out e
        exact ⟨ks, h1.bx hX6.out (fun _ a ha => by have := h2 a ha; simp; omega), h3⟩
      · exact (hBw6.out.trans (hBr.out.mono hBw6.out.size)).trans (hX6.out.below (by have := hBw6.out.size; have := hBr.out.size; omega) (by simp; omega))
    rename World => wo
    have hcell := cell_below (hby.out i hlt) hBr.out
    have hmk := makeMap119 wo
    obtain ⟨W7, hW7⟩ : ∃ W7, wo.alloc (.map #[] 0) = W7 := ⟨_, rfl⟩
    have hB7 : Below wo.heap.size wo W7 := by rw [← hW7]; exact below1 _ _
    have hz7 : W7.heap.size = wo.heap.size + 1 := by rw [← hW7, alloc_size]
    have hx7 := PMap.made W6.heap.size wo
    have hz7h := Lib.hid hz7
    rw [hW7] at hmk hx7
    clear hW7 hz7
    have hP7 := hPm.out.below hB7
    have hP70 := Lib.hid hP7.1
    have hbnl : bn < wo.heap.size := hPm.out.1.lt
    replace hP7 := Lib.hid hP7
    replace hx7 := Lib.hid hx7
    replace hB7 := Lib.hid hB7
    go_wp2_with (at_range; refine wpList_range_a _ rfl (.tmp 51) 142 rfl 3 96 Tryz.underlying142 rfl hP70.out ?_; intro w8 hit hg8 hs8)
    clear hcell hmk
    have hB8 : Below W7.heap.size W7 w8 := below_of_grown hg8 (Nat.le_refl _) (by intro k e; cases e)
    have hP8 := Lib.hid (hP7.out.below hB8)
    have hx8 := Lib.hid (hx7.out.below hB8)
    have hBw8 := Lib.hid (bthen hB7.out hB8)
    have hnd := Lib.hid (hP7.out.1.nodup)
    replace hit := Lib.hid hit
    clear hB8 hP7 hx7 hP70 hg8
    go_frame
    go_loopg [53] S.length (fun k _ wr2 => ∃ (left : List (Int × Value)) (Sx : List (Int × Value)) (g : Int → Option (Int × List Key)), k = left.length ∧ Hid (AIter kv wr2 bn W7.heap.size S left) ∧ Hid (PMap W6.heap.size wr2 wo.heap.size Sx g) ∧
      Hid (NextOk (cget L) (ch s i) f (fun m q => m ∈ S.map (·.1) ∧ m ∉ left.map (·.1)) g) ∧ Hid (Below wo.heap.size wo wr2) ∧ Hid (w8.heap.size ≤ wr2.heap.size))
    case atStart => exact ⟨S, _, _, rfl, hit, hx8, (NextOk.zero _ _ _).congr (fun m q _ _ => ⟨fun h => h.elim, fun h => h.2 h.1⟩), hBw8, Nat.le_refl _⟩
    case round =>
      rename_i J1 K1 jb kb
      have pj1 := PLift.up jb
      clear jb
      obtain ⟨left, Sx, g, rfl, hI8, hx, hNx, hBx, hzx⟩ := hrel
      rename World => wp
      go_wp2_with (at_next; refine wpList_next_a _ rfl (.tmp 52) rfl rfl hI8.out ?_ ?_)
      · intro h0
        have hfin := Lib.hid (show NowOk (cget L) x ((cs s).take (i + 1)) g by
          have hil : i < (cs s).length := by rw [cs_length]; exact hlt
          have e : (cs s).take (i + 1) = (cs s).take i ++ [ch s i] := by
            rw [List.take_add_one, cs_at hlt]; rfl
          rw [e]
          refine NowOk.succ hN.out hNx.out (fun m q hm _ => ⟨?_, ?_⟩) (fun k c hk => (hI.out.cost k c hk).1)
          · have := hPm.out.2 m
            cases hf : f m with
            | none => rw [hf] at hm; cases hm
            | some p =>
              rw [hf] at this
              obtain ⟨A', n', cap', he, _⟩ := this
              have := aget_some_mem he
              exact List.mem_map.2 ⟨_, this, rfl⟩
          · rw [h0]; simp)
        clear h0
        go_wp2
        have ja := pj.down
        go_roundg (s.size - (i + 1))
        case rel => exact ⟨i + 1, wo.heap.size, Sx, g, by omega, rfl, rfl, by go_num, hx, hfin, hBr.out.trans (hBx.out.mono hBr.out.size)⟩
        case measure => omega
      · intro pre m vv post w9 hleft hI9 hg9 hs9 hent
        have hrc : ∀ p c, wp.cell? p = some c → p.block ≠ W7.heap.size := fun p c hc => AIter.apart_r hI8.out hc
        have hx9 := hx.out.obj hg9 hrc (by have := hz7h.out; omega)
        have hmem : (m, vv) ∈ S := hI8.out.sub.subset (by rw [hleft]; simp)
        have hmS := Lib.hid (show m ∈ S.map (·.1) from List.mem_map.2 ⟨_, hmem, rfl⟩)
        have hz89 := Lib.hid (show w8.heap.size ≤ w9.heap.size from Nat.le_trans hzx.out hg9.size)
        have hget : aget S m = some vv := aget_of_mem hnd.out hmem
        have hent2 := hPm.out.2 m
        obtain ⟨st0, ks0, A0, n0, cap0, hf, hE0, hlo0, rfl⟩ : ∃ st0 ks0 A0 n0 cap0, f m = some (st0, ks0) ∧ Els ElK wo (.slice A0 n0 cap0) ks0 ∧ (∀ a, A0 = some a → W6.heap.size ≤ a.block) ∧ vv = .agg #[.int .i64 st0, .slice A0 n0 cap0] := by
          cases hf : f m with
          | none =>
            rw [hf] at hent2
            have he : aget S m = none := hent2
            rw [he] at hget
            cases hget
          | some p =>
            obtain ⟨st0, ks0⟩ := p
            rw [hf] at hent2
            obtain ⟨A0, n0, cap0, he, hE, hlo⟩ := hent2
            rw [hget] at he
            exact ⟨st0, ks0, A0, n0, cap0, rfl, hE, hlo, Option.some.inj he⟩
        clear hent2 hget
        obtain ⟨hch0, hst0⟩ := hN.out.1 _ _ _ hf
        have hk0 : ks0.length ≤ 1000 := by rw [hch0.len, List.length_take, cs_length]; omega
        have hcs := Chain.csum_nonneg (T := cget L) (fun k c hk => (hI.out.cost k c hk).1) ks0
        have hst1 : 0 ≤ st0 := by unfold far at hst0; omega
        have hst2 : st0 ≤ 1099511627776 := by unfold far at hst0; omega
        obtain ⟨A1, n1, cap1, ts, hlook, how, hts⟩ := hst6.out.at (m, ch s i)
        obtain ⟨W9, hW9⟩ : ∃ W9, w9.alloc (.cells #[.int .i64 st0, .slice A0 n0 cap0] 96) = W9 := ⟨_, rfl⟩
        have hB9 : Below w9.heap.size w9 W9 := by rw [← hW9]; exact below1 _ _
        have k17 : Blk W9 w9.heap.size 96 #[.int .i64 st0, .slice A0 n0 cap0] := by rw [← hW9]; exact Blk.new _ _ _
        have hBo9 : Below wo.heap.size wo w9 := hBx.out.trans (below_of_grown hg9 hBx.out.size (by intro k e; cases e; have := hz7h.out; omega))
        have hB69 : Below W6.heap.size W6 W9 := bthen (bthen hBr.out hBo9) hB9
        have hl9 := hlook W9 (hB69.block b2 (by obtain ⟨f, ⟨S, hA, _⟩, _⟩ := hst6.out; exact AMap.lt hA))
        have how9 := how.then hB69
        have hob := Lib.hid how.lt
        have hE9 : Els ElK W9 (.slice A0 n0 cap0) ks0 := (hE0.then hBo9).then hB9
        have hx99 := hx9.below hB9
        have hI99 : AIter kv W9 bn W7.heap.size S (pre ++ post) := hI9.below hB9 hI9.lt.1 hI9.lt.2
        have hn1 := (how9.els).len
        unfold maxLen at hn1
        obtain ⟨hn1a, hn1b, hn1c⟩ := hn1
        have hzr9 : wo.heap.size < w9.heap.size := by have := hx.out.1.lt; omega
        have hm9 : MMap W9 bm L := AMap.below hm6.out hB69 (AMap.lt hm6.out)
        have hallm := Lib.hid (And.intro how9 (And.intro hE9 (And.intro hx99 (And.intro hI99 (And.intro k17 (And.intro hm9 (And.intro hBo9 hB9)))))))
        replace hn1a := Lib.hid hn1a
        replace hts := Lib.hid hts
        replace hleft := Lib.hid hleft
        replace hch0 := Lib.hid hch0
        replace hf := Lib.hid hf
        replace hlo0 := Lib.hid hlo0
        replace hst0 := Lib.hid hst0
        clear how9 hE9 hx99 hI99 k17 hm9 hBo9 hB9 hB69 how hlook hrc hx9 hmem hE0 hI9 hg9 hcs hs9
        go_wp2
        go_loopg [64] n1 (fun k c wr2 => ∃ (j : Nat) (Sy : List (Int × Value)) (g2 : Int → Option (Int × List Key)), j ≤ n1 ∧ k = n1 - j ∧ c = .int .i64 (j : Int) ∧ Hid (PMap W6.heap.size wr2 wo.heap.size Sy g2) ∧
          Hid (NextOk (cget L) (ch s i) f (fun m' q => (m' ∈ S.map (·.1) ∧ m' ∉ left.map (·.1)) ∨ (m' = m ∧ q ∈ ts.take j)) g2) ∧ Hid (BX [wo.heap.size] W9 wr2))
        case atStart => exact ⟨0, Sx, g, Nat.zero_le _, rfl, rfl, hallm.out.2.2.1, hNx.out.congr (fun m' q _ _ => ⟨.inl, fun h => by simpa using h⟩), BX.refl _ _⟩
        case round =>
          rename_i J2 K2 jc kc
          have pj2 := PLift.up jc
          clear jc
          obtain ⟨j, Sy, g2, hj, rfl, rfl, hy, hNy, hXy⟩ := hrel
          rename World => wq
          by_cases hlt2 : j < n1
          case neg =>
            go_wp2
            have jb := pj1.down
            go_roundg (pre ++ post).length
            case rel =>
              obtain ⟨how9, hE9, hx99, hI99, k17, hm9, hBo9, hB9⟩ := hallm.out
              refine ⟨pre ++ post, Sy, g2, rfl, hI99.of_block (hXy.out.block _ hI99.lt.1 (by simp; omega)) (hXy.out.block _ hI99.lt.2 (by have := hz7h.out; simp; omega)), hy, ?_, ?_, ?_⟩
              · refine hNy.out.congr fun m' q hm' hq => ?_
                have hnd' : (left.map (·.1)).Nodup := (hI8.out.sub.map _).nodup hnd.out
                rw [hleft.out] at hnd' ⊢
                have hjn : ts.take j = ts := List.take_of_length_le (by have := hn1a.out; omega)
                rw [hjn]
                simp only [List.map_append, List.map_cons] at hnd' ⊢
                rw [List.nodup_append] at hnd'
                obtain ⟨h1, h2, h3⟩ := hnd'
                rw [List.nodup_cons] at h2
                have hp1 : m ∉ pre.map (·.1) := fun h => h3 m h m (by simp) rfl
                have hp2 := h2.1
                constructor
                · rintro (⟨h4, h5⟩ | ⟨rfl, h5⟩)
                  · exact ⟨h4, fun h => h5 (by simp only [List.mem_append, List.mem_cons] at h ⊢; rcases h with h | h <;> simp [h])⟩
                  · exact ⟨hmS.out, fun h => by simp only [List.mem_append] at h; rcases h with h | h; exact hp1 h; exact hp2 h⟩
                · rintro ⟨h4, h5⟩
                  by_cases e : m' = m
                  · subst e
                    refine .inr ⟨rfl, (hts.out q).2 (cget_iff.1 ?_)⟩
                    cases hT : cget L (m', ch s i, q) with
                    | none => rw [hT] at hq; cases hq
                    | some c => exact ⟨c, rfl⟩
                  · exact .inl ⟨h4, fun h => h5 (by simp only [List.mem_append, List.mem_cons] at h ⊢; rcases h with h | h | h; exact .inl h; exact absurd h e; exact .inr h)⟩
              · exact (hBo9.trans (hB9.mono (by omega))).trans (hXy.out.below (by have := hB9.size; omega) (by simp))
              · have h1 := hz89.out; have h2 := hB9.size; have h3 := hXy.out.size; show w8.heap.size ≤ wq.heap.size; omega
            case measure =>
              rw [hleft.out]
              simp
          have hjl : j < ts.length := by have := hn1a.out; omega
          obtain ⟨how9, hE9, hx99, hI99, k17, hm9, hBo9, hB9⟩ := hallm.out
          have hz9 : w9.heap.size < W9.heap.size := k17.lt
          have hlo6 : W6.heap.size ≤ wo.heap.size := hBr.out.size
          have howq := how9.of_block fun g hg => hXy.out.block g (how9.lt g hg).2 (by have := (hob.out g hg).2; simp; omega)
          obtain ⟨b3, off3, rfl, hat⟩ := Els.cell howq.els (by omega)
          have e0 : wq.cell? ⟨b3, off3 + j, none⟩ = some (.int .i64 ts[j]) := by simpa [ElI] using hat j hjl 0 _ rfl
          have htj : ts[j]? = some ts[j] := List.getElem?_eq_getElem hjl
          have hqm : ts[j] ∈ ts := List.getElem_mem hjl
          have htk : ts.take (j + 1) = ts.take j ++ [ts[j]] := List.take_succ_eq_append_getElem hjl
          clear hat
          generalize ts[j] = q at *
          obtain ⟨c1, hc1⟩ := cget_iff.2 ((hts.out q).1 hqm)
          obtain ⟨hs0, hs1⟩ := hI.out.cost _ _ hc1
          obtain ⟨s1, r1, m1⟩ := c1
          dsimp only at hs0 hs1
          unfold far at hs1
          obtain ⟨X, hX⟩ : ∃ X, wq.alloc (.cells #[.int .i64 m, .int .u8 (ch s i), .int .i64 q] 104) = X := ⟨_, rfl⟩
          have hBX : Below wq.heap.size wq X := by rw [← hX]; exact below1 _ _
          have k20 : Blk X wq.heap.size 104 #[.int .i64 m, .int .u8 (ch s i), .int .i64 q] := by rw [← hX]; exact Blk.new _ _ _
          have k17q : Blk wq w9.heap.size 96 #[.int .i64 st0, .slice A0 n0 cap0] := k17.bx hXy.out (by simp; omega)
          have k17X := k17q.below hBX k17q.lt
          have hmq : MMap wq bm L := AMap.of_block hm9 (hXy.out.block bm (AMap.lt hm9) (by have := AMap.lt hm6.out; simp; omega))
          have hmX : MMap X bm L := AMap.below hmq hBX (AMap.lt hmq)
          have hEX : Els ElK X (.slice A0 n0 cap0) ks0 := (hE9.bx hXy.out (fun h0 a ha => by
            obtain ⟨b', off', e, hc⟩ := Els.cell hE9 h0
            rw [e] at ha
            cases ha
            have := hx99.1.apart (hc 0 h0 0 _ rfl)
            simpa using this)).then hBX
          have hyX := hy.out.below hBX
          have hBwX := hBX
          have g1 : ∀ g : Gr X, g.w1.cell? ⟨w9.heap.size, 0, none⟩ = some (.int .i64 st0) := fun g => g.cell (k17X.cell 0)
          have g2' : ∀ g : Gr X, g.w1.cell? ⟨wq.heap.size, 0, none⟩ = some (.int .i64 m) := fun g => g.cell (k20.cell 0)
          have g3 : ∀ g : Gr X, g.w1.cell? ⟨wq.heap.size, 1, none⟩ = some (.int .u8 (ch s i)) := fun g => g.cell (k20.cell 1)
          have g4 : ∀ g : Gr X, g.w1.cell? ⟨wq.heap.size, 2, none⟩ = some (.int .i64 q) := fun g => g.cell (k20.cell 2)
          have g6 : ∀ g : Gr X, (Instr.lookup 81 (.map (some bm)) (mv (m, ch s i, q)) false).run Tryz.prog g.w1 = .ok (.agg #[.int .i64 s1, .int .i64 r1, .int .i64 m1]) g.w1 := fun g => MMap.look (AMap.below hmX g.h (AMap.lt hmX)) hc1
          have g7 : ∀ g : Gr X, (Instr.field 106 (.agg #[.int .i64 s1, .int .i64 r1, .int .i64 m1]) 0).run Tryz.prog g.w1 = .ok (.int .i64 s1) g.w1 := fun g => field96 _ _ _ _
          have hallq := Lib.hid (And.intro hBwX (And.intro k20 (And.intro k17X (And.intro hEX hyX))))
          replace hc1 := Lib.hid hc1
          replace htk := Lib.hid htk
          clear how9 hE9 hx99 hI99 k17 hm9 hBo9 hB9 k17q hmq hmX hEX hyX hBwX k17X k20 hBX howq htj hqm
          go_wp2
          refine wp_region_grow (by kernel_rfl) (by kernel_rfl) ?_
          repeat (go_big_quiet_step (fail))
          refine wpQuiet_nil ?_
          rintro _ ⟨g, rfl⟩
          obtain ⟨G, hBG⟩ := g
          dsimp only at *
          clear g1 g2' g3 g4 g6 g7
          obtain ⟨hBX, k20, k17X, hEX, hyX⟩ := hallq.out
          have hyG := Lib.hid (hyX.below hBG)
          have k20G := Lib.hid (k20.below hBG k20.lt)
          have k17G := Lib.hid (k17X.below hBG k17X.lt)
          have hEG := Lib.hid (hEX.then hBG)
          have hBqG := Lib.hid (bthen hBX hBG)
          clear hBX k20 k17X hEX hyX hallq hBG
          have hye := hyG.out.2 q
          obtain ⟨st1, A2, n2, cap2, ok, hv, hok, hdec⟩ : ∃ (st1 : Int) (A2 : Option Addr) (n2 cap2 : Nat) (ok : Bool), (aget Sy q).getD (.agg #[.int .i64 0, .slice none 0 0]) = .agg #[.int .i64 st1, .slice A2 n2 cap2] ∧ (aget Sy q).isSome = ok ∧
              ((ok = false ∧ g2 q = none) ∨ (ok = true ∧ ∃ ks1, g2 q = some (st1, ks1))) := by
            cases hg : g2 q with
            | none =>
              rw [hg] at hye
              have he : aget Sy q = none := hye
              exact ⟨0, none, 0, 0, false, by rw [he]; rfl, by rw [he]; rfl, .inl ⟨rfl, rfl⟩⟩
            | some p =>
              obtain ⟨st1, ks1⟩ := p
              rw [hg] at hye
              obtain ⟨A2, n2, cap2, he, _⟩ := hye
              exact ⟨st1, A2, n2, cap2, true, by rw [he]; rfl, by rw [he]; rfl, .inr ⟨rfl, ks1, rfl⟩⟩
          clear hye
          replace hv := Lib.hid hv
          replace hok := Lib.hid hok
          by_cases hgo : ok = true ∧ ¬ min (st0 + s1) 1099511627776 < st1
          · obtain ⟨rfl, hnl⟩ := hgo
            have hskip := Lib.hid (show NextOk (cget L) (ch s i) f (fun m' q' => (m' ∈ S.map (·.1) ∧ m' ∉ left.map (·.1)) ∨ (m' = m ∧ q' ∈ ts.take (j + 1))) g2 by
              obtain ⟨e, _⟩ | ⟨_, ks1, hg1⟩ := hdec
              · cases e
              · refine (hNy.out.skip hf.out hc1.out hg1 (by unfold far; exact hnl)).congr fun m' q' _ _ => ?_
                rw [htk.out]
                simp only [List.mem_append, List.mem_cons, List.not_mem_nil, or_false]
                constructor
                · rintro ((h | ⟨h, h'⟩) | ⟨h, h'⟩)
                  · exact .inl h
                  · exact .inr ⟨h, .inl h'⟩
                  · exact .inr ⟨h, .inr h'⟩
                · rintro (h | ⟨h, h' | h'⟩)
                  · exact .inl (.inl h)
                  · exact .inl (.inr ⟨h, h'⟩)
                  · exact .inr ⟨h, h'⟩)
            clear hdec
            have hlb := Lib.hid (fun o => below1 G o)
            go_wp2_with (at_lookup; refine wpList_lookup_ok_a _ rfl (.tmp 82) (.tmp 83) 142 rfl 3 96 key3 Tryz.underlying142 (zero89 _) rfl hyG.out.1 q rfl _ hv.out _ hok.out ?_)
            have jc := pj2.down
            go_roundg (n1 - (j + 1))
            case rel => exact ⟨j + 1, Sy, g2, by omega, rfl, by go_num, hyG.out.below (hlb.out _), hskip, hXy.out.trans (BX.of_below (bthen hBqG.out (hlb.out _)))⟩
            case measure => omega
          have hput := Lib.hid (show NextOk (cget L) (ch s i) f (fun m' q' => (m' ∈ S.map (·.1) ∧ m' ∉ left.map (·.1)) ∨ (m' = m ∧ q' ∈ ts.take (j + 1))) (fun q' => if q' = q then some (min (st0 + s1) 1099511627776, ks0 ++ [(m, ch s i, q)]) else g2 q') by
            refine (hNy.out.put hf.out hc1.out (fun st ks hg => ?_)).congr fun m' q' _ _ => ?_
            · obtain ⟨_, e⟩ | ⟨h1, ks1, hg1⟩ := hdec
              · rw [hg] at e; cases e
              · rw [hg] at hg1
                cases hg1
                have h2 : ¬ ¬ min (st0 + s1) 1099511627776 < st1 := fun h => hgo ⟨h1, h⟩
                unfold far
                dsimp only
                omega
            · rw [htk.out]
              simp only [List.mem_append, List.mem_cons, List.not_mem_nil, or_false]
              constructor
              · rintro ((h | ⟨h, h'⟩) | ⟨h, h'⟩)
                · exact .inl h
                · exact .inr ⟨h, .inl h'⟩
                · exact .inr ⟨h, .inr h'⟩
              · rintro (h | ⟨h, h' | h'⟩)
                · exact .inl (.inl h)
                · exact .inl (.inr ⟨h, h'⟩)
                · exact .inr ⟨h, h'⟩)
          obtain ⟨X2, hX2⟩ : ∃ X2, G.alloc (.cells #[.int .i64 st1, .slice A2 n2 cap2] 96) = X2 := ⟨_, rfl⟩
          have hB2 : Below G.heap.size G X2 := by rw [← hX2]; exact below1 _ _
          have hy2 := Lib.hid (hyG.out.below hB2)
          have z1 : X2.cell? ⟨G.heap.size, 0, none⟩ = some (.int .i64 st1) := by rw [← hX2]; exact (Blk.new G 96 #[.int .i64 st1, .slice A2 n2 cap2]).cell 0
          have k202 := k20G.out.below hB2 k20G.out.lt
          have k172 := k17G.out.below hB2 k17G.out.lt
          have hE2 := hEG.out.then hB2
          have hBq2 := Lib.hid (bthen hBqG.out hB2)
          have d1 : ∀ g : Gr X2, g.w1.cell? ⟨w9.heap.size, 1, none⟩ = some (.slice A0 n0 cap0) := fun g => g.cell (k172.cell 1)
          have d2 : ∀ g : Gr X2, g.w1.cell? ⟨wq.heap.size, 0, none⟩ = some (.int .i64 m) := fun g => g.cell (k202.cell 0)
          have d3 : ∀ g : Gr X2, g.w1.cell? ⟨wq.heap.size, 1, none⟩ = some (.int .u8 (ch s i)) := fun g => g.cell (k202.cell 1)
          have d4 : ∀ g : Gr X2, g.w1.cell? ⟨wq.heap.size, 2, none⟩ = some (.int .i64 q) := fun g => g.cell (k202.cell 2)
          have hcl2 := Lib.hid (fun g : Gr X2 => cloneK_any g.w1 _ ks0 (hE2.then g.h) hk0)
          have hbx : wo.heap.size < X2.heap.size := by have := hy2.out.1.lt; omega
          clear k202 k172 hE2 hB2
          have hdec2 : (ok = false) ∨ (ok = true ∧ min (st0 + s1) 1099511627776 < st1) := by
            cases ok
            · exact .inl rfl
            · exact .inr ⟨rfl, by have h2 : ¬ ¬ min (st0 + s1) 1099511627776 < st1 := fun h => hgo ⟨rfl, h⟩; omega⟩
          clear hdec hgo
          rcases hdec2 with rfl | ⟨rfl, hl⟩ <;> (
            go_wp2_with (at_lookup; refine wpList_lookup_ok_a _ rfl (.tmp 82) (.tmp 83) 142 rfl 3 96 key3 Tryz.underlying142 (zero89 _) rfl hyG.out.1 q rfl _ hv.out _ hok.out ?_)
            clear hX2
            refine wp_region_any (by kernel_rfl) ?_
            (refine wpAny_take (i := 0) (v := ?_) rfl (by kernel_rfl) (by kernel_rfl) (by kernel_rfl) (fun _ _ _ h => h) (Or.inl ⟨by rfl, ?_⟩) ?_; rotate_left; (intro w; go_simp; (try with_reducible rfl)); simp only [List.getElem_toArray, List.getElem_cons_zero, Act.put, List.setIfInBounds_toArray, List.set_cons_succ, List.set_cons_zero])
            (refine wpAny_take (i := 1) (v := ?_) rfl (by kernel_rfl) (by kernel_rfl) (by kernel_rfl) (fun _ _ _ h => h) (Or.inl ⟨by rfl, ?_⟩) ?_; rotate_left; (intro w; go_simp; (try with_reducible rfl)); simp only [List.getElem_toArray, List.getElem_cons_succ, List.getElem_cons_zero, Act.put, List.setIfInBounds_toArray, List.set_cons_succ, List.set_cons_zero])
            (refine wpAny_take (i := 2) (v := ?_) rfl (by kernel_rfl) (by kernel_rfl) (by kernel_rfl) (fun _ _ _ h => h) (Or.inl ⟨by rfl, ?_⟩) ?_; rotate_left; (intro w; go_simp; (try with_reducible rfl)); simp only [List.getElem_toArray, List.getElem_cons_succ, List.getElem_cons_zero, Act.put, List.setIfInBounds_toArray, List.set_cons_succ, List.set_cons_zero])
            refine wpAny_rel (W := X2) 3 8 [false, false, false, false, false, true, false, true] [] (fun _ h => .slice h.A h.n h.cap) (fun k h w => if k = 5 then OwnE ElK 104 X2.heap.size w (.slice h.A h.n h.cap) ks0 else h.A = some ⟨h.k, 0, none⟩ ∧ h.n = 1 ∧ h.cap = 1 ∧ X2.heap.size ≤ h.k ∧ Blk w h.k 104 #[.int .i64 m, .int .u8 (ch s i), .int .i64 q]) (by kernel_rfl) ⟨⟨X2.drew, below_drewN (Below.refl _ _) 1⟩, rfl⟩ ?_
            simp only [List.take_succ_cons, List.take_zero, List.drop_succ_cons, List.drop_zero]
            refine walkE_reads 2 _ _ _ _ (by kernel_rfl) (by kernel_rfl) (by simp) ?_
            simp only [List.take_succ_cons, List.take_zero, List.drop_succ_cons, List.drop_zero]
            repeat (go_big_quiet_step (fail))
            refine wpQuiet_nil ?_
            refine walkE_eff rfl (by kernel_rfl) (fun g _ => ?_) (fun h5 => ?_)
            · go_simp
              exact ⟨rfl, (hcl2.out g).mono (fun e w' ⟨v', h1, h2, h3⟩ => by
                obtain ⟨A5, n5, c5, rfl, _⟩ := OwnE.shape h2
                exact ⟨⟨A5, n5, c5, 0, 0, false⟩, h1, h3, h2.lo_le g.h.size⟩)⟩
            · go_frame
              refine walkE_reads 1 _ _ _ _ (by kernel_rfl) (by kernel_rfl) (by simp) ?_
              simp only [List.take_succ_cons, List.take_zero, List.drop_succ_cons, List.drop_zero]
              repeat (go_big_quiet_step (fail))
              refine wpQuiet_nil ?_
              refine walkE_eff rfl (by kernel_rfl) (fun g _ => ?_) (fun h7 => ?_)
              · go_simp
                exact ⟨⟨some ⟨g.w1.heap.size, 0, none⟩, 1, 1, g.w1.heap.size, 0, false⟩, rfl, below1 _ _, rfl, rfl, rfl, g.h.size, Blk.new _ _ _⟩
              · rintro _ ⟨g10, rfl⟩ hF
                have q5 := hF 5
                have q7 := hF 7
                rw [updF_ne _ _ (by decide), updF_same] at q5
                rw [updF_same] at q7
                obtain ⟨w5, o5, -, b5⟩ := q5
                obtain ⟨w7, o7, -, b7⟩ := q7
                rw [if_pos trivial] at o5
                rw [if_neg (by decide)] at o7
                obtain ⟨a7, n7, c7, lo7, k7⟩ := o7
                obtain ⟨A7, N7, C7, K7, I7, B7⟩ := h7
                dsimp only at a7 n7 c7 lo7 k7
                subst a7 n7 c7
                clear hF
                have o5Y := o5.then b5
                have k7Y := k7.below b7 k7.lt
                have hYb : Below X2.heap.size X2 g10.w1 := g10.h
                generalize g10.w1 = Y at *
                refine wpList_append_els (E := ElK) _ rfl (.tmp 100) (.tmp 102) 94 rfl X2.heap.size Tryz.underlying94 info94 rfl rfl (by decide) (.slice h5.A h5.n h5.cap) ks0 rfl o5Y (.slice (some ⟨K7, 0, none⟩) 1 1) rfl [(m, ch s i, q)] (els_one (E := ElK) k7Y rfl) (by simp; omega) hYb.size ?_
                intro v11 w11 ho11 hb11 hg11 hl11
                obtain ⟨A11, n11, c11, rfl, hn11⟩ := OwnE.shape ho11
                have hB11 : Below X2.heap.size X2 w11 := hYb.trans hb11
                have hy11 := Lib.hid (hy2.out.below hB11)
                have hA11 := Lib.hid hy11.out.1
                have he11 := Lib.hid ho11.els
                have ha11 := Lib.hid (OwnE.addr ho11)
                replace hB11 := Lib.hid hB11
                clear o5 o5Y k7 k7Y b5 b7 hYb ho11 hb11 hg11 hl11 hn11
                go_frame
                go_wp2_with (at_mapUpdate; refine wpList_mapUpdate_a _ rfl (.tmp 95) (.tmp 96) (.tmp 104) 142 rfl 3 96 key3 Tryz.underlying142 rfl hA11.out q rfl (.agg #[.int .i64 (min (st0 + s1) 1099511627776), .slice A11 n11 c11]) rfl ?_; intro w12 hA12 hg12 hs12; clear hs12; have hA12 := Lib.hid hA12; have hg12 := Lib.hid hg12)
                have jc := pj2.down
                go_roundg (n1 - (j + 1))
                case rel =>
                  refine ⟨j + 1, _, _, by omega, rfl, by go_num, hy11.out.put he11.out (fun a ha => ?_) hA12.out hg12.out, hput, ?_⟩
                  · have h1 := ha11.out a ha
                    have h2 := hBr.out.size
                    have h3 := hBqG.out.size
                    have h4 := hy2.out.1.lt
                    omega
                  · exact (hXy.out.trans (BX.of_below (hBq2.out.trans (hB11.out.mono hBq2.out.size)))).trans (BX.of_grown hg12.out (by simp))
                case measure => omega)
end Go.Proofs.YtaapnflhjbdmlaaGreatDoor
