/- The specification's Only: the acceptor of one configuration. No condition. The specification's Cost: the least costs of a configuration, where no move goes without a letter. No condition. -/
import Derived.Test.YtaapnflhjbdmlaaGreatDoorSA
import Derived.Deep.RegionLaw
namespace Go.Proofs.YtaapnflhjbdmlaaGreatDoor
section
open Go.RowKit Go.Shelf
attribute [local go_sem] Oper.semAt_some

/-- the state before letter i -/
def atN (C x i : Nat) : Nat := if i = 0 then x else C + i - 1
/-- the chain of a stack -/
def chM (C x : Nat) (t : List Int) : List Mv := (List.range t.length).map fun i => (atN C x i, (t.getD i 0 - 97).toNat, C + i)
theorem chM_len (C x : Nat) (t : List Int) : (chM C x t).length = t.length := by simp [chM]
theorem chM_take (C x : Nat) (t : List Int) (k : Nat) (hk : k ≤ t.length) : (chM C x t).take k = (List.range k).map fun i => (atN C x i, (t.getD i 0 - 97).toNat, C + i) := by
  unfold chM
  rw [← List.map_take, List.take_range, Nat.min_eq_left hk]
theorem info126 : (Tryz.prog.info? 78).map (fun i => (i.zero, i.size, i.bytes)) = some (some (.agg #[.int .i64 0, .int .i64 0, .int .i64 0]), 3, 24) := by kernel_rfl

theorem wrap_small : ∀ n : Nat, n < 26 → IntKind.i64.wrap (n : Int) = n ∧ IntKind.i64.wrap (IntKind.u8.wrap (n : Int)) = n := by decide +kernel
theorem step_append_els {α : Type} {E : El α} {P : Program} (w : World) {ops : Array Oper} {o : Oper} {a : Act} {K : Act → World → Prop} {Q : Exit → Act → World → Prop} {E' : Prop} (hgd : o.guard = none) (s x : Operand) (t : TypeId)
    (ho : o.op = .call { callee := .builtin .append, args := #[s, x], argTypes := #[t, t] }) (lo : Nat) {e : TypeId} (ht : P.underlying t = some (.slice e)) {z : Value} {k bytes : Nat}
    (hinfo : (P.info? e).map (fun i => (i.zero, i.size, i.bytes)) = some (some z, k, bytes)) (hk : k = E.k) (hzs : z.cells.size = E.k) (hb1 : bytes ≤ 100)
    (v : Value) (xs : List α) (hs : a.eval s = v) (hown : OwnE E e lo w v xs) (v2 : Value) (hx : a.eval x = v2) (ys : List α) (h2 : Els E w v2 ys) (hb : xs.length + ys.length ≤ 1000000) (hlo : lo ≤ w.heap.size)
    (h : ∀ v' w', OwnE E e lo w' v' (xs ++ ys) → Below lo w w' → w.grownBy w' v.ownBlock → lies w v v' → K (a.put o.dst v') w') :
    if Region.wanted o (yielded ops a.tmps) = true then Oper.wp P o a w K Q else E' := by
  rw [if_pos (by simp [Region.wanted, hgd])]
  obtain ⟨i, hi, hz0, hz1, hz2⟩ := info_parts hinfo
  obtain ⟨v', w', hrun, r2, r3, r4⟩ := run_append_els (P := P) w lo t o.type e i ht hi hz0 (hz1.trans hk) hz2 hzs hb1 v xs hown v2 ys h2 hb hlo
  unfold Oper.wp execOp
  simp only [ho, resolve, invoke, builtin, Sem.run_bind, Sem.run_pure, Result.andThen_ok, List.map_toArray, List.map_cons, List.map_nil, hs, hx, hrun]
  exact h v' w' r2 (below_of_grown r3 hlo fun k hk => (hown.lt k hk).1) r3 r4

theorem only_app {w1 w2 W : World} {B5 gf : Nat} {cs cs' : Array Value} {v : Value} {l : List Mv} (hq : Blk w1 B5 28 cs) (hg : Blk w1 gf 3 cs') (ho : OwnE ElM 78 W.heap.size w1 v l) (hx : BX [B5] W w1) (hb : Below W.heap.size w1 w2) (hg2 : w1.grownBy w2 v.ownBlock) :
    Blk w2 B5 28 cs ∧ Blk w2 gf 3 cs' ∧ BX [B5] W w2 :=
  ⟨hq.bx (BX.of_grown' hg2) (fun hm => OwnE.ne_blk ho hq (by decide) (by simpa using hm)), hg.bx (BX.of_grown' hg2) (fun hm => OwnE.ne_blk ho hg (by decide) (by simpa using hm)), hx.then_below hb⟩

set_option maxRecDepth 8000 in
set_option maxHeartbeats 8000000 in
theorem Only_any (w : World) (C x n cap nS : Nat) (A : Option Addr) (s : ByteArray) (hC : C ≤ 5) (_hx : x ≤ 5) (hs20 : s.size ≤ 20) (hw : Word (cs s)) (hnS : C + s.size = nS) :
    Calls Tryz.prog 45 #[sv C (.slice A n cap), cv ⟨x, s⟩] w fun e w' =>
      ∃ vm gf, e = .returned (.agg #[.int .i64 nS, vm, .slice (some ⟨gf, 0, none⟩) 1 1]) ∧ Els ElM w' vm (chM C x (cs s)) ∧ Blk w' gf 3 #[.int .i64 (atN C x s.size)] ∧ Below w.heap.size w w' := by
  obtain ⟨W3, hW3⟩ : ∃ W3, ((w.alloc (.cells #[.int .i64 C, .slice A n cap] 24)).alloc (.cells #[.int .i64 x, .string s] 53)).alloc (.cells #[.int .i64 0, .slice none 0 0, .slice none 0 0] 28) = W3 := ⟨_, rfl⟩
  have hB3 : Below w.heap.size w W3 := by rw [← hW3]; exact bthen (below1 _ _) (bthen (below1 _ _) (below1 _ _))
  have b2 : Blk W3 w.heap.size 24 #[.int .i64 C, .slice A n cap] := by rw [← hW3]; exact ((Blk.new w 24 _).alloc _).alloc _
  have b3 : Blk W3 (w.heap.size + 1) 53 #[.int .i64 x, .string s] := by rw [← hW3]; have := Blk.new (w.alloc (.cells #[.int .i64 C, .slice A n cap] 24)) 53 #[.int .i64 x, .string s]; rw [alloc_size] at this; exact this.alloc _
  have b4 : Blk W3 (w.heap.size + 1 + 1) 28 #[.int .i64 0, .slice none 0 0, .slice none 0 0] := by rw [← hW3]; have := Blk.new ((w.alloc (.cells #[.int .i64 C, .slice A n cap] 24)).alloc (.cells #[.int .i64 x, .string s] 53)) 28 #[.int .i64 0, .slice none 0 0, .slice none 0 0]; rw [alloc_size, alloc_size] at this; exact this
  have hsz3 : W3.heap.size = w.heap.size + 3 := by rw [← hW3]; simp
  obtain ⟨W, hW⟩ : ∃ W, (W3.alloc (.cells #[.int .i64 x] 3)).alloc (.cells #[.int .i64 nS, .slice none 0 0, .slice (some ⟨W3.heap.size, 0, none⟩) 1 1] 28) = W := ⟨_, rfl⟩
  have hb3W : Below W3.heap.size W3 W := by rw [← hW]; exact bthen (below1 _ _) (below1 _ _)
  have hBW := bthen hB3 hb3W
  have k2 := Lib.hid (Blk.below b2 hb3W b2.lt)
  have k3 := Lib.hid (Blk.below b3 hb3W b3.lt)
  have k4 := Lib.hid (Blk.below b4 hb3W b4.lt)
  have kf := Lib.hid (show Blk W W3.heap.size 3 #[.int .i64 x] by rw [← hW]; exact (Blk.new W3 3 _).alloc _)
  have k5 := Lib.hid (show Blk W (W3.heap.size + 1) 28 #[.int .i64 nS, .slice none 0 0, .slice (some ⟨W3.heap.size, 0, none⟩) 1 1] by
    rw [← hW]
    have := Blk.new (W3.alloc (.cells #[.int .i64 x] 3)) 28 #[.int .i64 nS, .slice none 0 0, .slice (some ⟨W3.heap.size, 0, none⟩) 1 1]
    rw [alloc_size] at this
    exact this)
  have s0 : W3.cell? ⟨w.heap.size, 0, none⟩ = some (.int .i64 C) := b2.cell 0
  have s1 : W3.cell? ⟨w.heap.size + 1, 0, none⟩ = some (.int .i64 x) := b3.cell 0
  have s2 : W3.cell? ⟨w.heap.size + 1, 1, none⟩ = some (.string s) := b3.cell 1
  have hWs : W3.heap.size + 2 ≤ W.heap.size := k5.out.lt
  have hsum : (C : Int) + (s.size : Int) = (nS : Int) := by omega
  replace hnS := Lib.hid hnS
  replace hsz3 := Lib.hid hsz3
  have hs2 : (s.size : Int) ≤ 20 := by omega
  have t0 : W.cell? ⟨w.heap.size + 1, 0, none⟩ = some (.int .i64 x) := k3.out.cell 0
  replace hw := Lib.hid hw
  replace hBW := Lib.hid hBW
  clear b2 b3 b4 hB3 hb3W
  go_enter Tryz.func45, Tryz.ntmps45
  go_upto_region 3 with (fail)
  clear s0 s1 s2 t0
  obtain ⟨B5, hB5⟩ : ∃ B5, W3.heap.size + 1 = B5 := ⟨_, rfl⟩
  rw [hB5] at k5 ⊢
  have hB5W : B5 < W.heap.size := k5.out.lt
  have hB5l : w.heap.size + 3 < B5 := by have := hsz3.out; omega
  replace hB5 := Lib.hid hB5
  go_wp2
  go_loopw [6, 7] (fun c6 c7 wr => ∃ (i gf : Nat) (vm : Value), i ≤ s.size ∧ c7 = .int .i64 (i : Int) ∧ c6 = .int .i64 (atN C x i : Nat) ∧ Hid (Blk wr B5 28 #[.int .i64 nS, vm, .slice (some ⟨gf, 0, none⟩) 1 1]) ∧ Hid (Blk wr gf 3 #[.int .i64 (atN C x i : Nat)]) ∧
    Hid (OwnE ElM 78 W.heap.size wr vm ((chM C x (cs s)).take i)) ∧ Hid (w.heap.size + 3 ≤ gf) ∧ Hid (BX [B5] W wr)) (fun _ c7 _ => s.size - (intOf c7).toNat)
  case atStart => exact ⟨0, W3.heap.size, _, Nat.zero_le _, rfl, rfl, k5.out, kf.out, by rw [List.take_zero]; exact OwnE.nil _ _ _, Nat.le_of_eq hsz3.out.symm, BX.refl _ _⟩
  case round =>
    obtain ⟨i, gf, vm, hi, rfl, rfl, h5, hg, ho, hgf, hxr⟩ := hrel
    obtain ⟨Am, nm, capm, rfl, hnm⟩ := OwnE.shape ho.out
    have m2 : wr.cell? ⟨w.heap.size, 0, none⟩ = some (.int .i64 C) := (k2.out.bx hxr.out (by simp; omega)).cell 0
    have m3 : wr.cell? ⟨w.heap.size + 1, 1, none⟩ = some (.string s) := (k3.out.bx hxr.out (by simp; omega)).cell 1
    have q0 : wr.cell? ⟨B5, 0, none⟩ = some (.int .i64 nS) := h5.out.cell 0
    have q1 : wr.cell? ⟨B5, 1, none⟩ = some (.slice Am nm capm) := h5.out.cell 1
    have q2 : wr.cell? ⟨B5, 2, none⟩ = some (.slice (some ⟨gf, 0, none⟩) 1 1) := h5.out.cell 2
    by_cases hlt : i < s.size
    case neg =>
      have hge : ¬ (i : Int) < s.size := by omega
      have hie : i = s.size := by omega
      have htk : (chM C x (cs s)).take i = chM C x (cs s) := List.take_of_length_le (by rw [chM_len, cs_length]; omega)
      rw [htk] at ho
      rw [hie] at hg
      have b4 := k4.out.bx hxr.out (by simp; omega)
      have r0 : wr.cell? ⟨w.heap.size + 1 + 1, 0, none⟩ = some (.int .i64 0) := b4.cell 0
      have r1 : wr.cell? ⟨w.heap.size + 1 + 1, 1, none⟩ = some (.slice none 0 0) := b4.cell 1
      have r2 : wr.cell? ⟨w.heap.size + 1 + 1, 2, none⟩ = some (.slice none 0 0) := b4.cell 2
      have f0 := b4.free 0
      have f1 := b4.free 1
      have f2 := b4.free 2
      have B2 := ((b4.set 0 (.int .i64 nS)).set 1 (.slice Am nm capm)).set 2 (.slice (some ⟨gf, 0, none⟩) 1 1)
      have e0 := B2.cell 0
      have e1 := B2.cell 1
      have e2 := B2.cell 2
      simp at e0 e1 e2
      have hws := hxr.out.size
      have hxe : BX [w.heap.size + 1 + 1] wr (((wr.setCell ⟨w.heap.size + 1 + 1, 0, none⟩ (.int .i64 nS)).setCell ⟨w.heap.size + 1 + 1, 1, none⟩ (.slice Am nm capm)).setCell ⟨w.heap.size + 1 + 1, 2, none⟩ (.slice (some ⟨gf, 0, none⟩) 1 1)) := (((BX.refl _ wr).set (by simp) _).set (by simp) _).set (by simp) _
      have hfin := Lib.hid (show ∀ WE, BX [w.heap.size + 1 + 1] wr WE → Els ElM WE (.slice Am nm capm) (chM C x (cs s)) ∧ Blk WE gf 3 #[.int .i64 (atN C x s.size : Nat)] ∧ Below w.heap.size w WE from fun WE hE =>
        ⟨(ho.out.of_block fun g hg => hE.block g (ho.out.lt g hg).2 (by have := (ho.out.lt g hg).1; simp; omega)).els, hg.out.bx hE (by have := hgf.out; simp; omega), (hBW.out.trans (hxr.out.below (by have := hBW.out.size; omega) (by simp; omega))).trans (hE.below (by have := hBW.out.size; omega) (by simp; omega))⟩)
      replace hfin := Lib.hid (hfin.out _ hxe)
      clear b4 B2 hxe htk hie hlt
      go_wp2
      exact bodyPost_ret (v := .agg #[.int .i64 nS, .slice Am nm capm, .slice (some ⟨gf, 0, none⟩) 1 1]) (by simp [results, Tryz.results45, go_sem, e0, e1, e2]) rfl ⟨_, gf, rfl, hfin.out⟩
    have hltI : (i : Int) < s.size := by omega
    have hchw := hw.out (ch s i) (List.mem_of_getElem? (cs_at hlt))
    have hche := ch_eq hlt
    obtain ⟨c2, hc2⟩ : ∃ m : Nat, (s[i].toNat : Int) - 97 = m := ⟨(s[i].toNat - 97 : Int).toNat, by omega⟩
    have hCi : (C : Int) + (i : Int) = (C + i : Nat) := by omega
    have hc25 : c2 < 5 := by omega
    have htk := Lib.hid (show (chM C x (cs s)).take (i + 1) = (chM C x (cs s)).take i ++ [(atN C x i, c2, C + i)] from by
      rw [chM_take _ _ _ _ (by rw [cs_length]; omega), chM_take _ _ _ _ (by rw [cs_length]; omega), List.range_succ, List.map_append, List.map_cons, List.map_nil, List.getD_eq_getElem?_getD, cs_at hlt, Option.getD_some, hche, hc2]
      rfl)
    have hnx : atN C x (i + 1) = C + i := by unfold atN; simp
    replace hche := Lib.hid hche
    obtain ⟨cI, hcI⟩ : ∃ cI : Nat, C + i = cI := ⟨_, rfl⟩
    rw [hcI] at hCi htk hnx
    have hcI25 : cI ≤ 25 := by omega
    replace hcI := Lib.hid hcI
    generalize atN C x i = aI at *
    go_upto_region 7 with (fail)
    have hq : ∀ o, Blk (wr.drew.alloc o) B5 28 #[.int .i64 nS, .slice Am nm capm, .slice (some ⟨gf, 0, none⟩) 1 1] := fun o => (Blk.drewN h5.out 1).alloc o
    have hoD : ∀ o, OwnE ElM 78 W.heap.size (wr.drew.alloc o) (.slice Am nm capm) ((chM C x (cs s)).take i) := fun o => (ho.out.then (below_drew wr)).then (below1 _ o)
    have hlen : ((chM C x (cs s)).take i).length + 1 ≤ 1000000 := by rw [List.length_take, chM_len, cs_length]; omega
    have hloD : W.heap.size ≤ wr.heap.size := hxr.out.size
    have hcs : #[Value.int IntKind.i64 (aI : Int), Value.int IntKind.i64 (IntKind.i64.wrap (IntKind.u8.wrap (c2 : Int))), Value.int IntKind.i64 (IntKind.i64.wrap (cI : Int))].toList = ElM.enc (aI, c2, cI) := by
      rw [(wrap_small c2 (by omega)).2, (wrap_small cI (by omega)).1]
      rfl
    replace hcs := Lib.hid hcs
    have hgD : ∀ o, Blk (wr.drew.alloc o) gf 3 #[.int .i64 aI] := fun o => (Blk.drewN hg.out 1).alloc o
    have hxD : ∀ o, BX [B5] W (wr.drew.alloc o) := fun o => hxr.out.trans (BX.of_below (bthen (below_drew wr) (below1 _ o)))
    replace hgD := Lib.hid hgD
    replace hxD := Lib.hid hxD
    replace hq := Lib.hid hq
    replace hoD := Lib.hid hoD
    go_cut [] from 30 to 45 (fun wx => ∃ vm', Hid (Blk wx B5 28 #[.int .i64 nS, vm', .slice (some ⟨gf, 0, none⟩) 1 1]) ∧ Hid (OwnE ElM 78 W.heap.size wx vm' ((chM C x (cs s)).take (i + 1))) ∧ Hid (Blk wx gf 3 #[.int .i64 aI]) ∧ Hid (BX [B5] W wx))
    case first =>
      go_region_law (refine step_append_els (E := ElM) _ rfl (.tmp 30) (.tmp 43) 25 rfl W.heap.size Tryz.underlying25 info126 rfl rfl (by decide) _ ((chM C x (cs s)).take i) rfl (hoD.out _) _ rfl [(aI, c2, cI)] (els_one (E := ElM) (x := (aI, c2, cI)) (Blk.new wr.drew 78 _) hcs.out) hlen (by simp; omega) ?_; intro v2 w2 ho2 hb2 hg2 hl2; obtain ⟨A2, n2, cp2, rfl, hn9⟩ := OwnE.shape ho2; obtain ⟨hq2, hg3, hx2⟩ := only_app (hq.out _) (hgD.out _) (hoD.out _) (hxD.out _) hb2 hg2; have q1 : w2.cell? ⟨B5, 1, none⟩ = some (.slice Am nm capm) := hq2.cell 1; have qf := hq2.free 1; have ho2 := Lib.hid ho2; have hq2 := Lib.hid hq2; have hg3 := Lib.hid hg3; have hx2 := Lib.hid hx2; clear hb2 hg2 hl2 hn9)
      all_goals
        go_wp2
        go_meet
        exact ⟨.slice A2 n2 cp2, by show Blk _ _ _ _; simpa using hq2.out.set 1 (.slice A2 n2 cp2), by show OwnE _ _ _ _ _ _; rw [htk.out]; exact ho2.out.far (by show B5 < W.heap.size; omega) _, hg3.out.far (by have := Blk.ne_of hq2.out hg3.out (by decide); exact fun e => this e.symm) _, hx2.out.set (by simp) _⟩
    case rest =>
      obtain ⟨vm', h5c, hoc, hgc, hxc⟩ := hcut
      obtain ⟨Am', nm', capm', rfl, hnm'⟩ := OwnE.shape hoc.out
      have p2 : wc.cell? ⟨w.heap.size, 0, none⟩ = some (.int .i64 C) := (k2.out.bx hxc.out (by simp; omega)).cell 0
      have p5 : (wc.alloc (.cells #[.int .i64 cI] 3)).cell? ⟨B5, 2, none⟩ = some (.slice (some ⟨gf, 0, none⟩) 1 1) := (h5c.out.alloc (.cells #[.int .i64 cI] 3)).cell 2
      have f5 := (h5c.out.alloc (.cells #[.int .i64 cI] 3)).free 2
      have h5n := Lib.hid (show Blk ((wc.alloc (.cells #[.int .i64 cI] 3)).setCell ⟨B5, 2, none⟩ (.slice (some ⟨wc.heap.size, 0, none⟩) 1 1)) B5 28 #[.int .i64 nS, .slice Am' nm' capm', .slice (some ⟨wc.heap.size, 0, none⟩) 1 1] from by
        simpa using (h5c.out.alloc (.cells #[.int .i64 cI] 3)).set 2 (.slice (some ⟨wc.heap.size, 0, none⟩) 1 1))
      have hgn := Lib.hid (show Blk ((wc.alloc (.cells #[.int .i64 cI] 3)).setCell ⟨B5, 2, none⟩ (.slice (some ⟨wc.heap.size, 0, none⟩) 1 1)) wc.heap.size 3 #[.int .i64 (atN C x (i + 1) : Nat)] from by
        rw [hnx]
        exact (Blk.new wc 3 #[.int .i64 cI]).far (p := ⟨B5, 2, none⟩) (by have := h5c.out.lt; simp; omega) _)
      have hon := Lib.hid (show OwnE ElM 78 W.heap.size ((wc.alloc (.cells #[.int .i64 cI] 3)).setCell ⟨B5, 2, none⟩ (.slice (some ⟨wc.heap.size, 0, none⟩) 1 1)) (.slice Am' nm' capm') ((chM C x (cs s)).take (i + 1)) from (hoc.out.then (below1 _ _)).far (by show B5 < W.heap.size; omega) _)
      have hxn := Lib.hid ((hxc.out.trans (BX.of_below (below1 wc (.cells #[.int .i64 cI] 3)))).set (p := ⟨B5, 2, none⟩) (by simp) (.slice (some ⟨wc.heap.size, 0, none⟩) 1 1))
      have hgl := Lib.hid (show w.heap.size + 3 ≤ wc.heap.size from by have := hxc.out.size; omega)
      go_wp2
      go_roundw
      case rel => exact ⟨i + 1, _, _, by omega, by go_num, by rw [hnx], h5n.out, hgn.out, hon.out, hgl.out, hxn.out⟩
      case measure => simp [intOf]; omega
end
section
open Go.RowKit Go.Shelf
attribute [local go_sem] Oper.semAt_some

/-- the least of the finals -/
def bestN (n : Nat) (F : Nat → Bool) (v : Nat → Int) : Int := (List.range n).foldl (fun m i => if F i then min m (v i) else m) 1073741824
theorem bestN_zero (F : Nat → Bool) (v : Nat → Int) : bestN 0 F v = 1073741824 := rfl
theorem bestN_succ (n : Nat) (F : Nat → Bool) (v : Nat → Int) : bestN (n + 1) F v = if F n then min (bestN n F v) (v n) else bestN n F v := by
  unfold bestN; rw [List.range_succ, List.foldl_append]; rfl
theorem bestN_bd {n : Nat} {F : Nat → Bool} {v : Nat → Int} (h : ∀ i, i < n → 0 ≤ v i) : 0 ≤ bestN n F v ∧ bestN n F v ≤ 1073741824 := by
  induction n with
  | zero => rw [bestN_zero]; decide
  | succ n ih =>
    rw [bestN_succ]
    have := ih (fun i hi => h i (by omega))
    have := h n (by omega)
    split <;> omega
theorem costs_bd {n : Nat} {X : Nat → Nat → Nat → Int} (hX : ∀ p c q, p < n → c < 6 → q < n → 0 ≤ X p c q ∧ X p c q ≤ 1073741824) : ∀ (w : List Int) (now : Nat → Int), Word w → (∀ i, i < n → 0 ≤ now i ∧ now i ≤ 1073741824) → ∀ i, i < n → 0 ≤ costs n X w now i ∧ costs n X w now i ≤ 1073741824
  | [], now, _, h, i, hi => h i hi
  | a :: w, now, hw, h, i, hi => by
    obtain ⟨ha, hw'⟩ := hw.cons
    refine costs_bd hX w _ hw' (fun j hj => ⟨rd_ge (fun i hi => (h i hi).1) (fun i hi => (hX i _ j hi (by omega) hj).1), rd_le _ _ _ _⟩) i hi
theorem costs_snoc {n : Nat} {X : Nat → Nat → Nat → Int} (s : ByteArray) (k : Nat) (hk : k < s.size) (now : Nat → Int) (c : Nat) (hc : (s[k].toNat : Int) - 97 = c) : costs n X ((cs s).take (k + 1)) now = fun j => rd n (fun i k => X i c k) (costs n X ((cs s).take k) now) j := by
  rw [List.take_add_one, cs_at hk, Option.toList_some, costs_append]
  have : (ch s k - 97).toNat = c := by rw [ch_eq hk, hc]; rfl
  generalize costs n X ((cs s).take k) now = v
  unfold costs
  rw [this]
  rfl

set_option maxRecDepth 8000 in
set_option maxHeartbeats 8000000 in
theorem Cost_any (w : World) (n x gF : Nat) (vC : Value) (X : Nat → Nat → Nat → Int) (F : Nat → Bool) (s : ByteArray) (hn : 1 ≤ n) (hn4 : n ≤ 400) (hX : Cua w vC n X) (hF : Bl w gF n F) (hxn : x < n) (hw : Word (cs s)) (hs20 : s.size ≤ 20)
    (hXr : ∀ p c q, p < n → c < 6 → q < n → 0 ≤ X p c q ∧ X p c q ≤ 1073741824) (hE : ∀ p q, p < n → q < n → X p 5 q = 1073741824) :
    Calls Tryz.prog 48 #[.agg #[vC, .slice (some ⟨gF, 0, none⟩) n n], cv ⟨x, s⟩] w fun e w' => e = .returned (.int .i64 (bestN n F (costs n X (cs s) (only1 x)))) ∧ Below w.heap.size w w' := by
  obtain ⟨b, off, cap, rfl⟩ := hX.shape
  have hnI : (1 : Int) ≤ n := by omega
  have hnJ : (n : Int) ≤ 400 := by omega
  have hsI : (s.size : Int) ≤ 20 := by omega
  have hxI : (x : Int) < n := by omega
  obtain ⟨W, hW⟩ : ∃ W, (w.alloc (.cells #[.slice (some ⟨b, off, none⟩) n cap, .slice (some ⟨gF, 0, none⟩) n n] 49)).alloc (.cells #[.int .i64 x, .string s] 53) = W := ⟨_, rfl⟩
  have hBW : Below w.heap.size w W := by rw [← hW]; exact bthen (below1 _ _) (below1 _ _)
  have kA := show Blk W w.heap.size 49 #[.slice (some ⟨b, off, none⟩) n cap, .slice (some ⟨gF, 0, none⟩) n n] by rw [← hW]; exact (Blk.new w 49 _).alloc _
  have kB := show Blk W (w.heap.size + 1) 53 #[.int .i64 x, .string s] by rw [← hW]; have := Blk.new (w.alloc (.cells #[.slice (some ⟨b, off, none⟩) n cap, .slice (some ⟨gF, 0, none⟩) n n] 49)) 53 #[.int .i64 x, .string s]; rw [alloc_size] at this; exact this
  have s1 : W.cell? ⟨w.heap.size, 1, none⟩ = some (.slice (some ⟨gF, 0, none⟩) n n) := kA.cell 1
  replace kA := Lib.hid kA
  replace kB := Lib.hid kB
  replace hBW := Lib.hid hBW
  replace hX := Lib.hid hX
  replace hF := Lib.hid hF
  replace hw := Lib.hid hw
  replace hXr := Lib.hid hXr
  replace hE := Lib.hid hE
  go_enter Tryz.func48, Tryz.ntmps48
  go_upto_region 3 with (at_make; refine wpList_make_row rfl _ _ 26 rfl Tryz.underlying26 info3 n rfl rfl hn (by omega) ?_; intro w1 hB hb1; have hB := Lib.hid hB; have hb1 := Lib.hid hb1)
  clear s1
  obtain ⟨g, hg⟩ : ∃ g, W.heap.size = g := ⟨_, rfl⟩
  rw [hg] at hB ⊢
  have hgw := Lib.hid (show w.heap.size + 2 ≤ g from by have := kB.out.lt; omega)
  replace hg := Lib.hid hg
  go_wp2
  go_loopw [7] (fun c7 wr => ∃ i : Nat, i ≤ n ∧ c7 = .int .i64 (i : Int) ∧ Hid (Il wr g n (fun j => if j < i then 1073741824 else 0)) ∧ Hid (Below W.heap.size W wr)) (fun c7 _ => n - (intOf c7).toNat)
  case atStart => exact ⟨0, Nat.zero_le _, rfl, hB.out.congr fun i _ => by simp, hb1.out⟩
  case round =>
    obtain ⟨i, hi, rfl, hBr, hxr⟩ := hrel
    by_cases hlt : i < n
    case pos =>
      have hltI : (i : Int) < n := by omega
      have hfr := Blk.free hBr.out i
      have hce := Il.cell hBr.out hlt
      simp only [Nat.lt_irrefl, if_false] at hce
      have hnew := Lib.hid (show Il (wr.setCell ⟨g, i, none⟩ (.int .i64 1073741824)) g n (fun j => if j < i + 1 then 1073741824 else 0) from (Il.set hBr.out (i := i) 1073741824).congr fun j _ => by
        by_cases h1 : j = i
        · subst h1; simp
        · rw [if_neg h1]
          have : (j < i + 1) = (j < i) := by apply propext; omega
          simp only [this])
      have hxn := Lib.hid (hxr.out.setCell (p := ⟨g, i, none⟩) (Nat.le_of_eq hg.out) (.int .i64 1073741824))
      go_wp2
      go_roundw
      case rel => exact ⟨i + 1, by omega, by go_num, hnew.out, hxn.out⟩
      case measure => simp [intOf]; omega
    have hge : ¬ (i : Int) < n := by omega
    have hfill := Lib.hid (show Il wr g n (fun _ => 1073741824) from hBr.out.congr fun j hj => by rw [if_pos (by omega)])
    have t0 : wr.cell? ⟨w.heap.size + 1, 0, none⟩ = some (.int .i64 x) := (kB.out.below hxr.out kB.out.lt).cell 0
    have hce := Il.cell hfill.out hxn
    have hfr := Blk.free hfill.out x
    clear hlt hi
    go_upto_region 8 with (fail)
    clear hge hBr t0 hce hfr
    obtain ⟨V, hV⟩ : ∃ V, wr.setCell ⟨g, x, none⟩ (.int .i64 0) = V := ⟨_, rfl⟩
    rw [hV]
    have hNV := Lib.hid (show Il V g n (only1 x) from by
      rw [← hV]
      exact (Il.set hfill.out (i := x) 0).congr fun j _ => rfl)
    have hBV := Lib.hid (show Below W.heap.size W V from by rw [← hV]; exact hxr.out.setCell (Nat.le_of_eq hg.out) _)
    clear hV hfill hxr
    have hX5 := Lib.hid (show ∀ p q, p < n → q < n → 0 ≤ X p 5 q ∧ X p 5 q ≤ 1073741824 from fun p q hp hq => hXr.out p 5 q hp (by decide) hq)
    have ho1 : ∀ i, i < n → 0 ≤ only1 x i ∧ only1 x i ≤ 1073741824 := fun i _ => by unfold only1 farR; split <;> omega
    have hkw := Lib.hid (show ∀ wr, Below W.heap.size W wr → KeepC w wr from fun wr h => (KeepC.below hBW.out).trans (KeepC.below h))
    have hsil := Lib.hid (silent_any V w n g gF (.slice (some ⟨b, off, none⟩) n cap) X (only1 x) hn hn4 hX.out (hkw.out _ hBV.out) (by have := hgw.out; omega) hNV.out hX5.out ho1)
    have m0 : V.cell? ⟨w.heap.size, 0, none⟩ = some (.slice (some ⟨b, off, none⟩) n cap) := (kA.out.below hBV.out kA.out.lt).cell 0
    have m1 : V.cell? ⟨w.heap.size, 1, none⟩ = some (.slice (some ⟨gF, 0, none⟩) n n) := (kA.out.below hBV.out kA.out.lt).cell 1
    replace ho1 := Lib.hid ho1
    go_upto_region 9 with (go_at_call 67; refine hsil.out.mono ?_; rintro e w5 ⟨rfl, cur, hS, hI5, hx5, hq5⟩; have hS := Lib.hid hS; have hI5 := Lib.hid hI5; have hx5 := Lib.hid hx5; have hq5 := Lib.hid hq5)
    have hcur : ∀ k, k < n → cur k = only1 x k := fun k hk => hS.out.far (fun i k hi hk => hE.out i k hi hk) ho1.out hk
    have hN5 := Lib.hid (show Il w5 g n (costs n X ((cs s).take 0) (only1 x)) from hI5.out.congr fun k hk => by rw [hcur k hk]; rfl)
    have hB5 := Lib.hid (show Below W.heap.size W w5 from bthen hBV.out (hq5.out hcur))
    clear hcur hS hI5 hx5 hq5 hsil m0 m1 hNV
    go_wp2
    go_loopw [6, 8] (fun c6 c8 wq => ∃ kk gn : Nat, kk ≤ s.size ∧ c8 = .int .i64 (kk : Int) ∧ c6 = .slice (some ⟨gn, 0, none⟩) n n ∧ Hid (w.heap.size + 2 ≤ gn) ∧ Hid (Il wq gn n (costs n X ((cs s).take kk) (only1 x))) ∧ Hid (Below W.heap.size W wq)) (fun _ c8 _ => s.size - (intOf c8).toNat)
    case atStart => exact ⟨0, g, Nat.zero_le _, rfl, rfl, hgw.out, hN5.out, hB5.out⟩
    case round =>
      obtain ⟨kk, gn, hkk, rfl, rfl, hgn, hNq, hBq⟩ := hrel
      have kAq := kA.out.below hBq.out kA.out.lt
      have kBq := kB.out.below hBq.out kB.out.lt
      have y1 : wr.cell? ⟨w.heap.size + 1, 1, none⟩ = some (.string s) := kBq.cell 1
      have a0 : ∀ g : Gr wr, g.w1.cell? ⟨w.heap.size, 0, none⟩ = some (.slice (some ⟨b, off, none⟩) n cap) := fun g => g.cell (kAq.cell 0)
      have a1 : ∀ g : Gr wr, g.w1.cell? ⟨w.heap.size, 1, none⟩ = some (.slice (some ⟨gF, 0, none⟩) n n) := fun g => g.cell (kAq.cell 1)
      have a2 : ∀ g : Gr wr, g.w1.cell? ⟨w.heap.size + 1, 1, none⟩ = some (.string s) := fun g => g.cell (kBq.cell 1)
      replace kAq := Lib.hid kAq
      replace kBq := Lib.hid kBq
      by_cases hkl : kk < s.size
      case neg =>
        have hge2 : ¬ (kk : Int) < s.size := by omega
        have htk : (cs s).take kk = cs s := List.take_of_length_le (by rw [cs_length]; omega)
        rw [htk] at hNq
        clear htk hkl hkk a0 a1 a2
        have hbd := Lib.hid (costs_bd hXr.out (cs s) (only1 x) hw.out ho1.out)
        obtain ⟨vals, hvals⟩ : ∃ vals, costs n X (cs s) (only1 x) = vals := ⟨_, rfl⟩
        rw [hvals] at hNq hbd
        replace hvals := Lib.hid hvals
        go_wp2
        clear y1 hge2
        obtain ⟨V2, hV2⟩ : ∃ V2, V2 = wr := ⟨_, rfl⟩
        subst hV2
        go_loopw [9, 10] (fun c9 c10 wz => ∃ i : Nat, i ≤ n ∧ c10 = .int .i64 (i : Int) ∧ c9 = .int .i64 (bestN i F vals) ∧ Hid (Below V2.heap.size V2 wz)) (fun _ c10 _ => n - (intOf c10).toNat)
        case atStart => exact ⟨0, Nat.zero_le _, rfl, rfl, Below.refl _ _⟩
        case round =>
          obtain ⟨i, hi, rfl, rfl, hbz⟩ := hrel
          by_cases hlt : i < n
          case neg =>
            have hge : ¬ (i : Int) < n := by omega
            obtain rfl : i = n := by omega
            go_wp2
            go_ret
            exact ⟨(by rw [hvals.out]; rfl), hBW.out.trans (((hBq.out.mono hBW.out.size).trans (hbz.out.mono (by have := hBW.out.size; have := hBq.out.size; omega))))⟩
          have hltI : (i : Int) < n := by omega
          have f0 : wr.cell? ⟨w.heap.size, 1, none⟩ = some (.slice (some ⟨gF, 0, none⟩) n n) := (kAq.out.below hbz.out kAq.out.lt).cell 1
          have f1 := (hkw.out _ (hBq.out.trans (hbz.out.mono hBq.out.size))) _ _ (Bl.cell hF.out hlt)
          have f2 := cell_below (Il.cell hNq.out hlt) hbz.out
          have hsucc := bestN_succ i F vals
          have hb0 := bestN_bd (n := i) (F := F) (v := vals) fun j hj => (hbd.out j (by omega)).1
          obtain ⟨hb1, hb2⟩ := hb0
          obtain ⟨hv1, hv2⟩ := hbd.out i hlt
          generalize bestN i F vals = bo at *
          generalize vals i = vo at *
          cases hFi : F i with
          | false =>
            rw [hFi] at f1 hsucc
            clear hFi
            have hs2 : bestN (i + 1) F vals = bo := by rw [hsucc]; rfl
            replace hs2 := Lib.hid hs2
            clear hsucc
            go_wp2
            go_roundw
            case rel => exact ⟨i + 1, by omega, by go_num, by rw [hs2.out], hbz.out⟩
            case measure => simp [intOf]; omega
          | true =>
            rw [hFi] at f1 hsucc
            clear hFi
            have hs2 : bestN (i + 1) F vals = min bo vo := by rw [hsucc]; rfl
            replace hs2 := Lib.hid hs2
            clear hsucc
            go_wp2
            go_roundw
            case rel => exact ⟨i + 1, by omega, by go_num, by rw [hs2.out], hbz.out⟩
            case measure => simp [intOf]; omega
      have hkI : (kk : Int) < s.size := by omega
      have hchw := hw.out (ch s kk) (List.mem_of_getElem? (cs_at hkl))
      have hche := ch_eq hkl
      obtain ⟨c2, hc2⟩ : ∃ m : Nat, (s[kk].toNat : Int) - 97 = m := ⟨(s[kk].toNat - 97 : Int).toNat, by omega⟩
      have hc25 : c2 < 5 := by omega
      have hnext := Lib.hid (costs_snoc (n := n) (X := X) s kk hkl (only1 x) c2 hc2)
      have hbd := Lib.hid (costs_bd hXr.out ((cs s).take kk) (only1 x) (fun a ha => hw.out a (List.mem_of_mem_take ha)) ho1.out)
      obtain ⟨now, hnow⟩ : ∃ now, costs n X ((cs s).take kk) (only1 x) = now := ⟨_, rfl⟩
      rw [hnow] at hNq hnext hbd
      clear hnow
      have hread := Lib.hid (fun g : Gr wr => read_any g.w1 n c2 gn gF (.slice (some ⟨b, off, none⟩) n cap) X now hn hn4 (by omega) (hX.out.keep ((hkw.out _ hBq.out).trans (KeepC.below g.h))) (Blk.below hNq.out g.h (Blk.lt hNq.out)) (fun p q hp hq => hXr.out p c2 q hp (by omega) hq) hbd.out)
      obtain ⟨nxt, hnxt⟩ : ∃ nxt : Nat → Int, (fun k => rd n (fun i k => X i c2 k) now k) = nxt := ⟨_, rfl⟩
      rw [hnxt] at hread hnext
      have hnb := Lib.hid (show ∀ i, i < n → 0 ≤ nxt i ∧ nxt i ≤ 1073741824 from fun i hi => by
        rw [← hnxt]
        exact ⟨rd_ge (fun i hi => (hbd.out i hi).1) (fun j hj => (hXr.out j c2 i hj (by omega) hi).1), rd_le _ _ _ _⟩)
      have hsil := Lib.hid (fun (g : Gr wr) (gg : Nat) (h1 : wr.heap.size ≤ gg) (hI : Il g.w1 gg n nxt) => silent_any g.w1 w n gg gF (.slice (some ⟨b, off, none⟩) n cap) X nxt hn hn4 hX.out ((hkw.out _ hBq.out).trans (KeepC.below g.h)) (by have := hBW.out.size; have := hBq.out.size; omega) hI hX5.out hnb.out)
      have hsame := Lib.hid (fun (cur : Nat → Int) (hS : SilR n (fun i k => X i 5 k) nxt cur) (k : Nat) (hk : k < n) => hS.far (fun i k hi hk => hE.out i k hi hk) hnb.out hk)
      clear hnxt hche
      go_upto_region 12 with (fail)
      clear y1
      refine wp_region_rels 11 [false, false, false, false, false, false, false, false, false, true, true] [[], [], [], [], [], [], [], [], [], [], [9]] (fun kx h => .slice (some ⟨h.k, 0, none⟩) n n)
        (fun kx h w => wr.heap.size ≤ h.k ∧ Blk w h.k 3 (ils n nxt)) [] (by kernel_rfl) (by kernel_rfl) ?_
      simp only [List.take_succ_cons, List.take_zero, List.drop_succ_cons, List.drop_zero]
      refine walkS_reads 9 _ _ _ _ (by kernel_rfl) (by kernel_rfl) (by simp) ?_
      simp only [List.take_succ_cons, List.take_zero, List.drop_succ_cons, List.drop_zero]
      repeat (go_big_quiet_step (fail))
      refine wpQuiet_nil ?_
      refine walkS_eff rfl (by kernel_rfl) (fun g hd => ?_) (fun h9 => ?_)
      · (try rw [hc2])
        go_simp
        exact ⟨rfl, (hread.out g).mono (fun e w' ⟨gg, h1, h2, h3, h4⟩ => ⟨⟨none, 0, 0, gg, 0, false⟩, h1, h4, ⟨Nat.le_trans g.h.size h2, h3⟩, fun e => by cases e⟩)⟩
      go_frame
      refine walkS_eff rfl (by kernel_rfl) (fun g hd => ?_) (fun h10 => ?_)
      · obtain ⟨hd1, hd2⟩ := since_blk (by simpa using hd 9 (by simp) h9 rfl)
        go_simp
        exact ⟨rfl, (hsil.out g _ hd1 hd2).mono (fun e w' ⟨h1, cur, h2, h3, h4, h5⟩ => ⟨⟨none, 0, 0, h9.k, 0, false⟩, h1, h5 (hsame.out cur h2), ⟨hd1, Il.congr h3 (hsame.out cur h2)⟩, fun e => by cases e⟩)⟩
      go_frame
      refine walkS_nil ?_
      rintro _ ⟨gY, rfl⟩ hK hS
      obtain ⟨m10, k10⟩ := since_blk (by simpa using (hK 10 h10 rfl).1)
      obtain ⟨_, _, _, g10, _, _⟩ := h10
      obtain ⟨Y, hBY⟩ := gY
      dsimp only at *
      replace k10 := Lib.hid k10
      replace hBY := Lib.hid hBY
      clear hK hS a0 a1 a2 hread hsil hsame
      go_wp2
      go_roundw
      case rel => exact ⟨kk + 1, g10, by omega, by go_num, rfl, by have := hBq.out.size; have := hgw.out; have := hg.out; show w.heap.size + 2 ≤ g10; omega, by show Il _ _ _ _; rw [hnext.out]; exact k10.out, hBq.out.trans (hBY.out.mono hBq.out.size)⟩
      case measure => simp [intOf]; omega
end
end Go.Proofs.YtaapnflhjbdmlaaGreatDoor
