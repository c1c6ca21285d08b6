/- Run: the walk. No condition. -/
import Derived.Test.YtaapnflhjbdmlaaDoorK3
import Derived.Laws.EntriesVeiled
namespace Go.Proofs.YtaapnflhjbdmlaaDoor
open Go.RowKit Go.Shelf
attribute [local go_sem] Oper.semAt_some

/-- the rules of some moves, one behind the other -/
inductive Acc (R : List Rule) (B : Int → Int → Int → Prop) (T : Key → Option Cost) : List Key → List Nat → Prop
  | nil : Acc R B T [] []
  | snoc {ks o k c rs} : Acc R B T ks o → T k = some c → D R B k.1 k.2.1 k.2.2 rs → (rs.length : Int) ≤ c.steps → Acc R B T (ks ++ [k]) (o ++ rs)
theorem Acc.len {R : List Rule} {B : Int → Int → Int → Prop} {T : Key → Option Cost} {ks : List Key} {o : List Nat} (h : Acc R B T ks o) : (o.length : Int) ≤ csum T ks := by
  induction h with
  | nil => simp [csum]
  | snoc h1 h2 h3 h4 ih =>
    rw [csum_append, csum_one _ _ h2, List.length_append]
    omega
theorem Acc.snoc_inv {R : List Rule} {B : Int → Int → Int → Prop} {T : Key → Option Cost} {ks : List Key} {k : Key} {o : List Nat} (h : Acc R B T (ks ++ [k]) o) : ∃ o' rs, o = o' ++ rs ∧ Acc R B T ks o' ∧ D R B k.1 k.2.1 k.2.2 rs := by
  generalize e : ks ++ [k] = x at h
  cases h with
  | nil => simp at e
  | snoc h1 h2 h3 h4 =>
    obtain ⟨rfl, e2⟩ := List.append_inj' e rfl
    cases e2
    exact ⟨_, _, rfl, h1, h3⟩
theorem Acc.path {R : List Rule} {B : Int → Int → Int → Prop} {T : Key → Option Cost} {p q : Int} {w : List Int} {ks : List Key} (hc : Chain T p w ks q) : ∀ {o : List Nat}, Acc R B T ks o → Path R B p w q o := by
  induction hc with
  | nil =>
    intro o h
    generalize e : ([] : List Key) = x at h
    cases h with
    | nil => exact .nil _
    | snoc => simp at e
  | snoc h1 h2 ih =>
    intro o h
    obtain ⟨o', rs, rfl, h3, h4⟩ := h.snoc_inv
    exact (ih h3).join (Path.one_iff.2 h4)
theorem csum_take_le {T : Key → Option Cost} (hc : ∀ k c, T k = some c → 0 ≤ c.steps) (ks : List Key) (j : Nat) : csum T (ks.take j) ≤ csum T ks := by
  have h : csum T ks = csum T (ks.take j) + csum T (ks.drop j) := by rw [← csum_append, List.take_append_drop]
  have := Chain.csum_nonneg (T := T) hc (ks.drop j)
  omega
theorem Chain.mem {T : Key → Option Cost} {p q : Int} {w : List Int} {ks : List Key} (h : Chain T p w ks q) : ∀ k ∈ ks, ∃ c, T k = some c := by
  induction h with
  | nil => intro k hk; cases hk
  | snoc h1 h2 ih =>
    intro k hk
    rw [List.mem_append] at hk
    rcases hk with hk | hk
    · exact ih k hk
    · simp only [List.mem_cons, List.not_mem_nil, or_false] at hk
      subst hk; exact ⟨_, h2⟩
/-- what Run hands back -/
def RunRes (l : List RuleB) (x : Int) (s : ByteArray) (y : Int) (t : ByteArray) (lo : Nat) (e : Ending) (w' : World) : Prop :=
  (¬ ReachP (l.map RuleB.plain) x (cs s) y (cs t) ∧ e = .returned (.tuple #[.slice none 0 0, .bool false, .int .i64 0])) ∨
  (ReachP (l.map RuleB.plain) x (cs s) y (cs t) ∧ (∀ n, Steps (l.map RuleB.plain) x (cs s) n y (cs t) → 1000 < n.length) ∧ e = .returned (.tuple #[.slice none 0 0, .bool false, .int .i64 22])) ∨
  (∃ (rs : List Nat) (v' : Value), Steps (l.map RuleB.plain) x (cs s) rs y (cs t) ∧ rs.length ≤ 1000 ∧ e = .returned (.tuple #[v', .bool true, .int .i64 0]) ∧ OwnE ElI 3 lo w' v' (rs.map fun (i : Nat) => (i : Int)))

set_option maxHeartbeats 4000000 in
theorem Run_any (w : World) (C x y : Int) (v : Value) (l : List RuleB) (s t : ByteArray) (h : Rls w v l) (hs : ∀ r ∈ l, r.put.size ≤ 9223372036854775807) (hss : s.size ≤ 9223372036854775807) (htt : t.size ≤ 9223372036854775807) (he : allE C l [⟨x, s⟩, ⟨y, t⟩] = 0) :
    Calls Tryd.prog 20 #[sv C v, cv ⟨x, s⟩, cv ⟨y, t⟩] w fun e w' => RunRes l x s y t w.heap.size e w' ∧ Below w.heap.size w w' := by
  obtain ⟨A, n, cap, rfl, hn⟩ := Els.shape h
  obtain ⟨W, hW⟩ : ∃ W, (((w.alloc (.cells #[.int .i64 C, .slice A n cap] 38)).alloc (.cells #[.int .i64 x, .string s] 40)).alloc (.cells #[.int .i64 y, .string t] 40)).alloc (.cells #[.int .i64 x, .string s, .int .i64 y, .string t] 40) = W := ⟨_, rfl⟩
  have hBW : Below w.heap.size w W := by rw [← hW]; exact bthen (below1 _ _) (bthen (below1 _ _) (bthen (below1 _ _) (below1 _ _)))
  have kS : Blk W w.heap.size 38 #[.int .i64 C, .slice A n cap] := by rw [← hW]; exact (((Blk.new w 38 _).alloc _).alloc _).alloc _
  have kc : Blk W (w.heap.size + 1) 40 #[.int .i64 x, .string s] := by rw [← hW]; have := Blk.new (w.alloc (.cells #[.int .i64 C, .slice A n cap] 38)) 40 #[.int .i64 x, .string s]; rw [alloc_size] at this; exact (this.alloc _).alloc _
  have kd : Blk W (w.heap.size + 1 + 1) 40 #[.int .i64 y, .string t] := by rw [← hW]; have := Blk.new ((w.alloc (.cells #[.int .i64 C, .slice A n cap] 38)).alloc (.cells #[.int .i64 x, .string s] 40)) 40 #[.int .i64 y, .string t]; rw [alloc_size, alloc_size] at this; exact this.alloc _
  have k4 : Blk W (w.heap.size + 1 + 1 + 1) 40 #[.int .i64 x, .string s, .int .i64 y, .string t] := by rw [← hW]; have := Blk.new (((w.alloc (.cells #[.int .i64 C, .slice A n cap] 38)).alloc (.cells #[.int .i64 x, .string s] 40)).alloc (.cells #[.int .i64 y, .string t] 40)) 40 #[.int .i64 x, .string s, .int .i64 y, .string t]; rw [alloc_size, alloc_size, alloc_size] at this; exact this
  have H := checkAll_any W C (.slice A n cap) (.slice (some ⟨w.heap.size + 1 + 1 + 1, 0, none⟩) 2 2) l [⟨x, s⟩, ⟨y, t⟩] (Els.then h hBW) (els_blk (E := ElC) k4 rfl rfl (by omega)) hs (by simp; exact ⟨hss, htt⟩)
  have c0 : W.cell? ⟨w.heap.size, 0, none⟩ = some (.int .i64 C) := kS.cell 0
  have c1 : W.cell? ⟨w.heap.size, 1, none⟩ = some (.slice A n cap) := kS.cell 1
  have c2 : W.cell? ⟨w.heap.size + 1 + 1, 0, none⟩ = some (.int .i64 y) := kd.cell 0
  have c3 : W.cell? ⟨w.heap.size + 1 + 1, 1, none⟩ = some (.string t) := kd.cell 1
  have c4 : W.cell? ⟨w.heap.size + 1, 0, none⟩ = some (.int .i64 x) := kc.cell 0
  have c5 : W.cell? ⟨w.heap.size + 1, 1, none⟩ = some (.string s) := kc.cell 1
  have hrW := Lib.hid (show Rls W (.slice A n cap) l from Els.then h hBW)
  replace hBW := Lib.hid hBW
  obtain ⟨hsys, h1, h2⟩ := allE_two he
  rw [he] at H
  replace H := Lib.hid H
  obtain ⟨_, hx, _, hs20⟩ := properB_iff.1 h1
  obtain ⟨_, hy, _, ht20⟩ := properB_iff.1 h2
  dsimp only at hx hy hs20 ht20
  replace hsys := Lib.hid hsys
  replace kS := Lib.hid kS
  clear h hs hss htt kc kd k4 h1 h2 he
  go_enter Tryd.func20, Tryd.ntmps20
  go_wp2_with (first
    | (go_at_call 27; refine H.out.mono ?_; rintro e w1 ⟨rfl, hb⟩; replace c0 := cell_below c0 hb; replace c1 := cell_below c1 hb; replace c2 := cell_below c2 hb; replace c3 := cell_below c3 hb; replace c4 := cell_below c4 hb; replace c5 := cell_below c5 hb; replace hb := Lib.hid hb)
    | (go_at_call 35; refine (way_any w1 C _ l x y s t (Els.then hrW.out hb.out) hsys.out (by omega) (by omega)).mono ?_; rintro e w2 ⟨pv, bm, L, ok, rfl, hok, hb2⟩; obtain ⟨st, A2, n2, cap2, rfl⟩ : ∃ st A2 n2 cap2, pv = .agg #[.int .i64 st, .slice A2 n2 cap2] := (by obtain ⟨_, _, _, st, A2, n2, cap2, e, _⟩ := hok; exact ⟨st, A2, n2, cap2, e⟩); replace hok := Lib.hid hok; replace hb2 := Lib.hid hb2))
  · obtain rfl : ok = false := by simpa using (by assumption : (!ok) = true)
    have hno := hok.out.no hsys.out
    exact bodyPost_ret (v := .tuple #[.slice none 0 0, .bool false, .int .i64 0]) (by simp [results, Tryd.results20, go_sem]) rfl ⟨.inl ⟨hno, rfl⟩, bthen hBW.out (bthen hb.out (bthen hb2.out (bthen (below1 _ _) (below1 _ _))))⟩
  · have hlt : 1000 < st := by assumption
    obtain rfl : ok = true := by simpa using (by assumption : (!ok) = false)
    have hyes := hok.out.yes hsys.out hx hy
    have hmin : ∀ n, Steps (l.map RuleB.plain) x (cs s) n y (cs t) → 1000 < n.length := fun n hn => by
      obtain ⟨_, hI, hcl, st', _, _, _, e, hT, _⟩ := hok.out
      cases e
      obtain ⟨ks, _, _, _, hle⟩ := hT rfl
      obtain ⟨ks', hk', hl'⟩ := (path_of_run (rulesOk_of hsys.out) hn).chain hI hcl
      have := hle ks' hk'
      omega
    exact bodyPost_ret (v := .tuple #[.slice none 0 0, .bool false, .int .i64 22]) (by simp [results, Tryd.results20, go_sem]) rfl ⟨.inr (.inl ⟨hyes, hmin, rfl⟩), bthen hBW.out (bthen hb.out (bthen hb2.out (bthen (below1 _ _) (below1 _ _))))⟩
  · have hle : st ≤ 1000 := by assumption
    obtain rfl : ok = true := by simpa using (by assumption : (!ok) = false)
    obtain ⟨hm2, hI, _, st', _, _, _, e, hT, _⟩ := hok.out
    cases e
    obtain ⟨ks, hE, hch, hst, _⟩ := hT rfl
    have hfar : far = 1099511627776 := rfl
    have hcs : csum (cget L) ks ≤ 1000 := by omega
    obtain ⟨W0, hW0⟩ : ∃ W0, (w2.alloc (.cells #[.int .i64 st, .slice A2 n2 cap2] 89)).alloc (.cells #[.map (some bm)] 70) = W0 := ⟨_, rfl⟩
    have hz0 : W0.heap.size = w2.heap.size + 1 + 1 := by rw [← hW0, alloc_size, alloc_size]
    have hB0 : Below w2.heap.size w2 W0 := by rw [← hW0]; exact bthen (below1 _ _) (below1 _ _)
    have kM : Blk W0 (w2.heap.size + 1) 70 #[.map (some bm)] := by rw [← hW0]; have := Blk.new (w2.alloc (.cells #[.int .i64 st, .slice A2 n2 cap2] 89)) 70 #[.map (some bm)]; rw [alloc_size] at this; exact this
    have hrls0 : Rls W0 (.slice A n cap) l := ((hrW.out.then hb.out).then hb2.out).then hB0
    have henv : FolEnv W0 (w2.heap.size + 1) w.heap.size bm L A n cap l := ⟨kM.cell 0, AMap.below hm2 hB0 (AMap.lt hm2), cell_below (cell_below (cell_below (kS.out.cell 1) hb.out) hb2.out) hB0, hrls0⟩
    have hE0 := Lib.hid (hE.then hB0)
    have hfol := Lib.hid (fun N => follow_all W0 (w2.heap.size + 1) w.heap.size bm L A n cap l (Just C y (cs t)) henv hI N)
    have hcost := Lib.hid (fun k c hk => (hI.cost k c hk).1)
    have hmem := Lib.hid hch.mem
    have hks := Lib.hid (Els.len hE).1
    rw [hW0]
    obtain ⟨W1, hW1⟩ : ∃ W1, (W0.alloc (.cells #[.slice none 0 0] 48)).alloc (.cells #[folV (w2.heap.size + 1) (w2.heap.size + 1 + 1) w.heap.size (w2.heap.size + 1 + 1 + 1)] 92) = W1 := ⟨_, rfl⟩
    have hst1 : FolSt W0 (w2.heap.size + 1) w.heap.size W1 (.slice none 0 0) [] := by
      rw [← hW1]
      refine ⟨bthen (below1 _ _) (below1 _ _), (Blk.new _ _ _).alloc _, OwnE.nil _ _ _, ?_⟩
      have := Blk.new (W0.alloc (.cells #[.slice none 0 0] 48)) 92 #[folV (w2.heap.size + 1) (w2.heap.size + 1 + 1) w.heap.size (w2.heap.size + 1 + 1 + 1)]
      rw [alloc_size] at this
      rw [hz0] at this ⊢
      exact this
    have hBw := Lib.hid (bthen hBW.out (bthen hb.out (bthen hb2.out hB0)))
    have hsys' := rulesOk_of hsys.out
    replace hch := Lib.hid hch
    replace hI := Lib.hid hI
    replace hst1 := Lib.hid hst1
    replace hsys' := Lib.hid hsys'
    change Code.wp Tryd.prog _ _ _ ((W0.alloc (.cells #[.slice none 0 0] 48)).alloc (.cells #[folV (w2.heap.size + 1) (w2.heap.size + 1 + 1) w.heap.size (w2.heap.size + 1 + 1 + 1)] 92))
    rw [hW1]
    clear hW1 hW0 hE hm2 hT hst hB0 kM hrls0 henv c0 c1 c2 c3 c4 c5
    rw [← hz0]
    have hn20 : n2 ≤ 20 := by rw [hks.out, hch.out.len, cs_length]; exact hs20
    simp only [Bool.not_true]
    have hz0h := Lib.hid hz0
    clear hz0 hfar
    go_loopw [42] (fun c wr => ∃ (j : Nat) (v : Value) (out : List Nat), j ≤ n2 ∧ c = .int .i64 (j : Int) ∧ Hid (FolSt W0 (w2.heap.size + 1) w.heap.size wr v (out.map fun (i : Nat) => (i : Int))) ∧ Hid (Acc (l.map RuleB.plain) (Just C y (cs t)) (cget L) (ks.take j) out)) (fun c _ => n2 - (intOf c).toNat)
    case atStart => exact ⟨0, _, [], Nat.zero_le _, rfl, hst1.out, .nil⟩
    case round =>
      obtain ⟨j, v, out, hj, rfl, hstr, hacc⟩ := hrel
      have hlen := hacc.out.len
      have hle2 := csum_take_le hcost.out ks j
      by_cases hlt : j < n2
      case neg =>
        obtain rfl : j = n2 := by omega
        have htk : ks.take j = ks := List.take_of_length_le (by rw [hks.out]; exact Nat.le_refl _)
        have hres : RunRes l x s y t w.heap.size (.returned (.tuple #[v, .bool true, .int .i64 0])) wr := by
          have hacc' := hacc.out
          rw [htk] at hacc'
          refine .inr (.inr ⟨out, v, run_of_path hy hsys'.out hx (hacc'.path hch.out), by omega, rfl, ?_⟩)
          have := hBw.out.size
          have := hz0h.out
          exact hstr.out.own.lo_le (by omega)
        have c6 : wr.cell? ⟨W0.heap.size, 0, none⟩ = some v := hstr.out.var.cell 0
        obtain ⟨Av, nv, cv', rfl, _⟩ := OwnE.shape hstr.out.own
        have hfin := Lib.hid (And.intro hres (bthen hBw.out hstr.out.bel))
        clear hres htk
        go_wp2
        exact bodyPost_ret (v := .tuple #[.slice Av nv cv', .bool true, .int .i64 0]) (by simp [results, Tryd.results20, go_sem]) rfl hfin.out
      have hjl : j < ks.length := by have := hks.out; omega
      obtain ⟨bk, offk, rfl, hat⟩ := Els.cell hE0.out (by omega)
      have e0 := cell0 hstr.out.bel (hat j hjl 0 _ rfl)
      have e1 := cell0 hstr.out.bel (hat j hjl 1 _ rfl)
      have e2 := cell0 hstr.out.bel (hat j hjl 2 _ rfl)
      have htk : ks.take (j + 1) = ks.take j ++ [ks[j]] := List.take_succ_eq_append_getElem hjl
      obtain ⟨c, hc⟩ := hmem.out ks[j] (List.getElem_mem hjl)
      have hle3 := csum_take_le hcost.out ks (j + 1)
      rw [htk, csum_append, csum_one _ _ hc] at hle3
      clear hat
      generalize ks[j] = k at *
      obtain ⟨k1, k2, k3⟩ := k
      change wr.cell? ⟨bk, offk + j * 3 + 0, none⟩ = some (.int .i64 k1) at e0
      change wr.cell? ⟨bk, offk + j * 3 + 1, none⟩ = some (.int .u8 k2) at e1
      change wr.cell? ⟨bk, offk + j * 3 + 2, none⟩ = some (.int .i64 k3) at e2
      rw [Nat.add_zero] at e0
      have hnn := Chain.csum_nonneg (T := cget L) hcost.out (ks.take j)
      have hcst := hcost.out _ _ hc
      have hB5 := below1 wr (.cells #[.int .i64 k1, .int .u8 k2, .int .i64 k3] 94)
      have hcall := Lib.hid (hfol.out 1001 k1 k2 k3 c _ v _ hc (by omega) (by omega) (hstr.out.below hB5) (by simp; omega))
      have f0 : (wr.alloc (.cells #[.int .i64 k1, .int .u8 k2, .int .i64 k3] 94)).cell? ⟨W0.heap.size + 1, 0, none⟩ = some (folV (w2.heap.size + 1) W0.heap.size w.heap.size (W0.heap.size + 1)) := cell_below (hstr.out.fol.cell 0) hB5
      have htk' := Lib.hid htk
      have hc' := Lib.hid hc
      clear htk hc hB5
      go_wp2_with (go_at_call 36; refine hcall.out.mono ?_; rintro e w5 ⟨rfl, v5, rs, hst5, hd5, hl5, hkeep5⟩; replace hst5 := Lib.hid hst5; replace hd5 := Lib.hid hd5; replace hl5 := Lib.hid hl5; replace hkeep5 := Lib.hid hkeep5)
      go_roundw
      case rel =>
        refine ⟨j + 1, v5, out ++ rs, by omega, by go_num, ?_, ?_⟩
        · show FolSt _ _ _ _ _ _
          rw [List.map_append]
          exact hst5.out
        · show Acc _ _ _ _ _
          rw [htk'.out]
          exact .snoc hacc.out hc'.out hd5.out hl5.out
      case measure => simp [intOf]; omega
end Go.Proofs.YtaapnflhjbdmlaaDoor
