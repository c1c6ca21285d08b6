/- Steps of configurations in memory. No condition. push.IsRun. No condition. R.Step. No condition. R.IsRun, R.Next. No condition. -/
import Derived.Test.YtaapnflhjbdmlaaDoorKM
import Derived.Test.YtaapnflhjbdmlaaDoorW9
import Derived.Deep.RegionHeld3
import Derived.Deep.CutRange
namespace Go.Proofs.YtaapnflhjbdmlaaDoor
section
open Go.RowKit Go.Shelf

/-- whether a rule may be done -/
def mayB (l : List RuleB) (c : ConfB) (i : Int) : Bool := decide (0 ≤ i) && decide (i < l.length) && ((rAt l i.toNat).fr == c.ctl) && decide (0 < c.st.size) && ((rAt l i.toNat).top == ch c.st 0)
/-- a step -/
def stepB (l : List RuleB) (c : ConfB) (i : Int) : Option ConfB := if mayB l c i then some (stepC c.st (rAt l i.toNat)) else none
def runB (l : List RuleB) : ConfB → List Int → Option ConfB
  | c, [] => some c
  | c, i :: rs => match stepB l c i with
    | none => none
    | some d => runB l d rs
def isRunB (l : List RuleB) (c d : ConfB) (rs : List Int) : Bool := decide (rs.length ≤ 1000) && match runB l c rs with
  | none => false
  | some x => eqC x d
theorem runB_snoc (l : List RuleB) (i : Int) : ∀ (rs : List Int) (c : ConfB), runB l c (rs ++ [i]) = match runB l c rs with
    | none => none
    | some d => stepB l d i
  | [], c => by
    simp only [List.nil_append, runB]
    cases stepB l c i <;> rfl
  | j :: rs, c => by
    simp only [List.cons_append, runB]
    cases stepB l c j with
    | none => rfl
    | some d => exact runB_snoc l i rs d
theorem runB_append (l : List RuleB) (rs2 : List Int) : ∀ (rs : List Int) (c : ConfB), runB l c (rs ++ rs2) = match runB l c rs with
    | none => none
    | some d => runB l d rs2
  | [], c => rfl
  | j :: rs, c => by
    simp only [List.cons_append, runB]
    cases stepB l c j with
    | none => rfl
    | some d => exact runB_append l rs2 rs d
theorem cs_cons {s : ByteArray} (h : 0 < s.size) : cs s = ch s 0 :: cs (s.extract 1 s.size) := by
  have e : cs (s.extract 1 s.size) = (cs s).drop 1 := by
    unfold cs
    rw [ByteArray.data_extract, Array.toList_extract, List.extract_eq_take_drop, List.take_of_length_le (by simp), List.map_drop]
  have hl : 0 < (cs s).length := by rw [cs_length]; exact h
  rw [e]
  unfold ch
  cases hc : cs s with
  | nil => rw [hc] at hl; simp at hl
  | cons a t => rfl
theorem cs_append (a b : ByteArray) : cs (a ++ b) = cs a ++ cs b := by
  unfold cs
  simp
theorem plain_get {l : List RuleB} {n : Nat} {r : Rule} : (l.map RuleB.plain)[n]? = some r ↔ n < l.length ∧ r = (rAt l n).plain := by
  rw [List.getElem?_map]
  constructor
  · intro h
    obtain ⟨q, hq, rfl⟩ := Option.map_eq_some_iff.1 h
    obtain ⟨hi, hq'⟩ := List.getElem?_eq_some_iff.1 hq
    exact ⟨hi, by rw [rAt_eq hi, hq']⟩
  · rintro ⟨h, rfl⟩
    rw [List.getElem?_eq_getElem h, rAt_eq h]
    rfl
theorem mayB_iff {l : List RuleB} {c : ConfB} {i : Int} : mayB l c i = true ↔ ∃ n : Nat, i = n ∧ n < l.length ∧ (rAt l n).fr = c.ctl ∧ 0 < c.st.size ∧ (rAt l n).top = ch c.st 0 := by
  unfold mayB
  simp only [Bool.and_eq_true, decide_eq_true_eq, beq_iff_eq]
  constructor
  · rintro ⟨⟨⟨⟨a, b⟩, c⟩, d⟩, e⟩
    exact ⟨i.toNat, by omega, by omega, c, d, e⟩
  · rintro ⟨n, rfl, a, b, c, d⟩
    exact ⟨⟨⟨⟨by omega, by omega⟩, b⟩, c⟩, d⟩
theorem stepB_some {l : List RuleB} {c d : ConfB} {i : Int} : stepB l c i = some d ↔ mayB l c i = true ∧ d = stepC c.st (rAt l i.toNat) := by
  unfold stepB
  split
  · rename_i h
    exact ⟨fun e => ⟨h, (Option.some.inj e).symm⟩, fun e => by rw [e.2]⟩
  · rename_i h
    exact ⟨fun e => (by cases e), fun e => absurd e.1 h⟩
theorem steps_of_runB {l : List RuleB} : ∀ {rs : List Int} {c d : ConfB}, runB l c rs = some d → ∃ ns : List Nat, rs = ns.map (fun (n : Nat) => (n : Int)) ∧ Steps (l.map RuleB.plain) c.ctl (cs c.st) ns d.ctl (cs d.st)
  | [], c, d, h => by
    cases h
    exact ⟨[], rfl, .refl _ _⟩
  | i :: rs, c, d, h => by
    simp only [runB] at h
    cases hs : stepB l c i with
    | none => rw [hs] at h; cases h
    | some e =>
      rw [hs] at h
      obtain ⟨ns, rfl, h2⟩ := steps_of_runB h
      obtain ⟨h3, rfl⟩ := stepB_some.1 hs
      obtain ⟨n, rfl, hn, hf, hz, ht⟩ := mayB_iff.1 h3
      refine ⟨n :: ns, rfl, ?_⟩
      have h4 := Steps.step (l := ns) (w := cs (c.st.extract 1 c.st.size)) (q := d.ctl) (u := cs d.st) (plain_get.2 ⟨hn, rfl⟩)
      rw [cs_cons hz, ← ht, ← hf]
      refine h4 ?_
      have e2 : cs (stepC c.st (rAt l (n : Int).toNat)).st = (rAt l n).plain.put ++ cs (c.st.extract 1 c.st.size) := by
        show cs ((rAt l n).put ++ _) = _
        rw [cs_append]; rfl
      rw [e2] at h2
      exact h2
theorem runB_of_steps {l : List RuleB} {p q : Int} {w u : List Int} {ns : List Nat} (h : Steps (l.map RuleB.plain) p w ns q u) : ∀ {s : ByteArray}, cs s = w → ∃ t, cs t = u ∧ runB l ⟨p, s⟩ (ns.map (fun (n : Nat) => (n : Int))) = some ⟨q, t⟩ := by
  induction h with
  | refl p w => intro s hs; exact ⟨s, hs, rfl⟩
  | @step i r w l' q u hr h2 ih =>
    intro s hs
    obtain ⟨hi, rfl⟩ := plain_get.1 hr
    have hz : 0 < s.size := by rw [← cs_length, hs]; simp
    have h3 := cs_cons hz
    rw [hs] at h3
    obtain ⟨e1, e2⟩ := List.cons.inj h3
    have hmay : mayB l ⟨(rAt l i).plain.fr, s⟩ (i : Int) = true := mayB_iff.2 ⟨i, rfl, hi, rfl, hz, e1⟩
    obtain ⟨t, ht, hrun⟩ := ih (s := (rAt l i).put ++ s.extract 1 s.size) (by rw [cs_append, ← e2]; rfl)
    refine ⟨t, ht, ?_⟩
    simp only [List.map_cons, runB]
    rw [stepB_some.2 ⟨hmay, rfl⟩]
    exact hrun
theorem eqC_self (c : ConfB) : eqC c c = true := eqC_iff.2 rfl
theorem isRunB_of {l : List RuleB} {x y : Int} {s t : ByteArray} {ns : List Nat} (h : Steps (l.map RuleB.plain) x (cs s) ns y (cs t)) (hl : ns.length ≤ 1000) : isRunB l ⟨x, s⟩ ⟨y, t⟩ (ns.map (fun (n : Nat) => (n : Int))) = true := by
  obtain ⟨t', ht, hr⟩ := runB_of_steps h rfl
  unfold isRunB
  rw [hr, cs_inj ht]
  simp [hl, eqC_self]
theorem steps_of_isRunB {l : List RuleB} {x y : Int} {s t : ByteArray} {rs : List Int} (h : isRunB l ⟨x, s⟩ ⟨y, t⟩ rs = true) : rs.length ≤ 1000 ∧ ∃ ns : List Nat, rs = ns.map (fun (n : Nat) => (n : Int)) ∧ Steps (l.map RuleB.plain) x (cs s) ns y (cs t) := by
  unfold isRunB at h
  rw [Bool.and_eq_true, decide_eq_true_eq] at h
  refine ⟨h.1, ?_⟩
  cases hr : runB l ⟨x, s⟩ rs with
  | none => rw [hr] at h; simp at h
  | some d =>
    rw [hr] at h
    have := eqC_iff.1 h.2
    subst this
    exact steps_of_runB hr
/-- what a step does to the size -/
theorem stepC_size {s : ByteArray} {r : RuleB} (hz : 0 < s.size) (hr : r.put.size ≤ 2) : (stepC s r).st.size ≤ s.size + 1 := by
  show (r.put ++ s.extract 1 s.size).size ≤ _
  rw [ByteArray.size_append, ByteArray.size_extract]
  omega
theorem rAt_mem {l : List RuleB} {i : Nat} (h : i < l.length) : rAt l i ∈ l := by rw [rAt_eq h]; exact List.getElem_mem h
theorem runB_size {l : List RuleB} (hput : ∀ r ∈ l, r.put.size ≤ 2) : ∀ {rs : List Int} {c d : ConfB}, runB l c rs = some d → d.st.size ≤ c.st.size + rs.length
  | [], c, d, h => by cases h; simp
  | i :: rs, c, d, h => by
    simp only [runB] at h
    cases hs : stepB l c i with
    | none => rw [hs] at h; cases h
    | some e =>
      rw [hs] at h
      have h1 := runB_size hput h
      obtain ⟨h3, rfl⟩ := stepB_some.1 hs
      obtain ⟨n, rfl, hn, hf, hz, ht⟩ := mayB_iff.1 h3
      have := stepC_size (r := rAt l (n : Int).toNat) hz (hput _ (rAt_mem hn))
      simp only [List.length_cons]
      omega
theorem runB_take {l : List RuleB} {c : ConfB} {rs : List Int} {k : Nat} (hk : k < rs.length) : runB l c (rs.take (k + 1)) = match runB l c (rs.take k) with
    | none => none
    | some d => stepB l d (at0 rs k) := by
  rw [take_at0 hk, runB_snoc]
theorem runB_none {l : List RuleB} {c : ConfB} {rs : List Int} {k : Nat} (h : runB l c (rs.take k) = none) : runB l c rs = none := by
  conv => lhs; rw [← List.take_append_drop k rs, runB_append, h]
end
section
open Go.RowKit Go.Shelf
attribute [local go_sem] Oper.semAt_some

theorem put2 {C : Int} {l : List RuleB} (h : sysB C l = true) : ∀ r ∈ l, r.put.size ≤ 2 := by
  intro r hr
  obtain ⟨i, hi, rfl⟩ := List.getElem_of_mem hr
  have := (rulesOk_of h i (rAt l i).plain (plain_get.2 ⟨hi, rfl⟩)).2.2.2.2
  rw [rAt_eq hi] at this
  rw [← cs_length]
  exact this
theorem isRunB_bad {l : List RuleB} {c d : ConfB} {rs : List Int} {k : Nat} {x : Int} {s : ByteArray} (hk : k < rs.length) (h : runB l c (rs.take k) = some ⟨x, s⟩) (hm : mayB l ⟨x, s⟩ (at0 rs k) = false) : isRunB l c d rs = false := by
  have h1 : runB l c (rs.take (k + 1)) = none := by
    rw [runB_take hk, h]
    show stepB l ⟨x, s⟩ (at0 rs k) = none
    unfold stepB
    rw [hm]
    rfl
  unfold isRunB
  rw [runB_none h1]
  simp
theorem runB_good {l : List RuleB} {c : ConfB} {rs : List Int} {k i : Nat} {x : Int} {s : ByteArray} (hk : k < rs.length) (h : runB l c (rs.take k) = some ⟨x, s⟩) (hi : at0 rs k = i) (hm : mayB l ⟨x, s⟩ i = true) : runB l c (rs.take (k + 1)) = some (stepC s (rAt l i)) := by
  rw [runB_take hk, h]
  show stepB l ⟨x, s⟩ (at0 rs k) = _
  rw [hi, stepB_some.2 ⟨hm, rfl⟩]
  rfl
theorem str_ne {s : ByteArray} (h : 0 < s.size) : s.toList.isEmpty = false := by
  rw [Lib.toList_data]
  cases hh : s.data.toList with
  | nil => have : s.data.toList.length = 0 := by rw [hh]; rfl
           have : s.size = 0 := by simpa using this
           omega
  | cons a t => rfl
theorem str_nil {s : ByteArray} (h : s.size = 0) : s.toList = [] := by
  rw [Lib.toList_data]
  have : s.data.size = 0 := h
  exact List.eq_nil_of_length_eq_zero (by simpa using this)

set_option maxRecDepth 8000 in
set_option maxHeartbeats 4000000 in
theorem IsRun_any (w : World) (C x y : Int) (v vr : Value) (l : List RuleB) (s t : ByteArray) (rs : List Int) (h : Rls w v l) (hrs : Ints w vr rs) (hs : ∀ r ∈ l, r.put.size ≤ 9223372036854775807) (hss : s.size ≤ 9223372036854775807) (htt : t.size ≤ 9223372036854775807) :
    Calls Tryd.prog 23 #[sv C v, cv ⟨x, s⟩, cv ⟨y, t⟩, vr] w fun e w' => e = .returned (.bool (decide (allE C l [⟨x, s⟩, ⟨y, t⟩] = 0) && isRunB l ⟨x, s⟩ ⟨y, t⟩ rs)) ∧ Below w.heap.size w w' := by
  obtain ⟨A, n, cap, rfl, hn⟩ := Els.shape h
  obtain ⟨Ar, nr, capr, rfl, hnr⟩ := Slc.shape hrs
  obtain ⟨_, _, e, hcapr, hmaxr, _⟩ := hrs.open
  cases e
  obtain ⟨W, hW⟩ : ∃ W, (((w.alloc (.cells #[.int .i64 C, .slice A n cap] 38)).alloc (.cells #[.int .i64 x, .string s] 40)).alloc (.cells #[.int .i64 y, .string t] 40)).alloc (.cells #[.int .i64 x, .string s, .int .i64 y, .string t] 40) = W := ⟨_, rfl⟩
  have hBW : Below w.heap.size w W := by rw [← hW]; exact bthen (below1 _ _) (bthen (below1 _ _) (bthen (below1 _ _) (below1 _ _)))
  have kS : Blk W w.heap.size 38 #[.int .i64 C, .slice A n cap] := by rw [← hW]; exact (((Blk.new w 38 _).alloc _).alloc _).alloc _
  have kc : Blk W (w.heap.size + 1) 40 #[.int .i64 x, .string s] := by rw [← hW]; have := Blk.new (w.alloc (.cells #[.int .i64 C, .slice A n cap] 38)) 40 #[.int .i64 x, .string s]; rw [alloc_size] at this; exact (this.alloc _).alloc _
  have kd : Blk W (w.heap.size + 1 + 1) 40 #[.int .i64 y, .string t] := by rw [← hW]; have := Blk.new ((w.alloc (.cells #[.int .i64 C, .slice A n cap] 38)).alloc (.cells #[.int .i64 x, .string s] 40)) 40 #[.int .i64 y, .string t]; rw [alloc_size, alloc_size] at this; exact this.alloc _
  have k4 : Blk W (w.heap.size + 1 + 1 + 1) 40 #[.int .i64 x, .string s, .int .i64 y, .string t] := by rw [← hW]; have := Blk.new (((w.alloc (.cells #[.int .i64 C, .slice A n cap] 38)).alloc (.cells #[.int .i64 x, .string s] 40)).alloc (.cells #[.int .i64 y, .string t] 40)) 40 #[.int .i64 x, .string s, .int .i64 y, .string t]; rw [alloc_size, alloc_size, alloc_size] at this; exact this
  have H := Lib.hid (checkAll_any W C (.slice A n cap) (.slice (some ⟨w.heap.size + 1 + 1 + 1, 0, none⟩) 2 2) l [⟨x, s⟩, ⟨y, t⟩] (Els.then h hBW) (els_blk (E := ElC) k4 rfl rfl (by omega)) hs (by simp; exact ⟨hss, htt⟩))
  replace h := Lib.hid h
  replace hrs := Lib.hid hrs
  replace kS := Lib.hid kS
  replace kc := Lib.hid kc
  replace kd := Lib.hid kd
  replace hBW := Lib.hid hBW
  have hall := Lib.hid (fun e : allE C l [⟨x, s⟩, ⟨y, t⟩] = 0 => allE_two e)
  unfold maxLen at hmaxr
  clear hs hss htt k4
  generalize hEE : allE C l [⟨x, s⟩, ⟨y, t⟩] = E at H hall ⊢
  replace hEE := Lib.hid hEE
  by_cases hE : E = 0
  case neg =>
    have hne : (E != 0) = true := by simpa using hE
    have hfin := Lib.hid (show (decide (E = 0) && isRunB l ⟨x, s⟩ ⟨y, t⟩ rs) = false by simp [hE])
    clear hall
    replace hE := Lib.hid hE
    go_enter Tryd.func23, Tryd.ntmps23
    go_wp2_with (go_at_call 27; refine H.out.mono ?_; rintro e w1 ⟨rfl, hb⟩; replace hb := Lib.hid hb)
    go_ret
    exact ⟨ret_bool hfin.out.symm, bthen hBW.out hb.out⟩
  subst hE
  simp only [decide_true, Bool.true_and]
  obtain ⟨hsys, h1, h2⟩ := hall.out rfl
  obtain ⟨_, hx, _, hs20⟩ := properB_iff.1 h1
  have hput := Lib.hid (put2 hsys)
  dsimp only at hx hs20
  clear hall h1 h2 hsys
  by_cases hlong : 1000 < rs.length
  · have hfin := Lib.hid (show isRunB l ⟨x, s⟩ ⟨y, t⟩ rs = false by unfold isRunB; simp; omega)
    have hl' : (1000 : Int) < rs.length := by omega
    go_enter Tryd.func23, Tryd.ntmps23
    go_wp2_with (go_at_call 27; refine H.out.mono ?_; rintro e w1 ⟨rfl, hb⟩; replace hb := Lib.hid hb)
    go_ret
    exact ⟨ret_bool hfin.out.symm, bthen hBW.out hb.out⟩
  have hl' : ¬ (1000 : Int) < rs.length := by omega
  go_enter Tryd.func23, Tryd.ntmps23
  go_wp2_with (go_at_call 27; refine H.out.mono ?_; rintro e w1 ⟨rfl, hb⟩; replace hb := Lib.hid hb)
  go_loopw [25] (fun c wr => ∃ (k : Nat) (x' : Int) (s' : ByteArray), k ≤ rs.length ∧ c = .int .i64 (k : Int) ∧ Hid (runB l ⟨x, s⟩ (rs.take k) = some ⟨x', s'⟩) ∧ Hid (Blk wr (w.heap.size + 1) 40 #[.int .i64 x', .string s']) ∧
    Hid (Blk wr w.heap.size 38 #[.int .i64 C, .slice A n cap]) ∧ Hid (Blk wr (w.heap.size + 1 + 1) 40 #[.int .i64 y, .string t]) ∧ Hid (Below w.heap.size w wr)) (fun c _ => rs.length - (intOf c).toNat)
  case atStart => exact ⟨0, x, s, Nat.zero_le _, rfl, rfl, kc.out.below hb.out kc.out.lt, kS.out.below hb.out kS.out.lt, kd.out.below hb.out kd.out.lt, bthen hBW.out hb.out⟩
  case round =>
    obtain ⟨k, x', s', hk, rfl, hrun, k1, k0, k2, hBr⟩ := hrel
    have d0 : wr.cell? ⟨w.heap.size + 1, 0, none⟩ = some (.int .i64 x') := k1.out.cell 0
    have d1 : wr.cell? ⟨w.heap.size + 1, 1, none⟩ = some (.string s') := k1.out.cell 1
    have hsz : s'.size ≤ s.size + (rs.take k).length := runB_size hput.out hrun.out
    have htl : (rs.take k).length ≤ 1000 := by have := List.length_take_le k rs; omega
    by_cases hlt : k < rs.length
    case neg =>
      obtain rfl : k = rs.length := by omega
      have htk : rs.take rs.length = rs := List.take_length
      rw [htk] at hrun
      have d2 : wr.cell? ⟨w.heap.size + 1 + 1, 0, none⟩ = some (.int .i64 y) := k2.out.cell 0
      have d3 : wr.cell? ⟨w.heap.size + 1 + 1, 1, none⟩ = some (.string t) := k2.out.cell 1
      have hfin := Lib.hid (show isRunB l ⟨x, s⟩ ⟨y, t⟩ rs = eqC ⟨x', s'⟩ ⟨y, t⟩ by unfold isRunB; rw [hrun.out]; simp; omega)
      clear htk hsz
      go_wp2
      all_goals go_ret
      all_goals refine ⟨ret_bool ?_, hBr.out⟩
      all_goals rw [hfin.out]; unfold eqC
      · simp [show x' = y by assumption, show s'.toList = t.toList by assumption]
      · simp [show ¬ s'.toList = t.toList by assumption]
      · simp [show ¬ x' = y by assumption]
    obtain ⟨_, br, offr, rfl, hat⟩ := (Ints.below hrs.out (Nat.le_refl _) hBr.out).addr (by omega)
    have e0 := hat k hlt
    have hrW := Els.then h.out hBr.out
    have hnl1 : n ≤ l.length := Nat.le_of_eq hn.out
    have hnl2 : l.length ≤ n := Nat.le_of_eq hn.out.symm
    have s0 : wr.cell? ⟨w.heap.size, 1, none⟩ = some (.slice A n cap) := k0.out.cell 1
    have hbad := Lib.hid (fun hm => isRunB_bad (d := ⟨y, t⟩) hlt hrun.out hm)
    have hgood := Lib.hid (fun i hi hm => runB_good (i := i) hlt hrun.out hi hm)
    clear hat
    generalize at0 rs k = i at *
    by_cases g1 : i < 0
    · have hfin := Lib.hid (show isRunB l ⟨x, s⟩ ⟨y, t⟩ rs = false by rw [hbad.out (by unfold mayB; simp [show ¬ 0 ≤ i by omega])])
      clear hrW
      have g1' : decide (i < 0) = true := by simpa using g1
      go_wp2
      go_ret
      exact ⟨ret_bool hfin.out.symm, hBr.out⟩
    by_cases g2 : (n : Int) ≤ i
    · have hfin := Lib.hid (show isRunB l ⟨x, s⟩ ⟨y, t⟩ rs = false by rw [hbad.out (by unfold mayB; simp [show ¬ i < (l.length : Int) by omega])])
      clear hrW
      go_wp2
      go_ret
      exact ⟨ret_bool hfin.out.symm, hBr.out⟩
    obtain ⟨m, rfl⟩ : ∃ m : Nat, i = m := ⟨i.toNat, by omega⟩
    have hml : m < l.length := by omega
    have hmn : m < n := by omega
    obtain ⟨b3, off3, rfl, x0, x1, x2, x3⟩ := Rls.at hrW hml
    have hmay := Lib.hid (show mayB l ⟨x', s'⟩ m = (((rAt l m).fr == x') && decide (0 < s'.size) && ((rAt l m).top == ch s' 0)) by unfold mayB; simp [hml])
    have hpm := hput.out _ (rAt_mem hml)
    have hgood := Lib.hid (hgood.out m rfl)
    generalize rAt l m = r at *
    obtain ⟨f, tp, tz, p⟩ := r
    dsimp only at x0 x1 x2 x3 hpm
    obtain ⟨W2, hW2⟩ : ∃ W2, wr.alloc (.cells #[.int .i64 f, .int .u8 tp, .int .i64 tz, .string p] 63) = W2 := ⟨_, rfl⟩
    have hB2 : Below wr.heap.size wr W2 := by rw [← hW2]; exact below1 _ _
    have kR : Blk W2 wr.heap.size 63 #[.int .i64 f, .int .u8 tp, .int .i64 tz, .string p] := by rw [← hW2]; exact Blk.new _ _ _
    have y0 : W2.cell? ⟨w.heap.size + 1, 0, none⟩ = some (.int .i64 x') := cell_below d0 hB2
    have y1 : W2.cell? ⟨w.heap.size + 1, 1, none⟩ = some (.string s') := cell_below d1 hB2
    have y2 : W2.cell? ⟨wr.heap.size, 0, none⟩ = some (.int .i64 f) := kR.cell 0
    have y3 : W2.cell? ⟨wr.heap.size, 1, none⟩ = some (.int .u8 tp) := kR.cell 1
    have hBw2 := Lib.hid (hBr.out.trans (hB2.mono hBr.out.size))
    clear hrW
    by_cases hz : s'.size = 0
    · have hfin := Lib.hid (show isRunB l ⟨x, s⟩ ⟨y, t⟩ rs = false by rw [hbad.out (by rw [hmay.out, hz]; simp)])
      have hs0 := str_nil hz
      have hs0' : s'.toList.isEmpty = true := by rw [hs0]; rfl
      replace hz := Lib.hid hz
      go_wp2
      go_quiet (fail)
      go_wp2
      go_ret
      exact ⟨ret_bool hfin.out.symm, below_drewN hBw2.out _⟩
    have hz' : 0 < s'.size := by omega
    have hs0' := str_ne hz'
    by_cases g4 : x' = f
    case neg =>
      have hfin := Lib.hid (show isRunB l ⟨x, s⟩ ⟨y, t⟩ rs = false by rw [hbad.out (by rw [hmay.out]; simp [show ¬ f = x' from fun e => g4 e.symm])])
      have g4' : (x' != f) = true := by simpa using g4
      replace g4 := Lib.hid g4
      go_wp2
      go_quiet (fail)
      go_wp2
      go_ret
      exact ⟨ret_bool hfin.out.symm, below_drewN hBw2.out _⟩
    have g4' : (x' != f) = false := by simpa using g4
    have hch := (ch_eq hz').symm
    have g4h := Lib.hid g4
    clear g4
    by_cases g5 : ch s' 0 = tp
    case neg =>
      have hfin := Lib.hid (show isRunB l ⟨x, s⟩ ⟨y, t⟩ rs = false by rw [hbad.out (by rw [hmay.out]; simp [show ¬ tp = ch s' 0 from fun e => g5 e.symm])])
      have g5' : (ch s' 0 != tp) = true := by simpa using g5
      replace g5 := Lib.hid g5
      go_wp2
      go_quiet (fail)
      go_wp2
      go_ret
      exact ⟨ret_bool hfin.out.symm, below_drewN hBw2.out _⟩
    have g5' : (ch s' 0 != tp) = false := by simpa using g5
    have hnew := Lib.hid (hgood.out (by rw [hmay.out]; simp [hz', g5, g4h.out]))
    replace g5 := Lib.hid g5
    go_wp2
    go_quiet (fail)
    obtain ⟨W3, hW3⟩ : ∃ W3, W2.drewN nq = W3 := ⟨_, rfl⟩
    have hB3 : Below W2.heap.size W2 W3 := by rw [← hW3]; exact below_drewN (Below.refl _ _) _
    rw [hW3]
    clear hW3 y0 y1 y2 y3
    have hsum : ¬ 9223372036854775807 < p.size + (s'.size - 1) := by omega
    have hsum2 : ¬ 9223372036854775807 < p.size + (s'.extract 1 s'.size).size := by rw [ByteArray.size_extract]; omega
    have hB23 := bthen hB2 hB3
    have kR3 := kR.below hB3 kR.lt
    have k13 := k1.out.below hB23 k1.out.lt
    have k03 := k0.out.below hB23 k0.out.lt
    have k23 := k2.out.below hB23 k2.out.lt
    have hz1 : 1 ≤ s'.size := hz'
    have t1 : ∀ g : Gr W3, g.w1.cell? ⟨w.heap.size + 1, 1, none⟩ = some (.string s') := fun g => g.cell (k13.cell 1)
    have t2 : ∀ g : Gr W3, g.w1.cell? ⟨wr.heap.size, 2, none⟩ = some (.int .i64 tz) := fun g => g.cell (kR3.cell 2)
    have t3 : ∀ g : Gr W3, g.w1.cell? ⟨wr.heap.size, 3, none⟩ = some (.string p) := fun g => g.cell (kR3.cell 3)
    replace kR3 := Lib.hid kR3
    replace k13 := Lib.hid k13
    replace k03 := Lib.hid k03
    replace k23 := Lib.hid k23
    clear hB2 kR d0 d1 s0 e0 x0 x1 x2 x3 g4' g5'
    go_wp2
    refine wp_region_growtail 9 (by kernel_rfl) (by kernel_rfl) ?_
    simp only [List.take_succ_cons, List.take_zero, List.drop_succ_cons, List.drop_zero]
    repeat (go_big_quiet_step (fail))
    refine wpQuiet_nil ?_
    rintro _ ⟨g, rfl⟩
    clear t1 t2 t3
    have z1 := g.cell (k13.out.cell 0)
    have z2 := g.cell (k13.out.cell 1)
    have z3 := (k13.out.below g.h k13.out.lt).free 0
    have z4 := (k13.out.below g.h k13.out.lt).free 1
    have hbk := Lib.hid (And.intro (k13.out.below g.h k13.out.lt) (And.intro (k03.out.below g.h k03.out.lt) (And.intro (k23.out.below g.h k23.out.lt) (hBr.out.trans ((bthen hB23 g.h).mono hBr.out.size)))))
    simp at z1 z2
    go_wp2
    obtain ⟨w1', w0', w2', wB'⟩ := hbk.out
    have hzw := hBr.out.size
    have kn := (w1'.set 0 (.int .i64 tz)).set 1 (.string (p ++ s'.extract 1 s'.size))
    go_roundw
    case rel =>
      refine ⟨k + 1, tz, p ++ s'.extract 1 s'.size, by omega, by go_num, hnew.out, by show Blk _ _ _ _; simpa using kn, ?_, ?_, ?_⟩
      · exact (w0'.far (by show w.heap.size ≠ w.heap.size + 1; omega) _).far (by show w.heap.size ≠ w.heap.size + 1; omega) _
      · exact (w2'.far (by show w.heap.size + 1 + 1 ≠ w.heap.size + 1; omega) _).far (by show w.heap.size + 1 + 1 ≠ w.heap.size + 1; omega) _
      · exact (wB'.setCell (by show w.heap.size ≤ w.heap.size + 1; omega) _).setCell (by show w.heap.size ≤ w.heap.size + 1; omega) _
    case measure => simp [intOf]; omega
end
section
open Go.RowKit Go.Shelf
attribute [local go_sem] Oper.semAt_some

/-- the configuration behind a step, or the same one -/
def stepD (l : List RuleB) (c : ConfB) (i : Int) : ConfB := if mayB l c i then stepC c.st (rAt l i.toNat) else c

theorem two_set {w : World} {g t : Nat} {a b : Value} (h : Blk w g t #[a, b]) (u1 u2 : Value) : ((w.setCell ⟨g, 0, none⟩ u1).setCell ⟨g, 1, none⟩ u2).cell? ⟨g, 0, none⟩ = some u1 ∧ ((w.setCell ⟨g, 0, none⟩ u1).setCell ⟨g, 1, none⟩ u2).cell? ⟨g, 1, none⟩ = some u2 := by
  have h2 := (h.set 0 u1).set 1 u2
  exact ⟨by rw [h2.cell]; rfl, by rw [h2.cell]; rfl⟩

set_option maxRecDepth 8000 in
set_option maxHeartbeats 4000000 in
theorem Step_any (w : World) (C x i : Int) (v : Value) (l : List RuleB) (s : ByteArray) (h : Rls w v l) (hput : ∀ r ∈ l, r.put.size ≤ 2) (hss : s.size ≤ 100000) :
    Calls Tryd.prog 24 #[sv C v, cv ⟨x, s⟩, .int .i64 i] w fun e w' => e = .returned (.tuple #[cv (stepD l ⟨x, s⟩ i), .bool (mayB l ⟨x, s⟩ i)]) ∧ Below w.heap.size w w' := by
  obtain ⟨A, n, cap, rfl, hn⟩ := Els.shape h
  obtain ⟨W, hW⟩ : ∃ W, ((w.alloc (.cells #[.int .i64 C, .slice A n cap] 24)).alloc (.cells #[.int .i64 x, .string s] 26)).alloc (.cells #[.int .i64 0, .string ⟨#[]⟩] 26) = W := ⟨_, rfl⟩
  have hBW : Below w.heap.size w W := by rw [← hW]; exact bthen (below1 _ _) (bthen (below1 _ _) (below1 _ _))
  have kS : Blk W w.heap.size 24 #[.int .i64 C, .slice A n cap] := by rw [← hW]; exact ((Blk.new w 24 _).alloc _).alloc _
  have kc : Blk W (w.heap.size + 1) 26 #[.int .i64 x, .string s] := by rw [← hW]; have := Blk.new (w.alloc (.cells #[.int .i64 C, .slice A n cap] 24)) 26 #[.int .i64 x, .string s]; rw [alloc_size] at this; exact this.alloc _
  have kr : Blk W (w.heap.size + 1 + 1) 26 #[.int .i64 0, .string ⟨#[]⟩] := by rw [← hW]; have := Blk.new ((w.alloc (.cells #[.int .i64 C, .slice A n cap] 24)).alloc (.cells #[.int .i64 x, .string s] 26)) 26 #[.int .i64 0, .string ⟨#[]⟩]; rw [alloc_size, alloc_size] at this; exact this
  have hzW : W.heap.size = w.heap.size + 1 + 1 + 1 := by rw [← hW, alloc_size, alloc_size, alloc_size]
  have s0 : W.cell? ⟨w.heap.size, 1, none⟩ = some (.slice A n cap) := kS.cell 1
  have c0 : W.cell? ⟨w.heap.size + 1, 0, none⟩ = some (.int .i64 x) := kc.cell 0
  have c1 : W.cell? ⟨w.heap.size + 1, 1, none⟩ = some (.string s) := kc.cell 1
  have r0 : W.cell? ⟨w.heap.size + 1 + 1, 0, none⟩ = some (.int .i64 0) := kr.cell 0
  have r1 : W.cell? ⟨w.heap.size + 1 + 1, 1, none⟩ = some (.string ⟨#[]⟩) := kr.cell 1
  have f0 := kr.free 0
  have f1 := kr.free 1
  have hnl1 : n ≤ l.length := Nat.le_of_eq hn.out
  have hnl2 : l.length ≤ n := Nat.le_of_eq hn.out.symm
  have hrW := Els.then h hBW
  have hBwW := Lib.hid (show ∀ u1 u2, Below w.heap.size w ((W.setCell ⟨w.heap.size + 1 + 1, 0, none⟩ u1).setCell ⟨w.heap.size + 1 + 1, 1, none⟩ u2) from fun u1 u2 => (hBW.setCell (by show w.heap.size ≤ w.heap.size + 1 + 1; omega) _).setCell (by show w.heap.size ≤ w.heap.size + 1 + 1; omega) _)
  have hdn := Lib.hid (show mayB l ⟨x, s⟩ i = false → (stepD l ⟨x, s⟩ i = ⟨x, s⟩) from fun e => by unfold stepD; rw [e]; rfl)
  replace hzW := Lib.hid hzW
  have kS := Lib.hid kS
  have kc := Lib.hid kc
  have kr := Lib.hid kr
  clear h
  by_cases g1 : i < 0
  · have hfin := Lib.hid (show mayB l ⟨x, s⟩ i = false by unfold mayB; simp [show ¬ 0 ≤ i by omega])
    rw [hdn.out hfin.out, hfin.out]
    have g1' : decide (i < 0) = true := by simpa using g1
    clear hrW
    go_enter Tryd.func24, Tryd.ntmps24
    go_wp2
    obtain ⟨e0, e1⟩ := two_set kr.out (.int .i64 x) (.string s)
    exact bodyPost_ret (v := .tuple #[.agg #[.int .i64 x, .string s], .bool false]) (by simp [results, Tryd.results24, go_sem, e0, e1]) rfl ⟨rfl, hBwW.out _ _⟩
  by_cases g2 : (n : Int) ≤ i
  · have hfin := Lib.hid (show mayB l ⟨x, s⟩ i = false by unfold mayB; simp [show ¬ i < (l.length : Int) by omega])
    rw [hdn.out hfin.out, hfin.out]
    clear hrW
    go_enter Tryd.func24, Tryd.ntmps24
    go_wp2
    obtain ⟨e0, e1⟩ := two_set kr.out (.int .i64 x) (.string s)
    exact bodyPost_ret (v := .tuple #[.agg #[.int .i64 x, .string s], .bool false]) (by simp [results, Tryd.results24, go_sem, e0, e1]) rfl ⟨rfl, hBwW.out _ _⟩
  obtain ⟨m, rfl⟩ : ∃ m : Nat, i = m := ⟨i.toNat, by omega⟩
  have hml : m < l.length := by omega
  have hmn : m < n := by omega
  obtain ⟨b3, off3, rfl, x0, x1, x2, x3⟩ := Rls.at hrW hml
  have hmay : mayB l ⟨x, s⟩ m = (((rAt l m).fr == x) && decide (0 < s.size) && ((rAt l m).top == ch s 0)) := by unfold mayB; simp [hml]
  have hpm := hput _ (rAt_mem hml)
  have hst : mayB l ⟨x, s⟩ m = true → stepD l ⟨x, s⟩ m = stepC s (rAt l m) := fun e => by unfold stepD; rw [e]; rfl
  replace hput := Lib.hid hput
  replace hmay := Lib.hid hmay
  replace hst := Lib.hid hst
  generalize rAt l m = r at *
  obtain ⟨f, tp, tz, p⟩ := r
  dsimp only at x0 x1 x2 x3 hpm
  obtain ⟨W2, hW2⟩ : ∃ W2, W.alloc (.cells #[.int .i64 f, .int .u8 tp, .int .i64 tz, .string p] 61) = W2 := ⟨_, rfl⟩
  have hB2 : Below W.heap.size W W2 := by rw [← hW2]; exact below1 _ _
  have kR : Blk W2 W.heap.size 61 #[.int .i64 f, .int .u8 tp, .int .i64 tz, .string p] := by rw [← hW2]; exact Blk.new _ _ _

  have y0 : W2.cell? ⟨w.heap.size + 1, 0, none⟩ = some (.int .i64 x) := cell_below c0 hB2
  have y1 : W2.cell? ⟨w.heap.size + 1, 1, none⟩ = some (.string s) := cell_below c1 hB2
  have y2 : W2.cell? ⟨W.heap.size, 0, none⟩ = some (.int .i64 f) := kR.cell 0
  have y3 : W2.cell? ⟨W.heap.size, 1, none⟩ = some (.int .u8 tp) := kR.cell 1
  have hBw2 := Lib.hid (bthen hBW hB2)
  replace hB2 := hB2
  have kR := Lib.hid kR
  clear hrW hBW
  by_cases g4 : f = x
  case neg =>
    have hfin := Lib.hid (show mayB l ⟨x, s⟩ m = false by rw [hmay.out]; simp [g4])
    rw [hdn.out hfin.out, hfin.out]
    have g4' : (f != x) = true := by simpa using g4
    replace g4 := Lib.hid g4
    go_enter Tryd.func24, Tryd.ntmps24
    go_wp2
    go_quiet (fail)
    obtain ⟨WQ, hWQ⟩ : ∃ WQ, W2.drewN nq = WQ := ⟨_, rfl⟩
    have krq : Blk WQ (w.heap.size + 1 + 1) 26 #[.int .i64 0, .string ⟨#[]⟩] := by rw [← hWQ]; exact (kr.out.below hB2 kr.out.lt).drewN _
    have hBq : Below w.heap.size w WQ := by rw [← hWQ]; exact below_drewN hBw2.out _
    have q0 := krq.cell 0
    have q1 := krq.cell 1
    have q2 := krq.free 0
    have q3 := krq.free 1
    have q4 : WQ.cell? ⟨w.heap.size + 1, 0, none⟩ = some (.int .i64 x) := by rw [← hWQ]; exact y0
    have q5 : WQ.cell? ⟨w.heap.size + 1, 1, none⟩ = some (.string s) := by rw [← hWQ]; exact y1
    simp at q0 q1
    rw [hWQ]
    clear hWQ y0 y1 y2 y3
    go_wp2
    obtain ⟨e0, e1⟩ := two_set krq (.int .i64 x) (.string s)
    exact bodyPost_ret (v := .tuple #[.agg #[.int .i64 x, .string s], .bool false]) (by simp [results, Tryd.results24, go_sem, e0, e1]) rfl ⟨rfl, (hBq.setCell (by show w.heap.size ≤ w.heap.size + 1 + 1; omega) _).setCell (by show w.heap.size ≤ w.heap.size + 1 + 1; omega) _⟩
  have g4' : (f != x) = false := by simpa using g4
  replace g4 := Lib.hid g4
  by_cases hz : s.size = 0
  · have hfin := Lib.hid (show mayB l ⟨x, s⟩ m = false by rw [hmay.out]; simp [hz])
    rw [hdn.out hfin.out, hfin.out]
    have hz' : ((s.size : Int) == 0) = true := by rw [hz]; rfl
    replace hz := Lib.hid hz
    go_enter Tryd.func24, Tryd.ntmps24
    go_wp2
    go_quiet (fail)
    obtain ⟨WQ, hWQ⟩ : ∃ WQ, W2.drewN nq = WQ := ⟨_, rfl⟩
    have krq : Blk WQ (w.heap.size + 1 + 1) 26 #[.int .i64 0, .string ⟨#[]⟩] := by rw [← hWQ]; exact (kr.out.below hB2 kr.out.lt).drewN _
    have hBq : Below w.heap.size w WQ := by rw [← hWQ]; exact below_drewN hBw2.out _
    have q0 := krq.cell 0
    have q1 := krq.cell 1
    have q2 := krq.free 0
    have q3 := krq.free 1
    have q4 : WQ.cell? ⟨w.heap.size + 1, 0, none⟩ = some (.int .i64 x) := by rw [← hWQ]; exact y0
    have q5 : WQ.cell? ⟨w.heap.size + 1, 1, none⟩ = some (.string s) := by rw [← hWQ]; exact y1
    simp at q0 q1
    rw [hWQ]
    clear hWQ y0 y1 y2 y3
    go_wp2
    obtain ⟨e0, e1⟩ := two_set krq (.int .i64 x) (.string s)
    exact bodyPost_ret (v := .tuple #[.agg #[.int .i64 x, .string s], .bool false]) (by simp [results, Tryd.results24, go_sem, e0, e1]) rfl ⟨rfl, (hBq.setCell (by show w.heap.size ≤ w.heap.size + 1 + 1; omega) _).setCell (by show w.heap.size ≤ w.heap.size + 1 + 1; omega) _⟩
  have hz0 : 0 < s.size := by omega
  have hz' : ((s.size : Int) == 0) = false := by rw [beq_eq_false_iff_ne]; omega
  have hch := (ch_eq hz0).symm
  by_cases g5 : tp = ch s 0
  case neg =>
    have hfin := Lib.hid (show mayB l ⟨x, s⟩ m = false by rw [hmay.out]; simp [g5])
    rw [hdn.out hfin.out, hfin.out]
    have g5' : (ch s 0 != tp) = true := by simpa using fun e => g5 e.symm
    replace g5 := Lib.hid g5
    go_enter Tryd.func24, Tryd.ntmps24
    go_wp2
    go_quiet (fail)
    obtain ⟨WQ, hWQ⟩ : ∃ WQ, W2.drewN nq = WQ := ⟨_, rfl⟩
    have krq : Blk WQ (w.heap.size + 1 + 1) 26 #[.int .i64 0, .string ⟨#[]⟩] := by rw [← hWQ]; exact (kr.out.below hB2 kr.out.lt).drewN _
    have hBq : Below w.heap.size w WQ := by rw [← hWQ]; exact below_drewN hBw2.out _
    have q0 := krq.cell 0
    have q1 := krq.cell 1
    have q2 := krq.free 0
    have q3 := krq.free 1
    have q4 : WQ.cell? ⟨w.heap.size + 1, 0, none⟩ = some (.int .i64 x) := by rw [← hWQ]; exact y0
    have q5 : WQ.cell? ⟨w.heap.size + 1, 1, none⟩ = some (.string s) := by rw [← hWQ]; exact y1
    simp at q0 q1
    rw [hWQ]
    clear hWQ y0 y1 y2 y3
    go_wp2
    obtain ⟨e0, e1⟩ := two_set krq (.int .i64 x) (.string s)
    exact bodyPost_ret (v := .tuple #[.agg #[.int .i64 x, .string s], .bool false]) (by simp [results, Tryd.results24, go_sem, e0, e1]) rfl ⟨rfl, (hBq.setCell (by show w.heap.size ≤ w.heap.size + 1 + 1; omega) _).setCell (by show w.heap.size ≤ w.heap.size + 1 + 1; omega) _⟩
  have g5' : (ch s 0 != tp) = false := by simpa using g5.symm
  have hfin := Lib.hid (show mayB l ⟨x, s⟩ m = true by rw [hmay.out]; simp [hz0, g5, g4.out])
  rw [hst.out hfin.out, hfin.out]
  replace g5 := Lib.hid g5
  go_enter Tryd.func24, Tryd.ntmps24
  go_wp2
  go_quiet (fail)
  obtain ⟨W3, hW3⟩ : ∃ W3, W2.drewN nq = W3 := ⟨_, rfl⟩
  have hB3 : Below W2.heap.size W2 W3 := by rw [← hW3]; exact below_drewN (Below.refl _ _) _
  rw [hW3]
  clear hW3
  have hsum : ¬ 9223372036854775807 < p.size + (s.size - 1) := by omega
  have hsum2 : ¬ 9223372036854775807 < p.size + (s.extract 1 s.size).size := by rw [ByteArray.size_extract]; omega
  have hz1 : 1 ≤ s.size := hz0
  have t1 : ∀ g : Gr W3, g.w1.cell? ⟨w.heap.size + 1, 1, none⟩ = some (.string s) := fun g => g.cell (cell_below y1 hB3)
  have t2 : ∀ g : Gr W3, g.w1.cell? ⟨W.heap.size, 2, none⟩ = some (.int .i64 tz) := fun g => g.cell (cell_below (kR.out.cell 2) hB3)
  have t3 : ∀ g : Gr W3, g.w1.cell? ⟨W.heap.size, 3, none⟩ = some (.string p) := fun g => g.cell (cell_below (kR.out.cell 3) hB3)
  have kr3 := Lib.hid ((kr.out.below hB2 kr.out.lt).below hB3 (kr.out.below hB2 kr.out.lt).lt)
  have hBw3 := Lib.hid (bthen hBw2.out hB3)
  clear y0 y1 y2 y3 c0 c1 r0 r1 f0 f1 s0 x0 x1 x2 x3
  go_wp2
  refine wp_region_growtail 9 (by kernel_rfl) (by kernel_rfl) ?_
  simp only [List.take_succ_cons, List.take_zero, List.drop_succ_cons, List.drop_zero]
  repeat (go_big_quiet_step (fail))
  refine wpQuiet_nil ?_
  rintro _ ⟨g, rfl⟩
  clear t1 t2 t3
  have krg := Lib.hid (kr3.out.below g.h kr3.out.lt)
  have hBg := Lib.hid (bthen hBw3.out g.h)
  have z1 := krg.out.cell 0
  have z2 := krg.out.cell 1
  have z3 := krg.out.free 0
  have z4 := krg.out.free 1
  simp at z1 z2
  go_wp2
  obtain ⟨e0, e1⟩ := two_set krg.out (.int .i64 tz) (.string (p ++ s.extract 1 s.size))
  exact bodyPost_ret (v := .tuple #[.agg #[.int .i64 tz, .string (p ++ s.extract 1 s.size)], .bool true]) (by simp [results, Tryd.results24, go_sem, e0, e1]) rfl ⟨rfl, (hBg.out.setCell (by show w.heap.size ≤ w.heap.size + 1 + 1; omega) _).setCell (by show w.heap.size ≤ w.heap.size + 1 + 1; omega) _⟩
end
section
open Go.RowKit Go.Shelf
attribute [local go_sem] Oper.semAt_some

theorem stepD_take {l : List RuleB} {c : ConfB} {rs : List Int} {k : Nat} {x : Int} {s : ByteArray} (hk : k < rs.length) (h : runB l c (rs.take k) = some ⟨x, s⟩) (hm : mayB l ⟨x, s⟩ (at0 rs k) = true) : runB l c (rs.take (k + 1)) = some (stepD l ⟨x, s⟩ (at0 rs k)) := by
  rw [runB_take hk, h]
  show stepB l ⟨x, s⟩ (at0 rs k) = _
  unfold stepB stepD
  rw [hm]; rfl
theorem below_drew (w : World) : Below w.heap.size w w.drew := below_drewN (Below.refl _ _) 1
theorem below_adrew (w : World) (o : Obj) : Below w.heap.size w (w.alloc o).drew := below_drewN (below1 w o) 1

theorem below_set2 {w w' : World} (h : Below w.heap.size w w') (u1 u2 : Value) : Below w.heap.size w ((w'.setCell ⟨w.heap.size, 0, none⟩ u1).setCell ⟨w.heap.size, 1, none⟩ u2) :=
  (h.setCell (Nat.le_refl _) _).setCell (Nat.le_refl _) _
theorem keep5 {W W' : World} {p1 p2 p3 p4 p5 : Addr} {c1 c2 c3 c4 c5 : Value} (h1 : W.cell? p1 = some c1) (h2 : W.cell? p2 = some c2) (h3 : W.cell? p3 = some c3) (h4 : W.cell? p4 = some c4) (h5 : W.cell? p5 = some c5) (hb : Below W.heap.size W W') :
    W'.cell? p1 = some c1 ∧ W'.cell? p2 = some c2 ∧ W'.cell? p3 = some c3 ∧ W'.cell? p4 = some c4 ∧ W'.cell? p5 = some c5 :=
  ⟨cell_below h1 hb, cell_below h2 hb, cell_below h3 hb, cell_below h4 hb, cell_below h5 hb⟩

set_option maxRecDepth 8000 in
set_option maxHeartbeats 4000000 in
theorem IsRunR_any (w : World) (C x y : Int) (v vr : Value) (l : List RuleB) (s t : ByteArray) (rs : List Int) (h : Rls w v l) (hrs : Ints w vr rs) (hput : ∀ r ∈ l, r.put.size ≤ 2) (hss : s.size ≤ 2000) :
    Calls Tryd.prog 22 #[sv C v, cv ⟨x, s⟩, cv ⟨y, t⟩, vr] w fun e w' => e = .returned (.bool (isRunB l ⟨x, s⟩ ⟨y, t⟩ rs)) ∧ Below w.heap.size w w' := by
  obtain ⟨A, n, cap, rfl, hn⟩ := Els.shape h
  obtain ⟨Ar, nr, capr, rfl, hnr⟩ := Slc.shape hrs
  obtain ⟨_, _, e, hcapr, hmaxr, _⟩ := hrs.open
  cases e
  obtain ⟨W, hW⟩ : ∃ W, ((w.alloc (.cells #[.int .i64 C, .slice A n cap] 24)).alloc (.cells #[.int .i64 x, .string s] 26)).alloc (.cells #[.int .i64 y, .string t] 26) = W := ⟨_, rfl⟩
  have hBW : Below w.heap.size w W := by rw [← hW]; exact bthen (below1 _ _) (bthen (below1 _ _) (below1 _ _))
  have kS : Blk W w.heap.size 24 #[.int .i64 C, .slice A n cap] := by rw [← hW]; exact ((Blk.new w 24 _).alloc _).alloc _
  have kc : Blk W (w.heap.size + 1) 26 #[.int .i64 x, .string s] := by rw [← hW]; have := Blk.new (w.alloc (.cells #[.int .i64 C, .slice A n cap] 24)) 26 #[.int .i64 x, .string s]; rw [alloc_size] at this; exact this.alloc _
  have kd : Blk W (w.heap.size + 1 + 1) 26 #[.int .i64 y, .string t] := by rw [← hW]; have := Blk.new ((w.alloc (.cells #[.int .i64 C, .slice A n cap] 24)).alloc (.cells #[.int .i64 x, .string s] 26)) 26 #[.int .i64 y, .string t]; rw [alloc_size, alloc_size] at this; exact this
  replace h := Lib.hid h
  replace hrs := Lib.hid hrs
  replace kS := Lib.hid kS
  replace kc := Lib.hid kc
  replace kd := Lib.hid kd
  replace hBW := Lib.hid hBW
  replace hput := Lib.hid hput
  unfold maxLen at hmaxr
  by_cases hlong : 1000 < rs.length
  · have hfin := Lib.hid (show isRunB l ⟨x, s⟩ ⟨y, t⟩ rs = false by unfold isRunB; simp; omega)
    have hl' : (1000 : Int) < rs.length := by omega
    go_enter Tryd.func22, Tryd.ntmps22
    go_wp2
    go_ret
    exact ⟨ret_bool hfin.out.symm, hBW.out⟩
  have hl' : ¬ (1000 : Int) < rs.length := by omega
  go_enter Tryd.func22, Tryd.ntmps22
  go_wp2
  go_loopw [9] (fun c wr => ∃ (k : Nat) (x' : Int) (s' : ByteArray), k ≤ rs.length ∧ c = .int .i64 (k : Int) ∧ Hid (runB l ⟨x, s⟩ (rs.take k) = some ⟨x', s'⟩) ∧ Hid (Blk wr (w.heap.size + 1) 26 #[.int .i64 x', .string s']) ∧
    Hid (Blk wr w.heap.size 24 #[.int .i64 C, .slice A n cap]) ∧ Hid (Blk wr (w.heap.size + 1 + 1) 26 #[.int .i64 y, .string t]) ∧ Hid (Below w.heap.size w wr)) (fun c _ => rs.length - (intOf c).toNat)
  case atStart => exact ⟨0, x, s, Nat.zero_le _, rfl, rfl, kc.out, kS.out, kd.out, hBW.out⟩
  case round =>
    obtain ⟨k, x', s', hk, rfl, hrun, k1, k0, k2, hBr⟩ := hrel
    have d0 : wr.cell? ⟨w.heap.size + 1, 0, none⟩ = some (.int .i64 x') := k1.out.cell 0
    have d1 : wr.cell? ⟨w.heap.size + 1, 1, none⟩ = some (.string s') := k1.out.cell 1
    have hsz : s'.size ≤ s.size + (rs.take k).length := runB_size hput.out hrun.out
    have htl : (rs.take k).length ≤ 1000 := by have := List.length_take_le k rs; omega
    by_cases hlt : k < rs.length
    case neg =>
      obtain rfl : k = rs.length := by omega
      have htk : rs.take rs.length = rs := List.take_length
      rw [htk] at hrun
      have d2 : wr.cell? ⟨w.heap.size + 1 + 1, 0, none⟩ = some (.int .i64 y) := k2.out.cell 0
      have d3 : wr.cell? ⟨w.heap.size + 1 + 1, 1, none⟩ = some (.string t) := k2.out.cell 1
      have hfin := Lib.hid (show isRunB l ⟨x, s⟩ ⟨y, t⟩ rs = eqC ⟨x', s'⟩ ⟨y, t⟩ by unfold isRunB; rw [hrun.out]; simp; omega)
      clear htk hsz
      go_wp2
      all_goals go_ret
      all_goals refine ⟨ret_bool ?_, hBr.out⟩
      all_goals rw [hfin.out]; unfold eqC
      · simp [show x' = y by assumption, show s'.toList = t.toList by assumption]
      · simp [show ¬ s'.toList = t.toList by assumption]
      · simp [show ¬ x' = y by assumption]
    obtain ⟨_, br, offr, rfl, hat⟩ := (Ints.below hrs.out (Nat.le_refl _) hBr.out).addr (by omega)
    have e0 := hat k hlt
    have s0 : wr.cell? ⟨w.heap.size, 0, none⟩ = some (.int .i64 C) := k0.out.cell 0
    have s1 : wr.cell? ⟨w.heap.size, 1, none⟩ = some (.slice A n cap) := k0.out.cell 1
    have hbad := Lib.hid (fun hm => isRunB_bad (d := ⟨y, t⟩) hlt hrun.out hm)
    have hgood := Lib.hid (fun hm => stepD_take hlt hrun.out hm)
    clear hat
    generalize at0 rs k = i at *
    have hcall := Lib.hid (fun W' (hb : Below wr.heap.size wr W') => Step_any W' C x' i _ l s' ((h.out.then hBr.out).then hb) hput.out (by omega))
    obtain ⟨d, hd⟩ : ∃ d, stepD l ⟨x', s'⟩ i = d := ⟨_, rfl⟩
    obtain ⟨b, hb⟩ : ∃ b, mayB l ⟨x', s'⟩ i = b := ⟨_, rfl⟩
    rw [hd] at hcall hgood
    rw [hb] at hcall hgood hbad
    obtain ⟨dx, ds⟩ := d
    clear hd hb
    have e0a := fun o => cell_below e0 (below1 wr o)
    have d0a := fun o => cell_below d0 (below1 wr o)
    have d1a := fun o => cell_below d1 (below1 wr o)
    have s0a := fun o => cell_below s0 (below1 wr o)
    have s1a := fun o => cell_below s1 (below1 wr o)
    have hltI : (k : Int) < (rs.length : Int) := by omega
    go_upto_region 6 with (fail)
    go_cut [10, 11] from 15 to 33 (fun u10 u11 wx => ∃ g, u10 = .pointer (some ⟨g, 0, none⟩) ∧ u11 = .bool b ∧ Hid (Blk wx g 26 #[.int .i64 dx, .string ds]) ∧ Hid (Below wr.heap.size wr wx))
    case first =>
      go_region_held3 (fun w' => w'.cell? ⟨br, offr + k, none⟩ = some (.int .i64 i) ∧ w'.cell? ⟨w.heap.size + 1, 0, none⟩ = some (.int .i64 x') ∧ w'.cell? ⟨w.heap.size + 1, 1, none⟩ = some (.string s') ∧ w'.cell? ⟨w.heap.size, 0, none⟩ = some (.int .i64 C) ∧ w'.cell? ⟨w.heap.size, 1, none⟩ = some (.slice A n cap))
        (first | exact keep5 e0 d0 d1 s0 s1 (below_drew _) | exact keep5 e0 d0 d1 s0 s1 (below_adrew _ _) | exact keep5 e0 d0 d1 s0 s1 (‹Hid (Below wr.heap.size wr _)›).out | exact keep5 e0 d0 d1 s0 s1 (bthen (‹Hid (Below wr.heap.size wr _)›).out (below1 _ _)) | exact keep5 e0 d0 d1 s0 s1 (below_set2 (‹Hid (Below wr.heap.size wr _)›).out _ _))
        (first
        | (go_at_call 24; refine (hcall.out _ (below_drew wr)).mono ?_; rintro e w1 ⟨rfl, hB1⟩; have hB1 := Lib.hid (bthen (below_drew wr) hB1))
        | (go_at_call 24; refine (hcall.out _ (below_adrew wr (.cells #[.int .i64 0, .string ⟨#[]⟩] 26))).mono ?_; rintro e w1 ⟨rfl, hB1⟩; have bk := Blk.below (Blk.drewN (Blk.new wr 26 #[.int .i64 0, .string ⟨#[]⟩]) 1) hB1 (Blk.drewN (Blk.new wr 26 #[.int .i64 0, .string ⟨#[]⟩]) 1).lt; have b0 : w1.cell? ⟨wr.heap.size, 0, none⟩ = some (.int .i64 0) := bk.cell 0; have b1 : w1.cell? ⟨wr.heap.size, 1, none⟩ = some (.string ⟨#[]⟩) := bk.cell 1; have b2 := bk.free 0; have b3 := bk.free 1; have bk := Lib.hid bk; have hB1 := Lib.hid (bthen (below_adrew wr (.cells #[.int .i64 0, .string ⟨#[]⟩] 26)) hB1)))
      · go_wp2
        go_meet
        exact ⟨_, rfl, rfl, Blk.new _ _ _, bthen hB1.out (below1 _ _)⟩
      · go_wp2
        go_meet
        refine ⟨_, rfl, rfl, ?_, below_set2 hB1.out _ _⟩
        have := (bk.out.set 0 (.int .i64 dx)).set 1 (.string ds)
        show Blk _ _ _ _
        simpa using this
    case rest =>
      obtain ⟨g, rfl, rfl, kg, hBc⟩ := hcut
      clear e0a d0a d1a s0a s1a e0 d0 d1 s0 s1 hcall
      have k1c := k1.out.below hBc.out k1.out.lt
      have k0c := Lib.hid (k0.out.below hBc.out k0.out.lt)
      have k2c := Lib.hid (k2.out.below hBc.out k2.out.lt)
      have hBw := Lib.hid (hBr.out.trans (hBc.out.mono hBr.out.size))
      have z1 := k1c.cell 0
      have z2 := k1c.cell 1
      have z3 := k1c.free 0
      have z4 := k1c.free 1
      have z5 := kg.out.cell 0
      have z6 := kg.out.cell 1
      simp at z1 z2 z5 z6
      cases b with
      | false =>
        have hfin := Lib.hid (hbad.out rfl)
        go_wp2
        go_ret
        exact ⟨ret_bool hfin.out.symm, hBw.out⟩
      | true =>
        have hnew := Lib.hid (hgood.out rfl)
        have kn := (k1c.set 0 (.int .i64 dx)).set 1 (.string ds)
        replace k1c := Lib.hid k1c
        replace kn := Lib.hid kn
        go_wp2
        go_roundw
        case rel =>
          refine ⟨k + 1, dx, ds, by omega, by go_num, hnew.out, by show Blk _ _ _ _; simpa using kn.out, ?_, ?_, ?_⟩
          · exact (k0c.out.far (by show w.heap.size ≠ w.heap.size + 1; omega) _).far (by show w.heap.size ≠ w.heap.size + 1; omega) _
          · exact (k2c.out.far (by show w.heap.size + 1 + 1 ≠ w.heap.size + 1; omega) _).far (by show w.heap.size + 1 + 1 ≠ w.heap.size + 1; omega) _
          · exact (hBw.out.setCell (by show w.heap.size ≤ w.heap.size + 1; omega) _).setCell (by show w.heap.size ≤ w.heap.size + 1; omega) _
        case measure => simp [intOf]; omega
end
end Go.Proofs.YtaapnflhjbdmlaaDoor
