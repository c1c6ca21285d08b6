/- Steps of configurations in memory. No condition. push.IsRun. No condition. R.Step. No condition. R.IsRun, R.Next. No condition. R.Next. No condition. -/
import Derived.Test.YtaapnflhjbdmlaaGreatDoorKM
import Derived.Test.YtaapnflhjbdmlaaGreatDoorWW
import Derived.Deep.RegionHeld3
import Derived.Deep.CutRange
namespace Go.Proofs.YtaapnflhjbdmlaaGreatDoor
section
section
open Go.RowKit Go.Shelf

/-- whether a rule may be done -/
def mayB (l : List RuleB) (c : ConfB) (i : Int) : Bool := decide (0 ≤ i) && decide (i < l.length) && ((rAt l i.toNat).fr == c.ctl) && decide (0 < c.st.size) && ((rAt l i.toNat).top == ch c.st 0)
/-- a step -/
def stepB (l : List RuleB) (c : ConfB) (i : Int) : Option ConfB := if mayB l c i then some (stepC c.st (rAt l i.toNat)) else none
def runB (l : List RuleB) : ConfB → List Int → Option ConfB
  | c, [] => some c
  | c, i :: rs => match stepB l c i with
    | none => none
    | some d => runB l d rs
def isRunB (l : List RuleB) (c d : ConfB) (rs : List Int) : Bool := decide (rs.length ≤ 1000) && match runB l c rs with
  | none => false
  | some x => eqC x d
theorem runB_snoc (l : List RuleB) (i : Int) : ∀ (rs : List Int) (c : ConfB), runB l c (rs ++ [i]) = match runB l c rs with
    | none => none
    | some d => stepB l d i
  | [], c => by
    simp only [List.nil_append, runB]
    cases stepB l c i <;> rfl
  | j :: rs, c => by
    simp only [List.cons_append, runB]
    cases stepB l c j with
    | none => rfl
    | some d => exact runB_snoc l i rs d
theorem runB_append (l : List RuleB) (rs2 : List Int) : ∀ (rs : List Int) (c : ConfB), runB l c (rs ++ rs2) = match runB l c rs with
    | none => none
    | some d => runB l d rs2
  | [], c => rfl
  | j :: rs, c => by
    simp only [List.cons_append, runB]
    cases stepB l c j with
    | none => rfl
    | some d => exact runB_append l rs2 rs d
theorem cs_cons {s : ByteArray} (h : 0 < s.size) : cs s = ch s 0 :: cs (s.extract 1 s.size) := by
  have e : cs (s.extract 1 s.size) = (cs s).drop 1 := by
    unfold cs
    rw [ByteArray.data_extract, Array.toList_extract, List.extract_eq_take_drop, List.take_of_length_le (by simp), List.map_drop]
  have hl : 0 < (cs s).length := by rw [cs_length]; exact h
  rw [e]
  unfold ch
  cases hc : cs s with
  | nil => rw [hc] at hl; simp at hl
  | cons a t => rfl
theorem cs_append (a b : ByteArray) : cs (a ++ b) = cs a ++ cs b := by
  unfold cs
  simp
theorem plain_get {l : List RuleB} {n : Nat} {r : Rule} : (l.map RuleB.plain)[n]? = some r ↔ n < l.length ∧ r = (rAt l n).plain := by
  rw [List.getElem?_map]
  constructor
  · intro h
    obtain ⟨q, hq, rfl⟩ := Option.map_eq_some_iff.1 h
    obtain ⟨hi, hq'⟩ := List.getElem?_eq_some_iff.1 hq
    exact ⟨hi, by rw [rAt_eq hi, hq']⟩
  · rintro ⟨h, rfl⟩
    rw [List.getElem?_eq_getElem h, rAt_eq h]
    rfl
theorem mayB_iff {l : List RuleB} {c : ConfB} {i : Int} : mayB l c i = true ↔ ∃ n : Nat, i = n ∧ n < l.length ∧ (rAt l n).fr = c.ctl ∧ 0 < c.st.size ∧ (rAt l n).top = ch c.st 0 := by
  unfold mayB
  simp only [Bool.and_eq_true, decide_eq_true_eq, beq_iff_eq]
  constructor
  · rintro ⟨⟨⟨⟨a, b⟩, c⟩, d⟩, e⟩
    exact ⟨i.toNat, by omega, by omega, c, d, e⟩
  · rintro ⟨n, rfl, a, b, c, d⟩
    exact ⟨⟨⟨⟨by omega, by omega⟩, b⟩, c⟩, d⟩
theorem stepB_some {l : List RuleB} {c d : ConfB} {i : Int} : stepB l c i = some d ↔ mayB l c i = true ∧ d = stepC c.st (rAt l i.toNat) := by
  unfold stepB
  split
  · rename_i h
    exact ⟨fun e => ⟨h, (Option.some.inj e).symm⟩, fun e => by rw [e.2]⟩
  · rename_i h
    exact ⟨fun e => (by cases e), fun e => absurd e.1 h⟩
theorem steps_of_runB {l : List RuleB} : ∀ {rs : List Int} {c d : ConfB}, runB l c rs = some d → ∃ ns : List Nat, rs = ns.map (fun (n : Nat) => (n : Int)) ∧ Steps (l.map RuleB.plain) c.ctl (cs c.st) ns d.ctl (cs d.st)
  | [], c, d, h => by
    cases h
    exact ⟨[], rfl, .refl _ _⟩
  | i :: rs, c, d, h => by
    simp only [runB] at h
    cases hs : stepB l c i with
    | none => rw [hs] at h; cases h
    | some e =>
      rw [hs] at h
      obtain ⟨ns, rfl, h2⟩ := steps_of_runB h
      obtain ⟨h3, rfl⟩ := stepB_some.1 hs
      obtain ⟨n, rfl, hn, hf, hz, ht⟩ := mayB_iff.1 h3
      refine ⟨n :: ns, rfl, ?_⟩
      have h4 := Steps.step (l := ns) (w := cs (c.st.extract 1 c.st.size)) (q := d.ctl) (u := cs d.st) (plain_get.2 ⟨hn, rfl⟩)
      rw [cs_cons hz, ← ht, ← hf]
      refine h4 ?_
      have e2 : cs (stepC c.st (rAt l (n : Int).toNat)).st = (rAt l n).plain.put ++ cs (c.st.extract 1 c.st.size) := by
        show cs ((rAt l n).put ++ _) = _
        rw [cs_append]; rfl
      rw [e2] at h2
      exact h2
theorem runB_of_steps {l : List RuleB} {p q : Int} {w u : List Int} {ns : List Nat} (h : Steps (l.map RuleB.plain) p w ns q u) : ∀ {s : ByteArray}, cs s = w → ∃ t, cs t = u ∧ runB l ⟨p, s⟩ (ns.map (fun (n : Nat) => (n : Int))) = some ⟨q, t⟩ := by
  induction h with
  | refl p w => intro s hs; exact ⟨s, hs, rfl⟩
  | @step i r w l' q u hr h2 ih =>
    intro s hs
    obtain ⟨hi, rfl⟩ := plain_get.1 hr
    have hz : 0 < s.size := by rw [← cs_length, hs]; simp
    have h3 := cs_cons hz
    rw [hs] at h3
    obtain ⟨e1, e2⟩ := List.cons.inj h3
    have hmay : mayB l ⟨(rAt l i).plain.fr, s⟩ (i : Int) = true := mayB_iff.2 ⟨i, rfl, hi, rfl, hz, e1⟩
    obtain ⟨t, ht, hrun⟩ := ih (s := (rAt l i).put ++ s.extract 1 s.size) (by rw [cs_append, ← e2]; rfl)
    refine ⟨t, ht, ?_⟩
    simp only [List.map_cons, runB]
    rw [stepB_some.2 ⟨hmay, rfl⟩]
    exact hrun
theorem eqC_self (c : ConfB) : eqC c c = true := eqC_iff.2 rfl
theorem isRunB_of {l : List RuleB} {x y : Int} {s t : ByteArray} {ns : List Nat} (h : Steps (l.map RuleB.plain) x (cs s) ns y (cs t)) (hl : ns.length ≤ 1000) : isRunB l ⟨x, s⟩ ⟨y, t⟩ (ns.map (fun (n : Nat) => (n : Int))) = true := by
  obtain ⟨t', ht, hr⟩ := runB_of_steps h rfl
  unfold isRunB
  rw [hr, cs_inj ht]
  simp [hl, eqC_self]
theorem steps_of_isRunB {l : List RuleB} {x y : Int} {s t : ByteArray} {rs : List Int} (h : isRunB l ⟨x, s⟩ ⟨y, t⟩ rs = true) : rs.length ≤ 1000 ∧ ∃ ns : List Nat, rs = ns.map (fun (n : Nat) => (n : Int)) ∧ Steps (l.map RuleB.plain) x (cs s) ns y (cs t) := by
  unfold isRunB at h
  rw [Bool.and_eq_true, decide_eq_true_eq] at h
  refine ⟨h.1, ?_⟩
  cases hr : runB l ⟨x, s⟩ rs with
  | none => rw [hr] at h; simp at h
  | some d =>
    rw [hr] at h
    have := eqC_iff.1 h.2
    subst this
    exact steps_of_runB hr
/-- what a step does to the size -/
theorem stepC_size {s : ByteArray} {r : RuleB} (hz : 0 < s.size) (hr : r.put.size ≤ 2) : (stepC s r).st.size ≤ s.size + 1 := by
  show (r.put ++ s.extract 1 s.size).size ≤ _
  rw [ByteArray.size_append, ByteArray.size_extract]
  omega
theorem rAt_mem {l : List RuleB} {i : Nat} (h : i < l.length) : rAt l i ∈ l := by rw [rAt_eq h]; exact List.getElem_mem h
theorem runB_size {l : List RuleB} (hput : ∀ r ∈ l, r.put.size ≤ 2) : ∀ {rs : List Int} {c d : ConfB}, runB l c rs = some d → d.st.size ≤ c.st.size + rs.length
  | [], c, d, h => by cases h; simp
  | i :: rs, c, d, h => by
    simp only [runB] at h
    cases hs : stepB l c i with
    | none => rw [hs] at h; cases h
    | some e =>
      rw [hs] at h
      have h1 := runB_size hput h
      obtain ⟨h3, rfl⟩ := stepB_some.1 hs
      obtain ⟨n, rfl, hn, hf, hz, ht⟩ := mayB_iff.1 h3
      have := stepC_size (r := rAt l (n : Int).toNat) hz (hput _ (rAt_mem hn))
      simp only [List.length_cons]
      omega
theorem runB_take {l : List RuleB} {c : ConfB} {rs : List Int} {k : Nat} (hk : k < rs.length) : runB l c (rs.take (k + 1)) = match runB l c (rs.take k) with
    | none => none
    | some d => stepB l d (at0 rs k) := by
  rw [take_at0 hk, runB_snoc]
theorem runB_none {l : List RuleB} {c : ConfB} {rs : List Int} {k : Nat} (h : runB l c (rs.take k) = none) : runB l c rs = none := by
  conv => lhs; rw [← List.take_append_drop k rs, runB_append, h]
end
section
open Go.RowKit Go.Shelf
attribute [local go_sem] Oper.semAt_some

theorem put2 {C : Int} {l : List RuleB} (h : sysB C l = true) : ∀ r ∈ l, r.put.size ≤ 2 := by
  intro r hr
  obtain ⟨i, hi, rfl⟩ := List.getElem_of_mem hr
  have := (rulesOk_of h i (rAt l i).plain (plain_get.2 ⟨hi, rfl⟩)).2.2.2.2
  rw [rAt_eq hi] at this
  rw [← cs_length]
  exact this
theorem isRunB_bad {l : List RuleB} {c d : ConfB} {rs : List Int} {k : Nat} {x : Int} {s : ByteArray} (hk : k < rs.length) (h : runB l c (rs.take k) = some ⟨x, s⟩) (hm : mayB l ⟨x, s⟩ (at0 rs k) = false) : isRunB l c d rs = false := by
  have h1 : runB l c (rs.take (k + 1)) = none := by
    rw [runB_take hk, h]
    show stepB l ⟨x, s⟩ (at0 rs k) = none
    unfold stepB
    rw [hm]
    rfl
  unfold isRunB
  rw [runB_none h1]
  simp
theorem runB_good {l : List RuleB} {c : ConfB} {rs : List Int} {k i : Nat} {x : Int} {s : ByteArray} (hk : k < rs.length) (h : runB l c (rs.take k) = some ⟨x, s⟩) (hi : at0 rs k = i) (hm : mayB l ⟨x, s⟩ i = true) : runB l c (rs.take (k + 1)) = some (stepC s (rAt l i)) := by
  rw [runB_take hk, h]
  show stepB l ⟨x, s⟩ (at0 rs k) = _
  rw [hi, stepB_some.2 ⟨hm, rfl⟩]
  rfl
theorem str_ne {s : ByteArray} (h : 0 < s.size) : s.toList.isEmpty = false := by
  rw [Lib.toList_data]
  cases hh : s.data.toList with
  | nil => have : s.data.toList.length = 0 := by rw [hh]; rfl
           have : s.size = 0 := by simpa using this
           omega
  | cons a t => rfl
theorem str_nil {s : ByteArray} (h : s.size = 0) : s.toList = [] := by
  rw [Lib.toList_data]
  have : s.data.size = 0 := h
  exact List.eq_nil_of_length_eq_zero (by simpa using this)

set_option maxRecDepth 8000 in
set_option maxHeartbeats 4000000 in
theorem IsRun_any (w : World) (C x y : Int) (v vr : Value) (l : List RuleB) (s t : ByteArray) (rs : List Int) (h : Rls w v l) (hrs : Ints w vr rs) (hs : ∀ r ∈ l, r.put.size ≤ 9223372036854775807) (hss : s.size ≤ 9223372036854775807) (htt : t.size ≤ 9223372036854775807) :
    Calls Tryz.prog 28 #[sv C v, cv ⟨x, s⟩, cv ⟨y, t⟩, vr] w fun e w' => e = .returned (.bool (decide (allE C l [⟨x, s⟩, ⟨y, t⟩] = 0) && isRunB l ⟨x, s⟩ ⟨y, t⟩ rs)) ∧ Below w.heap.size w w' := by
  obtain ⟨A, n, cap, rfl, hn⟩ := Els.shape h
  obtain ⟨Ar, nr, capr, rfl, hnr⟩ := Slc.shape hrs
  obtain ⟨_, _, e, hcapr, hmaxr, _⟩ := hrs.open
  cases e
  obtain ⟨W, hW⟩ : ∃ W, (((w.alloc (.cells #[.int .i64 C, .slice A n cap] 40)).alloc (.cells #[.int .i64 x, .string s] 60)).alloc (.cells #[.int .i64 y, .string t] 60)).alloc (.cells #[.int .i64 x, .string s, .int .i64 y, .string t] 60) = W := ⟨_, rfl⟩
  have hBW : Below w.heap.size w W := by rw [← hW]; exact bthen (below1 _ _) (bthen (below1 _ _) (bthen (below1 _ _) (below1 _ _)))
  have kS : Blk W w.heap.size 40 #[.int .i64 C, .slice A n cap] := by rw [← hW]; exact (((Blk.new w 40 _).alloc _).alloc _).alloc _
  have kc : Blk W (w.heap.size + 1) 60 #[.int .i64 x, .string s] := by rw [← hW]; have := Blk.new (w.alloc (.cells #[.int .i64 C, .slice A n cap] 40)) 60 #[.int .i64 x, .string s]; rw [alloc_size] at this; exact (this.alloc _).alloc _
  have kd : Blk W (w.heap.size + 1 + 1) 60 #[.int .i64 y, .string t] := by rw [← hW]; have := Blk.new ((w.alloc (.cells #[.int .i64 C, .slice A n cap] 40)).alloc (.cells #[.int .i64 x, .string s] 60)) 60 #[.int .i64 y, .string t]; rw [alloc_size, alloc_size] at this; exact this.alloc _
  have k4 : Blk W (w.heap.size + 1 + 1 + 1) 60 #[.int .i64 x, .string s, .int .i64 y, .string t] := by rw [← hW]; have := Blk.new (((w.alloc (.cells #[.int .i64 C, .slice A n cap] 40)).alloc (.cells #[.int .i64 x, .string s] 60)).alloc (.cells #[.int .i64 y, .string t] 60)) 60 #[.int .i64 x, .string s, .int .i64 y, .string t]; rw [alloc_size, alloc_size, alloc_size] at this; exact this
  have H := Lib.hid (checkAll_any W C (.slice A n cap) (.slice (some ⟨w.heap.size + 1 + 1 + 1, 0, none⟩) 2 2) l [⟨x, s⟩, ⟨y, t⟩] (Els.then h hBW) (els_blk (E := ElC) k4 rfl rfl (by omega)) hs (by simp; exact ⟨hss, htt⟩))
  replace h := Lib.hid h
  replace hrs := Lib.hid hrs
  replace kS := Lib.hid kS
  replace kc := Lib.hid kc
  replace kd := Lib.hid kd
  replace hBW := Lib.hid hBW
  have hall := Lib.hid (fun e : allE C l [⟨x, s⟩, ⟨y, t⟩] = 0 => allE_two e)
  unfold maxLen at hmaxr
  clear hs hss htt k4
  generalize hEE : allE C l [⟨x, s⟩, ⟨y, t⟩] = E at H hall ⊢
  replace hEE := Lib.hid hEE
  by_cases hE : E = 0
  case neg =>
    have hne : (E != 0) = true := by simpa using hE
    have hfin := Lib.hid (show (decide (E = 0) && isRunB l ⟨x, s⟩ ⟨y, t⟩ rs) = false by simp [hE])
    clear hall
    replace hE := Lib.hid hE
    go_enter Tryz.func28, Tryz.ntmps28
    go_wp2_with (go_at_call 46; refine H.out.mono ?_; rintro e w1 ⟨rfl, hb⟩; replace hb := Lib.hid hb)
    go_ret
    exact ⟨ret_bool hfin.out.symm, bthen hBW.out hb.out⟩
  subst hE
  simp only [decide_true, Bool.true_and]
  obtain ⟨hsys, h1, h2⟩ := hall.out rfl
  obtain ⟨_, hx, _, hs20⟩ := properB_iff.1 h1
  have hput := Lib.hid (put2 hsys)
  dsimp only at hx hs20
  clear hall h1 h2 hsys
  by_cases hlong : 1000 < rs.length
  · have hfin := Lib.hid (show isRunB l ⟨x, s⟩ ⟨y, t⟩ rs = false by unfold isRunB; simp; omega)
    have hl' : (1000 : Int) < rs.length := by omega
    go_enter Tryz.func28, Tryz.ntmps28
    go_wp2_with (go_at_call 46; refine H.out.mono ?_; rintro e w1 ⟨rfl, hb⟩; replace hb := Lib.hid hb)
    go_ret
    exact ⟨ret_bool hfin.out.symm, bthen hBW.out hb.out⟩
  have hl' : ¬ (1000 : Int) < rs.length := by omega
  go_enter Tryz.func28, Tryz.ntmps28
  go_wp2_with (go_at_call 46; refine H.out.mono ?_; rintro e w1 ⟨rfl, hb⟩; replace hb := Lib.hid hb)
  go_loopw [25] (fun c wr => ∃ (k : Nat) (x' : Int) (s' : ByteArray), k ≤ rs.length ∧ c = .int .i64 (k : Int) ∧ Hid (runB l ⟨x, s⟩ (rs.take k) = some ⟨x', s'⟩) ∧ Hid (Blk wr (w.heap.size + 1) 60 #[.int .i64 x', .string s']) ∧
    Hid (Blk wr w.heap.size 40 #[.int .i64 C, .slice A n cap]) ∧ Hid (Blk wr (w.heap.size + 1 + 1) 60 #[.int .i64 y, .string t]) ∧ Hid (Below w.heap.size w wr)) (fun c _ => rs.length - (intOf c).toNat)
  case atStart => exact ⟨0, x, s, Nat.zero_le _, rfl, rfl, kc.out.below hb.out kc.out.lt, kS.out.below hb.out kS.out.lt, kd.out.below hb.out kd.out.lt, bthen hBW.out hb.out⟩
  case round =>
    obtain ⟨k, x', s', hk, rfl, hrun, k1, k0, k2, hBr⟩ := hrel
    have d0 : wr.cell? ⟨w.heap.size + 1, 0, none⟩ = some (.int .i64 x') := k1.out.cell 0
    have d1 : wr.cell? ⟨w.heap.size + 1, 1, none⟩ = some (.string s') := k1.out.cell 1
    have hsz : s'.size ≤ s.size + (rs.take k).length := runB_size hput.out hrun.out
    have htl : (rs.take k).length ≤ 1000 := by have := List.length_take_le k rs; omega
    by_cases hlt : k < rs.length
    case neg =>
      obtain rfl : k = rs.length := by omega
      have htk : rs.take rs.length = rs := List.take_length
      rw [htk] at hrun
      have d2 : wr.cell? ⟨w.heap.size + 1 + 1, 0, none⟩ = some (.int .i64 y) := k2.out.cell 0
      have d3 : wr.cell? ⟨w.heap.size + 1 + 1, 1, none⟩ = some (.string t) := k2.out.cell 1
      have hfin := Lib.hid (show isRunB l ⟨x, s⟩ ⟨y, t⟩ rs = eqC ⟨x', s'⟩ ⟨y, t⟩ by unfold isRunB; rw [hrun.out]; simp; omega)
      clear htk hsz
      go_wp2
      all_goals go_ret
      all_goals refine ⟨ret_bool ?_, hBr.out⟩
      all_goals rw [hfin.out]; unfold eqC
      · simp [show x' = y by assumption, show s'.toList = t.toList by assumption]
      · simp [show ¬ s'.toList = t.toList by assumption]
      · simp [show ¬ x' = y by assumption]
    obtain ⟨_, br, offr, rfl, hat⟩ := (Ints.below hrs.out (Nat.le_refl _) hBr.out).addr (by omega)
    have e0 := hat k hlt
    have hrW := Els.then h.out hBr.out
    have hnl1 : n ≤ l.length := Nat.le_of_eq hn.out
    have hnl2 : l.length ≤ n := Nat.le_of_eq hn.out.symm
    have s0 : wr.cell? ⟨w.heap.size, 1, none⟩ = some (.slice A n cap) := k0.out.cell 1
    have hbad := Lib.hid (fun hm => isRunB_bad (d := ⟨y, t⟩) hlt hrun.out hm)
    have hgood := Lib.hid (fun i hi hm => runB_good (i := i) hlt hrun.out hi hm)
    clear hat
    generalize at0 rs k = i at *
    by_cases g1 : i < 0
    · have hfin := Lib.hid (show isRunB l ⟨x, s⟩ ⟨y, t⟩ rs = false by rw [hbad.out (by unfold mayB; simp [show ¬ 0 ≤ i by omega])])
      clear hrW
      have g1' : decide (i < 0) = true := by simpa using g1
      go_wp2
      go_ret
      exact ⟨ret_bool hfin.out.symm, hBr.out⟩
    by_cases g2 : (n : Int) ≤ i
    · have hfin := Lib.hid (show isRunB l ⟨x, s⟩ ⟨y, t⟩ rs = false by rw [hbad.out (by unfold mayB; simp [show ¬ i < (l.length : Int) by omega])])
      clear hrW
      go_wp2
      go_ret
      exact ⟨ret_bool hfin.out.symm, hBr.out⟩
    obtain ⟨m, rfl⟩ : ∃ m : Nat, i = m := ⟨i.toNat, by omega⟩
    have hml : m < l.length := by omega
    have hmn : m < n := by omega
    obtain ⟨b3, off3, rfl, x0, x1, x2, x3⟩ := Rls.at hrW hml
    have hmay := Lib.hid (show mayB l ⟨x', s'⟩ m = (((rAt l m).fr == x') && decide (0 < s'.size) && ((rAt l m).top == ch s' 0)) by unfold mayB; simp [hml])
    have hpm := hput.out _ (rAt_mem hml)
    have hgood := Lib.hid (hgood.out m rfl)
    generalize rAt l m = r at *
    obtain ⟨f, tp, tz, p⟩ := r
    dsimp only at x0 x1 x2 x3 hpm
    obtain ⟨W2, hW2⟩ : ∃ W2, wr.alloc (.cells #[.int .i64 f, .int .u8 tp, .int .i64 tz, .string p] 79) = W2 := ⟨_, rfl⟩
    have hB2 : Below wr.heap.size wr W2 := by rw [← hW2]; exact below1 _ _
    have kR : Blk W2 wr.heap.size 79 #[.int .i64 f, .int .u8 tp, .int .i64 tz, .string p] := by rw [← hW2]; exact Blk.new _ _ _
    have y0 : W2.cell? ⟨w.heap.size + 1, 0, none⟩ = some (.int .i64 x') := cell_below d0 hB2
    have y1 : W2.cell? ⟨w.heap.size + 1, 1, none⟩ = some (.string s') := cell_below d1 hB2
    have y2 : W2.cell? ⟨wr.heap.size, 0, none⟩ = some (.int .i64 f) := kR.cell 0
    have y3 : W2.cell? ⟨wr.heap.size, 1, none⟩ = some (.int .u8 tp) := kR.cell 1
    have hBw2 := Lib.hid (hBr.out.trans (hB2.mono hBr.out.size))
    clear hrW
    by_cases hz : s'.size = 0
    · have hfin := Lib.hid (show isRunB l ⟨x, s⟩ ⟨y, t⟩ rs = false by rw [hbad.out (by rw [hmay.out, hz]; simp)])
      have hs0 := str_nil hz
      have hs0' : s'.toList.isEmpty = true := by rw [hs0]; rfl
      replace hz := Lib.hid hz
      go_wp2
      go_quiet (fail)
      go_wp2
      go_ret
      exact ⟨ret_bool hfin.out.symm, below_drewN hBw2.out _⟩
    have hz' : 0 < s'.size := by omega
    have hs0' := str_ne hz'
    by_cases g4 : x' = f
    case neg =>
      have hfin := Lib.hid (show isRunB l ⟨x, s⟩ ⟨y, t⟩ rs = false by rw [hbad.out (by rw [hmay.out]; simp [show ¬ f = x' from fun e => g4 e.symm])])
      have g4' : (x' != f) = true := by simpa using g4
      replace g4 := Lib.hid g4
      go_wp2
      go_quiet (fail)
      go_wp2
      go_ret
      exact ⟨ret_bool hfin.out.symm, below_drewN hBw2.out _⟩
    have g4' : (x' != f) = false := by simpa using g4
    have hch := (ch_eq hz').symm
    have g4h := Lib.hid g4
    clear g4
    by_cases g5 : ch s' 0 = tp
    case neg =>
      have hfin := Lib.hid (show isRunB l ⟨x, s⟩ ⟨y, t⟩ rs = false by rw [hbad.out (by rw [hmay.out]; simp [show ¬ tp = ch s' 0 from fun e => g5 e.symm])])
      have g5' : (ch s' 0 != tp) = true := by simpa using g5
      replace g5 := Lib.hid g5
      go_wp2
      go_quiet (fail)
      go_wp2
      go_ret
      exact ⟨ret_bool hfin.out.symm, below_drewN hBw2.out _⟩
    have g5' : (ch s' 0 != tp) = false := by simpa using g5
    have hnew := Lib.hid (hgood.out (by rw [hmay.out]; simp [hz', g5, g4h.out]))
    replace g5 := Lib.hid g5
    go_wp2
    go_quiet (fail)
    obtain ⟨W3, hW3⟩ : ∃ W3, W2.drewN nq = W3 := ⟨_, rfl⟩
    have hB3 : Below W2.heap.size W2 W3 := by rw [← hW3]; exact below_drewN (Below.refl _ _) _
    rw [hW3]
    clear hW3 y0 y1 y2 y3
    have hsum : ¬ 9223372036854775807 < p.size + (s'.size - 1) := by omega
    have hsum2 : ¬ 9223372036854775807 < p.size + (s'.extract 1 s'.size).size := by rw [ByteArray.size_extract]; omega
    have hB23 := bthen hB2 hB3
    have kR3 := kR.below hB3 kR.lt
    have k13 := k1.out.below hB23 k1.out.lt
    have k03 := k0.out.below hB23 k0.out.lt
    have k23 := k2.out.below hB23 k2.out.lt
    have hz1 : 1 ≤ s'.size := hz'
    have t1 : ∀ g : Gr W3, g.w1.cell? ⟨w.heap.size + 1, 1, none⟩ = some (.string s') := fun g => g.cell (k13.cell 1)
    have t2 : ∀ g : Gr W3, g.w1.cell? ⟨wr.heap.size, 2, none⟩ = some (.int .i64 tz) := fun g => g.cell (kR3.cell 2)
    have t3 : ∀ g : Gr W3, g.w1.cell? ⟨wr.heap.size, 3, none⟩ = some (.string p) := fun g => g.cell (kR3.cell 3)
    replace kR3 := Lib.hid kR3
    replace k13 := Lib.hid k13
    replace k03 := Lib.hid k03
    replace k23 := Lib.hid k23
    clear hB2 kR d0 d1 s0 e0 x0 x1 x2 x3 g4' g5'
    go_wp2
    refine wp_region_growtail 9 (by kernel_rfl) (by kernel_rfl) ?_
    simp only [List.take_succ_cons, List.take_zero, List.drop_succ_cons, List.drop_zero]
    repeat (go_big_quiet_step (fail))
    refine wpQuiet_nil ?_
    rintro _ ⟨g, rfl⟩
    clear t1 t2 t3
    have z1 := g.cell (k13.out.cell 0)
    have z2 := g.cell (k13.out.cell 1)
    have z3 := (k13.out.below g.h k13.out.lt).free 0
    have z4 := (k13.out.below g.h k13.out.lt).free 1
    have hbk := Lib.hid (And.intro (k13.out.below g.h k13.out.lt) (And.intro (k03.out.below g.h k03.out.lt) (And.intro (k23.out.below g.h k23.out.lt) (hBr.out.trans ((bthen hB23 g.h).mono hBr.out.size)))))
    simp at z1 z2
    go_wp2
    obtain ⟨w1', w0', w2', wB'⟩ := hbk.out
    have hzw := hBr.out.size
    have kn := (w1'.set 0 (.int .i64 tz)).set 1 (.string (p ++ s'.extract 1 s'.size))
    go_roundw
    case rel =>
      refine ⟨k + 1, tz, p ++ s'.extract 1 s'.size, by omega, by go_num, hnew.out, by show Blk _ _ _ _; simpa using kn, ?_, ?_, ?_⟩
      · exact (w0'.far (by show w.heap.size ≠ w.heap.size + 1; omega) _).far (by show w.heap.size ≠ w.heap.size + 1; omega) _
      · exact (w2'.far (by show w.heap.size + 1 + 1 ≠ w.heap.size + 1; omega) _).far (by show w.heap.size + 1 + 1 ≠ w.heap.size + 1; omega) _
      · exact (wB'.setCell (by show w.heap.size ≤ w.heap.size + 1; omega) _).setCell (by show w.heap.size ≤ w.heap.size + 1; omega) _
    case measure => simp [intOf]; omega
end
section
open Go.RowKit Go.Shelf
attribute [local go_sem] Oper.semAt_some

/-- the configuration behind a step, or the same one -/
def stepD (l : List RuleB) (c : ConfB) (i : Int) : ConfB := if mayB l c i then stepC c.st (rAt l i.toNat) else c

theorem two_set {w : World} {g t : Nat} {a b : Value} (h : Blk w g t #[a, b]) (u1 u2 : Value) : ((w.setCell ⟨g, 0, none⟩ u1).setCell ⟨g, 1, none⟩ u2).cell? ⟨g, 0, none⟩ = some u1 ∧ ((w.setCell ⟨g, 0, none⟩ u1).setCell ⟨g, 1, none⟩ u2).cell? ⟨g, 1, none⟩ = some u2 := by
  have h2 := (h.set 0 u1).set 1 u2
  exact ⟨by rw [h2.cell]; rfl, by rw [h2.cell]; rfl⟩

end
section
open Go.RowKit Go.Shelf
attribute [local go_sem] Oper.semAt_some

theorem stepD_take {l : List RuleB} {c : ConfB} {rs : List Int} {k : Nat} {x : Int} {s : ByteArray} (hk : k < rs.length) (h : runB l c (rs.take k) = some ⟨x, s⟩) (hm : mayB l ⟨x, s⟩ (at0 rs k) = true) : runB l c (rs.take (k + 1)) = some (stepD l ⟨x, s⟩ (at0 rs k)) := by
  rw [runB_take hk, h]
  show stepB l ⟨x, s⟩ (at0 rs k) = _
  unfold stepB stepD
  rw [hm]; rfl
theorem below_drew (w : World) : Below w.heap.size w w.drew := below_drewN (Below.refl _ _) 1
theorem below_adrew (w : World) (o : Obj) : Below w.heap.size w (w.alloc o).drew := below_drewN (below1 w o) 1

theorem below_set2 {w w' : World} (h : Below w.heap.size w w') (u1 u2 : Value) : Below w.heap.size w ((w'.setCell ⟨w.heap.size, 0, none⟩ u1).setCell ⟨w.heap.size, 1, none⟩ u2) :=
  (h.setCell (Nat.le_refl _) _).setCell (Nat.le_refl _) _
theorem keep5 {W W' : World} {p1 p2 p3 p4 p5 : Addr} {c1 c2 c3 c4 c5 : Value} (h1 : W.cell? p1 = some c1) (h2 : W.cell? p2 = some c2) (h3 : W.cell? p3 = some c3) (h4 : W.cell? p4 = some c4) (h5 : W.cell? p5 = some c5) (hb : Below W.heap.size W W') :
    W'.cell? p1 = some c1 ∧ W'.cell? p2 = some c2 ∧ W'.cell? p3 = some c3 ∧ W'.cell? p4 = some c4 ∧ W'.cell? p5 = some c5 :=
  ⟨cell_below h1 hb, cell_below h2 hb, cell_below h3 hb, cell_below h4 hb, cell_below h5 hb⟩

end
end
section
open Go.RowKit Go.Shelf
attribute [local go_sem] Oper.semAt_some

theorem info26 : (Tryz.prog.info? 53).map (fun i => (i.zero, i.size, i.bytes)) = some (some (.agg #[.int .i64 0, .string ⟨#[]⟩]), 2, 24) := by kernel_rfl
/-- what the specification's Next has found among the first rules -/
def nextR (l : List RuleB) (c : ConfB) (k : Nat) : List ConfB := ((List.range k).filter (fun (i : Nat) => mayB l c (i : Int))).map fun i => stepC c.st (rAt l i)
theorem nextR_succ (l : List RuleB) (c : ConfB) (k : Nat) : nextR l c (k + 1) = if mayB l c (k : Int) = true then nextR l c k ++ [stepC c.st (rAt l k)] else nextR l c k := by
  unfold nextR
  rw [List.range_succ, List.filter_append, List.map_append]
  by_cases h : mayB l c (k : Int) = true <;> simp [h]
theorem nextR_len (l : List RuleB) (c : ConfB) (k : Nat) : (nextR l c k).length ≤ k := by
  unfold nextR
  rw [List.length_map]
  exact Nat.le_trans (List.length_filter_le _ _) (by simp)
theorem nextR_eq (l : List RuleB) (c : ConfB) : nextR l c l.length = nextL l c := by
  unfold nextR nextL
  by_cases h : c.st.size = 0
  · rw [if_pos h]
    have : (List.range l.length).filter (fun (i : Nat) => mayB l c (i : Int)) = [] := by
      rw [List.filter_eq_nil_iff]
      intro i _
      unfold mayB
      simp [h]
    rw [this]; rfl
  · rw [if_neg h]
    unfold rulesTo
    rw [List.map_map]
    have : (List.range l.length).filter (fun (i : Nat) => mayB l c (i : Int)) = (List.range l.length).filter (isHead l c.ctl (ch c.st 0)) := by
      apply List.filter_congr
      intro i hi
      have hi' : i < l.length := by simpa using hi
      unfold mayB isHead
      have h0 : 0 < c.st.size := by omega
      simp [hi', h0]
    rw [this]
    rfl
end
end Go.Proofs.YtaapnflhjbdmlaaGreatDoor
