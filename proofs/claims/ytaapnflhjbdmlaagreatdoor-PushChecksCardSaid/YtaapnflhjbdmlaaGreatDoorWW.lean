/- The rules of a head, one after the other: the iterator. No condition. push.Next. No condition. -/
import Derived.RangeFuncNested
import Derived.RangeFuncBound
import Derived.RangeFuncCalls
import Derived.RangeFuncLeaves
import Derived.Shelf.Abstract
import Derived.Shelf.RegionOpen
import Derived.OwnWalkIn
import Derived.TacticsInMore
import Derived.LoopNIn
import Derived.LoopIn
import Derived.Test.YtaapnflhjbdmlaaGreatDoorW7
import Derived.Test.YtaapnflhjbdmlaaGreatDoorGX
namespace Go.Proofs.YtaapnflhjbdmlaaGreatDoor
section
open Go.RowKit Go.Shelf
attribute [local go_sem] Oper.semAt_some

def isHead (l : List RuleB) (p t : Int) (i : Nat) : Bool := (rAt l i).fr == p && (rAt l i).top == t
/-- the rules of a head among the first k, with their indices -/
def rulesTo (l : List RuleB) (p t : Int) (k : Nat) : List (Nat × RuleB) := ((List.range k).filter (isHead l p t)).map fun i => (i, rAt l i)
theorem rulesTo_succ (l : List RuleB) (p t : Int) (k : Nat) : rulesTo l p t (k + 1) = if isHead l p t k = true then rulesTo l p t k ++ [(k, rAt l k)] else rulesTo l p t k := by
  unfold rulesTo
  rw [List.range_succ, List.filter_append]
  by_cases h : isHead l p t k = true
  · simp [h]
  · simp [h]
theorem rulesTo_len (l : List RuleB) (p t : Int) (k : Nat) : (rulesTo l p t k).length ≤ k := by
  unfold rulesTo
  rw [List.length_map]
  have := List.length_filter_le (isHead l p t) (List.range k)
  rwa [List.length_range] at this
/-- the blocks are as they were -/
def keepBs (bs : List Nat) (W W' : World) : Prop := ∀ b ∈ bs, W'.heap[b]? = W.heap[b]?
theorem keepBs.refl (bs : List Nat) (W : World) : keepBs bs W W := fun _ _ => rfl
theorem keepBs.trans {bs : List Nat} {A B D : World} (h : keepBs bs A B) (h2 : keepBs bs B D) : keepBs bs A D := fun b hb => (h2 b hb).trans (h b hb)
theorem keepBs.cell {bs : List Nat} {W W' : World} (h : keepBs bs W W') {p : Addr} {v : Value} (hb : p.block ∈ bs) (hc : W.cell? p = some v) : W'.cell? p = some v := (World.cell?_of_block (h p.block hb)).trans hc
theorem keepBs.lt {bs : List Nat} {W W' : World} (h : keepBs bs W W') (hlt : ∀ b ∈ bs, b < W.heap.size) : ∀ b ∈ bs, b < W'.heap.size := fun b hb => by
  have h1 := h b hb
  rw [Array.getElem?_eq_getElem (hlt b hb)] at h1
  exact (Array.getElem?_eq_some_iff.1 h1).1
theorem keepBs.alloc {bs : List Nat} {W W' : World} (h : keepBs bs W W') (o : Obj) (hlt : ∀ b ∈ bs, b < W.heap.size) : keepBs bs W (W'.alloc o) := fun b hb => (Below.heap_alloc _ o b (h.lt hlt b hb)).trans (h b hb)
/-- a rule with its index, that puts at most two letters -/
abbrev RB := { x : Nat × RuleB // x.2.put.size ≤ 2 }
def encIR (x : RB) : Array Value := #[.int .i64 (x.1.1 : Int), rv x.1.2]
def headBs (Bs Bc Bt Br : Nat) : List Nat := [Bs, Bc, Bt, Br]
theorem Rls.block {w : World} {A : Option Addr} {n cap : Nat} {l : List RuleB} (h : Rls w (.slice A n cap) l) (B : Nat) (hB : B < w.heap.size) : ∃ Br, Br < w.heap.size ∧ (0 < l.length → ∃ off, A = some ⟨Br, off, none⟩) := by
  by_cases h0 : 0 < l.length
  · obtain ⟨b, off, e, hc, _⟩ := Rls.at h h0
    exact ⟨b, lt_of_cell hc, fun _ => ⟨off, e⟩⟩
  · exact ⟨B, hB, fun h => absurd h h0⟩

set_option maxHeartbeats 2000000 in
theorem rules1_stops (l : List RuleB) (p t : Int) (A : Option Addr) (n cap Bs Bc Bt Br m : Nat) (hm : 1 ≤ m) (w : World) (hs : w.cell? ⟨Bs, 1, none⟩ = some (.slice A n cap)) (hp : w.cell? ⟨Bc, 0, none⟩ = some (.int .i64 p)) (ht : w.cell? ⟨Bt, 0, none⟩ = some (.int .u8 t))
    (hr : Rls w (.slice A n cap) l) (hl : l.length ≤ 30) (hput : ∀ r ∈ l, r.put.size ≤ 2) (hBr : Br < w.heap.size) (hBr2 : 0 < l.length → ∃ off, A = some ⟨Br, off, none⟩) :
    SeqStopsK Fence.wide m Tryz.prog 78 #[.pointer (some ⟨Bs, 0, none⟩), .pointer (some ⟨Bc, 0, none⟩), .pointer (some ⟨Bt, 0, none⟩)] encIR (keepBs (headBs Bs Bc Bt Br)) (fun xs => xs.map (·.1) = rulesTo l p t l.length) (fun _ => True) 31 w := fun ll J Jx W hW hAb _ hY h0 => by
  refine callsIn_of_wp Tryz.func78 rfl trivial ?_ rfl
  simp only [Tryz.ntmps78, List.size_toArray, List.length_cons, List.length_nil, Nat.reduceAdd, Nat.reduceSub, Array.replicate_succ, Array.replicate_zero, List.push_toArray, List.append_toArray, List.nil_append, List.cons_append]
  replace hs := cell_below hs hW
  replace hp := cell_below hp hW
  replace ht := cell_below ht hW
  replace hr : Rls W (.slice A n cap) l := Els.then hr hW
  obtain ⟨hn2, hcap, hmax⟩ := Els.len hr
  unfold maxLen at hmax
  have hn := Lib.hid hn2
  have hat := Lib.hid (fun i (hi : i < l.length) => Rls.at hr hi)
  have hlt : ∀ b ∈ headBs Bs Bc Bt Br, b < W.heap.size := by
    intro b hb
    simp only [headBs, List.mem_cons, List.mem_nil_iff, or_false] at hb
    rcases hb with rfl | rfl | rfl | rfl
    · exact lt_of_cell hs
    · exact lt_of_cell hp
    · exact lt_of_cell ht
    · have := hW.size; omega
  replace hlt := Lib.hid hlt
  replace hY := Lib.hid hY
  replace hAb := Lib.hid hAb
  clear hn2 hr
  gi_wp2
  gi_loopw [10] (fun c wr => ∃ (i : Nat) (pre : List RB), i ≤ n ∧ c = .int .i64 (i : Int) ∧ Hid (pre.map (·.1) = rulesTo l p t i) ∧ Hid (J pre wr) ∧ Hid (keepBs (headBs Bs Bc Bt Br) W wr))
    (fun c wr => n - (intOf c).toNat)
  case atStart => exact ⟨0, [], Nat.zero_le _, rfl, rfl, h0, keepBs.refl _ _⟩
  case round =>
    obtain ⟨i, pre, hi, rfl, hpre, hJ, hK⟩ := hrel
    have cs := hK.out.cell (by simp [headBs]) hs
    have cp := hK.out.cell (by simp [headBs]) hp
    have ct := hK.out.cell (by simp [headBs]) ht
    by_cases hlti : i < n
    case neg =>
      obtain rfl : i = n := by omega
      have hfin := Lib.hid (show pre.map (·.1) = rulesTo l p t l.length by rw [hpre.out, hn.out])
      gi_wp2
      go_end0
      exact ⟨⟨_, rfl⟩, .inl ⟨_, hfin.out, hJ.out⟩⟩
    have hil : i < l.length := by have := hn.out; omega
    obtain ⟨off, rfl⟩ := hBr2 (by omega)
    obtain ⟨b', off', e, q0, q1, q2, q3⟩ := hat.out i hil
    cases e
    replace q0 := hK.out.cell (by simp [headBs]) q0
    replace q1 := hK.out.cell (by simp [headBs]) q1
    replace q2 := hK.out.cell (by simp [headBs]) q2
    replace q3 := hK.out.cell (by simp [headBs]) q3
    have hsucc := Lib.hid (rulesTo_succ l p t i)
    have hih : Hid (isHead l p t i = ((rAt l i).fr == p && (rAt l i).top == t)) := rfl
    have hplen : pre.length < 31 := by have h1 := congrArg List.length hpre.out; rw [List.length_map] at h1; have := rulesTo_len l p t i; omega
    have hpu := hput (rAt l i) (by rw [rAt_eq hil]; exact List.getElem_mem hil)
    generalize rAt l i = r at *
    obtain ⟨f, tt, o, s⟩ := r
    dsimp only at q0 q1 q2 q3 hpu
    have hih := Lib.hid (show isHead l p t i = (f == p && tt == t) from hih.out)
    have hJ1 := Lib.hid (hAb.out pre wr (wr.alloc (.cells #[.int .i64 f, .int .u8 tt, .int .i64 o, .string s] 79)) none hJ.out (World.grownBy_alloc _ _ none) (by intro r e; cases e))
    have hK1 := Lib.hid (hK.out.alloc (.cells #[.int .i64 f, .int .u8 tt, .int .i64 o, .string s] 79) hlt.out)
    have ap := fun o => cell_below cp (below1 wr o)
    have at' := fun o => cell_below ct (below1 wr o)
    by_cases h1 : f = p
    case neg =>
      have hn1 := Lib.hid (show rulesTo l p t (i + 1) = rulesTo l p t i by rw [hsucc.out, if_neg]; rw [hih.out]; simp [h1])
      have h1' : (f == p) = false := by simp [h1]
      gi_wp2
      refine ⟨(by intro f hf; cases hf), ?_⟩
      gi_wp2
      go_roundw
      case rel => exact ⟨i + 1, pre, by omega, by go_num, Lib.hid (by rw [hn1.out]; exact hpre.out), hJ1, hK1⟩
      case measure => simp [intOf]; omega
    subst h1
    by_cases h2 : tt = t
    case neg =>
      have h2h := Lib.hid h2
      have hn1 := Lib.hid (show rulesTo l f t (i + 1) = rulesTo l f t i by rw [hsucc.out, if_neg]; rw [hih.out]; simp [h2])
      have h2' : (tt == t) = false := by simp [h2]
      gi_wp2
      refine ⟨(by intro f hf; cases hf), ?_⟩
      gi_wp2
      go_roundw
      case rel => exact ⟨i + 1, pre, by omega, by go_num, Lib.hid (by rw [hn1.out]; exact hpre.out), hJ1, hK1⟩
      case measure => simp [intOf]; omega
    subst h2
    have hn1 := Lib.hid (show rulesTo l f tt (i + 1) = pre.map (·.1) ++ [(i, ⟨f, tt, o, s⟩)] by rw [hsucc.out, if_pos, hpre.out]; rw [hih.out]; simp)
    obtain ⟨fn, tmps, assign, body, hy, hR⟩ := hY.out pre ⟨(i, ⟨f, tt, o, s⟩), hpu⟩ _ hJ1.out hplen
    dsimp only [encIR] at hy
    gi_wp2
    refine hR.mono ?_
    rintro e W3 (⟨rfl, hJ3, hk3⟩ | ⟨rfl, hJx3⟩)
    · have hK3 := Lib.hid (hK1.out.trans hk3)
      gi_wp2
      go_roundw
      case rel => exact ⟨i + 1, _, by omega, by go_num, Lib.hid (by rw [List.map_append]; exact hn1.out.symm), hJ3, hK3⟩
      case measure => simp [intOf]; omega
    · gi_wp2
      refine bodyPost_ret (results_none rfl _ _ _) rfl ?_
      exact ⟨⟨_, rfl⟩, .inr ⟨_, trivial, hJx3⟩⟩

set_option maxHeartbeats 400000 in
theorem rules_any (w : World) (C : Int) (A : Option Addr) (n cap : Nat) (p t : Int) :
    Calls Tryz.prog 54 #[sv C (.slice A n cap), .int .i64 p, .int .u8 t] w fun e w' => e = .returned (.func (.func 78) #[] #[.pointer (some ⟨w.heap.size, 0, none⟩), .pointer (some ⟨w.heap.size + 1, 0, none⟩), .pointer (some ⟨w.heap.size + 1 + 1, 0, none⟩)]) ∧
      ((w.alloc (.cells #[.int .i64 C, .slice A n cap] 40)).alloc (.cells #[.int .i64 p] 3)).alloc (.cells #[.int .u8 t] 5) = w' := by
  go_enter Tryz.func54, Tryz.ntmps54
  go_wp2
  go_ret
  exact ⟨rfl, rfl⟩
end
section
open Go.RowKit Go.Shelf
attribute [local go_sem] Oper.semAt_some

theorem info40 : (Tryz.prog.info? 60).map (fun i => (i.zero, i.size, i.bytes)) = some (some (.agg #[.int .i64 0, .string ⟨#[]⟩]), 2, 24) := by kernel_rfl
/-- the configurations to which a rule leads -/
def stepC (s : ByteArray) (r : RuleB) : ConfB := ⟨r.to, r.put ++ s.extract 1 s.size⟩
def nextL (l : List RuleB) (c : ConfB) : List ConfB := if c.st.size = 0 then [] else (rulesTo l c.ctl (ch c.st 0) l.length).map fun x => stepC c.st x.2

theorem ownFrom_blk {β : Type} (B g t : Nat) (f : β → Array Value) : OwnFrom B (fun (s : β) W => Blk W g t (f s)) := by
  intro s W W' row h hg hr
  refine (hg.block g h.lt fun e => ?_).trans h
  obtain ⟨_, o, ho, hc⟩ := hr g e.symm
  rw [show W.heap[g]? = _ from h] at ho
  cases ho
  cases hc
theorem ownFrom_var {β α : Type} {E : El α} (B g t e lo : Nat) (f : β → List α) : OwnFrom B (fun (s : β) W => ∃ v, Blk W g t #[v] ∧ OwnE E e lo W v (f s)) := by
  rintro s W W' row ⟨v, h, ho⟩ hg hr
  refine ⟨v, ownFrom_blk B g t (fun _ => #[v]) s W W' row h hg hr, ho.kept hg ?_⟩
  cases hv : v.ownBlock with
  | none => exact .inl rfl
  | some k =>
    right
    intro e'
    obtain ⟨_, o, hob, hc⟩ := hr k e'.symm
    rcases ho.2 with ⟨rfl, _⟩ | ⟨g', cap, cur, rfl, _, hgg, _⟩
    · cases hv
    · have : g' = k := by simpa [Value.ownBlock] using hv
      subst this
      rw [hgg] at hob
      cases hob
      cases hc

theorem OwnE.putObj {α : Type} {E : El α} {e lo : Nat} {w : World} {v : Value} {l : List α} (h : OwnE E e lo w v l) {D : Nat} {o : Obj} (o' : Obj) (hD : w.heap[D]? = some o) (hc : o.isCells = false) : OwnE E e lo (w.putObj D o') v l := by
  refine h.kept (grownBy_putObj' w D o') ?_
  rcases h.2 with ⟨rfl, _⟩ | ⟨g, cap, cur, rfl, _, hgg, _⟩
  · exact .inl rfl
  · refine .inr fun e' => ?_
    have : g = D := by simpa [Value.ownBlock] using e'
    subst this
    rw [hgg] at hD
    cases hD
    cases hc
theorem ownFrom_keepBs {β : Type} {bs : List Nat} {W0 : World} (hlt : ∀ b ∈ bs, b < W0.heap.size) : OwnFrom W0.heap.size (fun (_ : β) W => keepBs bs W0 W) := by
  intro s W W' row h hg hr b hb
  have hbW := h.lt hlt b hb
  refine (hg.block b hbW fun e => ?_).trans (h b hb)
  obtain ⟨hB, _⟩ := hr b e.symm
  have := hlt b hb
  omega
theorem Next_err (w : World) (C x : Int) (v : Value) (l : List RuleB) (s : ByteArray) (h : Rls w v l) (hs : ∀ r ∈ l, r.put.size ≤ 9223372036854775807) (hss : s.size ≤ 9223372036854775807) (he : allE C l [⟨x, s⟩] ≠ 0 ∨ s.size = 0) :
    Calls Tryz.prog 32 #[sv C v, cv ⟨x, s⟩] w fun e w' => e = .returned (.tuple #[.slice none 0 0, .int .i64 (allE C l [⟨x, s⟩])]) ∧ Below w.heap.size w w' := by
  have kc := Blk.new ((w.alloc (.cells #[.int .i64 C, v] 40)).alloc (.cells #[.int .i64 x, .string s] 60)) 60 #[.int .i64 x, .string s]
  rw [alloc_size, alloc_size] at kc
  have k1 := (Blk.new (w.alloc (.cells #[.int .i64 C, v] 40)) 60 #[.int .i64 x, .string s]).alloc (.cells #[.int .i64 x, .string s] 60)
  rw [alloc_size] at k1
  have hb0 := bthen (below1 w (.cells #[.int .i64 C, v] 40)) (bthen (below1 _ (.cells #[.int .i64 x, .string s] 60)) (below1 _ (.cells #[.int .i64 x, .string s] 60)))
  have H := checkAll_any _ C v (.slice (some ⟨w.heap.size + 1 + 1, 0, none⟩) 1 1) l [⟨x, s⟩] (Els.then h hb0) (els_one (E := ElC) kc rfl) hs (by simp; exact hss)
  obtain ⟨A, n, cap, rfl, hn⟩ := Els.shape h
  replace hb0 := Lib.hid hb0
  obtain ⟨q0, q1⟩ := k1.two
  replace q0 := Lib.hid q0
  replace q1 := Lib.hid q1
  clear h hs k1 kc
  generalize allE C l [⟨x, s⟩] = E at *
  by_cases hE : E = 0
  · subst hE
    have hs0 : s.toList = [] := by
      rcases he with h | h
      · exact absurd rfl h
      · rw [Lib.toList_data]
        have : s.data.size = 0 := h
        exact List.eq_nil_of_length_eq_zero (by simpa using this)
    clear he
    replace H := Lib.hid H
    go_enter Tryz.func32, Tryz.ntmps32
    go_wp2_with (go_at_call 46; refine H.out.mono ?_; rintro e w1 ⟨rfl, hb⟩; have c1 := cell_below q1.out hb; replace hb := Lib.hid hb)
    exact bodyPost_ret (v := .tuple #[.slice none 0 0, .int .i64 0]) (by simp [results, Tryz.results32, go_sem]) rfl ⟨rfl, bthen hb0.out hb.out⟩
  · have hne : (E != 0) = true := by simpa using hE
    clear he
    replace hE := Lib.hid hE
    replace H := Lib.hid H
    go_enter Tryz.func32, Tryz.ntmps32
    go_wp2_with (go_at_call 46; refine H.out.mono ?_; rintro e w1 ⟨rfl, hb⟩; have c1 := cell_below q1.out hb; replace hb := Lib.hid hb)
    exact bodyPost_ret (v := .tuple #[.slice none 0 0, .int .i64 E]) (by simp [results, Tryz.results32, go_sem]) rfl ⟨rfl, bthen hb0.out hb.out⟩

/-- NEXTOK -/
theorem ch0_eq {s : ByteArray} (h : 0 < s.size) : ((s[0]'h).toNat : Int) = ch s 0 := (ch_eq h).symm

set_option maxHeartbeats 4000000 in
theorem Next_ok (w : World) (C x : Int) (v : Value) (l : List RuleB) (s : ByteArray) (h : Rls w v l) (hs : ∀ r ∈ l, r.put.size ≤ 9223372036854775807) (hss : s.size ≤ 9223372036854775807) (he : allE C l [⟨x, s⟩] = 0) (hl30 : l.length ≤ 30) (hput : ∀ r ∈ l, r.put.size ≤ 2) (hs20 : s.size ≤ 20) (h0 : 0 < s.size) :
    Calls Tryz.prog 32 #[sv C v, cv ⟨x, s⟩] w fun e w' => ∃ v', e = .returned (.tuple #[v', .int .i64 0]) ∧ OwnE ElC 60 w.heap.size w' v' ((rulesTo l x (ch s 0) l.length).map fun y => stepC s y.2) ∧ Below w.heap.size w w' := by
  have kc := Blk.new ((w.alloc (.cells #[.int .i64 C, v] 40)).alloc (.cells #[.int .i64 x, .string s] 60)) 60 #[.int .i64 x, .string s]
  rw [alloc_size, alloc_size] at kc
  have k0 := ((Blk.new w 40 #[.int .i64 C, v]).alloc (.cells #[.int .i64 x, .string s] 60)).alloc (.cells #[.int .i64 x, .string s] 60)
  have k1 := (Blk.new (w.alloc (.cells #[.int .i64 C, v] 40)) 60 #[.int .i64 x, .string s]).alloc (.cells #[.int .i64 x, .string s] 60)
  rw [alloc_size] at k1
  have hb0 := bthen (below1 w (.cells #[.int .i64 C, v] 40)) (bthen (below1 _ (.cells #[.int .i64 x, .string s] 60)) (below1 _ (.cells #[.int .i64 x, .string s] 60)))
  have H := checkAll_any _ C v (.slice (some ⟨w.heap.size + 1 + 1, 0, none⟩) 1 1) l [⟨x, s⟩] (Els.then h hb0) (els_one (E := ElC) kc rfl) hs (by simp; exact hss)
  rw [he] at H
  obtain ⟨A, n, cap, rfl, hn⟩ := Els.shape h
  obtain ⟨W0, hW0⟩ : ∃ W0, ((w.alloc (.cells #[.int .i64 C, .slice A n cap] 40)).alloc (.cells #[.int .i64 x, .string s] 60)).alloc (.cells #[.int .i64 x, .string s] 60) = W0 := ⟨_, rfl⟩
  rw [hW0] at hb0 H k0 k1
  obtain ⟨hn2, hcap, hmax⟩ := Els.len h
  unfold maxLen at hmax
  obtain ⟨Br, hBr, hBr2⟩ := Rls.block (show Rls W0 (.slice A n cap) l from Els.then h hb0) w.heap.size k0.lt
  have hs0 : s.toList.isEmpty = false := by
    rw [Lib.toList_data]
    cases hh : s.data.toList with
    | nil => have : s.data.toList.length = 0 := by rw [hh]; rfl
             have : s.size = 0 := by simpa using this
             omega
    | cons a t => rfl
  have hch := ch0_eq h0
  replace h := Lib.hid h
  replace H := Lib.hid H
  replace hb0 := Lib.hid hb0
  obtain ⟨q0, q1⟩ := k1.two
  obtain ⟨y0, y1⟩ := k0.two
  have k1 := Lib.hid k1
  have k0 := Lib.hid k0
  clear kc hs he hn2
  refine (callsIn_wide (n := 3)).1 ?_
  refine callsIn_of_wp_marks Tryz.func32 rfl trivial ?_ rfl
  simp only [Tryz.ntmps32, List.size_toArray, List.length_cons, List.length_nil, Nat.reduceAdd, Nat.reduceSub, Array.replicate_succ, Array.replicate_zero, List.push_toArray, List.append_toArray, List.nil_append, List.cons_append]
  refine (wpIn_wide (n := 3)).2 ?_
  go_wp2_with (go_at_call 46; refine H.out.mono ?_; rintro e w1 ⟨rfl, hb⟩; replace q0 := cell_below q0 hb; replace q1 := cell_below q1 hb; replace y0 := cell_below y0 hb; replace y1 := cell_below y1 hb; replace hb := Lib.hid hb)
  obtain ⟨W3, hW3⟩ : ∃ W3, w1.alloc (.cells #[.slice none 0 0] 70) = W3 := ⟨_, rfl⟩
  have hb3 := Lib.hid (show Below w1.heap.size w1 W3 by rw [← hW3]; exact below1 _ _)
  have kv : Blk W3 w1.heap.size 70 #[.slice none 0 0] := by rw [← hW3]; exact Blk.new w1 70 _
  rw [hW3]
  clear hW3
  have g0 : ∀ g : Gr W3, g.w1.cell? ⟨w.heap.size, 0, none⟩ = some (.int .i64 C) := fun g => g.cell (cell_below y0 hb3.out)
  have g1 : ∀ g : Gr W3, g.w1.cell? ⟨w.heap.size, 1, none⟩ = some (.slice A n cap) := fun g => g.cell (cell_below y1 hb3.out)
  have g2 : ∀ g : Gr W3, g.w1.cell? ⟨w.heap.size + 1, 0, none⟩ = some (.int .i64 x) := fun g => g.cell (cell_below q0 hb3.out)
  have g3 : ∀ g : Gr W3, g.w1.cell? ⟨w.heap.size + 1, 1, none⟩ = some (.string s) := fun g => g.cell (cell_below q1 hb3.out)
  have hz : 0 < s.size := h0
  refine wp_region_growtail 6 (by kernel_rfl) (by kernel_rfl) ?_
  simp only [List.take_succ_cons, List.take_zero, List.drop_succ_cons, List.drop_zero]
  repeat (go_big_quiet_step (fail))
  refine wpQuiet_nil ?_
  rintro _ ⟨g, rfl⟩
  obtain ⟨G, hBG⟩ := g
  dsimp only at *
  have hch' : ch s 0 = ch s 0 := rfl
  have kvG : Blk G w1.heap.size 70 #[.slice none 0 0] := Blk.below kv hBG kv.lt
  have hbG := Lib.hid (bthen hb0.out (bthen hb.out (bthen hb3.out hBG)))
  have k1G : Blk G (w.heap.size + 1) 60 #[.int .i64 x, .string s] := by
    have a := Blk.below k1.out hb.out k1.out.lt
    have b := Blk.below a hb3.out a.lt
    exact Blk.below b hBG b.lt
  have hrG := Lib.hid (show Rls G (.slice A n cap) l from Els.then h.out hbG.out)
  clear g0 g1 g2 g3 q0 q1 y0 y1 kv
  go_wp2_with (go_at_call 54; refine (rules_any _ _ _ _ _ _ _).mono ?_; rintro e w2 ⟨rfl, rfl⟩)
  obtain ⟨WA, hWA⟩ : ∃ WA, G.alloc (.cells #[.int .i64 C, .slice A n cap] 40) = WA := ⟨_, rfl⟩
  have hBA : Below G.heap.size G WA := by rw [← hWA]; exact below1 _ _
  have hzA : WA.heap.size = G.heap.size + 1 := by rw [← hWA, alloc_size]
  have kA : Blk WA G.heap.size 40 #[.int .i64 C, .slice A n cap] := by rw [← hWA]; exact Blk.new G 40 _
  rw [hWA]
  clear hWA
  obtain ⟨WB, hWB⟩ : ∃ WB, WA.alloc (.cells #[.int .i64 x] 3) = WB := ⟨_, rfl⟩
  have hBB : Below WA.heap.size WA WB := by rw [← hWB]; exact below1 _ _
  have hzB : WB.heap.size = G.heap.size + 1 + 1 := by rw [← hWB, alloc_size, hzA]
  have kB : Blk WB (G.heap.size + 1) 3 #[.int .i64 x] := by rw [← hWB, ← hzA]; exact Blk.new WA 3 _
  have kA' := Blk.below kA hBB kA.lt
  rw [hWB]
  clear hWB kA
  obtain ⟨WL, hWL⟩ : ∃ WL, WB.alloc (.cells #[.int .u8 (ch s 0)] 5) = WL := ⟨_, rfl⟩
  have hBC : Below WB.heap.size WB WL := by rw [← hWL]; exact below1 _ _
  have hz0 : WL.heap.size = G.heap.size + 1 + 1 + 1 := by rw [← hWL, alloc_size, hzB]
  have kC : Blk WL (G.heap.size + 1 + 1) 5 #[.int .u8 (ch s 0)] := by rw [← hWL, ← hzB]; exact Blk.new WB 5 _
  have kB' := Blk.below kB hBC kB.lt
  have kA'' := Blk.below kA' hBC kA'.lt
  rw [hWL]
  clear hWL kA' kB
  have hBG0 := bthen hBA (bthen hBB hBC)
  have kv0 : Blk WL w1.heap.size 70 #[.slice none 0 0] := Blk.below kvG hBG0 kvG.lt
  have kc0 : Blk WL (w.heap.size + 1) 60 #[.int .i64 x, .string s] := Blk.below k1G hBG0 k1G.lt
  have hr0 : Rls WL (.slice A n cap) l := Els.then hrG.out hBG0
  have hbW := bthen hbG.out hBG0
  have hss' := Lib.hid hz
  have hsA : WL.cell? ⟨G.heap.size, 1, none⟩ = some (.slice A n cap) := kA''.cell 1
  have hsB : WL.cell? ⟨G.heap.size + 1, 0, none⟩ = some (.int .i64 x) := kB'.cell 0
  have hsC : WL.cell? ⟨G.heap.size + 1 + 1, 0, none⟩ = some (.int .u8 (ch s 0)) := kC.cell 0
  have hB1G : w1.heap.size < G.heap.size := kvG.lt
  have hW01 : W0.heap.size ≤ w1.heap.size := hb.out.size
  have hzw0 : w.heap.size + 1 < W0.heap.size := k1.out.lt
  have hlt : ∀ b ∈ headBs G.heap.size (G.heap.size + 1) (G.heap.size + 1 + 1) Br, b < WL.heap.size := by
    intro b hb'
    simp only [headBs, List.mem_cons, List.mem_nil_iff, or_false] at hb'
    rcases hb' with rfl | rfl | rfl | rfl <;> omega
  have hne : ∀ b ∈ headBs G.heap.size (G.heap.size + 1) (G.heap.size + 1 + 1) Br, b ≠ w1.heap.size := by
    intro b hb'
    simp only [headBs, List.mem_cons, List.mem_nil_iff, or_false] at hb'
    rcases hb' with rfl | rfl | rfl | rfl <;> omega
  have hrl := rulesTo_len l x (ch s 0) l.length
  obtain ⟨fr, hfr⟩ : ∃ fr : RB → Nat → Act, fr = fun y Ba => { tmps := #[sv C (.slice A n cap), cv ⟨x, s⟩, .pointer (some ⟨w.heap.size, 0, none⟩), .pointer (some ⟨w.heap.size + 1, 0, none⟩), .slice none 0 0, .int .i64 0, .int .i64 0, .pointer (some ⟨w1.heap.size, 0, none⟩), undef, .pointer (some ⟨Ba, 0, none⟩),
      sv C (.slice A n cap), cv ⟨x, s⟩, .slice (some ⟨w.heap.size + 1 + 1, 0, none⟩) 1 1, .int .i64 0, .int .i64 0, .bool false, .bool false, .pointer (some ⟨w.heap.size + 1, 1, none⟩), .string s, .bool false, .bool false, undef, sv C (.slice A n cap),
      .pointer (some ⟨w.heap.size + 1, 0, none⟩), .int .i64 x, .pointer (some ⟨w.heap.size + 1, 1, none⟩), .string s, .int .u8 (ch s 0), .func (.func 78) #[] #[.pointer (some ⟨G.heap.size, 0, none⟩), .pointer (some ⟨G.heap.size + 1, 0, none⟩), .pointer (some ⟨G.heap.size + 1 + 1, 0, none⟩)],
      .int .i64 (y.1.1 : Int), rv y.1.2, undef, undef, undef, undef, undef, undef, undef, undef, undef, undef, undef, undef, undef], defers := [] } := ⟨_, rfl⟩
  replace hfr := Lib.hid hfr
  refine (wpIn_wide (n := 3)).1 ?_
  refine wpIn_rangeFunc_ownH (n := 3) rfl (by omega) (gf := 78) (lb := #[.pointer (some ⟨G.heap.size, 0, none⟩), .pointer (some ⟨G.heap.size + 1, 0, none⟩), .pointer (some ⟨G.heap.size + 1 + 1, 0, none⟩)]) rfl trivial (enters_of Tryz.func78 (by kernel_rfl) rfl)
    (rules1_stops l x (ch s 0) A n cap G.heap.size (G.heap.size + 1) (G.heap.size + 1 + 1) Br 2 (by omega) WL hsA hsB hsC hr0 hl30 hput (by omega) hBr2) (fun h k => h.trans k)
    (fun W l o o' hl' h hc hw b hb' => World.putObj_heap_other (by have := hlt b hb'; omega)) (Below.refl _ _) (fun _ => rfl)
    (fun pre W => (∃ v', Blk W w1.heap.size 70 #[v'] ∧ OwnE ElC 60 WL.heap.size W v' (pre.map fun y => stepC s y.1.2)) ∧ Blk W (w.heap.size + 1) 60 #[.int .i64 x, .string s] ∧ Below w.heap.size w W ∧ keepBs (headBs G.heap.size (G.heap.size + 1) (G.heap.size + 1 + 1) Br) WL W)
    (fun _ _ _ => False)
    ((ownFrom_var (E := ElC) _ _ _ _ _ (fun (pre : List RB) => pre.map fun y => stepC s y.1.2)).and ((ownFrom_blk _ _ _ (fun _ => _)).and ((ownFrom_below (Nat.le_refl _) (by omega)).and (ownFrom_keepBs hlt))))
    (fun _ _ _ _ _ h _ _ => h)
    ⟨⟨_, kv0, OwnE.nil _ _ _⟩, kc0, hbW, keepBs.refl _ _⟩
    (fun y a' W => ∃ Ba, WL.heap.size ≤ Ba ∧ Blk W Ba 79 #[.int .i64 y.1.2.fr, .int .u8 y.1.2.top, .int .i64 y.1.2.to, .string y.1.2.put] ∧ a' = fr y Ba)
    (fun y a' => by
      rintro _ W W' row ⟨Ba, h1, h2, h3⟩ hg hr'
      exact ⟨Ba, h1, ownFrom_blk _ _ _ (fun (_ : Unit) => _) () W W' row h2 hg hr', h3⟩)
    ?assign ?body ?done ?stop
  case stop =>
    rintro D c pre W _ _ h _
    exact h.elim
  case assign =>
    rintro l' pre ⟨⟨i, ⟨f, t, o, p⟩⟩, hpp⟩ W K ⟨⟨v', hv, ho⟩, hc, hB, hK0⟩ hK
    have hlt2 := hK0.lt hlt
    have hWz : WL.heap.size ≤ W.heap.size := by have := hlt2 (G.heap.size + 1 + 1) (by simp [headBs]); omega
    replace hK := Lib.hid hK
    have hh := Lib.hid (And.intro hv (And.intro ho (And.intro hc (And.intro hB hK0))))
    clear hv ho hc hB hK0
    unfold encIR
    gi_wp2
    obtain ⟨hv, ho, hc, hB, hK0⟩ := hh.out
    refine hK.out _ _ ((KeepsOthers.alloc _ _).from _) ((keepBs.refl _ _).alloc _ hlt2) ⟨⟨v', hv.alloc _, ho.then (below1 _ _)⟩, hc.alloc _, hB.trans ((below1 _ _).mono hB.size), hK0.alloc _ hlt⟩ ⟨W.heap.size, hWz, Blk.new W 79 _, by rw [hfr.out]⟩
  case body =>
    rintro l' pre ⟨⟨i, ⟨f, t, o, p⟩⟩, hpp⟩ a' W hl' ⟨rr, hrr⟩ ⟨⟨v', hv, ho⟩, hc, hB, hK0⟩ ⟨Ba, hBa, kb, rfl⟩ hpl
    rw [hfr.out]
    dsimp only at kb hpp
    have hsum : ¬ 9223372036854775807 < p.size + (s.size - 1) := by omega
    have hsum2 : ¬ 9223372036854775807 < p.size + (s.extract 1 s.size).size := by rw [ByteArray.size_extract]; omega
    have hlt2 := hK0.lt hlt
    obtain ⟨A', n', cap', rfl, hn'⟩ := OwnE.shape ho
    obtain ⟨ob, hob⟩ : ∃ ob : Obj, ob = .cells #[.int .i64 o, .string (p ++ s.extract 1 s.size)] 60 := ⟨_, rfl⟩
    have t0 : ∀ g : Two W ob, g.w1.cell? ⟨w1.heap.size, 0, none⟩ = some (.slice A' n' cap') := fun g => g.cell (by have := hv.cell 0; simpa using this)
    have t2 : ∀ g : Two W ob, g.w1.cell? ⟨Ba, 2, none⟩ = some (.int .i64 o) := fun g => g.cell (by have := kb.cell 2; simpa using this)
    have t3 : ∀ g : Two W ob, g.w1.cell? ⟨Ba, 3, none⟩ = some (.string p) := fun g => g.cell (by have := kb.cell 3; simpa using this)
    have tc : ∀ g : Two W ob, g.w1.cell? ⟨w.heap.size + 1, 1, none⟩ = some (.string s) := fun g => g.cell (by have := hc.cell 1; simpa using this)
    have hh := Lib.hid (And.intro hv (And.intro ho (And.intro hc (And.intro hB (And.intro hK0 kb)))))
    have hs1 : 1 ≤ s.size := hss'.out
    clear hv ho hc hB hK0 kb
    gi_wp2
    refine wpIn_region_two 10 (.slice (some ⟨W.heap.size, 0, none⟩) 1 1) ob (by kernel_rfl) (by kernel_rfl) (by kernel_rfl) (by kernel_rfl) rfl ?_
    simp only [List.take_succ_cons, List.take_zero, List.drop_succ_cons, List.drop_zero]
    repeat (gi_big_quiet_step (fail))
    refine wpQuietIn_nil ?_
    clear t0 t2 t3 tc
    constructor
    · refine ⟨fun w' => rfl, rfl, ?_⟩
      rintro _ ⟨k, rfl⟩
      refine ⟨_, ⟨k, rfl⟩, ?_⟩
      rw [hob]
      go_simp
      rfl
    rintro _ ⟨k, rfl⟩
    obtain ⟨hv, ho, hc, hB, hK0, kb⟩ := hh.out
    have hWz : WL.heap.size ≤ W.heap.size := by have := hlt2 (G.heap.size + 1 + 1) (by simp [headBs]); omega
    have hBn : Below W.heap.size W ((W.alloc ob).drewN k) := below_drewN (below1 _ _) k
    have hkn : Blk ((W.alloc ob).drewN k) W.heap.size 60 #[.int .i64 o, .string (p ++ s.extract 1 s.size)] := by rw [hob]; exact (Blk.new W 60 _).drewN k
    have hKO : KeepsOthers W ((W.alloc ob).drewN k) := ⟨hBn.size, fun b _ h _ => (hBn.block b (Array.getElem?_eq_some_iff.1 h).1).trans h⟩
    have hKn : keepBs (headBs G.heap.size (G.heap.size + 1) (G.heap.size + 1 + 1) Br) W ((W.alloc ob).drewN k) := fun b hb' => hBn.block b (hlt2 b hb')
    generalize (W.alloc ob).drewN k = Wn at *
    have hvn := Blk.below hv hBn hv.lt
    have hcn := Blk.below hc hBn hc.lt
    have hon := ho.then hBn
    have hWn : WL.heap.size ≤ Wn.heap.size := by have := hBn.size; omega
    refine wpListIn_append_els (E := ElC) _ rfl (.tmp 31) (.tmp 41) 70 rfl WL.heap.size Tryz.underlying70 info40 rfl rfl (by decide) (.slice A' n' cap') (pre.map fun y => stepC s y.1.2) rfl hon (.slice (some ⟨W.heap.size, 0, none⟩) 1 1) rfl [⟨o, p ++ s.extract 1 s.size⟩] (els_one hkn rfl) (by simp; omega) hWn ?_
    intro v2 w2 ho2 hb2 hgx hlx
    clear hlx
    have hv2 : Blk w2 w1.heap.size 70 #[.slice A' n' cap'] := Blk.below hvn hb2 (by omega)
    have hc2 := Blk.below hcn hb2 (by omega)
    obtain ⟨A2, n2, cap2, rfl, hn2⟩ := OwnE.shape ho2
    have m1 : w2.cell? ⟨w1.heap.size, 0, none⟩ = some (.slice A' n' cap') := hv2.cell 0
    have m2 : w2.frozen? ⟨w1.heap.size, 0, none⟩ = false := hv2.free 0
    have hrow : ∀ (j : Nat) (o : Obj), (Value.slice A' n' cap').ownBlock = some j → Wn.heap[j]? = some o → o.isCells = true := by
      intro j o' hj hoj
      rcases hon.2 with ⟨e, _⟩ | ⟨g', cp', cur, e, _, hgg, _⟩
      · rw [e] at hj; cases hj
      · rw [e] at hj
        cases hj
        rw [hgg] at hoj
        cases hoj
        rfl
    have hKO2 := hKO.trans (KeepsOthers.of_grownBy hgx hrow)
    have hall := Lib.hid (And.intro hv2 (And.intro hc2 (And.intro ho2 (And.intro hb2 (And.intro hB (And.intro hK0 (And.intro hKn (And.intro hKO2 hBn))))))))
    clear hv2 hc2 ho2 hb2 hB hK0 hKn hKO2 hgx hrow hv ho hc kb hh hkn hKO hvn hcn hon
    gi_wp2
    obtain ⟨hv2, hc2, ho2, hb2, hB, hK0, hKn, hKO2, hBn⟩ := hall.out
    have hK2 : keepBs (headBs G.heap.size (G.heap.size + 1) (G.heap.size + 1 + 1) Br) W (w2.setCell ⟨w1.heap.size, 0, none⟩ (.slice A2 n2 cap2)) := fun b hb' => by
      rw [Below.heap_setCell _ _ _ _ (hne b hb'), hb2.block b (hlt b hb')]
      exact hKn b hb'
    refine ⟨(hKO2.trans (KeepsOthers.setCell _ _ _)).from _, hK2, ⟨.slice A2 n2 cap2, ?_, ?_⟩, ?_, ?_, hK0.trans hK2⟩
    · have := hv2.set 0 (.slice A2 n2 cap2)
      simpa using this
    · rw [List.map_append]
      exact ho2.far (by show w1.heap.size < WL.heap.size; omega) _
    · exact hc2.far (by show w.heap.size + 1 ≠ w1.heap.size; omega) _
    · exact ((hB.trans (hBn.mono hB.size)).trans (hb2.mono (by omega))).setCell (by show w.heap.size ≤ w1.heap.size; omega) _
  case done =>
    rintro D xs W hD hxs ⟨⟨v', hv, ho⟩, hc, hB, hK0⟩ hK
    have hmap : (xs.map fun y => stepC s y.1.2) = (rulesTo l x (ch s 0) l.length).map fun y => stepC s y.2 := by rw [← hxs, List.map_map]; rfl
    rw [hmap] at ho
    have m1 : W.cell? ⟨w1.heap.size, 0, none⟩ = some v' := hv.cell 0
    obtain ⟨A', n', cap', rfl, hn'⟩ := OwnE.shape ho
    have hh := Lib.hid (And.intro ho (And.intro hB hK))
    clear hv ho hc hB hK0 hK hxs hmap hn'
    go_wp2
    obtain ⟨ho, hB, hK⟩ := hh.out
    refine ⟨by simp, .inl ⟨_, _, rfl, run_takeDeferred hK, ?_⟩⟩
    refine ⟨.tuple #[.slice A' n' cap', .int .i64 0], by simp [results, Tryz.results32, go_sem], _, rfl, ?_, hB.trans (belowK_b (w := w) (Nat.le_refl _) W D _ _ (by omega) hK rfl rfl)⟩
    exact (ho.putObj _ hK rfl).lo_le (by omega)
end
end Go.Proofs.YtaapnflhjbdmlaaGreatDoor
