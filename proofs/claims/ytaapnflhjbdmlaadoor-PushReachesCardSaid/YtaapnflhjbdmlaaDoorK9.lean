/- R.Next. No condition. -/
import Derived.Test.YtaapnflhjbdmlaaDoorKA
namespace Go.Proofs.YtaapnflhjbdmlaaDoor
open Go.RowKit Go.Shelf
attribute [local go_sem] Oper.semAt_some

theorem info26 : (Tryd.prog.info? 26).map (fun i => (i.zero, i.size, i.bytes)) = some (some (.agg #[.int .i64 0, .string ⟨#[]⟩]), 2, 24) := by kernel_rfl
/-- what the specification's Next has found among the first rules -/
def nextR (l : List RuleB) (c : ConfB) (k : Nat) : List ConfB := ((List.range k).filter (fun (i : Nat) => mayB l c (i : Int))).map fun i => stepC c.st (rAt l i)
theorem nextR_succ (l : List RuleB) (c : ConfB) (k : Nat) : nextR l c (k + 1) = if mayB l c (k : Int) = true then nextR l c k ++ [stepC c.st (rAt l k)] else nextR l c k := by
  unfold nextR
  rw [List.range_succ, List.filter_append, List.map_append]
  by_cases h : mayB l c (k : Int) = true <;> simp [h]
theorem nextR_len (l : List RuleB) (c : ConfB) (k : Nat) : (nextR l c k).length ≤ k := by
  unfold nextR
  rw [List.length_map]
  exact Nat.le_trans (List.length_filter_le _ _) (by simp)
theorem nextR_eq (l : List RuleB) (c : ConfB) : nextR l c l.length = nextL l c := by
  unfold nextR nextL
  by_cases h : c.st.size = 0
  · rw [if_pos h]
    have : (List.range l.length).filter (fun (i : Nat) => mayB l c (i : Int)) = [] := by
      rw [List.filter_eq_nil_iff]
      intro i _
      unfold mayB
      simp [h]
    rw [this]; rfl
  · rw [if_neg h]
    unfold rulesTo
    rw [List.map_map]
    have : (List.range l.length).filter (fun (i : Nat) => mayB l c (i : Int)) = (List.range l.length).filter (isHead l c.ctl (ch c.st 0)) := by
      apply List.filter_congr
      intro i hi
      have hi' : i < l.length := by simpa using hi
      unfold mayB isHead
      have h0 : 0 < c.st.size := by omega
      simp [hi', h0]
    rw [this]
    rfl

set_option maxRecDepth 8000 in
set_option maxHeartbeats 2000000 in
theorem NextR_any (w : World) (C x : Int) (v : Value) (l : List RuleB) (s : ByteArray) (h : Rls w v l) (hput : ∀ r ∈ l, r.put.size ≤ 2) (hss : s.size ≤ 2000) (hl : l.length ≤ 1000) :
    Calls Tryd.prog 17 #[sv C v, cv ⟨x, s⟩] w fun e w' => ∃ v', e = .returned v' ∧ OwnE ElC 26 w.heap.size w' v' (nextL l ⟨x, s⟩) ∧ Below w.heap.size w w' := by
  rw [← nextR_eq]
  obtain ⟨A, n, cap, rfl, hn⟩ := Els.shape h
  obtain ⟨W, hW⟩ : ∃ W, (w.alloc (.cells #[.int .i64 C, .slice A n cap] 24)).alloc (.cells #[.int .i64 x, .string s] 26) = W := ⟨_, rfl⟩
  have hBW : Below w.heap.size w W := by rw [← hW]; exact bthen (below1 _ _) (below1 _ _)
  have kS : Blk W w.heap.size 24 #[.int .i64 C, .slice A n cap] := by rw [← hW]; exact (Blk.new w 24 _).alloc _
  have kc : Blk W (w.heap.size + 1) 26 #[.int .i64 x, .string s] := by rw [← hW]; have := Blk.new (w.alloc (.cells #[.int .i64 C, .slice A n cap] 24)) 26 #[.int .i64 x, .string s]; rw [alloc_size] at this; exact this
  have c0 : W.cell? ⟨w.heap.size, 0, none⟩ = some (.int .i64 C) := kS.cell 0
  have c1 : W.cell? ⟨w.heap.size, 1, none⟩ = some (.slice A n cap) := kS.cell 1
  have c2 : W.cell? ⟨w.heap.size + 1, 0, none⟩ = some (.int .i64 x) := kc.cell 0
  have c3 : W.cell? ⟨w.heap.size + 1, 1, none⟩ = some (.string s) := kc.cell 1
  have hnl : n ≤ 1000 := by have := hn.out; omega
  have hrW := Lib.hid (show Rls W (.slice A n cap) l from Els.then h hBW)
  replace hBW := Lib.hid hBW
  replace hput := Lib.hid hput
  have hzW : w.heap.size + 1 < W.heap.size := kc.lt
  clear h kS kc
  go_enter Tryd.func17, Tryd.ntmps17
  go_wp2
  go_loopw [5, 6] (fun c5 c6 wr => ∃ (k : Nat), k ≤ n ∧ c6 = .int .i64 (k : Int) ∧ Hid (OwnE ElC 26 W.heap.size wr c5 (nextR l ⟨x, s⟩ k)) ∧ Hid (Below W.heap.size W wr)) (fun _ c _ => n - (intOf c).toNat)
  case atStart => exact ⟨0, Nat.zero_le _, rfl, OwnE.nil _ _ _, Below.refl _ _⟩
  case round =>
    rename_i c5 c6 hd0
    obtain ⟨k, hk, rfl, ho, hBr⟩ := hrel
    obtain ⟨A5, n5, cap5, rfl, hn5⟩ := OwnE.shape ho.out
    replace c0 := cell_below c0 hBr.out
    replace c1 := cell_below c1 hBr.out
    replace c2 := cell_below c2 hBr.out
    replace c3 := cell_below c3 hBr.out
    by_cases hlt : k < n
    case neg =>
      obtain rfl : k = n := by omega
      go_wp2
      go_ret
      refine ⟨_, rfl, ?_, hBW.out.trans (hBr.out.mono hBW.out.size)⟩
      have := ho.out
      rw [hn.out] at this
      exact this.lo_le hBW.out.size
    have hcall := Lib.hid (Step_any wr C x k _ l s (hrW.out.then hBr.out) hput.out (by omega))
    have hlen := nextR_len l ⟨x, s⟩ k
    have hsucc := nextR_succ l ⟨x, s⟩ k
    unfold stepD at hcall
    rw [Int.toNat_natCast] at hcall
    cases hm : mayB l ⟨x, s⟩ (k : Int) with
    | false =>
      rw [hm] at hcall hsucc
      rw [if_neg (by decide)] at hsucc
      replace hsucc := Lib.hid hsucc
      replace hm := Lib.hid hm
      simp only [Bool.false_eq_true, if_false] at hcall
      go_wp2_with (go_at_call 24; refine hcall.out.mono ?_; rintro e w1 ⟨rfl, hb⟩; replace hb := Lib.hid hb)
      go_roundw
      case rel => exact ⟨k + 1, by omega, by go_num, by show OwnE _ _ _ _ _ _; rw [hsucc.out]; exact (ho.out.then hb.out).then (below1 _ _), hBr.out.trans ((bthen hb.out (below1 _ _)).mono hBr.out.size)⟩
      case measure => simp [intOf]; omega
    | true =>
      rw [hm] at hcall hsucc
      rw [if_pos rfl] at hsucc
      replace hsucc := Lib.hid hsucc
      replace hm := Lib.hid hm
      simp only [if_true] at hcall
      generalize stepC s (rAt l k) = d at *
      obtain ⟨dx, ds⟩ := d
      have hWz := hBr.out.size
      go_wp2_with (first
        | (go_at_call 24; refine hcall.out.mono ?_; rintro e w1 ⟨rfl, hb⟩; replace hb := Lib.hid hb)
        | (at_builtin; refine wpList_append_els (E := ElC) _ rfl (.tmp 24) (.tmp 26) 44 rfl W.heap.size Tryd.underlying44 info26 rfl rfl (by decide) _ (nextR l ⟨x, s⟩ k) rfl (((ho.out.then hb.out).then (below1 _ _)).then (below1 _ _)) _ rfl [⟨dx, ds⟩] ?_ ?_ ?_ ?_))
      · have := els_one (E := ElC) (x := (⟨dx, ds⟩ : ConfB)) (Blk.new (w1.alloc (.cells #[.int .i64 dx, .string ds] 26)) 26 #[.int .i64 dx, .string ds]) rfl
        rw [alloc_size] at this
        exact this
      · simp; omega
      · have := hb.out.size
        simp; omega
      intro v2 w2 ho2 hb2 _ _
      obtain ⟨A2, n2, cap2, rfl, _⟩ := OwnE.shape ho2
      have ho2 := Lib.hid ho2
      have hb2 := Lib.hid hb2
      (try go_frame)
      go_wp2
      go_roundw
      case rel => exact ⟨k + 1, by omega, by go_num, by show OwnE _ _ _ _ _ _; rw [hsucc.out]; exact ho2.out, hBr.out.trans (((bthen hb.out (bthen (below1 _ _) (below1 _ _))).mono hBr.out.size).trans hb2.out)⟩
      case measure => simp [intOf]; omega
end Go.Proofs.YtaapnflhjbdmlaaDoor
