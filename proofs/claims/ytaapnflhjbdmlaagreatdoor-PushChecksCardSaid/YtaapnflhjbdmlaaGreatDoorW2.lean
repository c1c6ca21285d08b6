/- own, config, system, stack: data given to the program. No condition. -/
import Derived.Test.YtaapnflhjbdmlaaGreatDoorW1
namespace Go.Proofs.YtaapnflhjbdmlaaGreatDoor
open Go.RowKit

theorem info61 : (Tryz.prog.info? 76).map (fun i => (i.zero, i.size, i.bytes)) = some (some (.agg #[.int .i64 0, .int .u8 0, .int .i64 0, .string ⟨#[]⟩]), 4, 40) := by kernel_rfl
theorem info63 : (Tryz.prog.info? 79).map (fun i => (i.zero, i.size, i.bytes)) = some (some (.agg #[.int .i64 0, .int .u8 0, .int .i64 0, .string ⟨#[]⟩]), 4, 40) := by kernel_rfl

/-- the first letters of a string -/
def cutP (k : Nat) (s : ByteArray) : ByteArray := s.extract 0 (min s.size k)
theorem config_any (w : World) (c : Int) (s : ByteArray) (hs : s.size ≤ 9223372036854775807) :
    Calls Tryz.prog 21 #[cv ⟨c, s⟩] w fun e w' => e = .returned (cv ⟨c, cutP 21 s⟩) ∧ Below w.heap.size w w' := by
  go_enter Tryz.func21, Tryz.ntmps21
  go_wp2
  rw [show (min (s.size : Int) 21).toNat = min s.size 21 by omega]
  exact bodyPost_ret (v := cv ⟨c, cutP 21 s⟩) (by simp [results, Tryz.results21, go_sem, cutP]) rfl ⟨rfl, bthen (below1 _ _) (below1 _ _)⟩

theorem stack_any (w : World) (c : Int) (s : ByteArray) :
    Calls Tryz.prog 25 #[cv ⟨c, s⟩] w fun e w' => e = .returned (cv ⟨c, s⟩) ∧ Below w.heap.size w w' := by
  go_enter Tryz.func25, Tryz.ntmps25
  go_wp2
  exact bodyPost_ret (v := cv ⟨c, s⟩) (by simp [results, Tryz.results25, go_sem]) rfl ⟨rfl, bthen (below1 _ _) (below1 _ _)⟩

/-- a system in memory -/
abbrev sv (c : Int) (v : Value) : Value := .agg #[.int .i64 c, v]
def cutR (r : RuleB) : RuleB := { r with put := cutP 4 r.put }
def ownR (l : List RuleB) : List RuleB := (l.take 31).map cutR
theorem ownR_len (l : List RuleB) : (ownR l).length = min 31 l.length := by simp [ownR]

set_option maxHeartbeats 2000000 in
theorem own_any (w : World) (c : Int) (v : Value) (l : List RuleB) (h : Rls w v l) :
    Calls Tryz.prog 6 #[sv c v] w fun e w' => ∃ v', e = .returned (sv c v') ∧ OwnE ElR 76 w.heap.size w' v' (ownR l) ∧ Below w.heap.size w w' := by
  obtain ⟨A, n, cap, rfl, hn⟩ := h.shape
  obtain ⟨hn2, hcap, hmax⟩ := Els.len h
  unfold maxLen at hmax
  have hcell := Lib.hid (fun h0 => Rls.cells h h0)
  clear h hn2
  go_enter Tryz.func6, Tryz.ntmps6
  go_wp2
  go_loopw [4] (fun c4 wr => ∃ (i : Nat) (v' : Value), i ≤ n ∧ i ≤ 31 ∧ c4 = .int .i64 (i : Int) ∧ Hid (OwnE ElR 76 (w.heap.size + 3) wr v' (ownR (l.take i))) ∧ Hid (Blk wr w.heap.size 24 #[.int .i64 c, .slice A n cap]) ∧
      Hid (Blk wr (w.heap.size + 1) 24 #[.int .i64 0, .slice none 0 0]) ∧ Hid (Blk wr (w.heap.size + 1 + 1) 24 #[.int .i64 c, v']) ∧ Hid (Below w.heap.size w wr)) (fun c _ => n - (intOf c).toNat)
  case atStart =>
    have k1 := Blk.new w 24 #[.int .i64 c, .slice A n cap]
    have k2 := Blk.new (w.alloc (.cells #[.int .i64 c, .slice A n cap] 24)) 24 #[.int .i64 0, .slice none 0 0]
    have k3 := Blk.new ((w.alloc (.cells #[.int .i64 c, .slice A n cap] 24)).alloc (.cells #[.int .i64 0, .slice none 0 0] 24)) 24 #[.int .i64 c, .slice none 0 0]
    rw [alloc_size] at k2
    rw [alloc_size, alloc_size] at k3
    exact ⟨0, _, by omega, by omega, rfl, OwnE.nil _ _ _, (k1.alloc _).alloc _, k2.alloc _, k3, bthen (below1 _ _) (bthen (below1 _ _) (below1 _ _))⟩
  case round =>
    obtain ⟨i, v', hi, hi2, rfl, ho, h1, h2, h3, hB⟩ := hrel
    obtain ⟨A', n', cap', rfl, hn'⟩ := OwnE.shape ho.out
    by_cases hlt : i < n ∧ i < 31
    case neg =>
      have hb : (decide (i < n) && decide ((i : Int) ≤ 30)) = false := by simp; omega
      have ht : ownR (l.take i) = ownR l := by
        unfold ownR
        rw [List.take_take]
        by_cases h : i = n
        · have : l.length ≤ 31 := by have := hn.out; omega
          rw [List.take_of_length_le this, List.take_of_length_le (by have := hn.out; omega)]
        · have h31 : i = 31 := by omega
          rw [h31, Nat.min_self]
      rw [ht] at ho
      have c1 := h1.out.cell 1
      have c20 := h2.out.cell 0
      have c21 := h2.out.cell 1
      have f20 := h2.out.free 0
      have f21 := h2.out.free 1
      have c30 := h3.out.cell 0
      have c31 := h3.out.cell 1
      simp at c1 c20 c21 c30 c31
      have B2 := (h2.out.set 0 (.int .i64 c)).set 1 (.slice A' n' cap')
      have e0 := B2.cell 0
      have e1 := B2.cell 1
      simp at e0 e1
      have hO := Lib.hid (((ho.out.lo_le (lo' := w.heap.size + 2) (by omega)).far (p := ⟨w.heap.size + 1, 0, none⟩) (by simp) (.int .i64 c)).far (p := ⟨w.heap.size + 1, 1, none⟩) (by simp) (.slice A' n' cap'))
      have hW := Lib.hid ((hB.out.setCell (p := ⟨w.heap.size + 1, 0, none⟩) (by simp) (.int .i64 c)).setCell (p := ⟨w.heap.size + 1, 1, none⟩) (by simp) (.slice A' n' cap'))
      replace B2 := Lib.hid B2
      by_cases h1' : i < n
      · have h30 : ¬ ((i : Int) ≤ 30) := by omega
        go_wp2
        exact bodyPost_ret (v := sv c (.slice A' n' cap')) (by simp [results, Tryz.results6, go_sem, e0, e1]) rfl ⟨_, rfl, hO.out.lo_le (by omega), hW.out⟩
      · go_wp2
        exact bodyPost_ret (v := sv c (.slice A' n' cap')) (by simp [results, Tryz.results6, go_sem, e0, e1]) rfl ⟨_, rfl, hO.out.lo_le (by omega), hW.out⟩
    have hil : i < l.length := by have := hn.out; omega
    obtain ⟨b, off, rfl, hat⟩ := hcell.out (by omega)
    obtain ⟨d0, d1, d2, d3⟩ := hat i hil
    replace d0 := cell_below d0 hB.out
    replace d1 := cell_below d1 hB.out
    replace d2 := cell_below d2 hB.out
    replace d3 := cell_below d3 hB.out
    clear hat
    have ht : ownR (l.take (i + 1)) = ownR (l.take i) ++ [cutR l[i]] := by
      unfold ownR
      rw [List.take_take, List.take_take, Nat.min_eq_right (by omega), Nat.min_eq_right (by omega), List.take_succ_eq_append_getElem hil, List.map_append]
      rfl
    have ht := Lib.hid ht
    obtain ⟨r, hr⟩ : ∃ r, l[i] = r := ⟨_, rfl⟩
    rw [hr] at d0 d1 d2 d3 ht
    clear hr
    obtain ⟨f, t, o, p⟩ := r
    simp only at d0 d1 d2 d3
    have c1 := h1.out.cell 1
    have c31 := fun o => (h3.out.alloc o).cell 1
    simp at c1 c31
    have h30 : (i : Int) ≤ 30 := by omega
    have hin : i < n := hlt.1
    clear hlt
    have hcut := Lib.hid (show cutR ⟨f, t, o, p⟩ = ⟨f, t, o, p.extract 0 (min (p.size : Int) 4).toNat⟩ by unfold cutR cutP; rw [show (min (p.size : Int) 4).toNat = min p.size 4 by omega])
    obtain ⟨px, hpx⟩ : ∃ px, p.extract 0 (min (p.size : Int) 4).toNat = px := ⟨_, rfl⟩
    have hx := Lib.hid (bthen (below1 wr (.cells #[.int .i64 f, .int .u8 t, .int .i64 o, .string px] 76)) (below1 _ (.cells #[.int .i64 f, .int .u8 t, .int .i64 o, .string px] 76)))
    have hnew := Lib.hid (Blk.new (wr.alloc (.cells #[.int .i64 f, .int .u8 t, .int .i64 o, .string px] 76)) 76 #[.int .i64 f, .int .u8 t, .int .i64 o, .string px])
    rw [alloc_size] at hnew
    have hsz : w.heap.size + 3 ≤ wr.heap.size := by have := h3.out.lt; omega
    have hlo : w.heap.size + 3 ≤ ((wr.alloc (.cells #[.int .i64 f, .int .u8 t, .int .i64 o, .string px] 76)).alloc (.cells #[.int .i64 f, .int .u8 t, .int .i64 o, .string px] 76)).heap.size := by rw [alloc_size, alloc_size]; omega
    go_wp2_with (at_builtin; refine wpList_append_els (E := ElR) _ rfl (.tmp 36) (.tmp 38) 22 rfl (w.heap.size + 3) Tryz.underlying22 info61 rfl rfl (by decide) _ (ownR (l.take i)) rfl (ho.out.then hx.out) _ rfl [⟨f, t, o, px⟩] (els_one hnew.out rfl) (by rw [ownR_len]; simp; omega) hlo ?_; intro v2 w2 ho2 hb2 hgx hlx; clear hgx hlx; obtain ⟨A2, n2, cap2, rfl, hn2⟩ := OwnE.shape ho2; have B3 := Blk.below ((h3.out.alloc _).alloc _) hb2 (by omega); have B1 := Lib.hid (Blk.below ((h1.out.alloc _).alloc _) hb2 (by omega)); have B2 := Lib.hid (Blk.below ((h2.out.alloc _).alloc _) hb2 (by omega)); have cc := B3.cell 1; have ff := B3.free 1; simp at cc; replace B3 := Lib.hid B3; replace ho2 := Lib.hid ho2; replace hb2 := Lib.hid hb2)
    refine ⟨⟨i + 1, .slice A2 n2 cap2, by omega, by omega, by go_num, ?_, ?_, ?_, ?_, ?_⟩, by simp [intOf]; omega⟩
    · rw [ht.out, hcut.out, hpx]
      exact ho2.out.far (by show w.heap.size + 1 + 1 < w.heap.size + 3; omega) _
    · exact B1.out.far (by show w.heap.size ≠ w.heap.size + 1 + 1; omega) _
    · exact B2.out.far (by show w.heap.size + 1 ≠ w.heap.size + 1 + 1; omega) _
    · have := B3.out.set 1 (.slice A2 n2 cap2)
      simp at this
      exact this
    · exact ((bthen hB.out hx.out).trans (hb2.out.mono (by omega))).setCell (by show w.heap.size ≤ w.heap.size + 1 + 1; omega) _
set_option maxHeartbeats 2000000 in
theorem system_any (w : World) (c : Int) (v : Value) (l : List RuleB) (h : Rls w v l) (h31 : l.length ≤ 1000) :
    Calls Tryz.prog 12 #[sv c v] w fun e w' => ∃ v', e = .returned (sv c v') ∧ OwnE ElR 79 w.heap.size w' v' l ∧ Below w.heap.size w w' := by
  obtain ⟨A, n, cap, rfl, hn⟩ := h.shape
  obtain ⟨hn2, hcap, hmax⟩ := Els.len h
  unfold maxLen at hmax
  have hcell := Lib.hid (fun h0 => Rls.cells h h0)
  clear h hn2
  go_enter Tryz.func12, Tryz.ntmps12
  go_wp2
  go_loopw [4] (fun c4 wr => ∃ (i : Nat) (v' : Value), i ≤ n ∧ c4 = .int .i64 (i : Int) ∧ Hid (OwnE ElR 79 (w.heap.size + 3) wr v' (l.take i)) ∧ Hid (Blk wr w.heap.size 24 #[.int .i64 c, .slice A n cap]) ∧
      Hid (Blk wr (w.heap.size + 1) 40 #[.int .i64 0, .slice none 0 0]) ∧ Hid (Blk wr (w.heap.size + 1 + 1) 40 #[.int .i64 c, v']) ∧ Hid (Below w.heap.size w wr)) (fun c _ => n - (intOf c).toNat)
  case atStart =>
    have k1 := Blk.new w 24 #[.int .i64 c, .slice A n cap]
    have k2 := Blk.new (w.alloc (.cells #[.int .i64 c, .slice A n cap] 24)) 40 #[.int .i64 0, .slice none 0 0]
    have k3 := Blk.new ((w.alloc (.cells #[.int .i64 c, .slice A n cap] 24)).alloc (.cells #[.int .i64 0, .slice none 0 0] 40)) 40 #[.int .i64 c, .slice none 0 0]
    rw [alloc_size] at k2
    rw [alloc_size, alloc_size] at k3
    exact ⟨0, _, by omega, rfl, OwnE.nil _ _ _, (k1.alloc _).alloc _, k2.alloc _, k3, bthen (below1 _ _) (bthen (below1 _ _) (below1 _ _))⟩
  case round =>
    obtain ⟨i, v', hi, rfl, ho, h1, h2, h3, hB⟩ := hrel
    obtain ⟨A', n', cap', rfl, hn'⟩ := OwnE.shape ho.out
    by_cases hlt : i < n
    case neg =>
      have ht : l.take i = l := List.take_of_length_le (by have := hn.out; omega)
      rw [ht] at ho
      have c1 := h1.out.cell 1
      have c20 := h2.out.cell 0
      have c21 := h2.out.cell 1
      have f20 := h2.out.free 0
      have f21 := h2.out.free 1
      have c30 := h3.out.cell 0
      have c31 := h3.out.cell 1
      simp at c1 c20 c21 c30 c31
      have B2 := (h2.out.set 0 (.int .i64 c)).set 1 (.slice A' n' cap')
      have e0 := B2.cell 0
      have e1 := B2.cell 1
      simp at e0 e1
      have hO := Lib.hid (((ho.out.lo_le (lo' := w.heap.size + 2) (by omega)).far (p := ⟨w.heap.size + 1, 0, none⟩) (by simp) (.int .i64 c)).far (p := ⟨w.heap.size + 1, 1, none⟩) (by simp) (.slice A' n' cap'))
      have hW := Lib.hid ((hB.out.setCell (p := ⟨w.heap.size + 1, 0, none⟩) (by simp) (.int .i64 c)).setCell (p := ⟨w.heap.size + 1, 1, none⟩) (by simp) (.slice A' n' cap'))
      replace B2 := Lib.hid B2
      go_wp2
      exact bodyPost_ret (v := sv c (.slice A' n' cap')) (by simp [results, Tryz.results12, go_sem, e0, e1]) rfl ⟨_, rfl, hO.out.lo_le (by omega), hW.out⟩
    have hil : i < l.length := by have := hn.out; omega
    obtain ⟨b, off, rfl, hat⟩ := hcell.out (by omega)
    obtain ⟨d0, d1, d2, d3⟩ := hat i hil
    replace d0 := cell_below d0 hB.out
    replace d1 := cell_below d1 hB.out
    replace d2 := cell_below d2 hB.out
    replace d3 := cell_below d3 hB.out
    clear hat
    have ht : l.take (i + 1) = l.take i ++ [l[i]] := List.take_succ_eq_append_getElem hil
    have ht := Lib.hid ht
    obtain ⟨r, hr⟩ : ∃ r, l[i] = r := ⟨_, rfl⟩
    rw [hr] at d0 d1 d2 d3 ht
    clear hr
    obtain ⟨f, t, o, p⟩ := r
    simp only at d0 d1 d2 d3
    have c1 := h1.out.cell 1
    have c31 := fun o => (h3.out.alloc o).cell 1
    simp at c1 c31
    have hx := Lib.hid (bthen (below1 wr (.cells #[.int .i64 f, .int .u8 t, .int .i64 o, .string p] 76)) (below1 _ (.cells #[.int .i64 f, .int .u8 t, .int .i64 o, .string p] 79)))
    have hnew := Lib.hid (Blk.new (wr.alloc (.cells #[.int .i64 f, .int .u8 t, .int .i64 o, .string p] 76)) 79 #[.int .i64 f, .int .u8 t, .int .i64 o, .string p])
    rw [alloc_size] at hnew
    have hsz : w.heap.size + 3 ≤ wr.heap.size := by have := h3.out.lt; omega
    have hlo : w.heap.size + 3 ≤ ((wr.alloc (.cells #[.int .i64 f, .int .u8 t, .int .i64 o, .string p] 76)).alloc (.cells #[.int .i64 f, .int .u8 t, .int .i64 o, .string p] 79)).heap.size := by rw [alloc_size, alloc_size]; omega
    go_wp2_with (at_builtin; refine wpList_append_els (E := ElR) _ rfl (.tmp 24) (.tmp 34) 38 rfl (w.heap.size + 3) Tryz.underlying38 info63 rfl rfl (by decide) _ (l.take i) rfl (ho.out.then hx.out) _ rfl [⟨f, t, o, p⟩] (els_one hnew.out rfl) (by simp; omega) hlo ?_; intro v2 w2 ho2 hb2 hgx hlx; clear hgx hlx; obtain ⟨A2, n2, cap2, rfl, hn2⟩ := OwnE.shape ho2; have B3 := Blk.below ((h3.out.alloc _).alloc _) hb2 (by omega); have B1 := Lib.hid (Blk.below ((h1.out.alloc _).alloc _) hb2 (by omega)); have B2 := Lib.hid (Blk.below ((h2.out.alloc _).alloc _) hb2 (by omega)); have cc := B3.cell 1; have ff := B3.free 1; simp at cc; replace B3 := Lib.hid B3; replace ho2 := Lib.hid ho2; replace hb2 := Lib.hid hb2)
    refine ⟨⟨i + 1, .slice A2 n2 cap2, by omega, by go_num, ?_, ?_, ?_, ?_, ?_⟩, by simp [intOf]; omega⟩
    · rw [ht.out]
      exact ho2.out.far (by show w.heap.size + 1 + 1 < w.heap.size + 3; omega) _
    · exact B1.out.far (by show w.heap.size ≠ w.heap.size + 1 + 1; omega) _
    · exact B2.out.far (by show w.heap.size + 1 ≠ w.heap.size + 1 + 1; omega) _
    · have := B3.out.set 1 (.slice A2 n2 cap2)
      simp at this
      exact this
    · exact ((bthen hB.out hx.out).trans (hb2.out.mono (by omega))).setCell (by show w.heap.size ≤ w.heap.size + 1 + 1; omega) _
end Go.Proofs.YtaapnflhjbdmlaaGreatDoor
