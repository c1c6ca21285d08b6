/- just: the moves of one configuration. No condition. slices.Clone of moves. No condition. -/
import Derived.Test.YtaapnflhjbdmlaaGreatDoorM4
import Derived.Lib.SliceRun
namespace Go.Proofs.YtaapnflhjbdmlaaGreatDoor
section
open Go.RowKit Go.Shelf
attribute [local go_sem] Oper.semAt_some

/-- the move at letter i -/
def jmove (C p0 : Int) (s : ByteArray) (i : Nat) : Key := (if i = 0 then p0 else C + i - 1, ch s i, C + i)
theorem cput_len (L : List (Key × Cost)) (k : Key) (c : Cost) : (cput L k c).length ≤ L.length + 1 := by
  unfold cput
  split <;> simp
theorem cs_at {s : ByteArray} {i : Nat} (h : i < s.size) : (cs s)[i]? = some (ch s i) := by
  unfold ch
  have : i < (cs s).length := by rw [cs_length]; exact h
  rw [List.getElem?_eq_getElem this]
  simp [List.getD, this]
theorem just_iff {C p0 : Int} {s : ByteArray} {k : Key} : (∃ i, i < s.size ∧ k = jmove C p0 s i) ↔ Just C p0 (cs s) k.1 k.2.1 k.2.2 := by
  obtain ⟨a, b, c⟩ := k
  unfold Just jmove
  constructor
  · rintro ⟨i, hi, e⟩
    simp only [Prod.mk.injEq] at e
    obtain ⟨rfl, rfl, rfl⟩ := e
    exact ⟨i, cs_at hi, rfl, rfl⟩
  · rintro ⟨i, h1, h2, h3⟩
    have hi : i < s.size := by
      have := (List.getElem?_eq_some_iff.1 h1).1
      rwa [cs_length] at this
    rw [cs_at hi] at h1
    dsimp only at h1 h2 h3
    exact ⟨i, hi, by rw [h2, h3, Option.some.inj h1]⟩
def JustOk (C p0 : Int) (s : ByteArray) (i : Nat) (L : List (Key × Cost)) : Prop := L.length ≤ i ∧ ∀ k c, cget L k = some c ↔ c = ⟨0, -1, 0⟩ ∧ ∃ j, j < i ∧ k = jmove C p0 s j
theorem JustOk.zero (C p0 : Int) (s : ByteArray) : JustOk C p0 s 0 [] := ⟨by simp, fun k c => by simp [cget]⟩
theorem JustOk.succ {C p0 : Int} {s : ByteArray} {i : Nat} {L : List (Key × Cost)} (h : JustOk C p0 s i L) : JustOk C p0 s (i + 1) (cput L (jmove C p0 s i) ⟨0, -1, 0⟩) := by
  refine ⟨Nat.le_trans (cput_len _ _ _) (by have := h.1; omega), fun k c => ?_⟩
  rw [cget_cput]
  by_cases e : k = jmove C p0 s i
  · rw [if_pos e]
    constructor
    · intro h2; exact ⟨(Option.some.inj h2).symm, i, by omega, e⟩
    · rintro ⟨h2, _⟩; rw [h2]
  · rw [if_neg e, h.2]
    constructor
    · rintro ⟨h2, j, h3, h4⟩; exact ⟨h2, j, by omega, h4⟩
    · rintro ⟨h2, j, h3, h4⟩
      refine ⟨h2, j, ?_, h4⟩
      by_cases ej : j = i
      · subst ej; exact absurd h4 e
      · omega
theorem JustOk.inv {C p0 : Int} {s : ByteArray} {L : List (Key × Cost)} {R : List Rule} (h : JustOk C p0 s s.size L) : Inv R (Just C p0 (cs s)) (cget L) := by
  have hf : (0 : Int) ≤ far := by decide
  refine ⟨fun k c hk => ?_, fun k c hk => ?_, fun k c hk => ?_, fun p a q hb => ?_⟩
  · obtain ⟨rfl, _⟩ := (h.2 k c).1 hk; exact ⟨Int.le_refl _, hf⟩
  · obtain ⟨rfl, h2⟩ := (h.2 k c).1 hk
    exact ⟨[], .base (just_iff.1 h2), .inl (by simp)⟩
  · obtain ⟨rfl, h2⟩ := (h.2 k c).1 hk
    exact .inl ⟨rfl, just_iff.1 h2, rfl⟩
  · exact ⟨⟨0, -1, 0⟩, (h.2 _ _).2 ⟨rfl, just_iff.2 hb⟩, rfl⟩

theorem makeMap70 (w : World) : (Instr.makeMap 81 none).run Tryz.prog w = .ok (.map (some w.heap.size)) (w.alloc (.map #[] 0)) := by kernel_rfl

set_option maxHeartbeats 2000000 in
theorem just_any (w : World) (C p0 : Int) (s : ByteArray) (A : Option Addr) (n cap : Nat) (hC : 0 ≤ C ∧ C ≤ 5) (hs : s.size ≤ 1000) :
    Calls Tryz.prog 72 #[sv C (.slice A n cap), cv ⟨p0, s⟩] w fun e w' => ∃ b L, e = .returned (.tuple #[.map (some b), .int .i64 (lastS C p0 (cs s))]) ∧ w.heap.size ≤ b ∧ MMap w' b L ∧ JustOk C p0 s s.size L ∧ Below w.heap.size w w' := by
  obtain ⟨W, hW⟩ : ∃ W, ((w.alloc (.cells #[.int .i64 C, .slice A n cap] 40)).alloc (.cells #[.int .i64 p0, .string s] 60)).alloc (.map #[] 0) = W := ⟨_, rfl⟩
  have hBW : Below w.heap.size w W := by rw [← hW]; exact bthen (below1 _ _) (bthen (below1 _ _) (below1 _ _))
  have kS : Blk W w.heap.size 40 #[.int .i64 C, .slice A n cap] := by rw [← hW]; exact ((Blk.new w 40 _).alloc _).alloc _
  have kc : Blk W (w.heap.size + 1) 60 #[.int .i64 p0, .string s] := by rw [← hW]; have := Blk.new (w.alloc (.cells #[.int .i64 C, .slice A n cap] 40)) 60 #[.int .i64 p0, .string s]; rw [alloc_size] at this; exact this.alloc _
  have hA : MMap W (w.heap.size + 1 + 1) [] := by
    rw [← hW]
    have := AMap.made mv ((w.alloc (.cells #[.int .i64 C, .slice A n cap] 40)).alloc (.cells #[.int .i64 p0, .string s] 60))
    rw [alloc_size, alloc_size] at this
    exact this
  have hmk : (Instr.makeMap 81 none).run Tryz.prog ((w.alloc (.cells #[.int .i64 C, .slice A n cap] 40)).alloc (.cells #[.int .i64 p0, .string s] 60)) = .ok (.map (some (w.heap.size + 1 + 1))) W := by
    rw [← hW, makeMap70, alloc_size, alloc_size]
  have c0 : W.cell? ⟨w.heap.size + 1, 0, none⟩ = some (.int .i64 p0) := kc.cell 0
  have c1 : W.cell? ⟨w.heap.size + 1, 1, none⟩ = some (.string s) := kc.cell 1
  replace kS := Lib.hid kS
  replace kc := Lib.hid kc
  replace hA := Lib.hid hA
  replace hBW := Lib.hid hBW
  clear hW
  go_enter Tryz.func72, Tryz.ntmps72
  go_wp2
  go_loopw [7, 16] (fun c7 c16 wr => ∃ (i : Nat) (L : List (Key × Cost)), i ≤ s.size ∧ c7 = .int .i64 (if i = 0 then p0 else C + i - 1) ∧ c16 = .int .i64 (i : Int) ∧ Hid (MMap wr (w.heap.size + 1 + 1) L) ∧ Hid (JustOk C p0 s i L) ∧
    Hid (Blk wr w.heap.size 40 #[.int .i64 C, .slice A n cap]) ∧ Hid (Blk wr (w.heap.size + 1) 60 #[.int .i64 p0, .string s]) ∧ Hid (Below w.heap.size w wr)) (fun _ c _ => s.size - (intOf c).toNat)
  case atStart => exact ⟨0, [], Nat.zero_le _, rfl, rfl, hA, JustOk.zero _ _ _, kS, kc, hBW⟩
  case round =>
    obtain ⟨i, L, hi, rfl, rfl, hm, hj, k1, k2, hB⟩ := hrel
    have d0 : wr.cell? ⟨w.heap.size, 0, none⟩ = some (.int .i64 C) := k1.out.cell 0
    have d1 : wr.cell? ⟨w.heap.size + 1, 1, none⟩ = some (.string s) := k2.out.cell 1
    obtain ⟨q, hq⟩ : ∃ q, (if i = 0 then p0 else C + i - 1) = q := ⟨_, rfl⟩
    have hkey := Lib.hid (show jmove C p0 s i = (q, ch s i, C + i) by unfold jmove; rw [hq])
    rw [hq]
    by_cases hlt : i < s.size
    case neg =>
      obtain rfl : i = s.size := by omega
      have hlast := Lib.hid (show q = lastS C p0 (cs s) by unfold lastS; rw [cs_length, ← hq])
      clear hq
      go_wp2
      refine bodyPost_ret (v := .tuple #[.map (some (w.heap.size + 1 + 1)), .int .i64 q]) (by simp [results, Tryz.results72, go_sem]) rfl ⟨_, L, by rw [hlast.out], by omega, hm.out, hj.out, hB.out⟩
    have hch := (ch_eq hlt).symm
    clear hq
    go_wp2_with (at_mapUpdate; refine wpList_mapUpdate_a _ rfl (.tmp 23) (.tmp 31) (.tmp 32) 81 rfl 104 106 key94 Tryz.underlying81 rfl hm.out (q, ch s i, C + i) rfl (costV ⟨0, -1, 0⟩) rfl ?_; intro w2 hA2 hg2 hs2; have hA2 := Lib.hid hA2; have hg2 := Lib.hid hg2; clear hs2)
    have hz := hm.out.lt
    refine ⟨⟨i + 1, cput L (jmove C p0 s i) ⟨0, -1, 0⟩, by omega, ?_, by go_num, ?_, hj.out.succ, ?_, ?_, ?_⟩, ?_⟩
    · rw [if_neg (by omega)]; go_num
    · show MMap w2 _ _
      unfold MMap
      rw [← aput_cval, hkey.out]
      exact hA2.out
    · exact (hg2.out.block _ (by have := k1.out.lt; omega) (by simp; omega)).trans k1.out
    · exact (hg2.out.block _ (by have := k2.out.lt; omega) (by simp)).trans k2.out
    · exact hB.out.trans (below_of_grown hg2.out hB.out.size (by intro k e; cases e; omega))
    · simp [intOf]; omega
end
section
open Go.RowKit Go.Shelf
attribute [local go_sem] Oper.semAt_some

/-- a move in memory -/
def ElK : El Key := ⟨3, fun k => [.int .i64 k.1, .int .u8 k.2.1, .int .i64 k.2.2], fun _ => rfl, fun x u hu => by
  simp only [List.mem_cons, List.mem_nil_iff, or_false] at hu
  rcases hu with rfl | rfl | rfl <;> rfl, by decide⟩
theorem info94 : (Tryz.prog.info? 104).map (fun i => (i.zero, i.size, i.bytes)) = some (some (.agg #[.int .i64 0, .int .u8 0, .int .i64 0]), 3, 24) := by kernel_rfl
theorem ownE_empty {α : Type} {E : El α} (w : World) (e : Nat) : OwnE E e w.heap.size (w.alloc (.cells #[] e)) (.slice (some ⟨w.heap.size, 0, none⟩) 0 0) [] :=
  ⟨by simp [flatE], .inr ⟨w.heap.size, 0, #[], rfl, Nat.le_refl _, heap_alloc_new w _, Nat.le_refl _, Nat.zero_le _, by simp, by simp [flatE]⟩⟩

set_option maxHeartbeats 400000 in
theorem cloneK_any (w : World) (v : Value) (xs : List Key) (h : Els ElK w v xs) (hl : xs.length ≤ 1000) :
    Calls Tryz.prog 73 #[v] w fun e w' => ∃ v', e = .returned v' ∧ OwnE ElK 104 w.heap.size w' v' xs ∧ Below w.heap.size w w' := by
  have hh : Hid (Els ElK w v xs) := h
  obtain ⟨A, n, cap, rfl, hn⟩ := Els.shape h
  have he := fun W => Lib.run_eql_slice_nil (P := Tryz.prog) W 94 104 A n cap 0 0 Tryz.underlying94
  clear h
  cases A with
  | none =>
    go_enter Tryz.func73, Tryz.ntmps73
    have e0 : xs = [] := by
      obtain ⟨A, cap, e, h1, _, h3, _⟩ := hh.out
      have hn0 : A = none := by injection e with e _ _; exact e.symm
      rw [h3 hn0] at h1
      exact List.length_eq_zero_iff.1 (by omega)
    subst e0
    go_wp2_with fail
    go_ret
    exact ⟨_, rfl, OwnE.nil _ _ _, Below.refl _ _⟩
  | some p =>
    go_enter Tryz.func73, Tryz.ntmps73
    have hB : Hid (Below w.heap.size w (w.alloc (.cells #[] 104))) := below1 _ _
    have hS : Hid (Els ElK (w.alloc (.cells #[] 104)) (.slice (some p) n cap) xs) := Els.then hh.out hB.out
    go_wp2_with (at_builtin; refine wpList_append_els (E := ElK) _ rfl (.tmp 5) (.tmp 6) 94 rfl w.heap.size Tryz.underlying94 info94 rfl rfl (by decide) _ [] rfl (ownE_empty w 104) _ rfl xs hS.out (by simp; omega) hB.out.size ?_; intro v' w' h1 h2 _ _)
    go_ret
    exact ⟨_, rfl, h1, hB.out.trans h2⟩
end
end Go.Proofs.YtaapnflhjbdmlaaGreatDoor
