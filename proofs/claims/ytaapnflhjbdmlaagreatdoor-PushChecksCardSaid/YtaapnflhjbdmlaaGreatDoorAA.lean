/- awake: what its calls answer, in plain words. No condition. awake: the walk. No condition. -/
import Derived.Test.YtaapnflhjbdmlaaGreatDoorK15
namespace Go.Proofs.YtaapnflhjbdmlaaGreatDoor
section
open Go.RowKit Go.Shelf

def lA : List RuleB := [⟨0, 97, 0, ⟨#[98, 98]⟩⟩, ⟨0, 98, 0, ⟨#[]⟩⟩]
def lG : List RuleB := [⟨0, 97, 0, ⟨#[97, 97]⟩⟩]
def sA : ByteArray := ⟨#[97]⟩
def sB : ByteArray := ⟨#[98]⟩
theorem csA : cs sA = [97] := rfl
theorem csB : cs sB = [98] := rfl
theorem sysA : sysB 1 lA = true := by decide +kernel
theorem sysG : sysB 1 lG = true := by decide +kernel
theorem allA : allE 1 lA [⟨0, sA⟩, ⟨0, sB⟩] = 0 := by decide +kernel
theorem allA' : allE 1 lA [⟨0, sB⟩, ⟨0, sA⟩] = 0 := by decide +kernel
theorem allA1 : allE 1 lA [⟨0, sA⟩] = 0 := by decide +kernel
theorem allG : allE 1 lG [⟨0, sA⟩] = 0 := by decide +kernel
theorem allG' : allE 1 lG [⟨0, sB⟩] = 0 := by decide +kernel
theorem plainA : lA.map RuleB.plain = [⟨0, 97, 0, [98, 98]⟩, ⟨0, 98, 0, []⟩] := rfl
theorem plainG : lG.map RuleB.plain = [⟨0, 97, 0, [97, 97]⟩] := rfl
theorem getA {i : Nat} {r : Rule} (h : (lA.map RuleB.plain)[i]? = some r) : (i = 0 ∧ r = ⟨0, 97, 0, [98, 98]⟩) ∨ (i = 1 ∧ r = ⟨0, 98, 0, []⟩) := by
  rw [plainA] at h
  match i, h with
  | 0, h => exact .inl ⟨rfl, (Option.some.inj h).symm⟩
  | 1, h => exact .inr ⟨rfl, (Option.some.inj h).symm⟩
  | n + 2, h => cases h
theorem stepsA_nil {p : Int} {rs : List Nat} {q : Int} {u : List Int} (h : Steps (lA.map RuleB.plain) p [] rs q u) : rs = [] ∧ u = [] := by
  generalize ex : ([] : List Int) = x at h
  cases h with
  | refl => exact ⟨rfl, rfl⟩
  | step hr h2 => cases ex
theorem stepsA_inv {p : Int} {a : Int} {w : List Int} {rs : List Nat} {q : Int} {u : List Int} (h : Steps (lA.map RuleB.plain) p (a :: w) rs q u) : (rs = [] ∧ q = p ∧ u = a :: w) ∨ (a = 97 ∧ ∃ rs', rs = 0 :: rs' ∧ Steps (lA.map RuleB.plain) 0 (98 :: 98 :: w) rs' q u) ∨ (a = 98 ∧ ∃ rs', rs = 1 :: rs' ∧ Steps (lA.map RuleB.plain) 0 w rs' q u) := by
  generalize ex : a :: w = x at h
  cases h with
  | refl => subst ex; exact .inl ⟨rfl, rfl, rfl⟩
  | step hr h2 =>
    rcases getA hr with ⟨rfl, rfl⟩ | ⟨rfl, rfl⟩
    · obtain ⟨rfl, rfl⟩ := List.cons.inj ex
      exact .inr (.inl ⟨rfl, _, rfl, h2⟩)
    · obtain ⟨rfl, rfl⟩ := List.cons.inj ex
      exact .inr (.inr ⟨rfl, _, rfl, h2⟩)
theorem runA_unique {rs : List Nat} (h : Steps (lA.map RuleB.plain) 0 [97] rs 0 [98]) : rs = [0, 1] := by
  rcases stepsA_inv h with ⟨_, _, e⟩ | ⟨_, r1, rfl, h1⟩ | ⟨e, _⟩
  · cases e
  · rcases stepsA_inv h1 with ⟨_, _, e⟩ | ⟨e, _⟩ | ⟨_, r2, rfl, h2⟩
    · cases e
    · cases e
    · rcases stepsA_inv h2 with ⟨rfl, _, _⟩ | ⟨e, _⟩ | ⟨_, r3, rfl, h3⟩
      · rfl
      · cases e
      · cases (stepsA_nil h3).2
  · cases e
theorem runA : Steps (lA.map RuleB.plain) 0 (cs sA) [0, 1] 0 (cs sB) := by
  rw [csA, csB]
  exact Steps.step (r := ⟨0, 97, 0, [98, 98]⟩) (w := []) rfl (Steps.step (r := ⟨0, 98, 0, []⟩) (w := [98]) rfl (.refl _ _))
theorem runRes_A {lo : Nat} {e : Ending} {w' : World} (h : RunRes lA 0 sA 0 sB lo e w') : ∃ v', e = .returned (.tuple #[v', .bool true, .int .i64 0]) ∧ OwnE ElI 3 lo w' v' [0, 1] := by
  rcases h with ⟨h1, _⟩ | ⟨_, h1, _⟩ | ⟨rs, v', h1, _, h2, h3⟩
  · exact absurd ⟨_, runA⟩ h1
  · have := h1 _ runA
    simp at this
  · rw [csA, csB] at h1
    rw [runA_unique h1] at h3
    exact ⟨v', h2, h3⟩
theorem reachA : reachB lA 0 sB 0 sA = false := by
  cases h : reachB lA 0 sB 0 sA with
  | false => rfl
  | true =>
    obtain ⟨n, hn⟩ := reachB_iff.1 h
    rw [csA, csB] at hn
    rcases stepsA_inv hn with ⟨_, _, e⟩ | ⟨e, _⟩ | ⟨_, r3, rfl, h3⟩
    · cases e
    · cases e
    · cases (stepsA_nil h3).2
theorem endG : endlessB lG 0 sA = true := by
  unfold endlessB
  simp only [decide_eq_true_eq]
  rw [csA, plainG]
  refine ⟨(0, 97), (0, 97), ⟨[], 97, [], 0, rfl, popped_nil.2 rfl, rfl⟩, .refl _, (0, 97), ⟨0, _, rfl, rfl, rfl, .inl ⟨97, [97], rfl, rfl⟩⟩, .refl _⟩
theorem endG' : endlessB lG 0 sB = false := by
  unfold endlessB
  simp only [decide_eq_false_iff_not]
  rw [csB, plainG]
  rintro ⟨h0, h1, h2, h3, h4⟩
  have hf : ∀ h', ¬ Follows [⟨0, 97, 0, [97, 97]⟩] (0, 98) h' := by
    rintro h' ⟨i, r, hr, _, ht, _⟩
    match i, hr with
    | 0, hr => cases hr; cases ht
    | n + 1, hr => cases hr
  have e0 : h0 = (0, 98) := by
    rcases heads_cons.1 h2 with h | ⟨m, hp, hh⟩
    · exact h
    · exact absurd hh heads_nil
  subst e0
  cases h3 with
  | refl => obtain ⟨h', h5, _⟩ := h4; exact hf _ h5
  | step h5 _ => exact hf _ h5
theorem nextA : ((rulesTo lA 0 97 2).map fun y => stepC sA y.2) = [⟨0, ⟨#[98, 98]⟩⟩] := by
  have e : rulesTo lA 0 97 2 = [(0, ⟨0, 97, 0, ⟨#[98, 98]⟩⟩)] := rfl
  rw [e]
  rfl
theorem check0 : checkE 0 [] = 40 := by decide +kernel
end
section
open Go.RowKit Go.Shelf
attribute [local go_sem] Oper.semAt_some

theorem szA : ∀ r ∈ lA, r.put.size ≤ 9223372036854775807 := by
  intro r hr
  simp only [lA, List.mem_cons, List.not_mem_nil, or_false] at hr
  rcases hr with rfl | rfl <;> decide
theorem put2A : ∀ r ∈ lA, r.put.size ≤ 2 := by
  intro r hr
  simp only [lA, List.mem_cons, List.not_mem_nil, or_false] at hr
  rcases hr with rfl | rfl <;> decide
theorem szG : ∀ r ∈ lG, r.put.size ≤ 9223372036854775807 := by
  intro r hr
  simp only [lG, List.mem_cons, List.not_mem_nil, or_false] at hr
  subst hr
  decide
theorem reaches_A (w : World) (v : Value) (h : Rls w v lA) : Calls Tryz.prog 24 #[sv 1 v, cv ⟨0, ⟨#[98]⟩⟩, cv ⟨0, ⟨#[97]⟩⟩] w fun e w' => e = .returned (.tuple #[.bool false, .int .i64 0]) ∧ Below w.heap.size w w' := by
  have := Reaches_any w 1 0 0 v lA sB sA h szA (by decide) (by decide)
  rw [allA', reachA] at this
  rw [show (decide ((0 : Int) = 0) && false) = false from rfl] at this
  exact this
theorem endless_G (w : World) (v : Value) (h : Rls w v lG) : Calls Tryz.prog 33 #[sv 1 v, cv ⟨0, ⟨#[97]⟩⟩] w fun e w' => e = .returned (.tuple #[.bool true, .int .i64 0]) ∧ Below w.heap.size w w' := by
  have := Endless_ok w 1 0 v lG sA h szG (by decide) allG
  rwa [endG] at this
theorem endless_G' (w : World) (v : Value) (h : Rls w v lG) : Calls Tryz.prog 33 #[sv 1 v, cv ⟨0, ⟨#[98]⟩⟩] w fun e w' => e = .returned (.tuple #[.bool false, .int .i64 0]) ∧ Below w.heap.size w w' := by
  have := Endless_ok w 1 0 v lG sB h szG (by decide) allG'
  rwa [endG'] at this
theorem next_A (w : World) (v : Value) (h : Rls w v lA) : Calls Tryz.prog 32 #[sv 1 v, cv ⟨0, ⟨#[97]⟩⟩] w fun e w' => ∃ v', e = .returned (.tuple #[v', .int .i64 0]) ∧ OwnE ElC 60 w.heap.size w' v' [⟨0, ⟨#[98, 98]⟩⟩] ∧ Below w.heap.size w w' := by
  have := Next_ok w 1 0 v lA sA h szA (by decide) allA1 (by decide) put2A (by decide) (by decide)
  rw [show ch sA 0 = 97 from rfl, show lA.length = 2 from rfl, nextA] at this
  exact this
theorem check_0 (w : World) : Calls Tryz.prog 29 #[sv 0 (.slice none 0 0)] w fun e w' => e = .returned (.int .i64 40) ∧ Below w.heap.size w w' := by
  have := check_any w 0 (.slice none 0 0) [] (Els.nil _) (fun r h => by cases h)
  rwa [check0] at this

theorem awake_l {lo : Nat} {w : World} {v : Value} (h : OwnE ElI 3 lo w v [0, 1]) : ∃ b off c, v = .slice (some ⟨b, off, none⟩) 2 c ∧ w.cell? ⟨b, off, none⟩ = some (.int .i64 0) ∧ w.cell? ⟨b, off + 1, none⟩ = some (.int .i64 1) := by
  obtain ⟨A, n, c, rfl, hn⟩ := OwnE.shape h
  obtain rfl : n = 2 := hn.out
  obtain ⟨b, off, rfl, hl⟩ := Els.cell h.els (by decide)
  exact ⟨b, off, c, rfl, hl 0 (by decide) 0 _ rfl, hl 1 (by decide) 0 _ rfl⟩
theorem awake_n {lo : Nat} {w : World} {v : Value} (h : OwnE ElC 60 lo w v [⟨0, ⟨#[98, 98]⟩⟩]) : ∃ b off c, v = .slice (some ⟨b, off, none⟩) 1 c ∧ w.cell? ⟨b, off + 1, none⟩ = some (.string ⟨#[98, 98]⟩) := by
  obtain ⟨A, n, c, rfl, hn⟩ := OwnE.shape h
  obtain rfl : n = 1 := hn.out
  obtain ⟨b, off, rfl, hl⟩ := Els.cell h.els (by decide)
  exact ⟨b, off, c, rfl, hl 0 (by decide) 1 _ rfl⟩
theorem awake_mid (w : World) : ∃ W3, (w.alloc (.cells #[.int .i64 0, .int .u8 97, .int .i64 0, .string ⟨#[97, 97]⟩] 79)).alloc (.cells #[.int .i64 1, .slice (some ⟨w.heap.size, 0, none⟩) 1 1] 40) = W3 ∧ Below w.heap.size w W3 ∧ Rls W3 (.slice (some ⟨w.heap.size, 0, none⟩) 1 1) lG ∧
    W3.cell? ⟨w.heap.size + 1, 0, none⟩ = some (.int .i64 1) ∧ W3.cell? ⟨w.heap.size + 1, 1, none⟩ = some (.slice (some ⟨w.heap.size, 0, none⟩) 1 1) := by
  have k1 := (Blk.new w 79 #[.int .i64 0, .int .u8 97, .int .i64 0, .string ⟨#[97, 97]⟩]).alloc (.cells #[.int .i64 1, .slice (some ⟨w.heap.size, 0, none⟩) 1 1] 40)
  have k2 := Blk.new (w.alloc (.cells #[.int .i64 0, .int .u8 97, .int .i64 0, .string ⟨#[97, 97]⟩] 79)) 40 #[.int .i64 1, .slice (some ⟨w.heap.size, 0, none⟩) 1 1]
  rw [alloc_size] at k2
  exact ⟨_, rfl, bthen (below1 _ _) (below1 _ _), els_blk (E := ElR) k1 rfl rfl (by omega), k2.cell 0, k2.cell 1⟩

set_option maxRecDepth 8000 in
set_option maxHeartbeats 4000000 in
theorem awake_any (w : World) : Calls Tryz.prog 10 #[] w fun e w' => e = .returned (.bool true) ∧ Below w.heap.size w w' := by
  obtain ⟨W, hW⟩ : ∃ W, (((w.alloc (.cells #[.int .i64 0, .int .u8 97, .int .i64 0, .string ⟨#[98, 98]⟩, .int .i64 0, .int .u8 98, .int .i64 0, .string ⟨#[]⟩] 79)).alloc (.cells #[.int .i64 1, .slice (some ⟨w.heap.size, 0, none⟩) 2 2] 40)).alloc (.cells #[.int .i64 0, .string ⟨#[97]⟩] 60)).alloc (.cells #[.int .i64 0, .string ⟨#[98]⟩] 60) = W := ⟨_, rfl⟩
  have hBW : Below w.heap.size w W := by rw [← hW]; exact bthen (below1 _ _) (bthen (below1 _ _) (bthen (below1 _ _) (below1 _ _)))
  have kA : Blk W w.heap.size 79 #[.int .i64 0, .int .u8 97, .int .i64 0, .string ⟨#[98, 98]⟩, .int .i64 0, .int .u8 98, .int .i64 0, .string ⟨#[]⟩] := by rw [← hW]; exact (((Blk.new w 79 _).alloc _).alloc _).alloc _
  have k1 : Blk W (w.heap.size + 1) 40 #[.int .i64 1, .slice (some ⟨w.heap.size, 0, none⟩) 2 2] := by
    rw [← hW]
    have := Blk.new (w.alloc (.cells #[.int .i64 0, .int .u8 97, .int .i64 0, .string ⟨#[98, 98]⟩, .int .i64 0, .int .u8 98, .int .i64 0, .string ⟨#[]⟩] 79)) 40 #[.int .i64 1, .slice (some ⟨w.heap.size, 0, none⟩) 2 2]
    rw [alloc_size] at this
    exact (this.alloc _).alloc _
  have k2 : Blk W (w.heap.size + 1 + 1) 60 #[.int .i64 0, .string sA] := by
    rw [← hW]
    have := Blk.new ((w.alloc (.cells #[.int .i64 0, .int .u8 97, .int .i64 0, .string ⟨#[98, 98]⟩, .int .i64 0, .int .u8 98, .int .i64 0, .string ⟨#[]⟩] 79)).alloc (.cells #[.int .i64 1, .slice (some ⟨w.heap.size, 0, none⟩) 2 2] 40)) 60 #[.int .i64 0, .string ⟨#[97]⟩]
    rw [alloc_size, alloc_size] at this
    exact this.alloc _
  have k3 : Blk W (w.heap.size + 1 + 1 + 1) 60 #[.int .i64 0, .string sB] := by
    rw [← hW]
    have := Blk.new (((w.alloc (.cells #[.int .i64 0, .int .u8 97, .int .i64 0, .string ⟨#[98, 98]⟩, .int .i64 0, .int .u8 98, .int .i64 0, .string ⟨#[]⟩] 79)).alloc (.cells #[.int .i64 1, .slice (some ⟨w.heap.size, 0, none⟩) 2 2] 40)).alloc (.cells #[.int .i64 0, .string ⟨#[97]⟩] 60)) 60 #[.int .i64 0, .string ⟨#[98]⟩]
    rw [alloc_size, alloc_size, alloc_size] at this
    exact this
  have hrA : Rls W (.slice (some ⟨w.heap.size, 0, none⟩) 2 2) lA := els_blk (E := ElR) kA rfl rfl (by omega)
  have H1 := Lib.hid (Run_any W 1 0 0 _ lA sA sB hrA szA (by decide) (by decide) allA)
  have c0 : W.cell? ⟨w.heap.size + 1, 0, none⟩ = some (.int .i64 1) := k1.cell 0
  have c1 : W.cell? ⟨w.heap.size + 1, 1, none⟩ = some (.slice (some ⟨w.heap.size, 0, none⟩) 2 2) := k1.cell 1
  have c2 : W.cell? ⟨w.heap.size + 1 + 1, 0, none⟩ = some (.int .i64 0) := k2.cell 0
  have c3 : W.cell? ⟨w.heap.size + 1 + 1, 1, none⟩ = some (.string ⟨#[97]⟩) := k2.cell 1
  have c4 : W.cell? ⟨w.heap.size + 1 + 1 + 1, 0, none⟩ = some (.int .i64 0) := k3.cell 0
  have c5 : W.cell? ⟨w.heap.size + 1 + 1 + 1, 1, none⟩ = some (.string ⟨#[98]⟩) := k3.cell 1
  replace hrA := Lib.hid hrA
  replace hBW := Lib.hid hBW
  clear kA k1 k2 k3
  go_enter Tryz.func10, Tryz.ntmps10
  go_wp2_with (first
    | (go_at_call 27; refine H1.out.mono ?_; rintro e w1 ⟨hr1, hb1⟩; obtain ⟨v1, rfl, ho1⟩ := runRes_A hr1; obtain ⟨bl, ofl, p1, rfl, l0, l1⟩ := awake_l ho1; replace c0 := cell_below c0 hb1; replace c1 := cell_below c1 hb1; replace c2 := cell_below c2 hb1; replace c3 := cell_below c3 hb1; replace c4 := cell_below c4 hb1; replace c5 := cell_below c5 hb1; have hb1 := Lib.hid hb1; have ho1 := Lib.hid ho1)
    | (go_at_call 24; refine (reaches_A w1 _ (hrA.out.then hb1.out)).mono ?_; rintro e w2 ⟨rfl, hb2⟩; replace c0 := cell_below c0 hb2; replace l0 := cell_below l0 hb2; replace l1 := cell_below l1 hb2; replace c1 := cell_below c1 hb2; replace c2 := cell_below c2 hb2; replace c3 := cell_below c3 hb2; replace c4 := cell_below c4 hb2; replace c5 := cell_below c5 hb2; obtain ⟨W3, hW3, hB3, hrG, d0, d1⟩ := awake_mid w2; replace c0 := cell_below c0 hB3; replace l0 := cell_below l0 hB3; replace l1 := cell_below l1 hB3; replace c1 := cell_below c1 hB3; replace c2 := cell_below c2 hB3; replace c3 := cell_below c3 hB3; replace c4 := cell_below c4 hB3; replace c5 := cell_below c5 hB3; have hb2 := Lib.hid hb2; have hB3 := Lib.hid hB3; have E1 := Lib.hid (endless_G W3 _ hrG); have hrG := Lib.hid hrG)
    | (go_at_call 33; refine E1.out.mono ?_; clear E1; rintro e w4 ⟨rfl, hb4⟩; have E2 := Lib.hid (endless_G' w4 _ (hrG.out.then hb4)); replace c0 := cell_below c0 hb4; replace l0 := cell_below l0 hb4; replace l1 := cell_below l1 hb4; replace c1 := cell_below c1 hb4; replace c2 := cell_below c2 hb4; replace c3 := cell_below c3 hb4; replace c4 := cell_below c4 hb4; replace c5 := cell_below c5 hb4; replace d0 := cell_below d0 hb4; replace d1 := cell_below d1 hb4; have hb4 := Lib.hid hb4)
    | (go_at_call 33; refine E2.out.mono ?_; clear E2; rintro e w5 ⟨rfl, hb5⟩; replace c0 := cell_below c0 hb5; replace l0 := cell_below l0 hb5; replace l1 := cell_below l1 hb5; replace c1 := cell_below c1 hb5; replace c2 := cell_below c2 hb5; replace c3 := cell_below c3 hb5; have hb5 := Lib.hid hb5; have hrA5 := Lib.hid ((((((hrA.out.then hb1.out).then hb2.out).then hB3.out).then hb4.out).then hb5.out)))
    | (go_at_call 32; refine (next_A w5 _ hrA5.out).mono ?_; rintro e w6 ⟨v6, rfl, ho6, hb6⟩; obtain ⟨b6, of6, p6, rfl, m0⟩ := awake_n ho6; replace l0 := cell_below l0 hb6; replace l1 := cell_below l1 hb6; have hb6 := Lib.hid hb6; have ho6 := Lib.hid ho6)
    | (go_at_call 29; refine (check_0 _).mono ?_; rintro e w7 ⟨rfl, hb7⟩; have hb7 := Lib.hid hb7))
  go_ret
  exact ⟨rfl, bthen hBW.out (bthen hb1.out (bthen hb2.out (bthen hB3.out (bthen hb4.out (bthen hb5.out (bthen hb6.out hb7.out))))))⟩
end
end Go.Proofs.YtaapnflhjbdmlaaGreatDoor
