/- The iterator over all links. No condition. -/
import Derived.RangeFuncNested
import Derived.RangeFuncBound
import Derived.RangeFuncCalls
import Derived.RangeFuncLeaves
import Derived.Shelf.Abstract
import Derived.Shelf.RegionOpen
import Derived.OwnWalkIn
import Derived.TacticsInMore
import Derived.LoopNIn
import Derived.LoopIn
import Derived.Test.YthnabheibacbcaaC7
namespace Go.Proofs.Ythnabheibacbcaa
open Go.RowKit Go.Shelf
attribute [local go_sem] Oper.semAt_some

/-- the links that end before place b -/
def linksTo (os : List Nat) : Nat → List (Nat × Nat)
  | 0 => []
  | b + 1 => linksTo os b ++ (os.take b).map fun i => (i, natAt os b)
def linksL (os : List Nat) : List (Nat × Nat) := linksTo os os.length
theorem linksTo_len (os : List Nat) (h : os.length ≤ 14) : ∀ b, (linksTo os b).length ≤ b * 14
  | 0 => by simp [linksTo]
  | b + 1 => by
    have := linksTo_len os h b
    simp only [linksTo, List.length_append, List.length_map, List.length_take]
    omega

/-- two numbers below n -/
abbrev Lk (n : Nat) := { p : Nat × Nat // p.1 < n ∧ p.2 < n }
def encLk (n : Nat) (x : Lk n) : Array Value := #[.int .i64 (x.1.1 : Int), .int .i64 (x.1.2 : Int)]
/-- the blocks that the iterator reads are as they were -/
def keepO (Bp g : Nat) (o : Value) (W W' : World) : Prop := ∀ b, (b = Bp ∨ b = g ∨ o.ownBlock = some b) → W'.heap[b]? = W.heap[b]?
theorem keepO.trans {Bp g : Nat} {o : Value} {A B C : World} (h : keepO Bp g o A B) (k : keepO Bp g o B C) : keepO Bp g o A C := fun b hb => (k b hb).trans (h b hb)

set_option maxRecDepth 100000 in
set_option maxHeartbeats 1000000 in
theorem links1_stops (n : Nat) (hn : 1 ≤ n) (Bp g lo : Nat) (o : Value) (os : List Nat) (N : Nat) (hos : ∀ k ∈ os, k < N) (h14 : os.length ≤ 14) (w : World) (hB : w.cell? ⟨Bp, 0, none⟩ = some (.pointer (some ⟨g, 0, none⟩)))
    (hO : w.cell? ⟨g, 2745, none⟩ = some o) (ho : OwnI lo 3 w o (nats os)) :
    SeqStopsK Fence.wide n Try.prog 86 #[.pointer (some ⟨Bp, 0, none⟩)] (encLk N) (keepO Bp g o) (fun xs => xs.map (·.1) = linksL os) (fun _ => True) 196 w := fun l J Jx W hW _ _ hY h0 => by
  refine callsIn_of_wp Try.func86 rfl trivial ?_ rfl
  simp only [Try.ntmps86, List.size_toArray, List.length_cons, List.length_nil, Nat.reduceAdd, Nat.reduceSub, Array.replicate_succ, Array.replicate_zero, List.push_toArray, List.append_toArray, List.nil_append, List.cons_append]
  have kk : ∀ W', keepO Bp g o W W' → W'.cell? ⟨Bp, 0, none⟩ = some (.pointer (some ⟨g, 0, none⟩)) ∧ W'.cell? ⟨g, 2745, none⟩ = some o ∧ Ints W' o (nats os) := by
    intro W' hk
    have ho' := OwnL.below ho (Nat.le_refl _) hW
    refine ⟨(World.cell?_of_block (a := ⟨Bp, 0, none⟩) (hk Bp (.inl rfl))).trans (cell_below hB hW), (World.cell?_of_block (a := ⟨g, 2745, none⟩) (hk g (.inr (.inl rfl)))).trans (cell_below hO hW), ?_⟩
    exact Slc.keep (OwnL.slc ho') (fun b hb _ => ⟨trivial, hk b (.inr (.inr hb.2))⟩) (fun _ _ _ h => h)
  have kr : keepO Bp g o W W := fun _ _ => rfl
  obtain ⟨k1, k2, k3⟩ := kk W kr
  obtain ⟨A, no, co, rfl, hno⟩ := OwnL.shape ho
  rw [nats_length] at hno
  replace kk := Lib.hid kk
  replace hY := Lib.hid hY
  replace hos := Lib.hid hos
  have hco : co ≤ maxLen ∧ no ≤ co := by
    obtain ⟨A', cap', he, h1, h2, _⟩ := k3.open
    injection he with e1 e2 e3
    exact ⟨by omega, by rw [e2, e3]; exact h1⟩
  obtain ⟨hco, hnc⟩ := hco
  unfold maxLen at hco
  have hno14 : no ≤ 14 := by rw [hno.out]; exact h14
  clear ho hO hB hW k3
  gi_wp2
  gi_loopw [12] (fun c wr => ∃ (pre : List (Lk N)) (b : Nat), b ≤ no ∧ c = .int .i64 (b : Int) ∧ Hid (pre.map (·.1) = linksTo os b) ∧ Hid (J pre wr) ∧ Hid (keepO Bp g (.slice A no co) W wr)) (fun c _ => no - (intOf c).toNat)
  case atStart => exact ⟨[], 0, Nat.zero_le _, rfl, rfl, h0, kr⟩
  case round =>
    obtain ⟨pre, b, hb, rfl, hpre, hJ, hk⟩ := hrel
    obtain ⟨m1, m2, m3⟩ := kk.out wr hk.out
    by_cases hlt : b < no
    case neg =>
      obtain rfl : b = no := by omega
      have hd := Lib.hid (show pre.map (·.1) = linksL os by rw [hpre.out, hno.out]; rfl)
      gi_wp2
      go_end0
      exact ⟨⟨_, rfl⟩, .inl ⟨_, hd.out, hJ.out⟩⟩
    obtain ⟨A', cap', he, _, _, _, hat⟩ := m3.open
    obtain rfl : A = A' := by injection he
    have hbo : b < (nats os).length := by rw [nats_length]; have := hno.out; omega
    obtain ⟨b1, o1, rfl, hc1⟩ := hat b hbo
    rw [at0_nats] at hc1
    have hob : natAt os b < N := hos.out _ (by rw [natAt_eq (by rw [nats_length] at hbo; exact hbo)]; exact List.getElem_mem _)
    have hst : Hid (linksTo os (b + 1) = linksTo os b ++ (os.take b).map fun i => (i, natAt os b)) := rfl
    generalize hvb : natAt os b = vb at *
    replace hvb := Lib.hid hvb
    clear hat he hbo
    obtain ⟨wo, rfl⟩ : ∃ wo : World, wo = wr := ⟨_, rfl⟩
    replace m3 := Lib.hid m3
    gi_wp2
    gi_loopw [24] (fun c wr => ∃ (pre2 : List (Lk N)) (a : Nat), a ≤ b ∧ c = .int .i64 (a : Int) ∧ Hid (pre2.map (·.1) = linksTo os b ++ (os.take a).map fun i => (i, vb)) ∧ Hid (J pre2 wr) ∧ Hid (keepO Bp g (.slice (some ⟨b1, o1, none⟩) no co) W wr)) (fun c _ => b - (intOf c).toNat)
    case atStart => exact ⟨pre, 0, Nat.zero_le _, rfl, by unfold Hid; rw [hpre.out]; simp, hJ, hk⟩
    case round =>
      obtain ⟨pre2, a, ha, rfl, hpre2, hJ2, hk2⟩ := hrel
      obtain ⟨n1, n2, n3⟩ := kk.out wr hk2.out
      by_cases hlta : a < b
      case neg =>
        obtain rfl : a = b := by omega
        have hd := Lib.hid (show pre2.map (·.1) = linksTo os (a + 1) by rw [hpre2.out, hst.out])
        gi_wp2
        go_roundw
        case rel => exact ⟨pre2, a + 1, by omega, by go_num, hd, hJ2, hk2⟩
        case measure => simp [intOf]; omega
      obtain ⟨A', cap2, he, _, _, _, hat⟩ := n3.open
      obtain rfl : some ⟨b1, o1, none⟩ = A' := by injection he
      have hao : a < (nats os).length := by rw [nats_length]; have := hno.out; omega
      obtain ⟨b2, o2, he2, hc2⟩ := hat a hao
      rw [at0_nats] at hc2
      cases he2
      have hoa : natAt os a < N := hos.out _ (by rw [natAt_eq (by rw [nats_length] at hao; exact hao)]; exact List.getElem_mem _)
      have hst2 := Lib.hid (show os.take (a + 1) = os.take a ++ [natAt os a] by rw [natAt_eq (by rw [nats_length] at hao; exact hao)]; exact List.take_succ_eq_append_getElem (by rw [nats_length] at hao; exact hao))
      have hlen : pre2.length < 196 := by
        have h1 := congrArg List.length hpre2.out
        simp only [List.length_map, List.length_append, List.length_take] at h1
        have h2 := linksTo_len os h14 b
        omega
      generalize hva : natAt os a = va at *
      replace hva := Lib.hid hva
      clear hat he hao n3
      obtain ⟨fn, tmps, assign, body, hy, hR⟩ := hY.out pre2 ⟨(va, vb), hoa, hob⟩ wr hJ2.out hlen
      dsimp only [encLk] at hy
      gi_wp2
      refine hR.mono ?_
      rintro e W3 (⟨rfl, hJ3, hk3⟩ | ⟨rfl, hJx3⟩)
      · have hd := Lib.hid (show (pre2 ++ [(⟨(va, vb), hoa, hob⟩ : Lk N)]).map (·.1) = linksTo os b ++ (os.take (a + 1)).map fun i => (i, vb) by rw [hst2.out]; simp [hpre2.out])
        gi_wp2
        go_roundw
        case rel => exact ⟨_, a + 1, by omega, by go_num, hd, hJ3, hk2.out.trans hk3⟩
        case measure => simp [intOf]; omega
      · gi_wp2
        refine bodyPost_ret (results_none rfl _ _ _) rfl ?_
        exact ⟨⟨_, rfl⟩, .inr ⟨_, trivial, hJx3⟩⟩

set_option maxHeartbeats 400000 in
theorem links_any (w : World) (g : Nat) :
    Calls Try.prog 64 #[.pointer (some ⟨g, 0, none⟩)] w fun e w' => e = .returned (.func (.func 86) #[] #[.pointer (some ⟨w.heap.size, 0, none⟩)]) ∧ w.alloc (.cells #[.pointer (some ⟨g, 0, none⟩)] 66) = w' := by
  have hmf : ∀ (fn : Fn) (first cap : Array Value) (w : World), (Instr.makeFunc fn first cap).run Try.prog w = .ok (.func fn first cap) w := fun _ _ _ _ => rfl
  go_enter Try.func64, Try.ntmps64
  go_wp2
  go_ret
  exact ⟨rfl, rfl⟩
end Go.Proofs.Ythnabheibacbcaa
