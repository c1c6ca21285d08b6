/- Single bids: isSingle, IsSingle, Single. -/
import Derived.Test.YtadonoacmpkolaaW4
namespace Go.Proofs.Ytadonoacmpkolaa
open Go.RowKit
attribute [local go_sem high] walk_shl walk_shr walk_bit walk_rem walk_and walk_or walk_andNot

def itemsOf (m : Nat) (l : List Int) : List Int := tab m fun i => at0 l (p2 i)
def singleB (m : Nat) (l : List Int) : Bool := decide (singleOf (itemsOf m l) = l)

set_option maxHeartbeats 400000 in
theorem isSingle1_any (w : World) (v : Value) (l : List Int) (m b : Nat) (h : Ints w v l) (hm : m ≤ 6) (hlen : l.length = p2 m) (hb : w.cell? ⟨b, 0, none⟩ = some (.int .i64 (m : Int))) :
    Calls Try.prog 72 #[v, .pointer (some ⟨b, 0, none⟩)] w fun e w' => e = .returned (.bool (!singleB m l)) ∧ Below w.heap.size w w' := by
  have hh := Lib.hid h
  obtain ⟨A, cap, rfl, hl, hcap, hn, hat⟩ := h.open
  replace hat := Lib.hid hat
  clear hn h
  unfold maxLen at hcap
  have h64 := p2_le64 hm
  replace hlen := Lib.hid hlen
  go_enter Try.func72, Try.ntmps72
  go_wp2
  go_loopw [4, 7] (fun o i wr => ∃ k : Nat, k ≤ m ∧ i = .int .i64 k ∧ Hid (OwnI w.heap.size 2 wr o (itemsOf k l)) ∧ Hid (Below w.heap.size w wr)) (fun _ i _ => m - (intOf i).toNat)
  case atStart => exact ⟨0, Nat.zero_le _, rfl, own_nil _ _ _, Below.refl _ _⟩
  case round =>
    obtain ⟨k, hk, rfl, ho, hB⟩ := hrel
    by_cases hlt : k < m
    · have hsk : smallS k := smallS_of (by omega)
      have hpk : p2 k < l.length := by rw [hlen.out]; exact p2_lt hlt
      obtain ⟨b1, o1, rfl, hc1⟩ := hat.out (p2 k) hpk
      replace hc1 : wr.cell? ⟨b1, o1 + p2 k, none⟩ = some (.int .i64 (at0 l (p2 k))) := by
        rw [hB.out.cell (p := ⟨b1, o1 + p2 k, none⟩) (lt_of_cell hc1)]; exact hc1
      go_wp2_with (at_builtin; refine wpList_append_int rfl (.tmp 10) (.tmp 17) 27 rfl w.heap.size 2 Try.underlying27 info2 _ _ rfl rfl ho.out rfl rfl (by unfold itemsOf; rw [tab_length]; omega) hB.out.size ?_; intro v' w' h3 h4 _; replace h3 := Lib.hid h3; replace h4 := Lib.hid h4)
      go_roundw
      case rel => exact ⟨k+1, by omega, by go_num, by unfold itemsOf; rw [tab_succ]; exact h3, hB.out.trans h4.out⟩
      case measure => simp [intOf]; omega
    · obtain rfl : k = m := by omega
      have hc1 := Lib.hid (single_any wr _ (itemsOf k l) (OwnI.ints ho.out) (by unfold itemsOf; rw [tab_length]; exact hm))
      go_wp2_with (first
        | (go_at_call 50; refine hc1.out.mono ?_; rintro e w1 ⟨v1, rfl, h1, h2⟩; have h3 := Lib.hid (equal_any w1 v1 _ _ _ (OwnI.ints h1) (Ints.below hh.out (Nat.le_refl _) (hB.out.trans (h2.mono hB.out.size)))); replace h2 := Lib.hid h2; clear h1 hc1)
        | (go_at_call 73; refine h3.out.mono ?_; rintro e w2 ⟨rfl, q, rfl⟩; clear h3))
      go_ret
      exact ⟨rfl, below_drewN (hB.out.trans (h2.out.mono hB.out.size)) _⟩

set_option maxHeartbeats 400000 in
theorem isSingle_any (w : World) (v : Value) (xs : List (List Int)) (m : Nat) (h : Rows2 w v xs) (hm : m ≤ 6) (hx : ∀ l ∈ xs, l.length = p2 m) :
    Calls Try.prog 54 #[.int .i64 (m : Int), v] w fun e w' => e = .returned (.bool (xs.all (singleB m))) ∧ Below w.heap.size w w' := by
  have hB0 := Lib.hid ((Below.refl w.heap.size w).alloc (Nat.le_refl _) (.cells #[.int .i64 (m : Int)] 3))
  have hcall := Lib.hid (containsFunc_any (w.alloc (.cells #[.int .i64 (m : Int)] 3)) v xs (Rows2.below h (Nat.le_refl _) hB0.out) 72 (.pointer (some ⟨w.heap.size, 0, none⟩)) (fun l => !singleB m l) callFunc72
    (fun i hi A n c W hW hint => isSingle1_any W _ _ m w.heap.size hint hm (hx _ (by rw [rowAt_eq hi]; exact List.getElem_mem hi)) (by
      rw [hW.cell (p := ⟨w.heap.size, 0, none⟩) (by simp)]
      exact one_cell)))
  have hr := Lib.hid (show (!xs.any fun l => !singleB m l) = xs.all (singleB m) by rw [List.not_any_eq_all_not]; simp)
  replace h := Lib.hid h
  replace hx := Lib.hid hx
  go_enter Try.func54, Try.ntmps54
  go_wp2_with (go_at_call 49; refine hcall.out.mono ?_; rintro e w1 ⟨rfl, hb⟩; replace hb := Lib.hid hb)
  go_ret
  exact ⟨ret_bool hr.out, hB0.out.trans (hb.out.mono (by simp))⟩

end Go.Proofs.Ytadonoacmpkolaa
