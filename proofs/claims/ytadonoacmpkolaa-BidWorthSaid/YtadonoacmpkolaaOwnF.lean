/- own: the copy's first row may be written. -/
import Derived.Test.YtadonoacmpkolaaW1
namespace Go.Proofs.Ytadonoacmpkolaa
open Go.RowKit

def RF (o : Option Nat) (b0 : Nat) (r0 : Value) (w : World) (c : Value) (x : Nat × List Int) : Prop := (x.1 = 0 → c = r0) ∧ (x.1 ≠ 0 → Slc (fun b => o ≠ some b ∧ b ≠ b0) isI w c x.2)
/-- rows that the call owns; the first one, in block b0, may be written -/
def FR (lo : Nat) (w : World) (o : Value) (b0 n0 c0 : Nat) (row : List Int) (L : List (Nat × List Int)) : Prop :=
  OwnI lo 2 w (.slice (some ⟨b0, 0, none⟩) n0 c0) row ∧ o.ownBlock ≠ some b0 ∧ OwnL lo 27 (RF o.ownBlock b0 (.slice (some ⟨b0, 0, none⟩) n0 c0) w) w o L

theorem FR.below {lo : Nat} {w w' : World} {o : Value} {b0 n0 c0 : Nat} {row : List Int} {L : List (Nat × List Int)} (h : FR lo w o b0 n0 c0 row L) {B : Nat} (hB : w.heap.size ≤ B) (hb : Below B w w') : FR lo w' o b0 n0 c0 row L :=
  ⟨OwnL.below h.1 hB hb, h.2.1, OwnL.below (OwnL.imp h.2.2 fun c x _ hc => ⟨hc.1, fun hx => Slc.keep (hc.2 hx) (fun k hk hlt => ⟨hk, hb.block k (by omega)⟩) fun _ _ _ h => h⟩) hB hb⟩
theorem RF.one {o : Option Nat} {b0 n0 c0 : Nat} {w : World} (c : Value) (x : Nat × List Int) (h : RF o b0 (.slice (some ⟨b0, 0, none⟩) n0 c0) w c x) : c.oneCell' = true := by
  by_cases hx : x.1 = 0
  · rw [h.1 hx]; rfl
  · exact slc_one' c x.2 (h.2 hx)

theorem wpList_own0 {P : Program} {ops : Array Oper} {rest : List Oper} {o : Oper} {a : Act} {Q : Exit → Act → World → Prop} {w : World} (hgd : o.guard = none) (s x : Operand) (t : TypeId)
    (ho : o.op = .call { callee := .builtin .append, args := #[s, x], argTypes := #[t, t] })
    (lo : Nat) (ht : P.underlying t = some (.slice 27)) (hinfo : (P.info? 27).map (fun i => (i.zero, i.size, i.bytes)) = some (some (.slice none 0 0), 1, 24))
    (hs : a.eval s = .slice none 0 0) {W : World} {b0 n0 c0 : Nat} {g : Nat} (hw : w = W.alloc (.cells #[.slice (some ⟨b0, 0, none⟩) n0 c0] 27)) {row : List Int} (hown : OwnI lo 2 W (.slice (some ⟨b0, 0, none⟩) n0 c0) row)
    (hx : a.eval x = .slice (some ⟨g, 0, none⟩) 1 1) (hg : g = W.heap.size) (hlo : lo ≤ W.heap.size)
    (h : ∀ v' w', FR lo w' v' b0 n0 c0 row [(0, row)] → Below lo W w' → wpList P ops Q rest (a.put o.dst v') w') : wpList P ops Q (o :: rest) a w := by
  subst hg
  have hB : Below W.heap.size W (W.alloc (.cells #[.slice (some ⟨b0, 0, none⟩) n0 c0] 27)) := (Below.refl _ _).alloc (Nat.le_refl _) _
  have hsz : W.heap.size < (W.alloc (.cells #[.slice (some ⟨b0, 0, none⟩) n0 c0] 27)).heap.size := by simp
  rw [← hw] at hB hsz
  have ho2 := OwnL.below hown (Nat.le_refl _) hB
  have hb0 := (OwnL.lt hown b0 rfl).2
  refine wpList_append_slc w hgd s x t ho lo 27 ht hinfo rfl (by omega) (R := fun c (_ : Nat × List Int) => c = .slice (some ⟨b0, 0, none⟩) n0 c0) (fun c x h => by rw [h]; rfl) _ [] hs (own_nil _ _ _) _ hx [(0, row)] (slc_one (w := w) (c := .slice (some ⟨b0, 0, none⟩) n0 c0) ?_ rfl) (by simp) (Nat.le_trans hlo hB.size) ?_
  · rw [hw]; exact cell_one_new W _ 27 0 _ rfl
  · intro v' w' h1 h2 h3 h4
    refine h v' w' ⟨OwnL.kept ho2 h3 (.inr (by intro e; cases e)), ?_, ?_⟩ ((hB.mono hlo).trans h2)
    · rcases h4 with h4 | h4 <;> rw [h4]
      · intro e; cases e
      · intro e; injection e; omega
    · refine OwnL.imp h1 fun c x hx hc => ⟨fun _ => hc, fun hne => ?_⟩
      simp at hx
      rw [hx] at hne
      exact absurd rfl hne

theorem wpList_ownK {P : Program} {ops : Array Oper} {rest : List Oper} {o : Oper} {a : Act} {Q : Exit → Act → World → Prop} {w : World} (hgd : o.guard = none) (s x : Operand) (t : TypeId)
    (ho : o.op = .call { callee := .builtin .append, args := #[s, x], argTypes := #[t, t] })
    (lo : Nat) (ht : P.underlying t = some (.slice 27)) (hinfo : (P.info? 27).map (fun i => (i.zero, i.size, i.bytes)) = some (some (.slice none 0 0), 1, 24))
    (v : Value) (hs : a.eval s = v) {W : World} {b0 n0 c0 : Nat} {c : Value} {g : Nat} (hw : w = W.alloc (.cells #[c] 27)) {row : List Int} {L : List (Nat × List Int)} (hown : FR lo W v b0 n0 c0 row L)
    (hx : a.eval x = .slice (some ⟨g, 0, none⟩) 1 1) (hg : g = W.heap.size) {k : Nat} {y : List Int} (hk : k ≠ 0) (h2 : Slc (fun b => v.ownBlock ≠ some b ∧ b ≠ b0) isI W c y) (hb : L.length + 1 ≤ 1000000) (hlo : lo ≤ W.heap.size)
    (h : ∀ v' w', FR lo w' v' b0 n0 c0 row (L ++ [(k, y)]) → Below lo W w' → wpList P ops Q rest (a.put o.dst v') w') : wpList P ops Q (o :: rest) a w := by
  subst hg
  have hB : Below W.heap.size W (W.alloc (.cells #[c] 27)) := (Below.refl _ _).alloc (Nat.le_refl _) _
  rw [← hw] at hB
  obtain ⟨ha, hne, hl⟩ := hown.below (Nat.le_refl _) hB
  have hb0 := (OwnL.lt ha b0 rfl).2
  refine wpList_append_slc w hgd s x t ho lo 27 ht hinfo rfl (by omega) RF.one v L hs hl _ hx [(k, y)] (slc_one (w := w) (c := c) ?_ ⟨fun e => absurd e hk, fun _ => Slc.keep h2 (fun b hb hlt => ⟨hb, hB.block b hlt⟩) fun _ _ _ h => h⟩) (by simpa using hb) (Nat.le_trans hlo hB.size) ?_
  · rw [hw]; exact cell_one_new W _ 27 0 _ rfl
  · intro v' w' h1 h2 h3 h4
    refine h v' w' ⟨OwnL.kept ha h3 (.inr (fun e => hne e.symm)), ?_, ?_⟩ ((hB.mono hlo).trans h2)
    · rcases h4 with h4 | h4 <;> rw [h4]
      · exact hne
      · intro e; injection e; omega
    · refine OwnL.imp h1 fun c x _ hc => ⟨hc.1, fun hx => Slc.keep (hc.2 hx) (fun b hb hlt => ⟨⟨?_, hb.2⟩, h3.block b hlt fun e => hb.1 e.symm⟩) fun _ _ _ h => h⟩
      rcases h4 with h4 | h4 <;> rw [h4]
      · exact hb.1
      · intro e; injection e; omega

/-- the rows of the copy -/
def cut (xs : List (List Int)) (i : Nat) : List Int := (rowAt xs i).take 65

set_option maxHeartbeats 800000 in
theorem own_first (w : World) (v : Value) (xs : List (List Int)) (h : Rows2 w v xs) (h1 : 1 ≤ xs.length) (h7 : xs.length ≤ 7) (hr : 0 < (rowAt xs 0).length) :
    Calls Try.prog 13 #[v] w fun e w' => ∃ v' b0 n0 c0, e = .returned v' ∧ FR w.heap.size w' v' b0 n0 c0 (cut xs 0) (tab xs.length fun i => (i, cut xs i)) ∧ Below w.heap.size w w' := by
  obtain ⟨A, cap, rfl, hl, hcap, hn, hat⟩ := h.open
  replace hat := Lib.hid hat
  clear hn h
  unfold maxLen at hcap
  have hc0 : Hid (0 < (cut xs 0).length) := by show 0 < _; unfold cut; simp; omega
  go_enter Try.func13, Try.ntmps13
  go_wp2
  go_loopw [3, 4] (fun o i wr => ∃ k : Nat, k ≤ xs.length ∧ i = .int .i64 k ∧ ((k = 0 ∧ o = .slice none 0 0) ∨ (1 ≤ k ∧ ∃ b0 n0 c0, Hid (FR w.heap.size wr o b0 n0 c0 (cut xs 0) (tab k fun i => (i, cut xs i))))) ∧ Hid (Below w.heap.size w wr)) (fun _ i _ => xs.length - (intOf i).toNat)
  case atStart => exact ⟨0, Nat.zero_le _, rfl, .inl ⟨rfl, rfl⟩, Below.refl _ _⟩
  case round =>
    obtain ⟨k, hk, rfl, hcs, hB⟩ := hrel
    by_cases hlt : k < xs.length
    · obtain ⟨b1, o1, A1, cap1, rfl, hc1, hi1⟩ := hat.out k hlt
      replace hc1 : wr.cell? ⟨b1, o1 + k, none⟩ = some (.slice A1 (rowAt xs k).length cap1) := by
        rw [hB.out.cell (p := ⟨b1, o1 + k, none⟩) (lt_of_cell hc1)]; exact hc1
      replace hi1 := Lib.hid (Ints.below hi1 (Nat.le_refl _) hB.out)
      have hd7 : ((k : Int) < 7) := by omega
      rcases hcs with ⟨hk0, rfl⟩ | ⟨hk1, b0, n0, c0, hF⟩
      · have e0 : Hid ((rowAt xs k).take (65 : Int).toNat = cut xs 0) := by show _ = _; rw [hk0]; rfl
        have e1 : Hid (tab (k + 1) (fun i => (i, cut xs i)) = [(0, cut xs 0)]) := by show _ = _; rw [hk0]; rfl
        replace hk0 := Lib.hid hk0
        go_wp2_with (first
          | (go_at_call 18; refine (list_any _ _ _ _ hi1.out (by omega) (by omega)).mono ?_; rintro e w1 ⟨v1, rfl, h1, h2⟩; rw [e0.out] at h1; obtain ⟨g1, d1, rfl, _, _, _, _, _, _⟩ := OwnI.open h1 hc0.out; replace h1 := Lib.hid (OwnL.lo_le h1 hB.out.size); replace h2 := Lib.hid h2)
          | (at_builtin; refine wpList_own0 rfl (.tmp 15) (.tmp 21) 22 rfl w.heap.size Try.underlying22 info27 rfl rfl h1.out rfl rfl (Nat.le_trans hB.out.size h2.out.size) ?_; intro v' w' h3 h4; replace h3 := Lib.hid h3; replace h4 := Lib.hid h4))
        go_roundw
        case rel => exact ⟨k + 1, by omega, by go_num, .inr ⟨by omega, _, _, _, by rw [e1.out]; exact h3.out⟩, (hB.out.trans (h2.out.mono hB.out.size)).trans h4.out⟩
        case measure => simp [intOf]; try omega
      · obtain ⟨A9, n9, c9, rfl, hn9⟩ := OwnL.shape hF.out.2.2
        have hl9 : (tab k fun i => (i, cut xs i)).length + 1 ≤ 1000000 := by rw [tab_length]; omega
        go_wp2_with (first
          | (go_at_call 18; refine (list_any _ _ _ _ hi1.out (by omega) (by omega)).mono ?_; rintro e w1 ⟨v1, rfl, h1, h2⟩; obtain ⟨A1, n1, d1, rfl, hn1⟩ := OwnL.shape h1; replace h1 := Lib.hid h1; replace h2 := Lib.hid h2)
          | (at_builtin; refine wpList_ownK (k := k) (y := cut xs k) rfl (.tmp 15) (.tmp 21) 22 rfl w.heap.size Try.underlying22 info27 _ rfl rfl (hF.out.below (Nat.le_refl _) h2.out) rfl rfl (by omega) (Slc.keep (OwnL.slc h1.out) (fun b hb _ => ⟨⟨OwnL.apart (q := fun _ => True) hF.out.2.2 b ⟨hb.1, trivial⟩, (by have := (OwnL.lt hF.out.1 b0 rfl).2; have := hb.1; omega)⟩, rfl⟩) fun _ _ _ h => h) hl9 (Nat.le_trans hB.out.size h2.out.size) ?_; intro v' w' h3 h4; replace h3 := Lib.hid h3; replace h4 := Lib.hid h4))
        go_roundw
        case rel => exact ⟨k + 1, by omega, by go_num, .inr ⟨by omega, _, _, _, by rw [tab_succ]; exact h3.out⟩, (hB.out.trans (h2.out.mono hB.out.size)).trans h4.out⟩
        case measure => simp [intOf]; try omega
    · obtain rfl : k = xs.length := by omega
      rcases hcs with ⟨h0, _⟩ | ⟨_, b0, n0, c0, hF⟩
      · omega
      · go_wp2
        go_ret
        first | exact ⟨_, rfl, _, _, _, hF.out, hB.out⟩ | exact ⟨_, _, _, _, rfl, hF.out, hB.out⟩
end Go.Proofs.Ytadonoacmpkolaa
