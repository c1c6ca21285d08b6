/- The specification's Accepts; the law's only. No condition. -/
import Derived.Test.YtaapnflhjbdmlaaGreatDoorZu1
namespace Go.Proofs.YtaapnflhjbdmlaaGreatDoor
open Go.RowKit Go.Shelf
attribute [local go_sem] Oper.semAt_some

set_option maxRecDepth 8000 in
set_option maxHeartbeats 4000000 in
theorem AcceptsR_any (w : World) (n x gF : Nat) (vC : Value) (X : Nat → Nat → Nat → Int) (F : Nat → Bool) (s : ByteArray) (hn : 1 ≤ n) (hn4 : n ≤ 400) (hX : Cua w vC n X) (hF : Bl w gF n F) (hxn : x < n) (hw : Word (cs s)) (hs20 : s.size ≤ 20)
    (hXr : ∀ p c q, p < n → c < 6 → q < n → 0 ≤ X p c q ∧ X p c q ≤ 1073741824) (hE : ∀ p q, p < n → q < n → X p 5 q = 1073741824) :
    Calls Tryz.prog 26 #[agA vC gF n, cv ⟨x, s⟩] w fun e w' => e = .returned (.bool (decide (bestN n F (costs n X (cs s) (only1 x)) < 1073741824))) ∧ Below w.heap.size w w' := by
  obtain ⟨b, off, cap, rfl⟩ := hX.shape
  obtain ⟨W, hW⟩ : ∃ W, (w.alloc (.cells #[.slice (some ⟨b, off, none⟩) n cap, .slice (some ⟨gF, 0, none⟩) n n] 49)).alloc (.cells #[.int .i64 x, .string s] 53) = W := ⟨_, rfl⟩
  have hBW : Below w.heap.size w W := by rw [← hW]; exact bthen (below1 _ _) (below1 _ _)
  have kA := show Blk W w.heap.size 49 #[.slice (some ⟨b, off, none⟩) n cap, .slice (some ⟨gF, 0, none⟩) n n] by rw [← hW]; exact (Blk.new w 49 _).alloc _
  have kB := show Blk W (w.heap.size + 1) 53 #[.int .i64 x, .string s] by rw [← hW]; have := Blk.new (w.alloc (.cells #[.slice (some ⟨b, off, none⟩) n cap, .slice (some ⟨gF, 0, none⟩) n n] 49)) 53 #[.int .i64 x, .string s]; rw [alloc_size] at this; exact this
  have a0 := kA.cell 0
  have a1 := kA.cell 1
  have a2 := kB.cell 0
  have a3 := kB.cell 1
  simp at a0 a1 a2 a3
  have hc := Lib.hid (Cost_any W n x gF _ X F s hn hn4 (hX.below hBW) (Blk.below hF hBW (Blk.lt hF)) hxn hw hs20 hXr hE)
  generalize bestN n F (costs n X (cs s) (only1 x)) = K at *
  replace hBW := Lib.hid hBW
  clear kA kB hX hF hw hXr hE
  go_enter Tryz.func26, Tryz.ntmps26
  go_wp2_with (go_at_call 48; refine hc.out.mono ?_; rintro e w9 ⟨rfl, hb9⟩; replace hb9 := Lib.hid hb9)
  go_ret
  exact ⟨rfl, bthen hBW.out hb9.out⟩
theorem ofX_eps {ms : List Mv} (h : ∀ m ∈ ms, m.2.1 < 5) (p q : Nat) : ofX ms p 5 q = 1073741824 := by
  unfold ofX
  rw [if_neg (fun hm => by have := h _ hm; simp at this)]
end Go.Proofs.YtaapnflhjbdmlaaGreatDoor
