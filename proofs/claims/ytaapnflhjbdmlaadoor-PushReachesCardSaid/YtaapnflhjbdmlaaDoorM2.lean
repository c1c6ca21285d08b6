/- sets: the walk. No condition. -/
import Derived.Test.YtaapnflhjbdmlaaDoorM1
namespace Go.Proofs.YtaapnflhjbdmlaaDoor
open Go.RowKit
attribute [local go_sem] Oper.semAt_some

/-- the ends of the moves in L, from each head -/
def EndsOk (L : List (Key × Cost)) (f : Head → List Int) : Prop := (∀ h q, q ∈ f h ↔ (h.1, h.2, q) ∈ L.map (·.1)) ∧ ∀ h, (f h).length ≤ L.length
/-- block b is a map of the ends of the moves in L, from each head -/
def SetsOk (lo : Nat) (w : World) (b : Nat) (L : List (Key × Cost)) : Prop := ∃ f : Head → List Int, SInv lo w b f ∧ EndsOk L f

theorem keys_left {w : World} {b r : Nat} {l left : List (Key × Value)} (h : AIter mv w b r l left) : ∀ x ∈ left, x ∈ l := fun _ hx => h.sub.subset hx

theorem ex_mem {α β : Type} {l : List (α × β)} {k : α} : (∃ x, (k, x) ∈ l) ↔ k ∈ l.map (·.1) := by
  constructor
  · rintro ⟨x, h⟩; exact List.mem_map.2 ⟨_, h, rfl⟩
  · intro h; obtain ⟨⟨a, b⟩, h2, rfl⟩ := List.mem_map.1 h; exact ⟨b, h2⟩

set_option maxHeartbeats 2000000 in
theorem sets_any (w : World) (b : Nat) (L : List (Key × Cost)) (h : MMap w b L) (hlen : L.length ≤ 900000) :
    Calls Tryd.prog 30 #[.map (some b)] w fun e w' => ∃ b2, e = .returned (.map (some b2)) ∧ w.heap.size ≤ b2 ∧ SetsOk w.heap.size w' b2 L ∧ Below w.heap.size w w' := by
  unfold MMap at h
  have hbl := h.lt
  obtain ⟨W, hW⟩ : ∃ W, w.alloc (.map #[] 0) = W := ⟨_, rfl⟩
  have hB : Below w.heap.size w W := by rw [← hW]; exact below1 _ _
  have hA2 : AMap hv W w.heap.size [] := by rw [← hW]; exact AMap.made hv w
  have h1 : AMap mv W b (cval L) := h.below hB hbl
  have hz : W.heap.size = w.heap.size + 1 := by rw [← hW, alloc_size]
  have hS : SInv w.heap.size W w.heap.size (endsF []) := ⟨[], hA2, fun h => .inl ⟨rfl, rfl⟩, fun h h' v v' e => by cases e⟩
  replace hS := Lib.hid hS
  replace hB := Lib.hid hB
  replace h1 := Lib.hid h1
  replace hbl := Lib.hid hbl
  clear h hA2
  have hmk : (Instr.makeMap 72 none).run Tryd.prog w = .ok (.map (some w.heap.size)) W := by rw [← hW]; kernel_rfl
  go_enter Tryd.func30, Tryd.ntmps30
  go_wp2_with (at_range; refine wpList_range_a _ rfl (.tmp 6) 70 rfl 94 96 Tryd.underlying70 rfl h1.out ?_; intro w1 hit hg1 hs1)
  have hS1 := Lib.hid (hS.out.step hg1 (by simp) (by intro r e; cases e))
  have hB1 := Lib.hid (hB.out.trans (below_of_grown hg1 hB.out.size (by intro k e; cases e)))
  clear hS hmk hW
  go_frame
  go_loopw [8] (fun _ wr => ∃ (left : List (Key × Value)) (K : List Key), Hid (AIter mv wr b W.heap.size (cval L) left) ∧ Hid (SInv w.heap.size wr w.heap.size (endsF K)) ∧ Hid (∀ k, (k ∈ K ∨ k ∈ left.map (·.1)) ↔ k ∈ L.map (·.1)) ∧
      Hid (K.length + left.length = L.length) ∧ Hid (Below w.heap.size w wr)) (fun _ wr => iterLeft b W.heap.size wr)
  case atStart => exact ⟨cval L, [], hit, hS1, fun k => by rw [cval_keys]; simp, by unfold Hid; simp [cval], hB1⟩
  case round =>
    obtain ⟨left, K, hI, hS, hk, hl, hBr⟩ := hrel
    have hcnt := Lib.hid hI.out.count
    go_wp2_with (at_next; refine wpList_next_a _ rfl (.tmp 7) rfl rfl hI.out ?_ ?_)
    · intro h0
      have hfin := Lib.hid (show ∀ h q, q ∈ endsF K h ↔ (h.1, h.2, q) ∈ L.map (·.1) from fun h q => by
        rw [endsF_mem, ← hk.out, h0]; simp)
      have hfin2 := Lib.hid (show ∀ h, (endsF K h).length ≤ L.length from fun h => by
        have h1 := endsF_len K h
        have h2 := hl.out
        omega)
      clear h0
      go_wp2
      go_ret
      exact ⟨_, rfl, Nat.le_refl _, ⟨_, hS.out, hfin.out, hfin2.out⟩, hBr.out⟩
    · intro pre p a q v post w' hleft hI2 hg2 hs2 hent
      have hit0 : ∀ cur, wr.heap[w.heap.size + 1]? ≠ some (.cells cur 3 (0, 0)) := by
        obtain ⟨_, _, _, _, _, _, _, _, _, _, h6, _⟩ := hI.out
        intro cur h
        rw [hz] at h6
        rw [h6] at h
        cases h
      have hS2 := hS.out.step hg2 (by simp) (by intro r e; cases e; exact hit0)
      have hB2 := hBr.out.trans (below_of_grown hg2 hBr.out.size (by intro k e; cases e; omega))
      obtain ⟨o1, ho1⟩ : ∃ o1 : Obj, o1 = .cells #[.int .i64 p, .int .u8 a, .int .i64 q] 94 := ⟨_, rfl⟩
      obtain ⟨o2, ho2⟩ : ∃ o2 : Obj, o2 = .cells #[.int .i64 q] 3 := ⟨_, rfl⟩
      have hS3 := (hS2.step (World.grownBy_alloc w' o1 none) (by simp) (by intro r e; cases e)).step (World.grownBy_alloc _ o2 none) (by simp) (by intro r e; cases e)
      have hBA : Below w'.heap.size w' ((w'.alloc o1).alloc o2) := bthen (below1 _ _) (below1 _ _)
      have hzA : ((w'.alloc o1).alloc o2).heap.size = w'.heap.size + 1 + 1 := by rw [alloc_size, alloc_size]
      have kn : Blk ((w'.alloc o1).alloc o2) (w'.heap.size + 1) 3 #[.int .i64 q] := by rw [ho2]; have := Blk.new (w'.alloc o1) 3 #[.int .i64 q]; rwa [alloc_size] at this
      obtain ⟨S, hA, hf, hd⟩ := hS3
      obtain ⟨v0, hv0⟩ : ∃ v0, (aget S (p, a)).getD (.slice none 0 0) = v0 := ⟨_, rfl⟩
      have how := SInv.held hf (p, a)
      rw [hv0] at how
      have hbr : w.heap.size + 1 < w'.heap.size := by have := hI2.lt.2; omega
      have hall := Lib.hid (And.intro hA (And.intro hf (And.intro hd (And.intro how (And.intro hB2 (And.intro hBA kn))))))
      replace hleft := Lib.hid hleft
      replace hI2 := Lib.hid hI2
      replace hv0 := Lib.hid hv0
      clear hA hf hd how hB2 hBA kn hS2 hg2 hit0
      unfold mv at hent
      replace hs2 := Lib.hid hs2
      go_wp2_with (first
        | (refine wpList_mapEntry_a _ rfl (.tmp 12) (.tmp 14) 72 rfl 77 48 key77 Tryd.underlying72 (zero48 _) rfl (by rw [← ho1, ← ho2]; exact hall.out.1) (p, a) rfl v0 hv0.out ?_; intro w2 st hE hg3 hs3; rw [← ho1, ← ho2] at hg3 hs3; have hE := Lib.hid hE; have hg3 := Lib.hid hg3; have hs3 := Lib.hid hs3)
        | (at_builtin; refine wpList_append_els (E := ElI) _ rfl (.tmp 15) (.tmp 18) 48 rfl w.heap.size Tryd.underlying48 info3 rfl rfl (by decide) v0 (endsF K (p, a)) rfl ?ho (.slice (some ⟨w'.heap.size + 1, 0, none⟩) 1 1) rfl [q] ?hn ?hl ?hs ?_; rotate_left 4; intro v2 w3 ho3 hb3 hg4 hl4; obtain ⟨A2, n2, c2, rfl, hn2⟩ := OwnE.shape ho3; have ho3 := Lib.hid ho3; have hb3 := Lib.hid hb3; have hg4 := Lib.hid hg4; have hl4 := Lib.hid hl4)
        | (refine wpList_entryStore_a _ rfl (.tmp 12) (.tmp 21) (.tmp 20) 72 rfl rfl hE.out ?hb rfl (.slice A2 n2 c2) rfl ?_; rotate_left 1; intro w4 hA4 hg5 hs5))
      case ho =>
        obtain ⟨hA, hf, hd, how, hB2, hBA, kn⟩ := hall.out
        exact how.of_block fun g hg => hg3.out.block g (how.lt g hg).2 fun e => how.ne_map hA (by rw [hg, e])
      case hn =>
        obtain ⟨hA, hf, hd, how, hB2, hBA, kn⟩ := hall.out
        exact els_one (E := ElI) (t := 3) (cs := #[.int .i64 q]) ((hg3.out.block _ kn.lt (by simp; omega)).trans kn) rfl
      case hl =>
        have := endsF_len K (p, a)
        have := hl.out
        omega
      case hs =>
        obtain ⟨hA, hf, hd, how, hB2, hBA, kn⟩ := hall.out
        omega
      case hb =>
        obtain ⟨hA, hf, hd, how, hB2, hBA, kn⟩ := hall.out
        have hlt := hA.lt
        exact hg4.out.block _ (by have := hg3.out.size; omega) fun e => how.ne_map hA e.symm
      obtain ⟨hA, hf, hd, how, hB2, hBA, kn⟩ := hall.out
      have hnew := SInv.put hA hf hd (wa := w2) (fun g hg hne => hg3.out.block g hg (by intro e; cases e; exact hne rfl)) hg3.out.size ho3.out (by rw [hv0.out]; exact hg4.out) (by rw [hv0.out]; exact hl4.out) hA4 hg5
      have hfe : (fun h => if h = (p, a) then endsF K (p, a) ++ [q] else endsF K h) = endsF (K ++ [(p, a, q)]) := by
        funext h
        rw [endsF_snoc]
        by_cases e : h = (p, a)
        · rw [if_pos e, if_pos e.symm, e]
        · rw [if_neg e, if_neg (fun e' => e e'.symm)]
      rw [hfe] at hnew
      have hbb : b < w.heap.size := hbl.out
      have hBX : Below w.heap.size w' w4 := by
        have x1 := hBA.mono (B' := w.heap.size) (by omega)
        have x2 := below_of_grown hg3.out (B := w.heap.size) (by omega) (by intro k e; cases e; omega)
        have x3 := hb3.out
        have x4 := below_of_grown hg5 (B := w.heap.size) (by have := hg3.out.size; have := hg4.out.size; omega) (by intro k e; cases e; omega)
        exact ((x1.trans x2).trans x3).trans x4
      have hrr : w4.heap[w.heap.size + 1]? = w'.heap[w.heap.size + 1]? := by
        have hne : v0.ownBlock ≠ some (w.heap.size + 1) := by
          obtain ⟨_, _, _, _, _, _, _, _, _, _, h6, _⟩ := hI2.out
          exact how.ne_obj ((hBA.block _ hbr).trans h6) (fun _ h => by cases h)
        rw [hg5.block _ (by have := hg3.out.size; have := hg4.out.size; omega) (by simp), hg4.out.block _ (by have := hg3.out.size; omega) (fun e => hne e.symm), hg3.out.block _ (by omega) (by simp), hBA.block _ hbr]
      have hI4 : AIter mv w4 b (w.heap.size + 1) (cval L) (pre ++ post) := by
        exact hI2.out.of_block (hBX.block b hbb) hrr
      refine ⟨⟨pre ++ post, hI4, K ++ [(p, a, q)], hnew, ?_, ?_, hB2.trans hBX⟩, ?_⟩
      · intro x1 x2 x3
        have h1 := hk.out (x1, x2, x3)
        rw [hleft.out] at h1
        rw [ex_mem (l := L), ← h1]
        rw [ex_mem (l := pre ++ post)]
        simp only [List.mem_append, List.map_append, List.map_cons, List.mem_cons]
        generalize (x1, x2, x3) = k
        simp only [List.not_mem_nil, or_false]
        constructor
        · rintro ((h | h) | h | h) <;> simp [h]
        · rintro (h | h | h | h) <;> simp [h]
      · have h1 := hl.out
        rw [hleft.out] at h1
        show (K ++ [(p, a, q)]).length + (pre ++ post).length = L.length
        simp at h1 ⊢
        omega
      · rw [hI4.count]
        have h1 := hcnt.out
        rw [hz] at h1
        rw [h1, hleft.out]
        simp only [List.length_append, List.length_cons]
        omega
end Go.Proofs.YtaapnflhjbdmlaaDoor
