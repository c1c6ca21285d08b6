/- Layers: the hulls of what is left. No condition. -/
import Derived.Test.YthnabheibacbcaaF22
namespace Go.Proofs.Ythnabheibacbcaa
open Go.RowKit

def lenV : Value → Nat
  | .slice _ n _ => n
  | _ => 0

set_option maxHeartbeats 2000000 in
set_option maxRecDepth 100000 in
theorem Layers_ok (w : World) (v : Value) (l : List Pt) (h : Pts w v l) (hc : checkB l = true) (hg : genB l = true) :
    Calls Try.prog 24 #[v] w fun e w' => ∃ v' os, e = .returned (.tuple #[v', .int .i64 0]) ∧ OwnRows w.heap.size 33 w' v' ((laysL (tur l) os.length os).map nats) ∧ Ordd l os ∧ Below w.heap.size w w' := by
  have hgen := gen_of hc hg
  obtain ⟨A, n, cap, rfl, hn⟩ := h.shape
  have h1 : 1 ≤ l.length := by unfold checkB at hc; simp at hc; omega
  have H := Lib.hid (open_ok w _ l 1 h hc hg (by omega))
  have hn14 : l.length ≤ 14 := by unfold checkB at hc; simp at hc; exact hc.1.2
  have hmf : ∀ (fn : Fn) (first cap : Array Value) (w : World), (Instr.makeFunc fn first cap).run Try.prog w = .ok (.func fn first cap) w := fun _ _ _ _ => rfl
  replace hgen := Lib.hid hgen
  clear h hc hg
  go_enter Try.func24, Try.ntmps24
  go_upto_region 6 with first
    | (go_at_call 54; refine H.out.mono ?_; rintro e w1 ⟨g, os, rfl, hg1, hord, hP, hb⟩; obtain ⟨v1, o1, hT, hp, ho⟩ := hP; have hgl := hT.lt; have hz1 := hb.size; have hoc := hT.order; have hol := hord.1.length_eq; rw [List.length_range] at hol; have ho14 : os.length ≤ 14 := (by omega); have ho1 : 1 ≤ os.length := (by omega); have ht := Lib.hid (show ∀ i j k, i < l.length → j < l.length → k < l.length → w1.cell? ⟨g, 1 + i * 196 + j * 14 + k, none⟩ = some (.int .i8 (tur l i j k)) from fun i j k a b c => by
      have := hT.turn i j k (by omega) (by omega) (by omega)
      rwa [if_pos ⟨a, b, c⟩] at this); have hcl := Lib.hid (clone_any w1 o1 _ (OwnI.ints ho) (by rw [nats_length]; omega)); replace hb := Lib.hid hb; replace hord := Lib.hid hord; replace hol := Lib.hid hol; clear hp hT ho)
    | (go_at_call 59; refine hcl.out.mono ?_; rintro e w2 ⟨v2, rfl, ho2, hb2⟩; obtain ⟨gl, cap2, rfl, hgl1, hgl2, hcn2, hcm2, -, -⟩ := OwnI.open ho2 (by rw [nats_length]; omega); replace ho2 := Lib.hid ho2; replace hb2 := Lib.hid hb2)
  have hen : (nats os).length = os.length := nats_length os
  rw [hen] at ho2 hcn2
  rw [hen]
  unfold maxLen at hcm2
  go_loopw [6, 7] (fun c6 c7 wr => ∃ (so : List Nat) (done : List (List Nat)) (k m : Nat) (A6 : Option Addr) (n6 C6 : Nat), c6 = .slice A6 n6 C6 ∧ c7 = .slice (some ⟨gl, 0, none⟩) m cap2 ∧ m ≤ os.length ∧ Hid (m = so.length) ∧ Hid (OwnI w1.heap.size 3 wr (.slice (some ⟨gl, 0, none⟩) m cap2) (nats so)) ∧
    Hid (so.Sublist os) ∧ Hid (RowsAp w1.heap.size gl wr (.slice A6 n6 C6) (done.map nats)) ∧ Hid (done ++ laysL (tur l) k so = laysL (tur l) os.length os) ∧ Hid (so.length ≤ k) ∧ Hid (Below w1.heap.size w1 wr) ∧ Hid (done.length + so.length ≤ os.length)) (fun _ c _ => lenV c)
  case atStart => exact ⟨os, [], os.length, os.length, none, 0, 0, rfl, rfl, Nat.le_refl _, rfl, ho2, Lib.hid (List.Sublist.refl _), Lib.hid (RowsAp.nil _ _ _), Lib.hid rfl, Lib.hid (Nat.le_refl _), hb2, Lib.hid (by simp)⟩
  case round =>
    obtain ⟨so, done, k, m, A6, n6, C6, rfl, rfl, hm, hmo, hO, hS, hR, hd, hk, hB, hdl⟩ := hrel
    by_cases hlt : (m : Int) > 0
    case neg =>
      have h0 : so = [] := List.eq_nil_of_length_eq_zero (by rw [← hmo.out]; omega)
      go_wp2
      go_ret2
      refine ⟨_, rfl, os, ?_, hord.out, bthen hb.out hB.out⟩
      have := hd.out
      rw [h0, laysL_stop, List.append_nil] at this
      rw [← this]
      exact OwnL.lo_le hR.out.rows hz1
    have hne : so ≠ [] := by intro e; have := hmo.out; rw [e] at this; simp at this; omega
    have hIs := rest_isH hgen.out hord.out hS.out hne
    have hlenr := restL_len hIs
    have hos : ∀ x ∈ so, x < l.length := fun x hx => by have := hord.out.1.mem_iff.1 (hS.out.subset hx); simpa using this
    have hH := Lib.hid (hull_any wr g l.length (tur l) _ so (fun i j k a b c => cell_below (ht.out i j k a b c) hB.out) hn14 (OwnI.ints hO.out) hos (by rw [← hmo.out]; omega))
    have hst := Lib.hid (laysL_step (tur l) hne hk.out)
    have hzr := hB.out.size
    have hlo6 := Lib.hid (OwnL.lt hR.out.1)
    have hnb6 := Lib.hid hR.out.2
    replace hlenr := Lib.hid hlenr
    clear hIs hos hne
    go_upto_region 8 with (go_at_call 60; refine hH.out.mono ?_; rintro e w3 ⟨v3, rfl, hv3, hb3⟩; obtain ⟨A3, n3, c3, rfl, hn3⟩ := OwnL.shape hv3; have hz3 := hb3.size; have f1 := one_cell (w := w3) (v := .slice none 0 0) (t := 33); have f2 := one_free (w := w3) (v := .slice none 0 0) (t := 33); replace hv3 := Lib.hid hv3; replace hb3 := Lib.hid hb3)
    have hsl3 := Lib.hid (OwnL.slc hv3.out)
    have k4 := one_cell (w := w3) (v := .slice A3 n3 c3) (t := 33)
    have hB4 := Lib.hid (hb3.out.trans ((below1 w3 (.cells #[.slice A3 n3 c3] 33)).mono hz3))
    have hz4 : (w3.alloc (.cells #[.slice A3 n3 c3] 33)).heap.size = w3.heap.size + 1 := by simp
    have hsl4 := Lib.hid (Slc.keep hsl3.out (fun b hb hlt => ⟨hb, (below1 w3 (.cells #[.slice A3 n3 c3] 33)).block b hlt⟩) fun _ _ _ h => h)
    obtain ⟨bx, hbx⟩ : ∃ bx, w3.heap.size = bx := ⟨_, rfl⟩
    obtain ⟨W4, hW4⟩ : ∃ W4, w3.alloc (.cells #[.slice A3 n3 c3] 33) = W4 := ⟨_, rfl⟩
    rw [hW4, hbx] at k4
    rw [hW4] at hB4 hz4 hsl4 ⊢
    rw [hbx] at hz4 hz3 ⊢
    clear hW4 hbx hv3 hb3 hsl3 f1 f2
    obtain ⟨HL, hHL⟩ : ∃ HL, hullL (tur l) so = HL := ⟨_, rfl⟩
    rw [hHL] at hst hlenr hsl4
    have hglr := (OwnL.lt hO.out gl rfl).2
    have hR4 := Lib.hid (RowsAp.below hR.out (Nat.le_refl _) hB4.out)
    have hO4 := Lib.hid (OwnL.below hO.out (Nat.le_refl _) hB4.out)
    have hBw4 := Lib.hid (hB.out.trans (hB4.out.mono hzr))
    have hne6 := Lib.hid (show ∀ b, wr.heap.size ≤ b → Value.ownBlock (.slice A6 n6 C6) ≠ some b from fun b hb e => by have := (hlo6.out b e).2; omega)
    clear hHL hR hO hB hlo6 hB4
    go_upto_region 9 with (at_builtin; refine wpList_append_rowAp (v := .slice A6 n6 C6) rfl (.tmp 28) (.tmp 30) 40 rfl Try.underlying40 info33 rfl rfl hR4.out rfl hz4.symm hsl4.out (fun b hb => ⟨hne6.out b hb.1, by omega⟩) (by omega) (by rw [List.length_map]; have := hdl.out; omega) (by omega) ?_; intro v6 w6 hR6 hB6 hG6; obtain ⟨A7, n7, C7, rfl, -⟩ := RowsAp.shape hR6; replace hR6 := Lib.hid hR6; replace hB6 := Lib.hid hB6; replace hG6 := Lib.hid hG6)
    have hO6 := Lib.hid (OwnL.kept hO4.out hG6.out (.inr (fun e => hnb6.out e.symm)))
    have hb6 := Lib.hid (gcell hG6.out k4 (fun e => hne6.out bx hz3 e.symm))
    have hs6 := Lib.hid (show Slc (· ≠ gl) isI w6 (.slice A3 n3 c3) (nats HL) from Slc.keep hsl4.out (fun b hb hlt => ⟨by show b ≠ gl; have := hb.1; omega, hG6.out.block b hlt (fun e => hne6.out b hb.1 e.symm)⟩) fun _ _ _ h => h)
    have hdel := Lib.hid (deleteF_any w1.heap.size w6 gl m cap2 bx (nats so) (.slice A3 n3 c3) (nats HL) hO6.out hb6.out (by omega) hs6.out)
    clear hH
    go_wp2_with (go_at_call 61; refine hdel.out.mono ?_; rintro e w7 ⟨i7, rfl, hO7, hG7⟩; have hl7 := (own_len hO7).1; rw [dropB_nats] at hO7 hl7; rw [nats_length] at hl7; replace hl7 := Lib.hid hl7; replace hO7 := Lib.hid hO7; replace hG7 := Lib.hid hG7)
    go_roundw
    case rel =>
      have hr := restL_sub HL so
      have h7 := hr.length_le
      have h8 := hmo.out
      have h9 := hlenr.out
      have h10 := hk.out
      have h11 := hdl.out
      have h12 := hl7.out
      refine ⟨restL HL so, done ++ [HL], k - 1, i7, A7, n7, C7, rfl, rfl, by omega, hl7, hO7, Lib.hid (hr.trans hS.out), Lib.hid ?_, Lib.hid ?_, Lib.hid (by omega), Lib.hid ?_, Lib.hid (by rw [List.length_append]; simp; omega)⟩
      · rw [List.map_append]; exact RowsAp.kept hR6.out hG7.out
      · have := hd.out
        rw [hst.out] at this
        rw [List.append_assoc]
        exact this
      · refine (hBw4.out.trans (hB6.out.mono (Nat.le_refl _))).trans ?_
        exact below_of_grown hG7.out (by have := hB6.out.size; have := hBw4.out.size; omega) (fun k e => by injection e with e; omega)
    case measure => have h12 := hl7.out; have h8 := hmo.out; have h9 := hlenr.out; simp only [lenV]; omega
end Go.Proofs.Ythnabheibacbcaa
