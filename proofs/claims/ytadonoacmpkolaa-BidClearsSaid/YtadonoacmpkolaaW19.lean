/- offer, tame. -/
import Derived.Test.YtadonoacmpkolaaW11
namespace Go.Proofs.Ytadonoacmpkolaa
open Go.RowKit
attribute [local go_sem high] walk_shl walk_shr walk_bit walk_rem walk_and walk_or walk_andNot

/-- what a bidder may offer, of small numbers -/
def offd (m : Nat) (o : List Int) : Prop := isBidB m o = true ∧ ∀ s, at0 o s ≤ 39

/-- the table below 'set' is done -/
def offT (m : Nat) (f : Nat → Int) (set : Nat) : Prop := f 0 = 0 ∧ (∀ s, 0 ≤ f s ∧ f s ≤ 39) ∧ (∀ s, s < set → ∀ i, i < m → bitOf s i = 1 → f (andN s (p2 i)) ≤ f s)
/-- .. and at 'set' for the first items -/
def offU (f : Nat → Int) (set k : Nat) : Prop := ∀ i, i < k → bitOf set i = 1 → f (andN set (p2 i)) ≤ f set

theorem andN_lt {s i : Nat} (h : bitOf s i = 1) : andN s (p2 i) < s := by
  have hle := andN_le s (p2 i)
  have hne : andN s (p2 i) ≠ s := by
    intro e
    have h1 := testBit_andN s (p2 i) i
    rw [e, testBit_p2] at h1
    rw [testBit_bitOf] at h
    cases hb : s.testBit i
    · rw [hb] at h; simp at h
    · rw [hb] at h1; simp at h1
  omega

theorem offT_upd {m : Nat} {f : Nat → Int} {set : Nat} (h : offT m f set) (h1 : 1 ≤ set) {x : Int} (hx : 0 ≤ x ∧ x ≤ 39) : offT m (upd f set x) set := by
  obtain ⟨h0, hb, hs⟩ := h
  refine ⟨by unfold upd; rw [if_neg (by omega)]; exact h0, fun s => ?_, fun s hlt i hi hbit => ?_⟩
  · unfold upd
    split
    · exact hx
    · exact hb s
  have := andN_lt hbit
  unfold upd
  rw [if_neg (by omega), if_neg (by omega)]
  exact hs s hlt i hi hbit
theorem offU_upd {f : Nat → Int} {set k : Nat} (h : offU f set k) {x : Int} (hx : f set ≤ x) (hk : bitOf set k = 1 → f (andN set (p2 k)) ≤ x) : offU (upd f set x) set (k + 1) := by
  intro i hi hbit
  have := andN_lt hbit
  unfold upd
  rw [if_neg (by omega), if_pos rfl]
  by_cases e : i = k
  · subst e; exact hk hbit
  · exact Int.le_trans (h i (by omega) hbit) hx
theorem offU_next {f : Nat → Int} {set k : Nat} (h : offU f set k) (hk : ¬ bitOf set k = 1) : offU f set (k + 1) := by
  intro i hi hbit
  by_cases e : i = k
  · subst e; exact absurd hbit hk
  · exact h i (by omega) hbit
theorem offT_next {m : Nat} {f : Nat → Int} {set : Nat} (h : offT m f set) (hu : offU f set m) : offT m f (set + 1) := by
  refine ⟨h.1, h.2.1, fun s hlt i hi hbit => ?_⟩
  by_cases e : s = set
  · subst e; exact hu i hi hbit
  · exact h.2.2 s (by omega) i hi hbit
theorem offT_done {m N : Nat} {f : Nat → Int} (hN : N = p2 m) (h : offT m f N) : offd m (tab N f) := by
  have hp := p2_pos m
  refine ⟨isBidB_yes (by rw [tab_length, hN]) (by rw [at0_tab, if_pos (by omega)]; exact h.1) fun s hs => ?_, fun s => ?_⟩
  · rw [tab_length] at hs
    have hb := h.2.1 s
    have e : at0 (tab N f) s = f s := by rw [at0_tab, if_pos hs]
    refine offOk_yes (by rw [e]; exact hb.1) (by rw [e]; omega) fun i hi hh => ?_
    have hle := andN_le s (p2 i)
    have e2 : at0 (tab N f) (andN s (p2 i)) = f (andN s (p2 i)) := by rw [at0_tab, if_pos (by omega)]
    rw [e, e2] at hh
    have := h.2.2 s hs i hi hh.1
    omega
  · rw [at0_tab]
    split
    · exact (h.2.1 s).2
    · decide

theorem num40 (x : Int) : 0 ≤ wrap64 ((IntKind.u64.wrap x).tmod 40) ∧ wrap64 ((IntKind.u64.wrap x).tmod 40) ≤ 39 := by
  have h0 : 0 ≤ IntKind.u64.wrap x := by simp [IntKind.wrap, IntKind.signed, IntKind.bits]; omega
  have h1 : (IntKind.u64.wrap x).tmod 40 = IntKind.u64.wrap x % 40 := Int.tmod_eq_emod_of_nonneg h0
  rw [h1]
  generalize IntKind.u64.wrap x = y at *
  unfold wrap64
  omega

set_option maxRecDepth 100000 in
set_option maxHeartbeats 1600000 in
theorem offer_any (w : World) (v : Value) (l : List Int) (m : Nat) (h : Ints w v l) (hm1 : 1 ≤ m) (hm : m ≤ 6) :
    Calls Try.prog 38 #[.int .i64 (m : Int), v] w fun e w' => ∃ v' o, e = .returned v' ∧ OwnI w.heap.size 2 w' v' o ∧ offd m o ∧ Below w.heap.size w w' := by
  have hs6 : smallS m := smallS_of (by omega)
  have h64 := p2_le64 hm
  have hN2 : 2 ≤ p2 m := by have := p2_le hm1; simpa [p2] using this
  obtain ⟨A, cap, rfl, hl, hcap, hn, hat⟩ := h.open
  replace hat := Lib.hid hat
  clear hn h
  unfold maxLen at hcap
  obtain ⟨N, hN⟩ : ∃ N, N = p2 m := ⟨_, rfl⟩
  rw [← hN] at h64 hN2
  go_enter Try.func38, Try.ntmps38
  go_wp2_with (at_make; refine wpList_make_ints rfl _ _ 27 rfl w.heap.size 2 Try.underlying27 info2 (p2 m) rfl rfl (by omega) (Nat.le_refl _) _ rfl ?_; intro w1 ho hg hsz; rw [← hN] at ho ⊢; replace hN := Lib.hid hN; replace ho := Lib.hid ho; replace hg := Lib.hid hg)
  go_loopw [6] (fun i wr => ∃ (s : Nat) (f : Nat → Int), 1 ≤ s ∧ s ≤ N ∧ i = .int .i64 s ∧ Hid (OwnT w.heap.size 2 wr w.heap.size N N f) ∧ Hid (offT m f s) ∧ Hid (Below w.heap.size w wr)) (fun i _ => N - (intOf i).toNat)
  case atStart => exact ⟨1, _, by omega, by omega, rfl, ho.out, ⟨rfl, fun s => ⟨Int.le_refl _, (by decide : (0 : Int) ≤ 39)⟩, fun s _ i _ _ => Int.le_refl _⟩, hg.out⟩
  case round =>
    clear ho hg hsz
    obtain ⟨s, f, hs1, hs, rfl, ho, hT, hB⟩ := hrel
    by_cases hlt : s < N
    · have hlt' : ((s : Int) < ((p2 m : Nat) : Int)) := by rw [← hN.out]; omega
      have hss : small s := small_of (by omega)
      have hd3 : wr.cell? ⟨w.heap.size, s, none⟩ = some (.int .i64 (f s)) := ho.out.at s hlt
      have hf2 := ho.out.free s (by omega)
      have hst := Lib.hid (fun x => (ho.out.set s x))
      have hB2 := Lib.hid (fun x => hB.out.setCell (p := ⟨w.heap.size, s, none⟩) (Nat.le_refl _) x)
      have hT2 := Lib.hid (fun x (hx : 0 ≤ x ∧ x ≤ 39) => offT_upd hT.out hs1 hx)
      rcases Classical.em ((s : Int) < (l.length : Int)) with hsl | hsl
      · obtain ⟨b1, o1, rfl, hc1⟩ := hat.out s (by omega)
        replace hc1 : wr.cell? ⟨b1, o1 + s, none⟩ = some (.int .i64 (at0 l s)) := by
          rw [hB.out.cell (p := ⟨b1, o1 + s, none⟩) (lt_of_cell hc1)]; exact hc1
        have hx40 := Lib.hid (num40 (at0 l s))
        go_wp2
        generalize wrap64 ((IntKind.u64.wrap (at0 l s)).tmod 40) = x at *
        have hstart : Hid (∃ f', OwnT w.heap.size 2 (wr.setCell ⟨w.heap.size, s, none⟩ (.int .i64 x)) w.heap.size N N f' ∧ offT m f' s ∧ Below w.heap.size w (wr.setCell ⟨w.heap.size, s, none⟩ (.int .i64 x))) :=
          ⟨_, hst.out x, hT2.out x hx40.out, hB2.out _⟩
        clear hd3 hf2 hst hB2 hT2 hx40 hc1 ho hT hB
        go_loopw [7] (fun i W => ∃ (k : Nat) (f' : Nat → Int), k ≤ m ∧ i = .int .i64 k ∧ Hid (OwnT w.heap.size 2 W w.heap.size N N f') ∧ Hid (offT m f' s) ∧ Hid (offU f' s k) ∧ Hid (Below w.heap.size w W)) (fun i _ => m - (intOf i).toNat)
        case atStart =>
          obtain ⟨f', h1, h2, h3⟩ := hstart.out
          exact ⟨0, f', Nat.zero_le _, rfl, h1, h2, fun i hi => absurd hi (by omega), h3⟩
        case round =>
          clear hstart
          obtain ⟨k, f', hk, rfl, ho, hT, hU, hB⟩ := hrel
          by_cases hkm : k < m
          · have hsk : smallS k := smallS_of (by omega)
            have hpk := p2_le (m := k) (k := 6) (by omega)
            have hskp : small (p2 k) := small_of (by unfold p2 at *; omega)
            by_cases hb : bitOf s k = 1
            · have hbb := bitOf_is hb
              have hle := andN_lt hb
              have hd1 : wr.cell? ⟨w.heap.size, s, none⟩ = some (.int .i64 (f' s)) := ho.out.at s hlt
              have hd2 : wr.cell? ⟨w.heap.size, andN s (p2 k), none⟩ = some (.int .i64 (f' (andN s (p2 k)))) := ho.out.at _ (by omega)
              have hf2 := ho.out.free s (by omega)
              have hres : Hid (∃ f'', OwnT w.heap.size 2 (wr.setCell ⟨w.heap.size, s, none⟩ (.int .i64 (if f' s < f' (andN s (p2 k)) then f' (andN s (p2 k)) else f' s))) w.heap.size N N f'' ∧ offT m f'' s ∧ offU f'' s (k + 1) ∧
                  Below w.heap.size w (wr.setCell ⟨w.heap.size, s, none⟩ (.int .i64 (if f' s < f' (andN s (p2 k)) then f' (andN s (p2 k)) else f' s)))) := by
                refine ⟨_, ho.out.set s _, offT_upd hT.out hs1 ?_, offU_upd hU.out ?_ ?_, hB.out.setCell (p := ⟨w.heap.size, s, none⟩) (Nat.le_refl _) _⟩
                · have h1 := hT.out.2.1 s; have h2 := hT.out.2.1 (andN s (p2 k)); split <;> assumption
                · split <;> omega
                · intro _; split <;> omega
              replace hb := Lib.hid hb
              generalize f' (andN s (p2 k)) = y at *
              generalize f' s = z at *
              clear ho hT hU hB
              go_wp2
              go_region
              go_wp2
              go_roundw
              case rel =>
                obtain ⟨f'', h1, h2, h3, h4⟩ := hres.out
                exact ⟨k + 1, f'', by omega, by go_num, h1, h2, h3, below_drewN h4 1⟩
              case measure => simp [intOf]; omega
            · have hbb := bitOf_ne hb
              replace hb := Lib.hid hb
              go_wp2
              go_roundw
              case rel => exact ⟨k + 1, f', by omega, by go_num, ho.out, hT.out, offU_next hU.out hb.out, hB.out⟩
              case measure => simp [intOf]; omega
          · obtain rfl : k = m := by omega
            go_wp2
            go_roundw
            case rel => exact ⟨s + 1, f', by omega, by omega, by go_num, ho.out, offT_next hT.out hU.out, hB.out⟩
            case measure => simp [intOf]; omega
      · have hstart : Hid (∃ f', OwnT w.heap.size 2 wr w.heap.size N N f' ∧ offT m f' s ∧ Below w.heap.size w wr) := ⟨_, ho.out, hT.out, hB.out⟩
        clear hd3 hf2 hst hB2 hT2 ho hT hB
        go_wp2
        go_loopw [7] (fun i W => ∃ (k : Nat) (f' : Nat → Int), k ≤ m ∧ i = .int .i64 k ∧ Hid (OwnT w.heap.size 2 W w.heap.size N N f') ∧ Hid (offT m f' s) ∧ Hid (offU f' s k) ∧ Hid (Below w.heap.size w W)) (fun i _ => m - (intOf i).toNat)
        case atStart =>
          obtain ⟨f', h1, h2, h3⟩ := hstart.out
          exact ⟨0, f', Nat.zero_le _, rfl, h1, h2, fun i hi => absurd hi (by omega), h3⟩
        case round =>
          clear hstart
          obtain ⟨k, f', hk, rfl, ho, hT, hU, hB⟩ := hrel
          by_cases hkm : k < m
          · have hsk : smallS k := smallS_of (by omega)
            have hpk := p2_le (m := k) (k := 6) (by omega)
            have hskp : small (p2 k) := small_of (by unfold p2 at *; omega)
            by_cases hb : bitOf s k = 1
            · have hbb := bitOf_is hb
              have hle := andN_lt hb
              have hd1 : wr.cell? ⟨w.heap.size, s, none⟩ = some (.int .i64 (f' s)) := ho.out.at s hlt
              have hd2 : wr.cell? ⟨w.heap.size, andN s (p2 k), none⟩ = some (.int .i64 (f' (andN s (p2 k)))) := ho.out.at _ (by omega)
              have hf2 := ho.out.free s (by omega)
              have hres : Hid (∃ f'', OwnT w.heap.size 2 (wr.setCell ⟨w.heap.size, s, none⟩ (.int .i64 (if f' s < f' (andN s (p2 k)) then f' (andN s (p2 k)) else f' s))) w.heap.size N N f'' ∧ offT m f'' s ∧ offU f'' s (k + 1) ∧
                  Below w.heap.size w (wr.setCell ⟨w.heap.size, s, none⟩ (.int .i64 (if f' s < f' (andN s (p2 k)) then f' (andN s (p2 k)) else f' s)))) := by
                refine ⟨_, ho.out.set s _, offT_upd hT.out hs1 ?_, offU_upd hU.out ?_ ?_, hB.out.setCell (p := ⟨w.heap.size, s, none⟩) (Nat.le_refl _) _⟩
                · have h1 := hT.out.2.1 s; have h2 := hT.out.2.1 (andN s (p2 k)); split <;> assumption
                · split <;> omega
                · intro _; split <;> omega
              replace hb := Lib.hid hb
              generalize f' (andN s (p2 k)) = y at *
              generalize f' s = z at *
              clear ho hT hU hB
              go_wp2
              go_region
              go_wp2
              go_roundw
              case rel =>
                obtain ⟨f'', h1, h2, h3, h4⟩ := hres.out
                exact ⟨k + 1, f'', by omega, by go_num, h1, h2, h3, below_drewN h4 1⟩
              case measure => simp [intOf]; omega
            · have hbb := bitOf_ne hb
              replace hb := Lib.hid hb
              go_wp2
              go_roundw
              case rel => exact ⟨k + 1, f', by omega, by go_num, ho.out, hT.out, offU_next hU.out hb.out, hB.out⟩
              case measure => simp [intOf]; omega
          · obtain rfl : k = m := by omega
            go_wp2
            go_roundw
            case rel => exact ⟨s + 1, f', by omega, by omega, by go_num, ho.out, offT_next hT.out hU.out, hB.out⟩
            case measure => simp [intOf]; omega
    · obtain rfl : s = N := by omega
      have hlt' : ¬ ((s : Int) < ((p2 m : Nat) : Int)) := by rw [← hN.out]; omega
      have hdone := Lib.hid (offT_done hN.out hT.out)
      go_wp2
      go_ret
      exact ⟨_, rfl, _, ho.out, hdone.out, hB.out⟩
theorem ints_nil (w : World) : Ints w (.slice none 0 0) [] := ⟨none, 0, rfl, Nat.le_refl _, Nat.zero_le _, fun _ => rfl, fun i hi => absurd hi (by simp)⟩
/-- rows of small offers -/
def Tame (m : Nat) (xs : List (List Int)) : Prop := ∀ l ∈ xs, offd m l
theorem Tame.snoc {m : Nat} {xs : List (List Int)} {o : List Int} (h : Tame m xs) (ho : offd m o) : Tame m (xs ++ [o]) := by
  intro l hl
  rcases List.mem_append.1 hl with h1 | h1
  · exact h l h1
  · rw [List.mem_singleton.1 h1]; exact ho
theorem Tame.bids {m : Nat} {xs : List (List Int)} (h : Tame m xs) (m1 : 1 ≤ m) (m6 : m ≤ 6) (l1 : 1 ≤ xs.length) (l6 : xs.length ≤ 6) : Bids m xs := ⟨m1, m6, l1, l6, fun l hl => (h l hl).1⟩
theorem items4 (x : Int) : ∃ k : Nat, 1 ≤ k ∧ k ≤ 4 ∧ wrap64 (1 + wrap64 ((IntKind.u64.wrap x).tmod 4)) = (k : Int) := by
  have h0 : 0 ≤ IntKind.u64.wrap x := by simp [IntKind.wrap, IntKind.signed, IntKind.bits]; omega
  have h1 : (IntKind.u64.wrap x).tmod 4 = IntKind.u64.wrap x % 4 := Int.tmod_eq_emod_of_nonneg h0
  rw [h1]
  generalize IntKind.u64.wrap x = y at *
  refine ⟨(1 + y % 4).toNat, by omega, by omega, ?_⟩
  unfold wrap64
  omega

set_option maxRecDepth 100000 in
set_option maxHeartbeats 1600000 in
theorem tame_any (w : World) (v : Value) (xs : List (List Int)) (m : Int) (h : Rows2 w v xs) :
    Calls Try.prog 21 #[.int .i64 m, v] w fun e w' => ∃ (v' : Value) (k : Nat) (ys : List (List Int)), e = .returned (.tuple #[.int .i64 (k : Int), v']) ∧ 1 ≤ k ∧ k ≤ 4 ∧ OwnRows w.heap.size 27 w' v' ys ∧ 1 ≤ ys.length ∧ ys.length ≤ 4 ∧ Tame k ys ∧ Below w.heap.size w w' := by
  obtain ⟨K, hK1, hK4, hK⟩ := items4 m
  obtain ⟨A, cap, rfl, hl, hcap, hn, hat⟩ := h.open
  replace hat := Lib.hid hat
  clear hn h
  unfold maxLen at hcap
  go_enter Try.func21, Try.ntmps21
  go_wp2
  rw [hK]
  replace hK := Lib.hid hK
  go_loopw [6, 7] (fun o i wr => ∃ (k : Nat) (ys : List (List Int)), k ≤ xs.length ∧ k ≤ 4 ∧ i = .int .i64 k ∧ Hid (OwnRows w.heap.size 27 wr o ys) ∧ Hid (ys.length = k) ∧ Hid (Tame K ys) ∧ Hid (Below w.heap.size w wr)) (fun _ i _ => 4 - (intOf i).toNat)
  case atStart => exact ⟨0, [], Nat.zero_le _, Nat.zero_le _, rfl, own_nil _ _ _, rfl, (fun l hl => by cases hl), Below.refl _ _⟩
  case round =>
    obtain ⟨k, ys, hk, hk4, rfl, ho, hyl, hT, hB⟩ := hrel
    by_cases hlt : k < xs.length ∧ k < 4
    · obtain ⟨hlt, hlt4⟩ := hlt
      have hlt4' : (k : Int) < 4 := by omega
      obtain ⟨b1, o1, A1, cap1, rfl, hc1, hi1⟩ := hat.out k hlt
      replace hc1 : wr.cell? ⟨b1, o1 + k, none⟩ = some (.slice A1 (rowAt xs k).length cap1) := by
        rw [hB.out.cell (p := ⟨b1, o1 + k, none⟩) (lt_of_cell hc1)]; exact hc1
      replace hi1 := Lib.hid (Ints.below hi1 (Nat.le_refl _) hB.out)
      go_wp2_with (first
       | (go_at_call 38; refine (offer_any _ _ _ K hi1.out hK1 (by omega)).mono ?_; rintro e w2 ⟨v1, oo, rfl, h1, hof, h2⟩; obtain ⟨A1, n1, d1, rfl, hn1⟩ := OwnL.shape h1; replace h1 := Lib.hid h1; replace h2 := Lib.hid h2; replace hof := Lib.hid hof)
       | (at_builtin; refine wpList_append_row rfl (.tmp 23) (.tmp 30) 22 rfl w.heap.size 27 Try.underlying22 info27 _ _ rfl rfl (OwnRows.below ho.out (Nat.le_refl _) h2.out) rfl rfl (OwnL.slc h1.out) (OwnL.apart ho.out) (by rw [hyl.out]; omega) (Nat.le_trans hB.out.size h2.out.size) ?_; intro v' w' h3 h4 h5; replace h3 := Lib.hid h3; replace h4 := Lib.hid h4; clear h5))
      go_roundw
      case rel => exact ⟨k+1, _, by omega, by omega, by go_num, h3.out, by rw [List.length_append, hyl.out]; rfl, hT.out.snoc hof.out, (hB.out.trans (h2.out.mono hB.out.size)).trans h4.out⟩
      case measure => simp [intOf]; omega
    · obtain ⟨A9, n9, d9, rfl, hn9⟩ := OwnL.shape ho.out
      rw [hyl.out] at hn9
      obtain rfl := hn9.out
      have hcs : ((n9 : Int) < (xs.length : Int) ∧ ¬ (n9 : Int) < 4) ∨ ¬ (n9 : Int) < (xs.length : Int) := by omega
      clear hlt
      have hz : n9 = 0 ∨ (¬ n9 = 0 ∧ 1 ≤ n9) := by omega
      rcases hz with rfl | ⟨hz, hz1⟩
      · have hys : ys = [] := List.eq_nil_of_length_eq_zero hyl.out
        subst hys
        have hcs' : ¬ (0 : Int) < (xs.length : Int) := by omega
        clear hcs
        go_wp2_with (first
         | (go_at_call 38; refine (offer_any _ _ _ K (ints_nil _) hK1 (by omega)).mono ?_; rintro e w2 ⟨v1, oo, rfl, h1, hof, h2⟩; obtain ⟨A1, n1, d1, rfl, hn1⟩ := OwnL.shape h1; replace h1 := Lib.hid h1; replace h2 := Lib.hid h2; replace hof := Lib.hid hof)
         | (at_builtin; refine wpList_append_row rfl (.tmp 35) (.tmp 38) 22 rfl w.heap.size 27 Try.underlying22 info27 _ _ rfl rfl (OwnRows.below ho.out (Nat.le_refl _) h2.out) rfl rfl (OwnL.slc h1.out) (OwnL.apart ho.out) (by simp) (Nat.le_trans hB.out.size h2.out.size) ?_; intro v' w' h3 h4 h5; replace h3 := Lib.hid h3; replace h4 := Lib.hid h4; clear h5))
        go_ret2
        exact ⟨_, K, _, rfl, hK1, hK4, h3.out, by simp, by simp, hT.out.snoc hof.out, (hB.out.trans (h2.out.mono hB.out.size)).trans h4.out⟩
      · have hz' : ((n9 : Int) == 0) = false := by simp; omega
        rcases hcs with ⟨hcs, hcs2⟩ | hcs
        all_goals (
          go_wp2
          go_ret2
          exact ⟨_, K, rfl, hK1, hK4, ys, ho.out, by rw [hyl.out]; omega, by rw [hyl.out]; omega, hT.out, hB.out⟩)
end Go.Proofs.Ytadonoacmpkolaa
