/- R.Order. No condition. -/
import Derived.Test.YthnabheibacbcaaF1
namespace Go.Proofs.Ythnabheibacbcaa
open Go.RowKit

theorem Ints.drop {w : World} {b off n cap : Nat} {xs : List Int} (h : Ints w (.slice (some ⟨b, off, none⟩) n cap) xs) (k : Nat) (hk : k ≤ xs.length) : Ints w (.slice (some ⟨b, off + k, none⟩) (n - k) (cap - k)) (xs.drop k) := by
  obtain ⟨A, cap, e, hl, hm, hn, hat⟩ := h
  cases e
  refine ⟨_, cap - k, by rw [List.length_drop], by rw [List.length_drop]; omega, by omega, (fun h => by cases h), fun i hi => ?_⟩
  rw [List.length_drop] at hi
  obtain ⟨b', off', c, hA, hb, hc, hr⟩ := hat (k + i) (by omega)
  cases hA
  exact ⟨_, _, c, rfl, hb, by rw [Nat.add_assoc]; exact hc, by simpa using hr⟩

def insAt (l : List Pt) (out : List Nat) (i : Nat) : Nat := (out.takeWhile fun a => befB (ptA l a) (ptA l i)).length
def insL (l : List Pt) (out : List Nat) (i : Nat) : List Nat := out.take (insAt l out i) ++ [i] ++ out.drop (insAt l out i)
/-- the first i points, sorted -/
def ordR (l : List Pt) : Nat → List Nat
  | 0 => []
  | i + 1 => insL l (ordR l i) i
theorem takeWhile_len {α : Type} (p : α → Bool) : ∀ (xs : List α) (k : Nat), k ≤ xs.length → (∀ j (h : j < xs.length), j < k → p xs[j] = true) → (∀ h : k < xs.length, p xs[k] = false) → (xs.takeWhile p).length = k
  | [], k, hk, _, _ => by simp at hk; subst hk; rfl
  | x :: xs, 0, _, _, h => by
    have := h (by simp)
    simp at this
    simp [this]
  | x :: xs, k + 1, hk, h1, h2 => by
    have h0 := h1 0 (by simp) (by omega)
    simp at h0
    rw [List.takeWhile_cons, h0]
    simp only [List.length_cons, if_true]
    rw [takeWhile_len p xs k (by simpa using hk) (fun j h hj => by have := h1 (j + 1) (by simpa using h) (by omega); simpa using this) (fun h => by have := h2 (by simpa using h); simpa using this)]
theorem ordR_len (l : List Pt) : ∀ i, (ordR l i).length = i
  | 0 => rfl
  | i + 1 => by
    have ih := ordR_len l i
    have h : insAt l (ordR l i) i ≤ (ordR l i).length := by unfold insAt; exact (List.takeWhile_sublist _).length_le
    simp only [ordR, insL, List.length_append, List.length_take, List.length_drop, List.length_cons, List.length_nil]
    omega
theorem ordR_perm (l : List Pt) : ∀ i, (ordR l i).Perm (List.range i)
  | 0 => List.Perm.refl _
  | i + 1 => by
    have ih := ordR_perm l i
    rw [List.range_succ]
    simp only [ordR, insL, List.append_assoc]
    refine List.Perm.trans (List.perm_append_comm_assoc _ _ _) ?_
    rw [List.take_append_drop]
    exact (List.perm_append_comm (l₁ := [i])).trans (ih.append (List.Perm.refl _))
theorem takeWhile_all {α : Type} {p : α → Bool} : ∀ {xs : List α} {x : α}, x ∈ xs.takeWhile p → p x = true
  | y :: ys, x, h => by
    rw [List.takeWhile_cons] at h
    split at h
    · rename_i hy
      rcases List.mem_cons.1 h with rfl | h
      · exact hy
      · exact takeWhile_all h
    · simp at h
theorem take_takeWhile {α : Type} (p : α → Bool) : ∀ xs : List α, xs.take (xs.takeWhile p).length = xs.takeWhile p
  | [] => rfl
  | x :: xs => by
    rw [List.takeWhile_cons]
    split
    · simp [take_takeWhile p xs]
    · simp
theorem ordR_sorted {l : List Pt} (hd : ∀ i j, i < l.length → j < l.length → i ≠ j → ptA l i ≠ ptA l j) : ∀ i, i ≤ l.length → (ordR l i).Pairwise (befI l)
  | 0, _ => List.Pairwise.nil
  | i + 1, hi => by
    have ih := ordR_sorted hd i (by omega)
    have hm : ∀ x ∈ ordR l i, x < i := fun x hx => by simpa using (ordR_perm l i).mem_iff.1 hx
    obtain ⟨k, hk⟩ : ∃ k, insAt l (ordR l i) i = k := ⟨_, rfl⟩
    have htk : (ordR l i).take k = (ordR l i).takeWhile fun a => befB (ptA l a) (ptA l i) := by rw [← hk]; exact take_takeWhile _ _
    have hkl : k ≤ (ordR l i).length := by rw [← hk]; unfold insAt; exact (List.takeWhile_sublist _).length_le
    have hlow : ∀ x ∈ (ordR l i).take k, befI l x i := fun x hx => by
      rw [htk] at hx
      have := takeWhile_all hx
      unfold befB at this
      show bef _ _
      exact of_decide_eq_true this
    have hhigh : ∀ x ∈ (ordR l i).drop k, befI l i x := by
      intro x hx
      obtain ⟨j, hj, rfl⟩ := List.getElem_of_mem hx
      rw [List.length_drop] at hj
      have hkl' : k < (ordR l i).length := by omega
      have hb : befB (ptA l (ordR l i)[k]) (ptA l i) = false := by
        have h1 : ((ordR l i).takeWhile fun a => befB (ptA l a) (ptA l i)).length = k := hk
        rcases hh : befB (ptA l (ordR l i)[k]) (ptA l i) with _ | _
        · rfl
        · exfalso
          have : ∀ (p : Nat → Bool) (xs : List Nat) (k : Nat) (h : k < xs.length), (xs.takeWhile p).length = k → p xs[k] = false := by
            intro p xs
            induction xs with
            | nil => intro k h; simp at h
            | cons a xs ih2 =>
              intro k h h2
              rw [List.takeWhile_cons] at h2
              split at h2
              · rename_i ha
                rcases k with _ | k
                · simp at h2
                · simp at h2
                  simpa using ih2 k (by simpa using h) h2
              · rename_i ha
                simp at h2
                subst h2
                simpa using ha
          rw [this _ _ k hkl' h1] at hh
          cases hh
      have hk' : befI l i (ordR l i)[k] := by
        have hne : ptA l i ≠ ptA l (ordR l i)[k] := hd _ _ (by omega) (by have := hm _ (List.getElem_mem hkl'); omega) (by have := hm _ (List.getElem_mem hkl'); omega)
        rcases bef_total hne with h | h
        · exact h
        · unfold befB at hb
          exact absurd h (of_decide_eq_false hb)
      rw [List.getElem_drop]
      rcases Nat.eq_zero_or_pos j with e | e
      · subst e; exact hk'
      · have := List.pairwise_iff_getElem.1 ih k (k + j) hkl' (by omega) (by omega)
        exact bef_trans hk' this
    show (insL l (ordR l i) i).Pairwise (befI l)
    unfold insL
    rw [hk, List.append_assoc, List.pairwise_append]
    refine ⟨ih.sublist (List.take_sublist _ _), ?_, ?_⟩
    · rw [List.singleton_append, List.pairwise_cons]
      exact ⟨hhigh, ih.sublist (List.drop_sublist _ _)⟩
    · intro a ha b hb
      rcases List.mem_cons.1 hb with rfl | hb
      · exact hlow a ha
      · exact bef_trans (hlow a ha) (hhigh b hb)
theorem ordR_ord {l : List Pt} (hd : ∀ i j, i < l.length → j < l.length → i ≠ j → ptA l i ≠ ptA l j) : Ordd l (ordR l l.length) := ⟨ordR_perm l _, ordR_sorted hd _ (Nat.le_refl _)⟩

set_option maxRecDepth 100000 in
set_option maxHeartbeats 2000000 in
theorem order_any (w : World) (v : Value) (l : List Pt) (h : Pts w v l) (hlen : l.length ≤ 1000) :
    Calls Try.prog 44 #[v] w fun e w' => ∃ v', e = .returned v' ∧ OwnI w.heap.size 3 w' v' (nats (ordR l l.length)) ∧ Below w.heap.size w w' := by
  obtain ⟨A, n, cap, rfl, hn⟩ := h.shape
  obtain ⟨_, cap', e, hl, hcm, _, hat⟩ := h.open
  injection e with e1 e2 e3
  subst e1 e3
  unfold maxLen at hcm
  have hat := Lib.hid hat
  have hl' : n ≤ cap := by rw [e2]; exact hl
  have hn1000 : n ≤ 1000 := by rw [e2]; exact hlen
  clear e2 hl h hlen
  obtain ⟨M, hM⟩ : ∃ M, w.heap.size = M := ⟨_, rfl⟩
  rw [hM]
  go_enter Try.func44, Try.ntmps44
  go_wp2
  go_loopw [3, 4] (fun c3 c4 wr => ∃ (i : Nat) (A3 : Option Addr) (C3 : Nat), i ≤ n ∧ c4 = .int .i64 (i : Int) ∧ c3 = .slice A3 i C3 ∧ (i = 0 → A3 = none ∧ C3 = 0) ∧ Hid (OwnI M 3 wr (.slice A3 i C3) (nats (ordR l i))) ∧ Hid (Below M w wr)) (fun _ c _ => n - (intOf c).toNat)
  case atStart => exact ⟨0, none, 0, Nat.zero_le _, rfl, rfl, fun _ => ⟨rfl, rfl⟩, by unfold Hid; exact own_nil _ _ _, Below.refl _ _⟩
  case round =>
    obtain ⟨i, A3, C3, hi, rfl, rfl, hA3, hO, hB⟩ := hrel
    by_cases hlt : i < n
    case neg =>
      obtain rfl : i = n := by omega
      go_wp2
      go_ret
      exact ⟨_, rfl, by rw [← hn.out]; exact hO.out, hB.out⟩
    have hil : i < l.length := by rw [← hn.out]; exact hlt
    obtain ⟨b, o, rfl, hx0, hx1⟩ := hat.out i hil
    have hol := ordR_len l i
    obtain ⟨os, hos⟩ : ∃ os, ordR l i = os := ⟨_, rfl⟩
    rw [hos] at hO hol
    have hos := Lib.hid hos
    have hosm : ∀ x ∈ os, x < i := fun x hx => by have := (ordR_perm l i).mem_iff.1 (by rw [hos.out]; exact hx); simpa using this
    have hosm := Lib.hid hosm
    have hol := Lib.hid hol
    have hMw : M ≤ wr.heap.size := by have := hB.out.size; omega
    have hins := Lib.hid (fun k (hk : k ≤ os.length) (h1 : ∀ j (h : j < os.length), j < k → befB (ptA l os[j]) (ptA l i) = true) (h2 : ∀ h : k < os.length, befB (ptA l os[k]) (ptA l i) = false) => show insAt l os i = k from takeWhile_len _ os k hk h1 h2)
    go_wp2
    obtain ⟨wr0, hwr0⟩ : ∃ w0, w0 = wr := ⟨_, rfl⟩
    rw [← hwr0] at hO hB hMw
    go_loopw [5] (fun c5 wr => ∃ k : Nat, k ≤ i ∧ c5 = .int .i64 (k : Int) ∧ Hid (∀ j (h : j < os.length), j < k → befB (ptA l os[j]) (ptA l i) = true) ∧ Hid (Below wr0.heap.size wr0 wr)) (fun c _ => i - (intOf c).toNat)
    case atStart => exact ⟨0, Nat.zero_le _, rfl, Lib.hid (fun j h hj => absurd hj (Nat.not_lt_zero _)), by rw [hwr0]; exact Below.refl _ _⟩
    case round =>
      obtain ⟨k, hk, rfl, hlow, hW⟩ := hrel
      have hIw := OwnI.ints hO.out
      by_cases hi0 : i = 0
      · subst hi0
        obtain rfl : k = 0 := by omega
        obtain ⟨rfl, rfl⟩ := hA3 rfl
        clear hA3
        have hos0 := Lib.hid (show os = [] from List.length_eq_zero_iff.1 hol.out)
        have hat0 := Lib.hid (hins.out 0 (Nat.zero_le _) (fun j h hj => absurd hj (Nat.not_lt_zero _)) (fun h => by have := hol.out; omega))
        have hBz0 := Lib.hid (hB.out.trans (hW.out.mono hMw))
        have hMz : M ≤ wr.heap.size := by have := hW.out.size; omega
        go_wp2
        refine wp_region_grow (by kernel_rfl) (by kernel_rfl) ?_
        repeat (go_big_quiet_step (fail))
        refine wpQuiet_nil ?_
        rintro _ ⟨g, rfl⟩
        have hBz := Lib.hid (hBz0.out.trans (g.h.mono hMz))
        have hI0 := Lib.hid (show Ints g.w1 (.slice none 0 0) [] from ⟨none, 0, rfl, Nat.le_refl _, Nat.zero_le _, fun _ => rfl, fun i hi => absurd hi (by simp)⟩)
        generalize g.w1 = wz at *
        go_wp2_with (first
          | (at_builtin; refine wpList_append_slc _ rfl (.tmp 42) (.tmp 45) 33 rfl wz.heap.size 3 Try.underlying33 info3 rfl (by omega) isI_one _ _ rfl h2.out _ rfl _ (hI0.out.below (Nat.le_refl _) hb2.out) (by have := hol.out; simp only [List.length_nil, nats_length, List.length_take, List.length_drop, List.length_append, List.length_cons] <;> omega) (by have := hb2.out.size; omega) ?_; intro v3 w3 h3 hb3 _ _; obtain ⟨A6, n6, c6, rfl, hn6⟩ := OwnL.shape h3; have hn6' := (show n6 = 0 + 1 by rw [hn6.out]; have := hol.out; simp only [List.length_nil, nats_length, List.length_take, List.length_drop, List.length_append, List.length_cons] <;> omega); subst hn6'; have h3 := Lib.hid h3; have hb3 := Lib.hid (hb2.out.trans hb3))
          | (at_builtin; refine wpList_append_int rfl (.tmp 38) (.tmp 40) 33 rfl wz.heap.size 3 Try.underlying33 info3 _ _ rfl rfl h1.out rfl rfl (by have := hol.out; simp only [List.length_nil, nats_length, List.length_take, List.length_drop, List.length_append, List.length_cons] <;> omega) (by have := hb1.out.size; omega) ?_; intro v2 w2 h2 hb2 _; obtain ⟨A5, n5, c5, rfl, hn5⟩ := OwnL.shape h2; have h2 := Lib.hid h2; have hb2 := Lib.hid (hb1.out.trans hb2))
          | (at_builtin; refine wpList_append_slc _ rfl (.tmp 33) (.tmp 36) 33 rfl wz.heap.size 3 Try.underlying33 info3 rfl (by omega) isI_one _ [] rfl (own_nil _ _ _) _ rfl _ hI0.out (by have := hol.out; simp only [List.length_nil, nats_length, List.length_take, List.length_drop, List.length_append, List.length_cons] <;> omega) (Nat.le_refl _) ?_; intro v1 w1 h1 hb1 _ _; obtain ⟨A4, n4, c4, rfl, hn4⟩ := OwnL.shape h1; rw [List.nil_append] at h1; have h1 := Lib.hid h1; have hb1 := Lib.hid hb1))
        go_roundw
        case rel =>
          refine ⟨0 + 1, _, _, by omega, by go_num, rfl, fun h => absurd h (Nat.succ_ne_zero _), ?_, ?_⟩
          · unfold Hid
            have h := OwnL.lo_le h3.out (show M ≤ wz.heap.size by have := hBz.out.size; omega)
            have e : nats (os.take 0) ++ [((0 : Nat) : Int)] ++ nats (os.drop 0) = nats (ordR l (0 + 1)) := by
              show _ = nats (insL l (ordR l 0) 0)
              unfold insL
              rw [hos.out, hat0.out, nats_append, nats_append]
              rfl
            rw [← e]
            rw [hos0.out]; simpa [nats, OwnI] using h
          · exact Lib.hid (hBz.out.trans (hb3.out.mono (by have := hBz.out.size; omega)))
        case measure => simp [intOf]; omega
      · have hipos : 0 < i := Nat.pos_of_ne_zero hi0
        clear hA3 hi0
        obtain ⟨b3, c3, e, _, _, hc1, hc2, hcell, _⟩ := OwnI.open hO.out (by rw [nats_length, hol.out]; exact hipos)
        injection e with e1 e2 e3
        subst e1 e3
        rw [← e2] at hc1
        clear e2
        unfold maxLen at hc2
        have hk1000 : k ≤ 1000 := by omega
        have hIw := Lib.hid (Ints.below hIw (Nat.le_refl _) hW.out)
        have hBz0 := Lib.hid (hB.out.trans (hW.out.mono hMw))
        have hMz : M ≤ wr.heap.size := by have := hW.out.size; omega
        by_cases hlt2 : k < i
        case neg =>
          obtain rfl : k = i := by omega
          have hat0 := Lib.hid (hins.out k (by rw [hol.out]; exact Nat.le_refl _) hlow.out (fun h => by have := hol.out; omega))
          clear hcell
          go_wp2
          refine wp_region_grow (by kernel_rfl) (by kernel_rfl) ?_
          repeat (go_big_quiet_step (fail))
          refine wpQuiet_nil ?_
          rintro _ ⟨g, rfl⟩
          have hBz := Lib.hid (hBz0.out.trans (g.h.mono hMz))
          have hIz := Lib.hid (Ints.below hIw.out (Nat.le_refl _) g.h)
          generalize g.w1 = wz at *
          have hI1 := Lib.hid (show Ints wz _ (nats (os.take k)) from by have := hIz.out.take k (by rw [nats_length, hol.out]; exact Nat.le_refl _); rwa [show (nats os).take k = nats (os.take k) by simp [nats, List.map_take]] at this)
          have hI2 := Lib.hid (show ∀ off c, c ≤ maxLen → Ints wz (.slice (some ⟨b3, off, none⟩) 0 c) [] from fun off c hc => ⟨_, c, rfl, Nat.zero_le _, hc, (fun h => by cases h), fun i hi => absurd hi (by simp)⟩)
          have hdk := Lib.hid (show os.drop k = [] from List.drop_eq_nil_of_le (by rw [hol.out]; exact Nat.le_refl _))
          by_cases hcap : C3 = k
          · subst hcap
            go_wp2_with (first
              | (at_builtin; refine wpList_append_slc _ rfl (.tmp 42) (.tmp 45) 33 rfl wz.heap.size 3 Try.underlying33 info3 rfl (by omega) isI_one _ _ rfl h2.out _ rfl _ ((hI2.out _ _ (by unfold maxLen; omega)).below (Nat.le_refl _) hb2.out) (by have := hol.out; simp only [List.length_nil, nats_length, List.length_take, List.length_drop, List.length_append, List.length_cons] <;> omega) (by have := hb2.out.size; omega) ?_; intro v3 w3 h3 hb3 _ _; obtain ⟨A6, n6, c6, rfl, hn6⟩ := OwnL.shape h3; have hn6' := (show n6 = C3 + 1 by rw [hn6.out]; have := hol.out; simp only [List.length_nil, nats_length, List.length_take, List.length_drop, List.length_append, List.length_cons] <;> omega); subst hn6'; have h3 := Lib.hid h3; have hb3 := Lib.hid (hb2.out.trans hb3))
              | (at_builtin; refine wpList_append_int rfl (.tmp 38) (.tmp 40) 33 rfl wz.heap.size 3 Try.underlying33 info3 _ _ rfl rfl h1.out rfl rfl (by have := hol.out; simp only [List.length_nil, nats_length, List.length_take, List.length_drop, List.length_append, List.length_cons] <;> omega) (by have := hb1.out.size; omega) ?_; intro v2 w2 h2 hb2 _; obtain ⟨A5, n5, c5, rfl, hn5⟩ := OwnL.shape h2; have h2 := Lib.hid h2; have hb2 := Lib.hid (hb1.out.trans hb2))
              | (at_builtin; refine wpList_append_slc _ rfl (.tmp 33) (.tmp 36) 33 rfl wz.heap.size 3 Try.underlying33 info3 rfl (by omega) isI_one _ [] rfl (own_nil _ _ _) _ rfl _ hI1.out (by have := hol.out; simp only [List.length_nil, nats_length, List.length_take, List.length_drop, List.length_append, List.length_cons] <;> omega) (Nat.le_refl _) ?_; intro v1 w1 h1 hb1 _ _; obtain ⟨A4, n4, c4, rfl, hn4⟩ := OwnL.shape h1; rw [List.nil_append] at h1; have h1 := Lib.hid h1; have hb1 := Lib.hid hb1))
            go_roundw
            case rel =>
              refine ⟨C3 + 1, _, _, by omega, by go_num, rfl, fun h => absurd h (Nat.succ_ne_zero _), ?_, ?_⟩
              · unfold Hid
                have h := OwnL.lo_le h3.out (show M ≤ wz.heap.size by have := hBz.out.size; omega)
                have e : nats (os.take C3) ++ [((C3 : Nat) : Int)] ++ nats (os.drop C3) = nats (ordR l (C3 + 1)) := by
                  show _ = nats (insL l (ordR l C3) C3)
                  unfold insL
                  rw [hos.out, hat0.out, nats_append, nats_append]
                  rfl
                rw [← e]
                rw [hdk.out]; simpa [nats, OwnI] using h
              · exact Lib.hid (hBz.out.trans (hb3.out.mono (by have := hBz.out.size; omega)))
            case measure => simp [intOf]; omega
          · go_wp2_with (first
              | (at_builtin; refine wpList_append_slc _ rfl (.tmp 42) (.tmp 45) 33 rfl wz.heap.size 3 Try.underlying33 info3 rfl (by omega) isI_one _ _ rfl h2.out _ rfl _ ((hI2.out _ _ (by unfold maxLen; omega)).below (Nat.le_refl _) hb2.out) (by have := hol.out; simp only [List.length_nil, nats_length, List.length_take, List.length_drop, List.length_append, List.length_cons] <;> omega) (by have := hb2.out.size; omega) ?_; intro v3 w3 h3 hb3 _ _; obtain ⟨A6, n6, c6, rfl, hn6⟩ := OwnL.shape h3; have hn6' := (show n6 = k + 1 by rw [hn6.out]; have := hol.out; simp only [List.length_nil, nats_length, List.length_take, List.length_drop, List.length_append, List.length_cons] <;> omega); subst hn6'; have h3 := Lib.hid h3; have hb3 := Lib.hid (hb2.out.trans hb3))
              | (at_builtin; refine wpList_append_int rfl (.tmp 38) (.tmp 40) 33 rfl wz.heap.size 3 Try.underlying33 info3 _ _ rfl rfl h1.out rfl rfl (by have := hol.out; simp only [List.length_nil, nats_length, List.length_take, List.length_drop, List.length_append, List.length_cons] <;> omega) (by have := hb1.out.size; omega) ?_; intro v2 w2 h2 hb2 _; obtain ⟨A5, n5, c5, rfl, hn5⟩ := OwnL.shape h2; have h2 := Lib.hid h2; have hb2 := Lib.hid (hb1.out.trans hb2))
              | (at_builtin; refine wpList_append_slc _ rfl (.tmp 33) (.tmp 36) 33 rfl wz.heap.size 3 Try.underlying33 info3 rfl (by omega) isI_one _ [] rfl (own_nil _ _ _) _ rfl _ hI1.out (by have := hol.out; simp only [List.length_nil, nats_length, List.length_take, List.length_drop, List.length_append, List.length_cons] <;> omega) (Nat.le_refl _) ?_; intro v1 w1 h1 hb1 _ _; obtain ⟨A4, n4, c4, rfl, hn4⟩ := OwnL.shape h1; rw [List.nil_append] at h1; have h1 := Lib.hid h1; have hb1 := Lib.hid hb1))
            go_roundw
            case rel =>
              refine ⟨k + 1, _, _, by omega, by go_num, rfl, fun h => absurd h (Nat.succ_ne_zero _), ?_, ?_⟩
              · unfold Hid
                have h := OwnL.lo_le h3.out (show M ≤ wz.heap.size by have := hBz.out.size; omega)
                have e : nats (os.take k) ++ [((k : Nat) : Int)] ++ nats (os.drop k) = nats (ordR l (k + 1)) := by
                  show _ = nats (insL l (ordR l k) k)
                  unfold insL
                  rw [hos.out, hat0.out, nats_append, nats_append]
                  rfl
                rw [← e]
                rw [hdk.out]; simpa [nats, OwnI] using h
              · exact Lib.hid (hBz.out.trans (hb3.out.mono (by have := hBz.out.size; omega)))
            case measure => simp [intOf]; omega
        have hko : k < os.length := by rw [hol.out]; exact hlt2
        have hck := hcell k (by rw [nats_length]; exact hko)
        rw [at0_nats, natAt_eq hko] at hck
        have hck := cell_below hck hW.out
        have ha := hosm.out os[k] (List.getElem_mem hko)
        obtain ⟨b', o', e, ha0, ha1⟩ := hat.out os[k] (by omega)
        cases e
        have hBw0 := (show Below w.heap.size w wr by rw [hM]; exact hBz0.out)
        have ha0 := cell_below ha0 hBw0
        have ha1 := cell_below ha1 hBw0
        have hy0 := cell_below hx0 hBw0
        have hy1 := cell_below hx1 hBw0
        clear hcell hBw0
        have hlow' := Lib.hid (show befB (ptA l os[k]) (ptA l i) = true → ∀ j (h : j < os.length), j < k + 1 → befB (ptA l os[j]) (ptA l i) = true from fun hb j h hj => by
          rcases Nat.lt_or_ge j k with h2 | h2
          · exact hlow.out j h h2
          · have : j = k := by omega
            subst this; exact hb)
        have hstop := Lib.hid (show befB (ptA l os[k]) (ptA l i) = false → insAt l os i = k from fun hb => hins.out k (by omega) hlow.out (fun _ => hb))
        generalize os[k] = a at *
        generalize ptA l a = pa at *
        generalize ptA l i = pi at *
        obtain ⟨pa1, pa2⟩ := pa
        obtain ⟨pi1, pi2⟩ := pi
        have t0 := fun g : Gr wr => g.cell hck
        have t1 := fun g : Gr wr => g.cell ha0
        have t2 := fun g : Gr wr => g.cell ha1
        have t3 := fun g : Gr wr => g.cell hy0
        have t4 := fun g : Gr wr => g.cell hy1
        have hBf := Lib.hid (fun g : Gr wr => grow_of (g := g) (before_any g.w1 (pa1, pa2) (pi1, pi2)))
        obtain ⟨bb, hbb⟩ : ∃ bb, befB (pa1, pa2) (pi1, pi2) = bb := ⟨_, rfl⟩
        rw [hbb] at hlow' hstop hBf
        clear hbb
        cases bb with
        | true =>
          have hl2 := Lib.hid (hlow'.out rfl)
          clear hlow' hstop
          go_wp2
          refine wp_region_grow (by kernel_rfl) (by kernel_rfl) ?_
          repeat (go_big_quiet_step ((go_at_call 57; exact hBf.out _)))
          refine wpQuiet_nil ?_
          rintro _ ⟨g, rfl⟩
          go_wp2
          go_roundw
          case rel => exact ⟨k + 1, by omega, by go_num, hl2, Lib.hid (hW.out.trans (g.h.mono (by have := hW.out.size; omega)))⟩
          case measure => simp [intOf]; omega
        | false =>
          have hat0 := Lib.hid (hstop.out rfl)
          clear hlow' hstop
          go_wp2
          refine wp_region_grow (by kernel_rfl) (by kernel_rfl) ?_
          repeat (go_big_quiet_step ((go_at_call 57; exact hBf.out _)))
          refine wpQuiet_nil ?_
          rintro _ ⟨g, rfl⟩
          have hBz := Lib.hid (hBz0.out.trans (g.h.mono hMz))
          have hIz := Lib.hid (Ints.below hIw.out (Nat.le_refl _) g.h)
          clear t0 t1 t2 t3 t4 hBf
          generalize g.w1 = wz at *
          have hI1 := Lib.hid (show Ints wz _ (nats (os.take k)) from by have := hIz.out.take k (by rw [nats_length]; omega); rwa [show (nats os).take k = nats (os.take k) by simp [nats, List.map_take]] at this)
          have hI2 := Lib.hid (show Ints wz _ (nats (os.drop k)) from by have := hIz.out.drop k (by rw [nats_length]; omega); rw [Nat.zero_add] at this; rwa [show (nats os).drop k = nats (os.drop k) by simp [nats, List.map_drop]] at this)
          go_wp2_with (first
            | (at_builtin; refine wpList_append_slc _ rfl (.tmp 42) (.tmp 45) 33 rfl wz.heap.size 3 Try.underlying33 info3 rfl (by omega) isI_one _ _ rfl h2.out _ rfl _ (hI2.out.below (Nat.le_refl _) hb2.out) (by have := hol.out; simp only [List.length_nil, nats_length, List.length_take, List.length_drop, List.length_append, List.length_cons] <;> omega) (by have := hb2.out.size; omega) ?_; intro v3 w3 h3 hb3 _ _; obtain ⟨A6, n6, c6, rfl, hn6⟩ := OwnL.shape h3; have hn6' := (show n6 = i + 1 by rw [hn6.out]; have := hol.out; simp only [List.length_nil, nats_length, List.length_take, List.length_drop, List.length_append, List.length_cons] <;> omega); subst hn6'; have h3 := Lib.hid h3; have hb3 := Lib.hid (hb2.out.trans hb3))
            | (at_builtin; refine wpList_append_int rfl (.tmp 38) (.tmp 40) 33 rfl wz.heap.size 3 Try.underlying33 info3 _ _ rfl rfl h1.out rfl rfl (by have := hol.out; simp only [List.length_nil, nats_length, List.length_take, List.length_drop, List.length_append, List.length_cons] <;> omega) (by have := hb1.out.size; omega) ?_; intro v2 w2 h2 hb2 _; obtain ⟨A5, n5, c5, rfl, hn5⟩ := OwnL.shape h2; have h2 := Lib.hid h2; have hb2 := Lib.hid (hb1.out.trans hb2))
            | (at_builtin; refine wpList_append_slc _ rfl (.tmp 33) (.tmp 36) 33 rfl wz.heap.size 3 Try.underlying33 info3 rfl (by omega) isI_one _ [] rfl (own_nil _ _ _) _ rfl _ hI1.out (by have := hol.out; simp only [List.length_nil, nats_length, List.length_take, List.length_drop, List.length_append, List.length_cons] <;> omega) (Nat.le_refl _) ?_; intro v1 w1 h1 hb1 _ _; obtain ⟨A4, n4, c4, rfl, hn4⟩ := OwnL.shape h1; rw [List.nil_append] at h1; have h1 := Lib.hid h1; have hb1 := Lib.hid hb1))
          go_roundw
          case rel =>
            refine ⟨i + 1, _, _, by omega, by go_num, rfl, fun h => absurd h (Nat.succ_ne_zero _), ?_, ?_⟩
            · unfold Hid
              have h := OwnL.lo_le h3.out (show M ≤ wz.heap.size by have := hBz.out.size; omega)
              have e : nats (os.take k) ++ [((i : Nat) : Int)] ++ nats (os.drop k) = nats (ordR l (i + 1)) := by
                show _ = nats (insL l (ordR l i) i)
                unfold insL
                rw [hos.out, hat0.out, nats_append, nats_append]
                rfl
              rw [← e]
              simpa [nats, OwnI, List.map_take, List.map_drop] using h
            · exact Lib.hid (hBz.out.trans (hb3.out.mono (by have := hBz.out.size; omega)))
          case measure => simp [intOf]; omega
end Go.Proofs.Ythnabheibacbcaa
