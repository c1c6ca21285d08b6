/- The reference: the tables of the best worths. -/
import Derived.Test.YtadonoacmpkolaaM1
import Derived.Test.YtadonoacmpkolaaR2
namespace Go.Proofs.Ytadonoacmpkolaa
open Go.RowKit
attribute [local go_sem high] walk_shl walk_shr walk_bit walk_rem walk_and walk_or walk_andNot

theorem OwnRows.set {lo e : Nat} {w : World} {g cap : Nat} {xs : List (List Int)} (h : OwnRows lo e w (.slice (some ⟨g, 0, none⟩) xs.length cap) xs) (i : Nat) (c : Value) (x : List Int) (hc : Slc (fun b => b ≠ g) isI w c x) :
    OwnRows lo e (w.setCell ⟨g, i, none⟩ c) (.slice (some ⟨g, 0, none⟩) (xs.set i x).length cap) (xs.set i x) := by
  have h1 := (OwnL.set h i c x (Slc.keep hc (fun b hb _ => ⟨fun e => by injection e with e; exact hb e.symm, rfl⟩) fun _ _ _ h => h)).1
  refine OwnL.imp h1 fun c x _ hc => Slc.keep hc (fun b hb hlt => ⟨hb, ?_⟩) fun _ _ _ h => h
  exact Below.heap_setCell w ⟨g, i, none⟩ _ b fun e => hb (by rw [e]; rfl)

/-- 'make([][]int64, n)': n times nil -/
theorem wpList_make_rows {P : Program} {w : World} {ops : Array Oper} {rest : List Oper} {o : Oper} {a : Act} {Q : Exit → Act → World → Prop}
    (hg : o.guard = none) (l c : Operand) (t : TypeId) (hop : o.op = Op.makeSlice t l c) (lo : Nat) (e : TypeId) (ht : P.underlying t = some (.slice e))
    (hinfo : (P.info? e).map (fun i => (i.zero, i.size, i.bytes)) = some (some (.slice none 0 0), 1, 24)) (L C : Int) (n : Nat) (hl : a.eval l = .int .i64 L) (hc : a.eval c = .int .i64 C) (hL : L = (n : Int)) (hC : C = (n : Int))
    (hn : n ≤ 1000000) (hlo : lo ≤ w.heap.size) (g : Nat) (hgg : w.heap.size = g)
    (hK : ∀ w', OwnRows lo e w' (.slice (some ⟨g, 0, none⟩) n n) (List.replicate n []) → Below g w w' → g < w'.heap.size → wpList P ops Q rest (a.put o.dst (.slice (some ⟨g, 0, none⟩) n n)) w') :
    wpList P ops Q (o :: rest) a w := by
  obtain ⟨i, hi, hz0, hz1, hz2⟩ := info_parts hinfo
  subst hgg hL hC
  refine wpList_make_full w hg l c t hop lo e i (.slice none 0 0) 1 ht hi hz0 hz1 .i64 .i64 _ _ n hl hc rfl rfl (by rw [hz2]; omega) (by simp only [maxLen]; omega) hlo fun w' ho hgr => ?_
  have ho' : OwnRows lo e w' (.slice (some ⟨w.heap.size, 0, none⟩) n n) (List.replicate n []) := by
    have e1 : (madeCells (Value.slice none 0 0).cells (n * 1)).toList = List.replicate n (.slice none 0 0) := by
      rw [Nat.mul_one]; exact toList_madeCells_one ..
    rw [e1] at ho
    refine ⟨List.replicate n (.slice none 0 0), by simp, by simpa using ho, fun i h1 h2 => ?_⟩
    simp only [List.getElem_replicate]
    exact ⟨none, 0, rfl, Nat.le_refl _, Nat.zero_le _, fun _ => rfl, fun i hi => absurd hi (by simp)⟩
  exact hK w' ho' (below_of_grown hgr (Nat.le_refl _) (fun k hk => by cases hk)) (OwnL.lt ho' _ rfl).2

theorem OwnL.cellAt {α : Type} {lo e : Nat} {R : Value → α → Prop} {w : World} {g n cap : Nat} {xs : List α} (h : OwnL lo e R w (.slice (some ⟨g, 0, none⟩) n cap) xs) (i : Nat) (hi : i < xs.length) :
    (∃ c, w.cell? ⟨g, i, none⟩ = some c) ∧ w.frozen? ⟨g, i, none⟩ = false := by
  obtain ⟨g', cap', e, _, _, _, _, h1, h2⟩ := OwnL.open h (by omega)
  obtain rfl : g = g' := by injection e with a; injection a with a; injection a
  obtain ⟨c, hc, _⟩ := h1 i hi
  exact ⟨⟨c, hc⟩, h2 i⟩
theorem Rows2.rowCells {w : World} {g n cap : Nat} {xs : List (List Int)} (h : Rows2 w (.slice (some ⟨g, 0, none⟩) n cap) xs) (i : Nat) (hi : i < xs.length) {N : Nat} {f : Nat → Int} (hr : rowAt xs i = tab N f) :
    ∃ A' cap', w.cell? ⟨g, i, none⟩ = some (.slice A' N cap') ∧ N ≤ cap' ∧ cap' ≤ 2 ^ 63 - 1 ∧ ∀ q, q < N → ∃ b off, A' = some ⟨b, off, none⟩ ∧ w.cell? ⟨b, off + q, none⟩ = some (.int .i64 (f q)) := by
  obtain ⟨b, off, cap', e, _, _, hat⟩ := h.addr (by omega)
  cases e
  obtain ⟨A', cap2, hc, hi2⟩ := hat i hi
  rw [hr] at hc hi2
  rw [tab_length] at hc
  rw [Nat.zero_add] at hc
  obtain ⟨A3, cap3, e3, hl3, hm3, _, hat3⟩ := hi2.open
  cases e3
  rw [tab_length] at hl3
  refine ⟨A', cap2, hc, hl3, hm3, fun q hq => ?_⟩
  obtain ⟨b', off', e4, hc4⟩ := hat3 q (by rw [tab_length]; exact hq)
  refine ⟨b', off', e4, ?_⟩
  rw [hc4, at0_tab, if_pos hq]
/-- the tables from row c on -/
def tabsFrom (who m : Nat) (xs : List (List Int)) (c : Nat) : List (List Int) := tab (xs.length + 1) fun j => if c ≤ j then tab (p2 m) (tblAt who xs j) else []
theorem tabsFrom_length (who m : Nat) (xs : List (List Int)) (c : Nat) : (tabsFrom who m xs c).length = xs.length + 1 := tab_length ..
theorem tabsFrom_at (who m : Nat) (xs : List (List Int)) (c j : Nat) (h : c ≤ j) (hj : j ≤ xs.length) : rowAt (tabsFrom who m xs c) j = tab (p2 m) (tblAt who xs j) := by
  rw [rowAt_eq (by rw [tabsFrom_length]; omega)]
  unfold tabsFrom
  rw [tab_get, if_pos h]
theorem tabsFrom_set (who m : Nat) (xs : List (List Int)) (c : Nat) : (tabsFrom who m xs (c + 1)).set c (tab (p2 m) (tblAt who xs c)) = tabsFrom who m xs c := by
  unfold tabsFrom
  rw [tab_set]
  refine tab_congr fun i hi => ?_
  unfold upd
  by_cases h : i = c
  · subst h; simp
  · rw [if_neg h]
    show (if c + 1 ≤ i then tab (p2 m) (tblAt who xs i) else []) = _
    by_cases h2 : c + 1 ≤ i
    · rw [if_pos h2, if_pos (by omega)]
    · rw [if_neg h2, if_neg (by omega)]
theorem tabsFrom_last (who m : Nat) (xs : List (List Int)) : (List.replicate (xs.length + 1) []).set xs.length (tab (p2 m) fun _ => 0) = tabsFrom who m xs xs.length := by
  rw [tab_replicate, tab_set]
  refine tab_congr fun i hi => ?_
  unfold upd
  by_cases h : i = xs.length
  · rw [if_pos h, if_pos (by omega)]
    refine tab_congr fun S _ => ?_
    unfold tblAt
    rw [h, List.drop_length]
    rfl
  · rw [if_neg h, if_neg (by omega)]

set_option maxRecDepth 100000 in
set_option maxHeartbeats 2000000 in
theorem tables_any (w : World) (v : Value) (xs : List (List Int)) (m who : Nat) (h : Rows2 w v xs) (hm : m ≤ 6) (hl1 : 1 ≤ xs.length) (hl6 : xs.length ≤ 6) (hok : ∀ b ∈ xs, okRow m b ∧ at0 b 0 = 0) (hwho : who ≤ 1000000) :
    Calls Try.prog 56 #[.int .i64 (m : Int), v, .int .i64 (who : Int)] w fun e w' => ∃ v', e = .returned v' ∧ OwnRows w.heap.size 27 w' v' (tabsFrom who m xs 0) ∧ Below w.heap.size w w' := by
  have hs6 : smallS m := smallS_of (by omega)
  have hsw : small who := small_of hwho
  have h64 := p2_le64 hm
  have hP : Pos xs := fun b hb s => ((hok b hb).1.2 s).1
  have hwt : Hid (∀ k S, 0 ≤ tblAt who xs k S ∧ tblAt who xs k S ≤ 6000000) := by
    intro k S
    have hp1 : Pos (xs.drop k) := fun b hb => hP b (List.mem_of_mem_drop hb)
    have h2 := wts_bounds (selR who k (xs.drop k)) (fun b hb s => (hok b (List.mem_of_mem_drop (selR_sub _ _ _ _ hb))).1.2 s) S
    have h3 : (selR who k (xs.drop k)).length ≤ 6 := by
      have : ∀ (bs : List (List Int)) k, (selR who k bs).length ≤ bs.length := by
        intro bs
        induction bs with
        | nil => intro k; exact Nat.le_refl _
        | cons b bs ih =>
          intro k
          rw [selR]
          have := ih (k + 1)
          split <;> simp <;> omega
      have := this (xs.drop k) k
      simp at this
      omega
    unfold tblAt
    refine ⟨h2.1, Int.le_trans h2.2 ?_⟩
    have : ((selR who k (xs.drop k)).length : Int) ≤ 6 := by omega
    omega
  have hstep : Hid (∀ k, k < xs.length → ∀ S, acc (rowAt xs k) (tblAt who xs (k + 1)) S (bitOf who k == 1) (S + 1) = tblAt who xs k S) := fun k hk S =>
    tbl_step hk hP (by rw [rowAt_eq hk]; exact (hok _ (List.getElem_mem hk)).2) S
  have hrl : Hid (∀ k, k < xs.length → (rowAt xs k).length = p2 m ∧ ∀ s, 0 ≤ at0 (rowAt xs k) s ∧ at0 (rowAt xs k) s ≤ 1000000) := fun k hk => by
    rw [rowAt_eq hk]; exact (hok _ (List.getElem_mem hk)).1
  clear hP hok
  obtain ⟨A, cap, rfl, hl, hcap, hn, hat⟩ := h.open
  replace hat := Lib.hid hat
  clear hn h
  unfold maxLen at hcap
  have hlast := tabsFrom_last who m xs
  have hset := Lib.hid (fun c => tabsFrom_set who m xs c)
  have htat := Lib.hid (fun c j => tabsFrom_at who m xs c j)
  have htl := Lib.hid (fun c => tabsFrom_length who m xs c)
  obtain ⟨N, hN⟩ : ∃ N, N = p2 m := ⟨_, rfl⟩
  rw [← hN] at h64 hlast hset htat hrl
  replace hlast := Lib.hid hlast
  have hNp : 0 < N := by rw [hN]; exact p2_pos m
  replace hN := Lib.hid hN
  have hn1 : IntKind.i64.wrap ((xs.length : Int) + 1) = ((xs.length + 1 : Nat) : Int) := by
    rw [IntWalk.i64_in _ (by omega)]; omega
  have hn1' := Lib.hid hn1
  clear hn1
  go_enter Try.func56, Try.ntmps56
  go_wp2_with (first
    | (at_make; refine wpList_make_rows rfl _ _ 22 rfl w.heap.size 27 Try.underlying22 info27 _ _ (xs.length + 1) rfl rfl (by first | exact hn1'.out | omega) (by first | exact hn1'.out | omega) (by omega) (Nat.le_refl _) _ rfl ?_; intro w1 hO hg1 hsz1; replace hO := Lib.hid hO; replace hg1 := Lib.hid hg1)
    | (at_make; refine wpList_make_ints rfl _ _ 27 rfl w1.heap.size 2 Try.underlying27 info2 (p2 m) rfl rfl (by rw [← hN.out]; omega) (Nat.le_refl _) _ rfl ?_; intro w2 hT hg2 hsz2; rw [← hN.out] at hT ⊢; replace hT := Lib.hid hT; replace hg2 := Lib.hid hg2; replace hO := Lib.hid (OwnRows.below hO.out (Nat.le_refl _) hg2.out); obtain ⟨⟨c9, hc9⟩, hf9⟩ := OwnL.cellAt hO.out xs.length (by simp)))
  have hO2 : Hid (OwnRows w.heap.size 27 (w2.setCell ⟨w.heap.size, xs.length, none⟩ (.slice (some ⟨w1.heap.size, 0, none⟩) N N)) (.slice (some ⟨w.heap.size, 0, none⟩) (xs.length + 1) (xs.length + 1)) (tabsFrom who m xs xs.length)) := by
    have hh := OwnRows.set (g := w.heap.size) (cap := xs.length + 1) (xs := List.replicate (xs.length + 1) []) (by rw [List.length_replicate]; exact hO.out) xs.length (.slice (some ⟨w1.heap.size, 0, none⟩) N N) (tab N fun _ => 0)
      (Slc.keep (OwnL.slc hT.out) (fun b hb _ => ⟨by omega, rfl⟩) fun _ _ _ h => h)
    rw [List.length_set, List.length_replicate, hlast.out] at hh
    exact hh
  have hB2 : Hid (Below w.heap.size w (w2.setCell ⟨w.heap.size, xs.length, none⟩ (.slice (some ⟨w1.heap.size, 0, none⟩) N N))) := (hg1.out.trans (hg2.out.mono hg1.out.size)).setCell (p := ⟨w.heap.size, xs.length, none⟩) (Nat.le_refl _) _
  clear hO hT hg1 hg2 hc9 hf9 hlast hsz1 hsz2
  go_loopw [9] (fun i wr => ∃ c : Nat, c ≤ xs.length ∧ ((c = 0 ∧ i = .int .i64 (-1)) ∨ ∃ k : Nat, c = k + 1 ∧ i = .int .i64 (k : Int)) ∧ Hid (OwnRows w.heap.size 27 wr (.slice (some ⟨w.heap.size, 0, none⟩) (xs.length + 1) (xs.length + 1)) (tabsFrom who m xs c)) ∧ Hid (Below w.heap.size w wr)) (fun i _ => (intOf i + 1).toNat)
  case atStart => exact ⟨xs.length, Nat.le_refl _, .inr ⟨xs.length - 1, by omega, by go_num⟩, hO2.out, hB2.out⟩
  case round =>
    clear hO2 hB2
    obtain ⟨c, hc, hcs, hO, hB⟩ := hrel
    rcases hcs with ⟨rfl, rfl⟩ | ⟨k, rfl, rfl⟩
    · go_wp2
      go_ret
      exact ⟨_, rfl, hO.out, hB.out⟩
    · obtain ⟨wo, rfl⟩ : ∃ wo : World, wo = wr := ⟨_, rfl⟩
      have hlt : k < xs.length := by omega
      have hkS : smallS k := smallS_of (by omega)
      obtain ⟨b1, o1, A1, cap1, rfl, hc1, hi1⟩ := hat.out k hlt
      obtain ⟨hrk, hrb⟩ := hrl.out k hlt
      have hT1 := Lib.hid (hstep.out k hlt)
      obtain ⟨A2, cap2, e2, hl2, hcap2, _, hat2⟩ := hi1.open
      cases e2
      have hat2' : Hid (∀ q, q < N → ∃ b off, A1 = some ⟨b, off, none⟩ ∧ w.cell? ⟨b, off + q, none⟩ = some (.int .i64 (at0 (rowAt xs k) q))) := fun q hq => hat2 q (by omega)
      replace hrb := Lib.hid hrb
      rw [hrk] at hc1 hl2
      clear hat hat2 hi1 hrk
      obtain ⟨A5, cap5, hc5, hl5, hcap5, hat5⟩ := (OwnRows.rows hO.out).rowCells (k + 1) (by rw [htl.out]; omega) (htat.out (k + 1) (k + 1) (Nat.le_refl _) (by omega))
      replace hat5 := Lib.hid hat5
      have hc5l := lt_of_cell hc5
      have hlo := hB.out.size
      replace hc1 : wo.cell? ⟨b1, o1 + k, none⟩ = some (.slice A1 N cap1) := by
        rw [hB.out.cell (p := ⟨b1, o1 + k, none⟩) (lt_of_cell hc1)]; exact hc1
      replace hat2' : Hid (∀ q, q < N → ∃ b off, A1 = some ⟨b, off, none⟩ ∧ wo.cell? ⟨b, off + q, none⟩ = some (.int .i64 (at0 (rowAt xs k) q))) := fun q hq => by
        obtain ⟨b, off, e, hc⟩ := hat2'.out q hq
        exact ⟨b, off, e, by rw [hB.out.cell (p := ⟨b, off + q, none⟩) (lt_of_cell hc)]; exact hc⟩
      have hbd5 := Lib.hid (hwt.out (k + 1))
      generalize rowAt xs k = row at *
      have hTd : Hid (∀ S, 0 ≤ tblAt who xs (k + 1) S ∧ tblAt who xs (k + 1) S ≤ 6000000) := hwt.out (k + 1)
      have hset1 := Lib.hid (hset.out k)
      generalize tblAt who xs (k + 1) = T1 at *
      clear htat hset hstep hrl hwt htl hbd5
      generalize hT0 : tblAt who xs k = T0 at *
      clear hT0
      unfold maxLen at hcap2
      have hk1 : IntKind.i64.wrap ((k : Int) + 1) = (k : Int) + 1 := IntWalk.i64_in _ (by omega)
      replace hk1 := Lib.hid hk1
      go_wp2_with (at_make; refine wpList_make_ints rfl _ _ 27 rfl wo.heap.size 2 Try.underlying27 info2 (p2 m) rfl rfl (by rw [← hN.out]; omega) (Nat.le_refl _) _ rfl ?_; intro w2 hT hg2 hsz2; rw [← hN.out] at hT ⊢; replace hT := Lib.hid hT; replace hg2 := Lib.hid hg2)
      go_loopw [11] (fun i W => ∃ s : Nat, s ≤ N ∧ i = .int .i64 s ∧ Hid (OwnT wo.heap.size 2 W wo.heap.size N N (fun j => if j < s then T0 j else 0)) ∧ Hid (Below wo.heap.size wo W)) (fun i _ => N - (intOf i).toNat)
      case atStart => exact ⟨0, Nat.zero_le _, rfl, hT.out.congr (fun i _ => by simp), hg2.out⟩
      case round =>
        clear hT hg2 hsz2
        obtain ⟨s, hs, rfl, hT, hg⟩ := hrel
        by_cases hlt2 : s < N
        · have hss : small s := small_of (by omega)
          have hlt2' : ((s : Int) < ((p2 m : Nat) : Int)) := by rw [← hN.out]; omega
          go_wp2
          go_loopw [12] (fun i W => ∃ q : Nat, q ≤ s + 1 ∧ i = .int .i64 q ∧ Hid (OwnT wo.heap.size 2 W wo.heap.size N N (fun j => if j < s then T0 j else if j = s then acc row T1 s (bitOf who k == 1) q else 0)) ∧ Hid (Below wo.heap.size wo W)) (fun i _ => s + 1 - (intOf i).toNat)
          case atStart => exact ⟨0, Nat.zero_le _, rfl, hT.out.congr (fun i _ => by by_cases h : i = s <;> simp [h, acc]), hg.out⟩
          case round =>
            clear hT hg
            obtain ⟨q, hq, rfl, hT, hg⟩ := hrel
            by_cases hql : (q : Int) ≤ (s : Int)
            · have hqs : small q := small_of (by omega)
              have hacc : Hid (acc row T1 s (bitOf who k == 1) (q + 1) = if andN q s = 0 ∧ (q = 0 ∨ (bitOf who k == 1) = true) then (if acc row T1 s (bitOf who k == 1) q < at0 row q + T1 (andN s q) then at0 row q + T1 (andN s q) else acc row T1 s (bitOf who k == 1) q) else acc row T1 s (bitOf who k == 1) q) := rfl
              have hcond : ((((andN q s : Nat) : Int) == 0) = false ∧ ¬ (andN q s = 0)) ∨ ((((andN q s : Nat) : Int) == 0) = true ∧ andN q s = 0) := by
                by_cases h : andN q s = 0
                · exact .inr ⟨by rw [h]; rfl, h⟩
                · exact .inl ⟨by simp; omega, h⟩
              have hqc : (((q : Int) == 0) = true ∧ q = 0) ∨ (((q : Int) == 0) = false ∧ ¬ q = 0) := by
                by_cases h : q = 0
                · exact .inl ⟨by rw [h]; rfl, h⟩
                · exact .inr ⟨by simp; omega, h⟩
              have hbc : (((((bitOf who k : Nat) : Int) == 1) = true) ∧ Hid ((bitOf who k == 1) = true)) ∨ (((((bitOf who k : Nat) : Int) == 1) = false) ∧ Hid ((bitOf who k == 1) = false)) := by
                by_cases h : bitOf who k = 1
                · exact .inl ⟨by rw [h]; rfl, by show _ = _; rw [h]; rfl⟩
                · exact .inr ⟨by simp; omega, by show _ = _; simp [h]⟩
              have hskip : ∀ (_ : Hid (¬ (andN q s = 0 ∧ (q = 0 ∨ (bitOf who k == 1) = true)))), Hid (OwnT wo.heap.size 2 wr wo.heap.size N N (fun j => if j < s then T0 j else if j = s then acc row T1 s (bitOf who k == 1) (q + 1) else 0)) := fun h => by
                show OwnT ..
                refine hT.out.congr fun i _ => ?_
                rw [hacc.out, if_neg h.out]
              replace hskip := Lib.hid hskip
              have hall : ((((andN q s : Nat) : Int) == 0) = false ∧ Hid (¬ (andN q s = 0 ∧ (q = 0 ∨ (bitOf who k == 1) = true)))) ∨
                  ((((andN q s : Nat) : Int) == 0) = true ∧ ((q : Int) == 0) = false ∧ (((bitOf who k : Nat) : Int) == 1) = false ∧ Hid (¬ (andN q s = 0 ∧ (q = 0 ∨ (bitOf who k == 1) = true)))) ∨
                  ((((andN q s : Nat) : Int) == 0) = true ∧ ((q : Int) == 0) = true ∧ Hid (andN q s = 0 ∧ (q = 0 ∨ (bitOf who k == 1) = true))) ∨
                  ((((andN q s : Nat) : Int) == 0) = true ∧ ((q : Int) == 0) = false ∧ (((bitOf who k : Nat) : Int) == 1) = true ∧ Hid (andN q s = 0 ∧ (q = 0 ∨ (bitOf who k == 1) = true))) := by
                rcases hcond with ⟨hz, hcz⟩ | ⟨hz, hcz⟩
                · exact .inl ⟨hz, fun h => hcz h.1⟩
                · rcases hqc with ⟨h1, h2⟩ | ⟨h1, h2⟩
                  · exact .inr (.inr (.inl ⟨hz, h1, hcz, .inl h2⟩))
                  · rcases hbc with ⟨h3, h4⟩ | ⟨h3, h4⟩
                    · exact .inr (.inr (.inr ⟨hz, h1, h3, hcz, .inr h4.out⟩))
                    · exact .inr (.inl ⟨hz, h1, h3, fun h => by
                        rcases h.2 with h | h
                        · exact h2 h
                        · rw [h4.out] at h; cases h⟩)
              clear hcond hqc hbc
              have hSle := andN_le s q
              obtain ⟨b6, o6, rfl, hc6⟩ := hat2'.out q (by omega)
              obtain ⟨b7, o7, rfl, hc7⟩ := hat5.out (andN s q) (by omega)
              have hd1 : wr.cell? ⟨b1, o1 + k, none⟩ = some (.slice (some ⟨b6, o6, none⟩) N cap1) := by
                rw [hg.out.cell (p := ⟨b1, o1 + k, none⟩) (lt_of_cell hc1)]; exact hc1
              have hd2 : wr.cell? ⟨b6, o6 + q, none⟩ = some (.int .i64 (at0 row q)) := by
                rw [hg.out.cell (p := ⟨b6, o6 + q, none⟩) (lt_of_cell hc6)]; exact hc6
              have hd3 : wr.cell? ⟨w.heap.size, k + 1, none⟩ = some (.slice (some ⟨b7, o7, none⟩) N cap5) := by
                rw [hg.out.cell (p := ⟨w.heap.size, k + 1, none⟩) hc5l]; exact hc5
              have hd4 : wr.cell? ⟨b7, o7 + andN s q, none⟩ = some (.int .i64 (T1 (andN s q))) := by
                rw [hg.out.cell (p := ⟨b7, o7 + andN s q, none⟩) (lt_of_cell hc7)]; exact hc7
              have hd5 : wr.cell? ⟨wo.heap.size, s, none⟩ = some (.int .i64 (acc row T1 s (bitOf who k == 1) q)) := by
                rw [hT.out.at s hlt2]; simp
              have hf5 := hT.out.free s (by omega)
              have hst := Lib.hid (fun x => (hT.out.set s x))
              have hB2 := Lib.hid (fun x => hg.out.setCell (p := ⟨wo.heap.size, s, none⟩) (Nat.le_refl _) x)
              have hb1 := hrb.out q
              have hb2 := hTd.out (andN s q)
              have hwr : IntKind.i64.wrap (at0 row q + T1 (andN s q)) = at0 row q + T1 (andN s q) := IntWalk.i64_in _ (by omega)
              have hdo : Hid ((andN q s = 0 ∧ (q = 0 ∨ (bitOf who k == 1) = true)) → OwnT wo.heap.size 2 (wr.setCell ⟨wo.heap.size, s, none⟩ (.int .i64 (if acc row T1 s (bitOf who k == 1) q < at0 row q + T1 (andN s q) then at0 row q + T1 (andN s q) else acc row T1 s (bitOf who k == 1) q))) wo.heap.size N N (fun j => if j < s then T0 j else if j = s then acc row T1 s (bitOf who k == 1) (q + 1) else 0)) := fun h => by
                refine (hst.out _).congr fun i _ => ?_
                rw [hacc.out, if_pos h]
                unfold upd
                by_cases h : i = s <;> simp [h]
              clear hc6 hc7 hst hacc
              generalize acc row T1 s (bitOf who k == 1) q = a0 at *
              generalize ha1 : acc row T1 s (bitOf who k == 1) (q + 1) = a1 at *
              replace ha1 := Lib.hid ha1
              generalize T1 (andN s q) = y1 at *
              generalize at0 row q = y2 at *
              rcases hall with ⟨hz, hno⟩ | ⟨hz, hz2, hz3, hno⟩ | ⟨hz, hz2, hyes⟩ | ⟨hz, hz2, hz3, hyes⟩
              · clear hdo hwr hb1 hb2
                go_wp2
                go_roundw
                case rel => exact ⟨q + 1, by omega, by go_num, by rw [ha1.out]; exact (hskip.out hno).out, hg.out⟩
                case measure => simp [intOf]; try omega
              · clear hdo hwr hb1 hb2
                go_wp2
                go_roundw
                case rel => exact ⟨q + 1, by omega, by go_num, by rw [ha1.out]; exact (hskip.out hno).out, hg.out⟩
                case measure => simp [intOf]; try omega
              all_goals (
                clear hskip hb1 hb2
                go_wp2
                go_region
                go_wp2
                go_roundw
                case rel => exact ⟨q + 1, by omega, by go_num, by rw [ha1.out]; exact hdo.out hyes.out, below_drewN (hB2.out _) 1⟩
                case measure => simp [intOf]; try omega)
            · obtain rfl : q = s + 1 := by omega
              go_wp2
              go_roundw
              case rel => exact ⟨s + 1, by omega, by go_num, hT.out.congr (fun i _ => by by_cases h : i = s <;> simp [h, hT1.out]; by_cases h2 : i < s <;> simp [h2] <;> omega), hg.out⟩
              case measure => simp [intOf]; omega
        · obtain rfl : s = N := by omega
          have hlt2' : ¬ ((s : Int) < ((p2 m : Nat) : Int)) := by rw [← hN.out]; omega
          have hO1 := Lib.hid (OwnRows.below hO.out (Nat.le_refl _) hg.out)
          obtain ⟨⟨c9, hc9⟩, hf9⟩ := OwnL.cellAt hO1.out k (by unfold tabsFrom; rw [tab_length]; omega)
          have hrow : Hid (OwnI wo.heap.size 2 wr (.slice (some ⟨wo.heap.size, 0, none⟩) s s) (tab s T0)) := hT.out.congr (fun i hi => by simp [hi])
          have hO2 : Hid (OwnRows w.heap.size 27 (wr.setCell ⟨w.heap.size, k, none⟩ (.slice (some ⟨wo.heap.size, 0, none⟩) s s)) (.slice (some ⟨w.heap.size, 0, none⟩) (xs.length + 1) (xs.length + 1)) (tabsFrom who m xs k)) := by
            have hh := OwnRows.set (g := w.heap.size) (cap := xs.length + 1) (xs := tabsFrom who m xs (k + 1)) (by rw [tabsFrom_length]; exact hO1.out) k (.slice (some ⟨wo.heap.size, 0, none⟩) s s) (tab s T0)
              (Slc.keep (OwnL.slc hrow.out) (fun b hb _ => ⟨by omega, rfl⟩) fun _ _ _ h => h)
            rw [List.length_set, tabsFrom_length, hset1.out] at hh
            exact hh
          have hB2 : Hid (Below w.heap.size w (wr.setCell ⟨w.heap.size, k, none⟩ (.slice (some ⟨wo.heap.size, 0, none⟩) s s))) := (hB.out.trans (hg.out.mono hB.out.size)).setCell (p := ⟨w.heap.size, k, none⟩) (Nat.le_refl _) _
          clear hO hT hg hO1 hrow hB
          go_wp2
          go_roundw
          case rel => exact ⟨k, by omega, by
            rcases Nat.eq_zero_or_pos k with h | h
            · exact .inl ⟨h, by subst h; go_num⟩
            · exact .inr ⟨k - 1, by omega, by go_num⟩, hO2.out, hB2.out⟩
          case measure => simp [intOf]; try omega
end Go.Proofs.Ytadonoacmpkolaa
