/- DeleteFunc over Layers' inner function: what is not in the list stays, in place. No condition. -/
import Derived.Test.YthnabheibacbcaaF20
import Derived.Test.YthnabheibacbcaaC12
namespace Go.Proofs.Ythnabheibacbcaa
open Go.RowKit

def dropB (hs xs : List Int) : List Int := xs.filter fun x => !memB hs x
theorem dropB_step {hs xs : List Int} {j : Nat} (hj : j < xs.length) : dropB hs (xs.take (j + 1)) = if memB hs (at0 xs j) = true then dropB hs (xs.take j) else dropB hs (xs.take j) ++ [at0 xs j] := by
  unfold dropB
  rw [take_at0 hj, List.filter_append]
  cases h : memB hs (at0 xs j) <;> simp [h]
theorem dropB_all {hs xs : List Int} (h : ∀ i, i < xs.length → memB hs (at0 xs i) = false) : dropB hs xs = xs := by
  unfold dropB
  rw [List.filter_eq_self]
  intro a ha
  obtain ⟨i, hi, rfl⟩ := List.getElem_of_mem ha
  have := h i hi
  rw [at0_eq hi] at this
  rw [this]; rfl
theorem dropB_first {hs xs : List Int} {k : Nat} (hk : k < xs.length) (h : memB hs (at0 xs k) = true) (hn : ∀ i, i < k → memB hs (at0 xs i) = false) : dropB hs (xs.take (k + 1)) = xs.take k := by
  rw [dropB_step hk, if_pos h]
  refine dropB_all fun i hi => ?_
  rw [List.length_take] at hi
  have e : at0 (xs.take k) i = at0 xs i := by rw [at0_eq (by rw [List.length_take]; omega), List.getElem_take, at0_eq]
  rw [e]; exact hn i (by omega)

theorem gsets {g : Nat} : ∀ (vs : List Value) (o : Nat) (w : World), w.grownBy (w.setCells g o vs) (some g)
  | [], o, w => World.grownBy.refl w _
  | v :: r, o, w => gtrans (gset w g o v) (gsets r (o + 1) _)

theorem Blk.setCells {g t : Nat} : ∀ (vs : List Value) (o : Nat) {w : World} {cs : Array Value}, Blk w g t cs → ∃ cs' : Array Value, Blk (w.setCells g o vs) g t cs' ∧ cs'.size = cs.size ∧ ∀ j, j < cs.size → cs'[j]? = if o ≤ j ∧ j < o + vs.length then vs[j - o]? else cs[j]?
  | [], o, w, cs, h => ⟨cs, h, rfl, fun j hj => by rw [if_neg (by simp)]⟩
  | v :: r, o, w, cs, h => by
    obtain ⟨cs', h1, h2, h3⟩ := Blk.setCells r (o + 1) (h.set o v)
    refine ⟨cs', h1, by simpa using h2, fun j hj => ?_⟩
    rw [h3 j (by simpa using hj)]
    by_cases c : o = j
    · subst c
      rw [if_neg (by omega), if_pos (by simp)]
      simp [hj]
    · by_cases c2 : o + 1 ≤ j ∧ j < o + 1 + r.length
      · rw [if_pos c2, if_pos (by simp; omega)]
        obtain ⟨k, hk⟩ : ∃ k, j = o + 1 + k := ⟨j - (o + 1), by omega⟩
        subst hk
        rw [show o + 1 + k - o = k + 1 by omega, show o + 1 + k - (o + 1) = k by omega]
        simp
      · rw [if_neg c2, if_neg (by simp; omega)]
        simp [Array.getElem?_setIfInBounds, c]

/-- the tail is cleared, what stands before it stays the call's own -/
theorem own_clear {lo : Nat} {w : World} {g n cap : Nat} {ys : List Int} (h : OwnI lo 3 w (.slice (some ⟨g, 0, none⟩) n cap) ys) (i : Nat) (hi : i < n) :
    ∃ w', (∀ ty, (Builtin.clear_ #[33] ty #[.slice (some ⟨g, i, none⟩) (n - i) (cap - i)]).run Try.prog w = .ok (.tuple #[]) w') ∧
      OwnI lo 3 w' (.slice (some ⟨g, 0, none⟩) i cap) (ys.take i) ∧ w.grownBy w' (some g) := by
  obtain ⟨cs, hlen, ho, hR⟩ := h
  rcases ho.2 with ⟨he, _⟩ | ⟨g', cap', cur, he, hlo, hblk, hnc, hcm, hcs, htake⟩
  · cases he
  injection he with e1 e2 e3
  injection e1 with e1
  injection e1 with e1
  subst e1 e2 e3
  have hb0 : Blk w g 3 cur := hblk
  have hcs' : cur.size = cap := by simpa using hcs
  have htake' : cur.toList.take ys.length = cs := by simpa using htake
  have hz : ∀ W, (zeroValue 3).run Try.prog W = .ok (.int .i64 0) W := fun W => by kernel_rfl
  refine ⟨w.setCells g i (List.replicate (ys.length - i) (.int .i64 0)), fun ty => ?_, ?_, gsets _ _ _⟩
  · exact Lib.run_clear_slice w _ _ ty _ Try.underlying33 hz rfl rfl g i _ _ (by omega) (fun t ht => by
      rw [hb0.cell, Array.getElem?_eq_getElem (by omega)]; rfl) (fun t ht => hb0.free _)
  · obtain ⟨c2, l1, l2, l3⟩ := Blk.setCells (List.replicate (ys.length - i) (.int .i64 0)) i hb0
    refine ⟨cs.take i, by rw [List.length_take, List.length_take, hlen], ?_, fun k h1 h2 => ?_⟩
    · have e : (ys.take i).length = i := by rw [List.length_take]; omega
      rw [e]
      refine ⟨by rw [List.length_take]; omega, .inr ⟨g, cap, c2, rfl, hlo, l1, by omega, hcm, by omega, ?_⟩⟩
      refine List.ext_getElem? fun k => ?_
      rw [Nat.mul_one, List.getElem?_take, List.getElem?_take]
      by_cases hk : k < i
      · rw [if_pos hk, if_pos hk, Array.getElem?_toList, l3 k (by omega), if_neg (by omega), ← htake', List.getElem?_take, if_pos (by omega), Array.getElem?_toList]
      · rw [if_neg hk, if_neg hk]
    · rw [List.getElem_take, List.getElem_take]
      exact hR _ _ _

theorem own_len {lo g n cap : Nat} {w : World} {xs : List Int} (h : OwnI lo 3 w (.slice (some ⟨g, 0, none⟩) n cap) xs) :
    n = xs.length ∧ n ≤ cap ∧ cap ≤ maxLen ∧ lo ≤ g ∧ g < w.heap.size ∧ (∀ j, j < n → w.cell? ⟨g, j, none⟩ = some (.int .i64 (at0 xs j))) ∧ ∀ o, w.frozen? ⟨g, o, none⟩ = false := by
  obtain ⟨cs, hlen, ho, hR⟩ := h
  rcases ho.2 with ⟨he, _⟩ | ⟨g', cap', cur, he, hlo, hblk, hnc, hcm, hcs, htake⟩
  · cases he
  injection he with e1 e2 e3
  injection e1 with e1
  injection e1 with e1
  subst e1 e2 e3
  have hb0 : Blk w g 3 cur := hblk
  have htake' : cur.toList.take xs.length = cs := by simpa using htake
  refine ⟨rfl, hnc, hcm, hlo, hb0.lt, fun j hj => ?_, hb0.free⟩
  have h1 : j < cs.length := by omega
  have h2 : cs[j] = .int .i64 xs[j] := hR j h1 hj
  have h3 : cur[j]? = cs[j]? := by rw [← htake', List.getElem?_take, if_pos hj, Array.getElem?_toList]
  rw [hb0.cell, h3, List.getElem?_eq_getElem h1, h2, at0_eq hj]
theorem set_take {ys : List Int} {i : Nat} (hi : i < ys.length) (x : Int) : (ys.set i x).take (i + 1) = ys.take i ++ [x] := by
  rw [take_at0 (by simpa using hi), at0_set _ _ _ _ hi, if_pos rfl, List.take_set_of_le (Nat.le_refl _)]
theorem set_at0 {ys : List Int} {i k : Nat} (hi : i < ys.length) (hk : i < k) (x : Int) : at0 (ys.set i x) k = at0 ys k := by rw [at0_set _ _ _ _ hi, if_neg (by omega)]

set_option maxHeartbeats 1000000 in
set_option maxRecDepth 100000 in
theorem deleteF_any (lo : Nat) (w : World) (g n cap b : Nat) (xs : List Int) (vh : Value) (hs : List Int) (h : OwnI lo 3 w (.slice (some ⟨g, 0, none⟩) n cap) xs)
    (hb : w.cell? ⟨b, 0, none⟩ = some vh) (hbg : b ≠ g) (hh : Slc (· ≠ g) isI w vh hs) :
    Calls Try.prog 61 #[.slice (some ⟨g, 0, none⟩) n cap, .func (.func 62) #[] #[.pointer (some ⟨b, 0, none⟩)]] w fun e w' =>
      ∃ i, e = .returned (.slice (some ⟨g, 0, none⟩) i cap) ∧ OwnI lo 3 w' (.slice (some ⟨g, 0, none⟩) i cap) (dropB hs xs) ∧ w.grownBy w' (some g) := by
  have hcf : ∀ (args : Array Value) (W : World), (callFunc 62 args).run Try.prog W = .ok (.enter 62 args) W := fun args W => by simp [go_sem]
  obtain ⟨hl, hnc, hcm, hlo, hgs, hat, hfr⟩ := own_len h
  have hints : Ints w vh hs := Slc.keep hh (fun _ _ _ => ⟨trivial, rfl⟩) fun _ _ _ h => h
  have hfi := Lib.hid (indexL1_any w _ xs b vh hs (OwnI.ints h) hb hints)
  have H1 := Lib.hid (fun wr (hg : w.grownBy wr (some g)) x => Layers1_any wr b vh hs x (gcell hg hb (by intro e; injection e with e; exact hbg e)) (Slc.keep hh (fun b hb hlt => ⟨trivial, hg.block b hlt (by intro e; injection e with e; exact hb e)⟩) fun _ _ _ h => h))
  have hO := Lib.hid h
  replace hl := Lib.hid hl
  unfold maxLen at hcm
  clear hat hfr hints h hh hb
  go_enter Try.func61, Try.ntmps61
  go_upto_region 2 with (go_at_call 84; refine hfi.out.mono ?_; rintro e w1 ⟨r, rfl, hr, rfl⟩)
  rcases hr.out with ⟨rfl, hno⟩ | ⟨k, rfl, hk, hm, hno⟩
  · replace hno := Lib.hid hno
    go_wp2
    go_ret
    exact ⟨_, rfl, by rw [dropB_all hno.out]; exact hO.out, World.grownBy.refl _ _⟩
  have hkb : ((k : Int) == -1) = false := by simp
  rw [← hl.out] at hk
  have hfirst := Lib.hid (dropB_first (by rw [← hl.out]; exact hk) hm hno)
  replace hno := Lib.hid hno
  replace hm := Lib.hid hm
  clear hr hfi
  go_wp2
  go_loopw [5, 6] (fun c5 c6 wr => ∃ (i j : Nat) (ys : List Int), c5 = .int .i64 (i : Int) ∧ c6 = .int .i64 (j : Int) ∧ i < j ∧ j ≤ n ∧ Hid (OwnI lo 3 wr (.slice (some ⟨g, 0, none⟩) n cap) ys) ∧
    Hid (ys.take i = dropB hs (xs.take j)) ∧ Hid (∀ k, j ≤ k → at0 ys k = at0 xs k) ∧ Hid (w.grownBy wr (some g))) (fun _ c6 _ => n - (intOf c6).toNat)
  case atStart => exact ⟨k, k + 1, xs, rfl, by go_num, by omega, by omega, hO, Lib.hid hfirst.out.symm, Lib.hid (fun _ _ => rfl), Lib.hid (World.grownBy.refl _ _)⟩
  case round =>
    obtain ⟨i, j, ys, rfl, rfl, hij, hj, ho, ht, hr, hg⟩ := hrel
    obtain ⟨hyl, -, -, -, -, hat, hfr⟩ := own_len ho.out
    replace hyl := Lib.hid hyl
    by_cases hlt : j < n
    · have cj := hat j hlt
      have fi := hfr i
      have hv : at0 ys j = at0 xs j := hr.out j (Nat.le_refl _)
      obtain ⟨q, hq⟩ : ∃ q, memB hs (at0 xs j) = q := ⟨_, rfl⟩
      have ci := hat i (by omega)
      have hk1 := Lib.hid (H1.out _ hg.out (at0 xs j))
      rw [hq] at hk1
      have hst := Lib.hid (dropB_step (hs := hs) (xs := xs) (j := j) (by rw [← hl.out]; exact hlt))
      rw [hq] at hst
      rw [hv] at cj
      replace hq := Lib.hid hq
      replace hv := Lib.hid hv
      generalize at0 ys i = yi at *
      generalize hx : at0 xs j = x at *
      replace hx := Lib.hid hx
      clear hat hfr
      cases q
      · go_wp2_with (go_at_call 62; refine hk1.out.mono ?_; rintro e w1 ⟨rfl, rfl⟩)
        go_roundw
        case rel =>
          have hiy : i < ys.length := by rw [← hyl.out]; omega
          have s1 := (OwnI.set (hyl.out ▸ ho.out) i x).1
          refine ⟨i + 1, j + 1, ys.set i x, by go_num, by go_num, by omega, by omega, Lib.hid ?_, Lib.hid ?_, Lib.hid ?_, Lib.hid ?_⟩
          · rw [hyl.out]; exact (by simpa using s1)
          · rw [set_take hiy, ht.out, hst.out, if_neg (by simp)]
          · intro k hk; rw [set_at0 hiy (by omega)]; exact hr.out k (by omega)
          · exact gtrans hg.out (gset _ g i _)
        case measure => simp [intOf]; omega
      · go_wp2_with (go_at_call 62; refine hk1.out.mono ?_; rintro e w1 ⟨rfl, rfl⟩)
        go_roundw
        case rel => exact ⟨i, j + 1, ys, rfl, by go_num, by omega, by omega, ho, Lib.hid (by rw [ht.out, hst.out]; simp), Lib.hid (fun k hk => hr.out k (by omega)), hg⟩
        case measure => simp [intOf]; omega
    · obtain rfl : j = n := by omega
      obtain ⟨w2, hcl, ho2, hg2⟩ := own_clear ho.out i (by omega)
      replace ho2 := Lib.hid ho2
      replace hg2 := Lib.hid hg2
      have i1 : i ≤ cap := by omega
      have i2 : i ≤ j := by omega
      have i3 : ¬ cap = i := by omega
      clear hat hfr
      go_wp2
      go_ret
      refine ⟨_, rfl, ?_, gtrans hg.out hg2.out⟩
      have := ho2.out
      rw [ht.out, hl.out, List.take_length] at this
      exact this
end Go.Proofs.Ythnabheibacbcaa
