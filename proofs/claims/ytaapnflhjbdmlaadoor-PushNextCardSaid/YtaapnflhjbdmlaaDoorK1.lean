/- Reaches. No condition. -/
import Derived.Test.YtaapnflhjbdmlaaDoorJ4
import Derived.Test.YtaapnflhjbdmlaaDoorW7
namespace Go.Proofs.YtaapnflhjbdmlaaDoor
open Go.RowKit Go.Shelf
attribute [local go_sem] Oper.semAt_some

theorem els_blk {α : Type} {E : El α} {w : World} {g : Nat} {t : TypeId} {l : List α} {cs : Array Value} {n : Nat} (h : Blk w g t cs) (hcs : cs.toList = flatE E l) (hn : n = l.length) (hm : n ≤ 1000) : Els E w (.slice (some ⟨g, 0, none⟩) n n) l := by
  subst hn
  refine ⟨_, l.length, rfl, Nat.le_refl _, by unfold maxLen; omega, (fun h => by cases h), fun i hi => ⟨g, 0, rfl, fun j u hu => ?_⟩⟩
  have h2 := flatE_get E l i hi j u hu
  rw [h.cell, Nat.zero_add, ← h2, ← hcs, Array.getElem?_toList]

/-- whether a configuration is reached -/
def ReachP (R : List Rule) (x : Int) (s : List Int) (y : Int) (t : List Int) : Prop := ∃ n, Steps R x s n y t
open Classical in
noncomputable def reachB (l : List RuleB) (x : Int) (s : ByteArray) (y : Int) (t : ByteArray) : Bool := decide (ReachP (l.map RuleB.plain) x (cs s) y (cs t))
theorem reachB_iff {l : List RuleB} {x : Int} {s : ByteArray} {y : Int} {t : ByteArray} : reachB l x s y t = true ↔ ReachP (l.map RuleB.plain) x (cs s) y (cs t) := by unfold reachB; simp

theorem rulesOk_of {C : Int} {l : List RuleB} (h : sysB C l = true) : RulesOk C (l.map RuleB.plain) := by
  obtain ⟨_, _, _, h4⟩ := sysB_iff.1 h
  intro i r hr
  rw [List.getElem?_map] at hr
  obtain ⟨q, hq, rfl⟩ := Option.map_eq_some_iff.1 hr
  have hi := (List.getElem?_eq_some_iff.1 hq).1
  have h5 := h4 i hi
  rw [rOk, rAt_eq hi, (List.getElem?_eq_some_iff.1 hq).2] at h5
  simp only [ruleB, ctlB, Bool.and_eq_true, decide_eq_true_eq, Bool.not_eq_true', decide_eq_false_iff_not] at h5
  obtain ⟨⟨⟨⟨⟨⟨⟨a, b⟩, c, d⟩, e⟩, f⟩, g⟩, k⟩, _⟩ := h5
  refine ⟨a, b, c, d, ?_⟩
  show (cs q.put).length ≤ 2
  rw [cs_length]
  omega
theorem WayOk.no {C : Int} {l : List RuleB} {x : Int} {s : ByteArray} {y : Int} {t : ByteArray} {w' : World} {v : Value} {bm : Nat} {L : List (Key × Cost)} (h : WayOk C l x s y t w' v bm L false) (hsys : sysB C l = true) : ¬ ReachP (l.map RuleB.plain) x (cs s) y (cs t) := by
  rintro ⟨n, hn⟩
  obtain ⟨_, hI, hcl, _, _, _, _, _, _, hF⟩ := h
  obtain ⟨ks, hk, _⟩ := (path_of_run (rulesOk_of hsys) hn).chain hI hcl
  exact hF rfl ks hk
theorem WayOk.yes {C : Int} {l : List RuleB} {x : Int} {s : ByteArray} {y : Int} {t : ByteArray} {w' : World} {v : Value} {bm : Nat} {L : List (Key × Cost)} (h : WayOk C l x s y t w' v bm L true) (hsys : sysB C l = true) (hx : x < C) (hy : y < C) : ReachP (l.map RuleB.plain) x (cs s) y (cs t) := by
  obtain ⟨_, hI, hcl, _, _, _, _, _, hT, _⟩ := h
  obtain ⟨ks, _, hk, _⟩ := hT rfl
  obtain ⟨n, hp, _⟩ := hk.path hI
  exact ⟨n, run_of_path hy (rulesOk_of hsys) hx hp⟩
theorem WayOk.reach {C : Int} {l : List RuleB} {x : Int} {s : ByteArray} {y : Int} {t : ByteArray} {w' : World} {v : Value} {bm : Nat} {L : List (Key × Cost)} {ok : Bool} (h : WayOk C l x s y t w' v bm L ok) (hsys : sysB C l = true) (hx : x < C) (hy : y < C) : ok = reachB l x s y t := by
  cases ok with
  | true => exact (reachB_iff.2 (h.yes hsys hx hy)).symm
  | false =>
    cases e : reachB l x s y t with
    | false => rfl
    | true => exact absurd (reachB_iff.1 e) (h.no hsys)
theorem allE_two {C : Int} {l : List RuleB} {c d : ConfB} (h : allE C l [c, d] = 0) : sysB C l = true ∧ properB C c = true ∧ properB C d = true := by
  unfold allE at h
  split at h
  · rename_i h1
    split at h
    · rename_i h2
      simpa [h1] using h2
    · cases h
  · cases h
theorem properB_iff {C : Int} {c : ConfB} : properB C c = true ↔ 0 ≤ c.ctl ∧ c.ctl < C ∧ Word (cs c.st) ∧ c.st.size ≤ 20 := by
  unfold properB ctlB
  simp only [Bool.and_eq_true, decide_eq_true_eq, word_iff]
  constructor
  · rintro ⟨⟨⟨a, b⟩, c⟩, d⟩; exact ⟨a, b, c, d⟩
  · rintro ⟨a, b, c, d⟩; exact ⟨⟨⟨a, b⟩, c⟩, d⟩

set_option maxHeartbeats 1000000 in
theorem Reaches_any (w : World) (C x y : Int) (v : Value) (l : List RuleB) (s t : ByteArray) (h : Rls w v l) (hs : ∀ r ∈ l, r.put.size ≤ 9223372036854775807) (hss : s.size ≤ 9223372036854775807) (htt : t.size ≤ 9223372036854775807) :
    Calls Tryd.prog 19 #[sv C v, cv ⟨x, s⟩, cv ⟨y, t⟩] w fun e w' => e = .returned (.tuple #[.bool (decide (allE C l [⟨x, s⟩, ⟨y, t⟩] = 0) && reachB l x s y t), .int .i64 (allE C l [⟨x, s⟩, ⟨y, t⟩])]) ∧ Below w.heap.size w w' := by
  obtain ⟨A, n, cap, rfl, hn⟩ := Els.shape h
  obtain ⟨W, hW⟩ : ∃ W, (((w.alloc (.cells #[.int .i64 C, .slice A n cap] 38)).alloc (.cells #[.int .i64 x, .string s] 40)).alloc (.cells #[.int .i64 y, .string t] 40)).alloc (.cells #[.int .i64 x, .string s, .int .i64 y, .string t] 40) = W := ⟨_, rfl⟩
  have hBW : Below w.heap.size w W := by rw [← hW]; exact bthen (below1 _ _) (bthen (below1 _ _) (bthen (below1 _ _) (below1 _ _)))
  have kS : Blk W w.heap.size 38 #[.int .i64 C, .slice A n cap] := by rw [← hW]; exact (((Blk.new w 38 _).alloc _).alloc _).alloc _
  have kc : Blk W (w.heap.size + 1) 40 #[.int .i64 x, .string s] := by rw [← hW]; have := Blk.new (w.alloc (.cells #[.int .i64 C, .slice A n cap] 38)) 40 #[.int .i64 x, .string s]; rw [alloc_size] at this; exact (this.alloc _).alloc _
  have kd : Blk W (w.heap.size + 1 + 1) 40 #[.int .i64 y, .string t] := by rw [← hW]; have := Blk.new ((w.alloc (.cells #[.int .i64 C, .slice A n cap] 38)).alloc (.cells #[.int .i64 x, .string s] 40)) 40 #[.int .i64 y, .string t]; rw [alloc_size, alloc_size] at this; exact this.alloc _
  have k4 : Blk W (w.heap.size + 1 + 1 + 1) 40 #[.int .i64 x, .string s, .int .i64 y, .string t] := by rw [← hW]; have := Blk.new (((w.alloc (.cells #[.int .i64 C, .slice A n cap] 38)).alloc (.cells #[.int .i64 x, .string s] 40)).alloc (.cells #[.int .i64 y, .string t] 40)) 40 #[.int .i64 x, .string s, .int .i64 y, .string t]; rw [alloc_size, alloc_size, alloc_size] at this; exact this
  have H := Lib.hid (checkAll_any W C (.slice A n cap) (.slice (some ⟨w.heap.size + 1 + 1 + 1, 0, none⟩) 2 2) l [⟨x, s⟩, ⟨y, t⟩] (Els.then h hBW) (els_blk (E := ElC) k4 rfl rfl (by omega)) hs (by simp; exact ⟨hss, htt⟩))
  have c0 : W.cell? ⟨w.heap.size, 0, none⟩ = some (.int .i64 C) := kS.cell 0
  have c1 : W.cell? ⟨w.heap.size, 1, none⟩ = some (.slice A n cap) := kS.cell 1
  have c2 : W.cell? ⟨w.heap.size + 1 + 1, 0, none⟩ = some (.int .i64 y) := kd.cell 0
  have c3 : W.cell? ⟨w.heap.size + 1 + 1, 1, none⟩ = some (.string t) := kd.cell 1
  have c4 : W.cell? ⟨w.heap.size + 1, 0, none⟩ = some (.int .i64 x) := kc.cell 0
  have c5 : W.cell? ⟨w.heap.size + 1, 1, none⟩ = some (.string s) := kc.cell 1
  have hrW := Lib.hid (show Rls W (.slice A n cap) l from Els.then h hBW)
  replace hBW := Lib.hid hBW
  have hall := Lib.hid (fun e : allE C l [⟨x, s⟩, ⟨y, t⟩] = 0 => allE_two e)
  clear h hs hss htt kS kc kd k4
  generalize hEE : allE C l [⟨x, s⟩, ⟨y, t⟩] = E at H hall ⊢
  replace hEE := Lib.hid hEE
  by_cases hE : E = 0
  · subst hE
    obtain ⟨hsys, h1, h2⟩ := hall.out rfl
    obtain ⟨_, hx, _, hs20⟩ := properB_iff.1 h1
    obtain ⟨_, hy, _, ht20⟩ := properB_iff.1 h2
    dsimp only at hx hy hs20 ht20
    have hres := Lib.hid (fun w' v bm L ok (hh : WayOk C l x s y t w' v bm L ok) => hh.reach hsys hx hy)
    replace hsys := Lib.hid hsys
    clear hall h1 h2
    go_enter Tryd.func19, Tryd.ntmps19
    go_wp2_with (first
      | (go_at_call 27; refine H.out.mono ?_; rintro e w1 ⟨rfl, hb⟩; replace c0 := cell_below c0 hb; replace c1 := cell_below c1 hb; replace c2 := cell_below c2 hb; replace c3 := cell_below c3 hb; replace c4 := cell_below c4 hb; replace c5 := cell_below c5 hb; replace hb := Lib.hid hb)
      | (go_at_call 35; refine (way_any w1 C _ l x y s t (Els.then hrW.out hb.out) hsys.out (by omega) (by omega)).mono ?_; rintro e w2 ⟨pv, bm, L, ok, rfl, hok, hb2⟩; obtain rfl := hres.out _ _ _ _ _ hok; obtain ⟨_, _, _, st, A2, n2, cap2, rfl, _⟩ := hok; replace hb2 := Lib.hid hb2))
    exact bodyPost_ret (v := .tuple #[.bool (reachB l x s y t), .int .i64 0]) (by simp [results, Tryd.results19, go_sem]) rfl ⟨by simp, bthen hBW.out (bthen hb.out (bthen hb2.out (below1 _ _)))⟩
  · have hne : (E != 0) = true := by simpa using hE
    have hfin := Lib.hid (show (decide (E = 0) && reachB l x s y t) = false by simp [hE])
    clear hall
    replace hE := Lib.hid hE
    go_enter Tryd.func19, Tryd.ntmps19
    go_wp2_with (go_at_call 27; refine H.out.mono ?_; rintro e w1 ⟨rfl, hb⟩; replace hb := Lib.hid hb)
    exact bodyPost_ret (v := .tuple #[.bool false, .int .i64 E]) (by simp [results, Tryd.results19, go_sem]) rfl ⟨by rw [hfin.out], bthen hBW.out hb.out⟩
end Go.Proofs.YtaapnflhjbdmlaaDoor
