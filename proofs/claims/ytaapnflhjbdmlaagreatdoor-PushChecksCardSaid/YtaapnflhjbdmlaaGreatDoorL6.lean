/- PushRuns: the walk. No condition. -/
import Derived.Test.YtaapnflhjbdmlaaGreatDoorAA
import Derived.Test.YtaapnflhjbdmlaaGreatDoorRs
import Derived.Test.YtaapnflhjbdmlaaGreatDoorW6
namespace Go.Proofs.YtaapnflhjbdmlaaGreatDoor
open Go.RowKit Go.Shelf
attribute [local go_sem] Oper.semAt_some

theorem ints_els {w : World} {v : Value} {xs : List Int} (h : Ints w v xs) : Els ElI w v xs := by
  obtain ⟨A, cap, rfl, h1, h2, h3, h4⟩ := h
  refine ⟨A, cap, rfl, h1, h2, h3, fun i hi => ?_⟩
  obtain ⟨b, off, c, hA, _, hc, hr⟩ := h4 i hi
  refine ⟨b, off, hA, fun j u hu => ?_⟩
  have : j = 0 := by
    have := (List.getElem?_eq_some_iff.1 hu).1
    simp [ElI] at this
    exact this
  subst this
  simp [ElI] at hu
  subst hu
  simp only [ElI, Nat.mul_one, Nat.add_zero]
  rw [hc]
  exact congrArg _ hr

theorem walkS_nil {P : Program} {ops : Array Oper} {W : World} {mask : List Bool} {deps : List (List Nat)} {val : Nat → Hole → Value} {φ : Nat → Hole → World → Prop} {sp : List Bool} {Fin : (Nat → Option Hole) → Act → Prop} {k : Nat} {F : Nat → Option Hole} {a : Act} (h : Fin F a) : walkS P ops W mask deps val φ sp Fin [] k F a := h
theorem since_own {W : World} {α : Type} {E : El α} {e lo : Nat} {f : Hole → Value} {l : List α} {h : Hole} {w : World} (hs : Since W (fun h w => OwnE E e lo w (f h) l) h w) : OwnE E e lo w (f h) l := by
  obtain ⟨w0, h1, _, hb⟩ := hs
  exact h1.then hb
theorem since_blk {W : World} {t : Nat} {cs : Array Value} {h : Hole} {w : World} (hs : Since W (fun h w => W.heap.size ≤ h.k ∧ Blk w h.k t cs) h w) : W.heap.size ≤ h.k ∧ Blk w h.k t cs := by
  obtain ⟨w0, ⟨h2, h1⟩, _, hb⟩ := hs
  exact ⟨h2, h1.below hb h1.lt⟩
theorem law_start {Y : World} {b8 b9 b10 : Nat} {x y : Value} {x' y' x'' y'' : Value} (k8 : Blk Y b8 24 #[x, y]) (k9 : Blk Y b9 53 #[x', y']) (k10 : Blk Y b10 53 #[x'', y'']) (hne : b9 ≠ b10) (u0 u1 v0 v1 z0 z1 : Value) :
    Blk ((((((Y.setCell ⟨b8, 0, none⟩ u0).setCell ⟨b8, 1, none⟩ u1).setCell ⟨b9, 0, none⟩ v0).setCell ⟨b9, 1, none⟩ v1).setCell ⟨b10, 0, none⟩ z0).setCell ⟨b10, 1, none⟩ z1) b8 24 #[u0, u1] ∧
    Blk ((((((Y.setCell ⟨b8, 0, none⟩ u0).setCell ⟨b8, 1, none⟩ u1).setCell ⟨b9, 0, none⟩ v0).setCell ⟨b9, 1, none⟩ v1).setCell ⟨b10, 0, none⟩ z0).setCell ⟨b10, 1, none⟩ z1) b9 53 #[v0, v1] ∧
    Blk ((((((Y.setCell ⟨b8, 0, none⟩ u0).setCell ⟨b8, 1, none⟩ u1).setCell ⟨b9, 0, none⟩ v0).setCell ⟨b9, 1, none⟩ v1).setCell ⟨b10, 0, none⟩ z0).setCell ⟨b10, 1, none⟩ z1) b10 53 #[z0, z1] ∧
    BX [b8, b9, b10] Y ((((((Y.setCell ⟨b8, 0, none⟩ u0).setCell ⟨b8, 1, none⟩ u1).setCell ⟨b9, 0, none⟩ v0).setCell ⟨b9, 1, none⟩ v1).setCell ⟨b10, 0, none⟩ z0).setCell ⟨b10, 1, none⟩ z1) := by
  have n1 : b8 ≠ b9 := k8.ne_of k9 (by decide)
  have n2 : b8 ≠ b10 := k8.ne_of k10 (by decide)
  have a8 := (k8.set 0 u0).set 1 u1
  have a9 := (((k9.far (p := ⟨b8, 0, none⟩) n1.symm u0).far (p := ⟨b8, 1, none⟩) n1.symm u1).set 0 v0).set 1 v1
  have a10 := (((((k10.far (p := ⟨b8, 0, none⟩) n2.symm u0).far (p := ⟨b8, 1, none⟩) n2.symm u1).far (p := ⟨b9, 0, none⟩) hne.symm v0).far (p := ⟨b9, 1, none⟩) hne.symm v1).set 0 z0).set 1 z1
  refine ⟨?_, ?_, ?_, ((((((BX.refl _ Y).set (by simp) u0).set (by simp) u1).set (by simp) v0).set (by simp) v1).set (by simp) z0).set (by simp) z1⟩
  · exact (((a8.far (p := ⟨b9, 0, none⟩) n1 v0).far (p := ⟨b9, 1, none⟩) n1 v1).far (p := ⟨b10, 0, none⟩) n2 z0).far (p := ⟨b10, 1, none⟩) n2 z1
  · exact (a9.far (p := ⟨b10, 0, none⟩) hne z0).far (p := ⟨b10, 1, none⟩) hne z1
  · exact a10
abbrev pairV (c d : ConfB) : Value := .agg #[.int .i64 c.ctl, .string c.st, .int .i64 d.ctl, .string d.st]

theorem els_ints {w : World} {v : Value} {xs : List Int} (h : Els ElI w v xs) : Ints w v xs := by
  obtain ⟨A, cap, rfl, h1, h2, h3, h4⟩ := h
  refine ⟨A, cap, rfl, h1, h2, h3, fun i hi => ?_⟩
  obtain ⟨b, off, hA, hc⟩ := h4 i hi
  refine ⟨b, off, .int .i64 xs[i], hA, trivial, ?_, rfl⟩
  have := hc 0 (.int .i64 xs[i]) rfl
  simpa [ElI] using this
theorem ownR_put (l0 : List RuleB) : ∀ r ∈ ownR l0, r.put.size ≤ 4 := by
  intro r hr
  unfold ownR at hr
  obtain ⟨q, _, rfl⟩ := List.mem_map.1 hr
  show (cutP 4 q.put).size ≤ 4
  unfold cutP
  rw [ByteArray.size_extract]
  omega
theorem cutP_size (k : Nat) (s : ByteArray) : (cutP k s).size ≤ k := by
  unfold cutP
  rw [ByteArray.size_extract]
  omega
theorem allE_iff {C : Int} {l : List RuleB} {c d : ConfB} : decide (allE C l [c, d] = 0) = (sysB C l && properB C c && properB C d) := by
  unfold allE
  cases h : sysB C l
  · rfl
  · cases h1 : properB C c
    · simp [h1]
    · cases h2 : properB C d <;> simp [h1, h2]

end Go.Proofs.YtaapnflhjbdmlaaGreatDoor
