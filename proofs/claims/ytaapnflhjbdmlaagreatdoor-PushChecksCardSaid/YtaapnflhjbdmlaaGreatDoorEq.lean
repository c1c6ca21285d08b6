/- Equality of rules, configurations, heads and moves; what the maps' keys want. No condition. -/
import Derived.Test.YtaapnflhjbdmlaaGreatDoorW1
import Derived.Test.YtaapnflhjbdmlaaGreatDoorAE
import Derived.Test.YtaapnflhjbdmlaaGreatDoorPX
namespace Go.Proofs.YtaapnflhjbdmlaaGreatDoor
open Go.RowKit Go.Shelf
attribute [local go_sem] Oper.semAt_some

theorem toList_eq {a b : ByteArray} : a.toList = b.toList ↔ a = b := by
  rw [Lib.toList_data, Lib.toList_data]
  constructor
  · intro h; cases a; cases b; congr 1; exact Array.toList_inj.1 h
  · rintro rfl; rfl
def eqR (a b : RuleB) : Bool := a.fr == b.fr && (a.top == b.top && (a.to == b.to && a.put.toList == b.put.toList))
theorem eqR_iff {a b : RuleB} : eqR a b = true ↔ a = b := by
  obtain ⟨a1, a2, a3, a4⟩ := a
  obtain ⟨b1, b2, b3, b4⟩ := b
  simp [eqR, toList_eq]
def eqC (a b : ConfB) : Bool := a.ctl == b.ctl && a.st.toList == b.st.toList
theorem eqC_iff {a b : ConfB} : eqC a b = true ↔ a = b := by
  obtain ⟨a1, a2⟩ := a
  obtain ⟨b1, b2⟩ := b
  simp [eqC, toList_eq]

theorem eql63 (w : World) (a1 a2 a3 b1 b2 b3 : Int) (a4 b4 : ByteArray) : (binOp .eql 79 (.agg #[.int .i64 a1, .int .u8 a2, .int .i64 a3, .string a4]) (.agg #[.int .i64 b1, .int .u8 b2, .int .i64 b3, .string b4])).run Tryz.prog w = .ok (.bool (eqR ⟨a1, a2, a3, a4⟩ ⟨b1, b2, b3, b4⟩)) w := by
  rw [run_eql_struct, show 10000 = 9998 + 1 + 1 from rfl, run_equalIn_agg _ _ _ _ _ (by kernel_rfl) (by kernel_rfl)]
  go_simp
  unfold eqR
  by_cases h1 : a1 = b1 <;> by_cases h2 : a2 = b2 <;> by_cases h3 : a3 = b3 <;> by_cases h4 : a4.toList = b4.toList <;> simp [h1, h2, h3, h4]
theorem eql61 (w : World) (a1 a2 a3 b1 b2 b3 : Int) (a4 b4 : ByteArray) : (binOp .eql 76 (.agg #[.int .i64 a1, .int .u8 a2, .int .i64 a3, .string a4]) (.agg #[.int .i64 b1, .int .u8 b2, .int .i64 b3, .string b4])).run Tryz.prog w = .ok (.bool (eqR ⟨a1, a2, a3, a4⟩ ⟨b1, b2, b3, b4⟩)) w := by
  rw [run_eql_struct, show 10000 = 9998 + 1 + 1 from rfl, run_equalIn_agg _ _ _ _ _ (by kernel_rfl) (by kernel_rfl)]
  go_simp
  unfold eqR
  by_cases h1 : a1 = b1 <;> by_cases h2 : a2 = b2 <;> by_cases h3 : a3 = b3 <;> by_cases h4 : a4.toList = b4.toList <;> simp [h1, h2, h3, h4]
theorem eql40 (w : World) (a1 b1 : Int) (a4 b4 : ByteArray) : (binOp .eql 60 (.agg #[.int .i64 a1, .string a4]) (.agg #[.int .i64 b1, .string b4])).run Tryz.prog w = .ok (.bool (eqC ⟨a1, a4⟩ ⟨b1, b4⟩)) w := by
  rw [run_eql_struct, show 10000 = 9998 + 1 + 1 from rfl, run_equalIn_agg _ _ _ _ _ (by kernel_rfl) (by kernel_rfl)]
  go_simp
  unfold eqC
  by_cases h1 : a1 = b1 <;> by_cases h4 : a4.toList = b4.toList <;> simp [h1, h4]
theorem eql26 (w : World) (a1 b1 : Int) (a4 b4 : ByteArray) : (binOp .eql 53 (.agg #[.int .i64 a1, .string a4]) (.agg #[.int .i64 b1, .string b4])).run Tryz.prog w = .ok (.bool (eqC ⟨a1, a4⟩ ⟨b1, b4⟩)) w := by
  rw [run_eql_struct, show 10000 = 9998 + 1 + 1 from rfl, run_equalIn_agg _ _ _ _ _ (by kernel_rfl) (by kernel_rfl)]
  go_simp
  unfold eqC
  by_cases h1 : a1 = b1 <;> by_cases h4 : a4.toList = b4.toList <;> simp [h1, h4]

/-! ### keys -/
/-- a head: a state and a letter -/
abbrev hv (h : Head) : Value := .agg #[.int .i64 h.1, .int .u8 h.2]
/-- a move: a head and a state -/
abbrev mv (k : Key) : Value := .agg #[.int .i64 k.1, .int .u8 k.2.1, .int .i64 k.2.2]
theorem eql77 (w : World) (a1 a2 b1 b2 : Int) : (binOp .eql 102 (.agg #[.int .i64 a1, .int .u8 a2]) (.agg #[.int .i64 b1, .int .u8 b2])).run Tryz.prog w = .ok (.bool (a1 == b1 && a2 == b2)) w := by
  rw [run_eql_struct, show 10000 = 9998 + 1 + 1 from rfl, run_equalIn_agg _ _ _ _ _ (by kernel_rfl) (by kernel_rfl)]
  go_simp
  by_cases h1 : a1 = b1 <;> by_cases h2 : a2 = b2 <;> simp [h1, h2]
theorem equal77 (w : World) (a b : Head) : (Op.equal 102 (hv a) (hv b)).run Tryz.prog w = .ok (decide (a = b)) w := by
  unfold hv Op.equal
  rw [show Op.maxDepth = 9998 + 1 + 1 from rfl, run_equalIn_agg _ _ _ _ _ (by kernel_rfl) (by kernel_rfl)]
  go_simp
  obtain ⟨a1, a2⟩ := a
  obtain ⟨b1, b2⟩ := b
  by_cases e1 : a1 = b1 <;> by_cases e2 : a2 = b2 <;> simp [e1, e2]
theorem equal94 (w : World) (a b : Key) : (Op.equal 104 (mv a) (mv b)).run Tryz.prog w = .ok (decide (a = b)) w := by
  unfold mv Op.equal
  rw [show Op.maxDepth = 9997 + 1 + 1 + 1 from rfl, run_equalIn_agg _ _ _ _ _ (by kernel_rfl) (by kernel_rfl)]
  go_simp
  obtain ⟨a1, a2, a3⟩ := a
  obtain ⟨b1, b2, b3⟩ := b
  by_cases e1 : a1 = b1 <;> by_cases e2 : a2 = b2 <;> by_cases e3 : a3 = b3 <;> simp [e1, e2, e3]

theorem key77 : KeyT Tryz.prog 102 hv := by
  refine KeyT.deep Tryz.underlying102 (fun a b => rfl) (fun w em a => ?_) equal77 (fun a => ?_)
  · unfold hv
    have e1 : (part 3 #[.int .i64 a.1, .int .u8 a.2] 0).run Tryz.prog w = .ok (.int .i64 a.1) w := by kernel_rfl
    have e2 : (part 5 #[.int .i64 a.1, .int .u8 a.2] 1).run Tryz.prog w = .ok (.int .u8 a.2) w := by kernel_rfl
    have key : ∀ d, (Instr.checkKey em (d + 1 + 1) 102 (.agg #[.int .i64 a.1, .int .u8 a.2])).run Tryz.prog w = .ok () w := fun d => by
      simp only [Instr.checkKey, Sem.run_bind, run_underlying Tryz.underlying102, Result.andThen_ok]
      simp [e1, e2, ← Array.forIn_toList]
    exact key 9998
  · simp [Instr.sameBits]
theorem key94 : KeyT Tryz.prog 104 mv := by
  refine KeyT.deep Tryz.underlying104 (fun a b => rfl) (fun w em a => ?_) equal94 (fun a => ?_)
  · unfold mv
    have e1 : (part 3 #[.int .i64 a.1, .int .u8 a.2.1] 0).run Tryz.prog w = .ok (.int .i64 a.1) w := by kernel_rfl
    have e2 : (part 5 #[.int .i64 a.1, .int .u8 a.2.1] 1).run Tryz.prog w = .ok (.int .u8 a.2.1) w := by kernel_rfl
    have e3 : (part 102 #[.int .i64 a.1, .int .u8 a.2.1, .int .i64 a.2.2] 0).run Tryz.prog w = .ok (.agg #[.int .i64 a.1, .int .u8 a.2.1]) w := by kernel_rfl
    have e4 : (part 3 #[.int .i64 a.1, .int .u8 a.2.1, .int .i64 a.2.2] 2).run Tryz.prog w = .ok (.int .i64 a.2.2) w := by kernel_rfl
    have key : ∀ d, (Instr.checkKey em (d + 1 + 1) 102 (.agg #[.int .i64 a.1, .int .u8 a.2.1])).run Tryz.prog w = .ok () w := fun d => by
      simp only [Instr.checkKey, Sem.run_bind, run_underlying Tryz.underlying102, Result.andThen_ok]
      simp [e1, e2, ← Array.forIn_toList]
    have key0 : ∀ d x, (Instr.checkKey em (d + 1) 3 (.int .i64 x)).run Tryz.prog w = .ok () w := fun d x => by
      simp [Instr.checkKey, run_underlying Tryz.underlying3]
    have key2 : ∀ d, (Instr.checkKey em (d + 1 + 1 + 1) 104 (.agg #[.int .i64 a.1, .int .u8 a.2.1, .int .i64 a.2.2])).run Tryz.prog w = .ok () w := fun d => by
      rw [Instr.checkKey]
      simp only [Sem.run_bind, run_underlying Tryz.underlying104, Result.andThen_ok]
      simp [e3, e4, key, key0, ← Array.forIn_toList]
    exact key2 9997
  · simp [Instr.sameBits]
end Go.Proofs.YtaapnflhjbdmlaaGreatDoor
