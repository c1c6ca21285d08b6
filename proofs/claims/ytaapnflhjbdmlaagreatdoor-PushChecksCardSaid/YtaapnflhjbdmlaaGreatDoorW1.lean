/- Rules and configurations in memory; isWord; slices.Index and slices.Contains of rules. No condition. -/
import Derived.Test.YtaapnflhjbdmlaaGreatDoorE0
import Derived.Test.YtaapnflhjbdmlaaGreatDoorTrim
import Derived.Test.YtaapnflhjbdmlaaGreatDoorPX
import Derived.Deep.RegionWith
namespace Go.Proofs.YtaapnflhjbdmlaaGreatDoor
open Go.RowKit Go.Shelf

/-- a string's letters -/
def cs (s : ByteArray) : List Int := s.data.toList.map fun b => (b.toNat : Int)
theorem cs_length (s : ByteArray) : (cs s).length = s.size := by simp [cs]
theorem cs_inj {s t : ByteArray} (h : cs s = cs t) : s = t := by
  unfold cs at h
  have : s.data.toList = t.data.toList := by
    refine (List.map_inj_right fun a b e => ?_).1 h
    exact UInt8.toNat_inj.1 (Int.ofNat.inj e)
  cases s; cases t; congr 1; exact Array.toList_inj.1 this

/-- a rule in memory -/
structure RuleB where
  fr : Int
  top : Int
  to : Int
  put : ByteArray
def RuleB.plain (r : RuleB) : Rule := ⟨r.fr, r.top, r.to, cs r.put⟩
theorem RuleB.plain_inj {r s : RuleB} (h : r.plain = s.plain) : r = s := by
  obtain ⟨a, b, c, d⟩ := r
  obtain ⟨e, f, g, i⟩ := s
  simp only [RuleB.plain, Rule.mk.injEq] at h
  obtain ⟨rfl, rfl, rfl, h⟩ := h
  rw [cs_inj h]
abbrev rv (r : RuleB) : Value := .agg #[.int .i64 r.fr, .int .u8 r.top, .int .i64 r.to, .string r.put]
def ElR : El RuleB := ⟨4, fun r => [.int .i64 r.fr, .int .u8 r.top, .int .i64 r.to, .string r.put], fun _ => rfl, fun x u hu => by
  simp only [List.mem_cons, List.mem_nil_iff, or_false] at hu
  rcases hu with rfl | rfl | rfl | rfl <;> rfl, by decide⟩
/-- a configuration in memory -/
structure ConfB where
  ctl : Int
  st : ByteArray
abbrev cv (c : ConfB) : Value := .agg #[.int .i64 c.ctl, .string c.st]
def ElC : El ConfB := ⟨2, fun r => [.int .i64 r.ctl, .string r.st], fun _ => rfl, fun x u hu => by
  simp only [List.mem_cons, List.mem_nil_iff, or_false] at hu
  rcases hu with rfl | rfl <;> rfl, by decide⟩

/-- a list of rules that may be read -/
def Rls (w : World) (v : Value) (l : List RuleB) : Prop := Els ElR w v l
theorem Rls.cells {w : World} {A : Option Addr} {n cap : Nat} {l : List RuleB} (h : Rls w (.slice A n cap) l) (h0 : 0 < l.length) : ∃ b off, A = some ⟨b, off, none⟩ ∧ ∀ i (hi : i < l.length),
    w.cell? ⟨b, off + i * 4, none⟩ = some (.int .i64 l[i].fr) ∧ w.cell? ⟨b, off + i * 4 + 1, none⟩ = some (.int .u8 l[i].top) ∧ w.cell? ⟨b, off + i * 4 + 2, none⟩ = some (.int .i64 l[i].to) ∧ w.cell? ⟨b, off + i * 4 + 3, none⟩ = some (.string l[i].put) := by
  obtain ⟨b, off, rfl, hx⟩ := Els.cell h h0
  exact ⟨b, off, rfl, fun i hi => ⟨hx i hi 0 _ rfl, hx i hi 1 _ rfl, hx i hi 2 _ rfl, hx i hi 3 _ rfl⟩⟩

def wordB (w : List Int) : Bool := w.all fun a => decide (97 ≤ a ∧ a ≤ 101)
theorem word_iff {w : List Int} : wordB w = true ↔ Word w := by simp [wordB, Word]

theorem dropWhile_nil_iff {α : Type} (p : α → Bool) : ∀ l : List α, l.dropWhile p = [] ↔ ∀ x ∈ l, p x = true
  | [] => by simp
  | a :: l => by
    rw [List.dropWhile_cons]
    split
    · rename_i h; rw [dropWhile_nil_iff p l]; simp [h]
    · rename_i h; simp [h]

theorem trim_nil {α : Type} (p : α → Bool) (l : List α) : ((l.reverse.dropWhile p).reverse).dropWhile p = [] ↔ ∀ b ∈ l, p b = true := by
  rw [dropWhile_nil_iff]
  constructor
  · intro h b hb
    have h2 : ∀ x ∈ l.reverse.dropWhile p, p x = true := fun x hx => h x (by simpa using hx)
    have hb : b ∈ l.reverse := by simpa using hb
    rw [← List.takeWhile_append_dropWhile (p := p) (l := l.reverse)] at hb
    rcases List.mem_append.1 hb with h3 | h3
    · have := List.all_takeWhile (p := p) (l := l.reverse)
      rw [List.all_eq_true] at this
      exact this b h3
    · exact h2 b h3
  · intro h x hx
    have hx : x ∈ l.reverse.dropWhile p := by simpa using hx
    exact h x (by simpa using (List.dropWhile_sublist p).subset hx)
theorem trim_word (s : ByteArray) : ((⟨(Lib.trimS s.data.toList [97, 98, 99, 100, 101]).toArray⟩ : ByteArray) = ⟨#[]⟩) ↔ wordB (cs s) = true := by
  have e1 : ((⟨(Lib.trimS s.data.toList [97, 98, 99, 100, 101]).toArray⟩ : ByteArray) = ⟨#[]⟩) ↔ Lib.trimS s.data.toList [97, 98, 99, 100, 101] = [] := by
    constructor
    · intro h; injection h with h; simpa using h
    · intro h; rw [h]
  have hin : ∀ b : UInt8, ([97, 98, 99, 100, 101] : List UInt8).contains b = true ↔ 97 ≤ (b.toNat : Int) ∧ (b.toNat : Int) ≤ 101 := by
    intro b
    simp only [List.contains_eq_mem, List.mem_cons, List.mem_nil_iff, or_false, decide_eq_true_eq, ← UInt8.toNat_inj]
    simp
    omega
  have e2 : Lib.trimS s.data.toList [97, 98, 99, 100, 101] = [] ↔ ∀ b ∈ s.data.toList, ([97, 98, 99, 100, 101] : List UInt8).contains b = true := by
    exact trim_nil _ _
  rw [e1, e2, word_iff]
  unfold Word cs
  constructor
  · intro h a ha
    obtain ⟨b, hb, rfl⟩ := List.mem_map.1 ha
    exact (hin b).1 (h b hb)
  · intro h b hb
    exact (hin b).2 (h _ (List.mem_map.2 ⟨b, hb, rfl⟩))

theorem isWord_any (s : ByteArray) (w : World) (hs : s.size ≤ 9223372036854775807) : Calls Tryz.prog 51 #[.string s] w fun e w' => e = .returned (.bool (wordB (cs s))) ∧ Below w.heap.size w w' := by
  have hcon := Any.strings_Trim_laid Tryz.lays160 (by kernel_rfl) s ⟨#[97, 98, 99, 100, 101]⟩ w hs (by decide) (ascii_of_all (by decide))
  change Calls Tryz.prog 74 _ _ (fun e w' => e = .returned (.string ⟨(Lib.trimS s.data.toList [97, 98, 99, 100, 101]).toArray⟩) ∧ Below w.heap.size w w') at hcon
  have ht := Lib.hid (trim_word s)
  generalize (⟨(Lib.trimS s.data.toList [97, 98, 99, 100, 101]).toArray⟩ : ByteArray) = r at hcon ht
  go_enter Tryz.func51, Tryz.ntmps51
  go_wp2_with (go_at_call 74; refine hcon.mono ?_; rintro e w' ⟨rfl, hB⟩)
  go_ret
  refine ⟨ret_bool ?_, hB⟩
  rw [Bool.eq_iff_iff, ← ht.out]
  simp only [List.isEmpty_iff, Lib.toList_data]
  constructor
  · intro h; cases r; simpa using h
  · intro h; rw [h]
end Go.Proofs.YtaapnflhjbdmlaaGreatDoor
