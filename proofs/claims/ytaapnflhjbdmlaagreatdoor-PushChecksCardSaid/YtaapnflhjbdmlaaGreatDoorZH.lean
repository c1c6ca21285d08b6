/- push.Before, push.After. No condition. -/
import Derived.Test.YtaapnflhjbdmlaaGreatDoorZE
namespace Go.Proofs.YtaapnflhjbdmlaaGreatDoor
open Go.RowKit Go.Shelf
attribute [local go_sem] Oper.semAt_some

/-- what Before gives -/
def BfRes (l : List RuleB) (ms ms' : List Mi) : Prop :=
  (∀ m, m ∈ ms' ↔ ∃ p a q l', D (l.map RuleB.plain) (BofI ms) p a q l' ∧ m = mvK (p, a, q)) ∧ ms'.Pairwise (fun a b => lexLt a b = true)
def qs12 : List Int := [0, 1, 2, 3, 4, 5, 6, 7, 8, 9, 10, 11]
theorem qs12_mem {q : Int} (h : 0 ≤ q) (h2 : q < 12) : q ∈ qs12 := by
  have : q = 0 ∨ q = 1 ∨ q = 2 ∨ q = 3 ∨ q = 4 ∨ q = 5 ∨ q = 6 ∨ q = 7 ∨ q = 8 ∨ q = 9 ∨ q = 10 ∨ q = 11 := by omega
  rcases this with rfl | rfl | rfl | rfl | rfl | rfl | rfl | rfl | rfl | rfl | rfl | rfl <;> decide
theorem errA_ok {C st : Int} {l : List RuleB} {ms : List Mi} {fs : List Int} (h : errA C st l ms fs [] = 0) : sysB C l = true ∧ givenB C st ms fs = true := by
  unfold errA at h
  split at h
  · rename_i h1
    split at h
    · rename_i h2; exact ⟨h1, h2⟩
    · cases h
  · cases h
theorem given_in {C st : Int} {ms : List Mi} {fs : List Int} (hC : 0 ≤ C) (h : givenB C st ms fs = true) : ∀ m ∈ ms, 0 ≤ m.1 ∧ m.1 < st ∧ 0 ≤ m.2.1 ∧ m.2.1 < 5 ∧ C ≤ m.2.2 ∧ m.2.2 < st := fun m hm => by
  obtain ⟨i, hi, rfl⟩ := List.getElem_of_mem hm
  have h1 := ((givenB_iff2 hC).1 h).2.2.2.1 i hi
  unfold mvAt at h1
  have e : ms.getD i (0, 0, 0) = ms[i] := by simp [List.getD, hi]
  rw [e] at h1
  simp only [mvIn, Bool.and_eq_true, Bool.not_eq_true', decide_eq_false_iff_not] at h1
  omega
theorem bfres_of {l : List RuleB} {ms ms' : List Mi} {w : World} {b : Nat} {L0 L : List (Key × Cost)} {U : List Key} {Qs : List Int} (hS : SatSt (l.map RuleB.plain) (BofI ms) b L0 U Qs w L) (hcl : ∀ (i : Nat) r, (l.map RuleB.plain)[i]? = some r → ClosedAt (cget L) r)
    (_hk : ∀ k ∈ L.map (·.1), 97 ≤ k.2.1 ∧ k.2.1 ≤ 101) (hp : ms'.Perm ((L.map (·.1)).map mvK)) (hs : ms'.Pairwise (fun a b => lexLt b a = false)) : BfRes l ms ms' := by
  refine ⟨fun m => ?_, ?_⟩
  · rw [hp.mem_iff]
    constructor
    · intro h
      obtain ⟨k, hk, rfl⟩ := List.mem_map.1 h
      obtain ⟨c, hc⟩ := cget_iff.2 hk
      obtain ⟨l', hD, _⟩ := hS.inv.sound k c hc
      exact ⟨k.1, k.2.1, k.2.2, l', hD, rfl⟩
    · rintro ⟨p, a, q, l', hD, rfl⟩
      obtain ⟨c, hc, _⟩ := hS.inv.complete hcl hD
      exact List.mem_map.2 ⟨_, cget_iff.1 ⟨c, hc⟩, rfl⟩
  · have hnd : ms'.Nodup := by
      refine hp.nodup_iff.2 ?_
      have hn : (L.map (·.1)).Nodup := by have := AMap.nodup hS.map; rwa [cval_keys] at this
      unfold List.Nodup
      rw [List.pairwise_map]
      refine hn.imp fun {a b} hne e => hne ?_
      obtain ⟨a1, a2, a3⟩ := a
      obtain ⟨b1, b2, b3⟩ := b
      unfold mvK at e
      simp only [Prod.mk.injEq] at e ⊢
      omega
    exact (hs.and hnd).imp fun {a b} h => lex_of_two h.1 h.2

set_option maxRecDepth 8000 in
set_option maxHeartbeats 4000000 in
theorem pBefore_any (w : World) (C st : Int) (v vm vf : Value) (l : List RuleB) (ms : List Mi) (fs : List Int) (hm : Els ElZ w vm ms) (hf : Els ElI w vf fs) (hr : Rls w v l) (hs : ∀ r ∈ l, r.put.size ≤ 9223372036854775807) :
    Calls Tryz.prog 11 #[sv C v, acV st vm vf] w fun e w' => ∃ n vm' vf' ms' fs', e = .returned (.tuple #[acV n vm' vf', .int .i64 (errA C st l ms fs [])]) ∧ OwnE ElZ 78 w.heap.size w' vm' ms' ∧ OwnE ElI 3 w.heap.size w' vf' fs' ∧ (errA C st l ms fs [] = 0 → n = st ∧ fs' = fs ∧ BfRes l ms ms') ∧ Below w.heap.size w w' := by
  obtain ⟨A, n, cap, rfl, _⟩ := Els.shape hr
  obtain ⟨Am, nm, capm, rfl, _⟩ := Els.shape hm
  obtain ⟨Af, nf, capf, rfl, _⟩ := Els.shape hf
  obtain ⟨W, hW⟩ : ∃ W, ((w.alloc (.cells #[.int .i64 C, .slice A n cap] 40)).alloc (.cells #[.int .i64 st, .slice Am nm capm, .slice Af nf capf] 34)).alloc (.cells #[.int .i64 0, .slice none 0 0, .slice none 0 0] 34) = W := ⟨_, rfl⟩
  have hB : Below w.heap.size w W := by rw [← hW]; exact bthen (below1 _ _) (bthen (below1 _ _) (below1 _ _))
  have kS : Blk W w.heap.size 40 #[.int .i64 C, .slice A n cap] := by rw [← hW]; exact ((Blk.new w 40 _).alloc _).alloc _
  have kA : Blk W (w.heap.size + 1) 34 #[.int .i64 st, .slice Am nm capm, .slice Af nf capf] := by rw [← hW]; have := Blk.new (w.alloc (.cells #[.int .i64 C, .slice A n cap] 40)) 34 #[.int .i64 st, .slice Am nm capm, .slice Af nf capf]; rw [alloc_size] at this; exact this.alloc _
  have kR : Blk W (w.heap.size + 1 + 1) 34 #[.int .i64 0, .slice none 0 0, .slice none 0 0] := by rw [← hW]; have := Blk.new ((w.alloc (.cells #[.int .i64 C, .slice A n cap] 40)).alloc (.cells #[.int .i64 st, .slice Am nm capm, .slice Af nf capf] 34)) 34 #[.int .i64 0, .slice none 0 0, .slice none 0 0]; rw [alloc_size, alloc_size] at this; exact this
  have s0 : W.cell? ⟨w.heap.size, 0, none⟩ = some (.int .i64 C) := kS.cell 0
  have s1 : W.cell? ⟨w.heap.size, 1, none⟩ = some (.slice A n cap) := kS.cell 1
  have a0 : W.cell? ⟨w.heap.size + 1, 0, none⟩ = some (.int .i64 st) := kA.cell 0
  have a1 : W.cell? ⟨w.heap.size + 1, 1, none⟩ = some (.slice Am nm capm) := kA.cell 1
  have a2 : W.cell? ⟨w.heap.size + 1, 2, none⟩ = some (.slice Af nf capf) := kA.cell 2
  have hck := Lib.hid (CheckAcceptor_any W C st _ _ _ l ms fs (hm.then hB) (hf.then hB) (hr.then hB) hs)
  have hmW := Lib.hid (hm.then hB)
  have hfW := Lib.hid (hf.then hB)
  have hrW := Lib.hid (hr.then hB)
  replace hB := Lib.hid hB
  replace kS := Lib.hid kS
  replace kA := Lib.hid kA
  replace kR := Lib.hid kR
  clear hm hf hr
  obtain ⟨er, her⟩ : ∃ er, errA C st l ms fs [] = er := ⟨_, rfl⟩
  rw [her] at hck ⊢
  go_enter Tryz.func11, Tryz.ntmps11
  go_upto_region 2 with (go_at_call 30; refine hck.out.mono ?_; rintro e w1 ⟨rfl, hb1⟩; replace hb1 := Lib.hid hb1)
  have hB1 := Lib.hid (bthen hB.out hb1.out)
  have kS1 := kS.out.below hb1.out kS.out.lt
  have kA1 := kA.out.below hb1.out kA.out.lt
  have kR1 := kR.out.below hb1.out kR.out.lt
  clear hW hck s0 s1 a0 a1 a2
  by_cases h0 : er = 0
  case neg =>
    have hne : (er == 0) = false := by simpa using h0
    have x0 := kR1.free 0
    have x1 := kR1.free 1
    have x2 := kR1.free 2
    have u0 : w1.cell? ⟨w.heap.size + 1 + 1, 0, none⟩ = some (.int .i64 0) := kR1.cell 0
    have u1 : w1.cell? ⟨w.heap.size + 1 + 1, 1, none⟩ = some (.slice none 0 0) := kR1.cell 1
    have u2 : w1.cell? ⟨w.heap.size + 1 + 1, 2, none⟩ = some (.slice none 0 0) := kR1.cell 2
    have B2 := ((kR1.set 0 (.int .i64 0)).set 1 (.slice none 0 0)).set 2 (.slice none 0 0)
    have e0 := B2.cell 0
    have e1 := B2.cell 1
    have e2 := B2.cell 2
    simp at e0 e1 e2
    have hfin := Lib.hid (show Below w.heap.size w (((w1.setCell ⟨w.heap.size + 1 + 1, 0, none⟩ (.int .i64 0)).setCell ⟨w.heap.size + 1 + 1, 1, none⟩ (.slice none 0 0)).setCell ⟨w.heap.size + 1 + 1, 2, none⟩ (.slice none 0 0)) from
      hB1.out.trans (BX.below ((((BX.refl [w.heap.size + 1 + 1] w1).set (by simp) _).set (by simp) _).set (by simp) _) hB1.out.size (by simp; omega)))
    clear kS1 kA1 kR1 B2
    go_wp2
    exact bodyPost_ret (v := .tuple #[acV 0 (.slice none 0 0) (.slice none 0 0), .int .i64 er]) (by simp [results, Tryz.results11, go_sem, e0, e1, e2]) rfl ⟨_, _, _, [], [], rfl, OwnE.nil _ _ _, OwnE.nil _ _ _, fun e => absurd e h0, hfin.out⟩
  subst h0
  obtain ⟨hsys, hgiv⟩ := errA_ok her
  have hC1 : 1 ≤ C := (sysB_iff.1 hsys).1
  have hC5 : C ≤ 5 := (sysB_iff.1 hsys).2.1
  have hg2 := (givenB_iff2 (by omega)).1 hgiv
  have hgi := given_in (by omega) hgiv
  have hfl := fin_len (by omega) hgiv
  have s0 : w1.cell? ⟨w.heap.size, 0, none⟩ = some (.int .i64 C) := kS1.cell 0
  have s1 : w1.cell? ⟨w.heap.size, 1, none⟩ = some (.slice A n cap) := kS1.cell 1
  have a0 : w1.cell? ⟨w.heap.size + 1, 0, none⟩ = some (.int .i64 st) := kA1.cell 0
  have a1 : w1.cell? ⟨w.heap.size + 1, 1, none⟩ = some (.slice Am nm capm) := kA1.cell 1
  have a2 : w1.cell? ⟨w.heap.size + 1, 2, none⟩ = some (.slice Af nf capf) := kA1.cell 2
  have hgv := Lib.hid (given_any w1 st _ _ ms fs (hmW.out.then hb1.out) (hfW.out.then hb1.out) (fun m hm => by have := hgi m hm; omega) hg2.2.2.1)
  replace kS1 := Lib.hid kS1
  replace kA1 := Lib.hid kA1
  replace kR1 := Lib.hid kR1
  have hst12 := hg2.2.1
  have hms := hg2.2.2.1
  replace hg2 := Lib.hid hg2
  replace hgi := Lib.hid hgi
  replace hsys := Lib.hid hsys
  replace her := Lib.hid her
  replace hgiv := Lib.hid hgiv
  go_upto_region 5 with (go_at_call 35; refine hgv.out.mono ?_; rintro e w2 ⟨b, L0, rfl, hb, hmm, hgo, hb2⟩; replace hb := Lib.hid hb; replace hmm := Lib.hid hmm; replace hgo := Lib.hid hgo; replace hb2 := Lib.hid hb2)
  clear s0 s1 a0 a1 a2 hgv
  have kS2 := kS1.out.below hb2.out kS1.out.lt
  have kA2 := kA1.out.below hb2.out kA1.out.lt
  have kR2 := kR1.out.below hb2.out kR1.out.lt
  have hb' := hb.out
  have hkb : w.heap.size + 2 < b := by have := kR1.out.lt; omega
  have s0 : w2.cell? ⟨w.heap.size, 0, none⟩ = some (.int .i64 C) := kS2.cell 0
  have s1 : w2.cell? ⟨w.heap.size, 1, none⟩ = some (.slice A n cap) := kS2.cell 1
  have hB2 := Lib.hid (bthen hB1.out hb2.out)
  have hL0 := hgo.out.1
  rw [List.length_map] at hL0
  have hQ0 : ∀ k, (∃ c, cget L0 k = some c) → k.2.2 ∈ qs12 := fun k ⟨c, hc⟩ => by
    obtain ⟨m, hm, rfl⟩ := List.mem_map.1 ((hgo.out.2 k c).1 hc).2
    have := hgi.out m hm
    exact qs12_mem (by show 0 ≤ m.2.2; omega) (by show m.2.2 < 12; omega)
  have hsat := Lib.hid (saturate_any w2 C _ l b L0 (BofI ms) qs12 ((hrW.out.then hb1.out).then hb2.out) hsys.out hmm.out hgo.out.inv hQ0 (fun r hr => by have := sys_rules hsys.out r hr; exact qs12_mem (by omega) (by omega)) (by have : qs12.length = 12 := rfl; omega))
  replace kS2 := Lib.hid kS2
  replace kA2 := Lib.hid kA2
  replace kR2 := Lib.hid kR2
  clear hQ0 hb'
  go_upto_region 6 with (go_at_call 36; refine hsat.out.mono ?_; rintro e w3 ⟨rfl, L, hS3, hcl3, hb3⟩; replace hS3 := Lib.hid hS3; replace hcl3 := Lib.hid hcl3; replace hb3 := Lib.hid hb3)
  clear s0 s1 hsat
  have kA3 := kA2.out.bx hb3.out (by simp; omega)
  have kR3 := Lib.hid (kR2.out.bx hb3.out (by simp; omega))
  have a0 : w3.cell? ⟨w.heap.size + 1, 0, none⟩ = some (.int .i64 st) := kA3.cell 0
  have a2 : w3.cell? ⟨w.heap.size + 1, 2, none⟩ = some (.slice Af nf capf) := kA3.cell 2
  have hB3 := Lib.hid (hB2.out.trans (hb3.out.below hB2.out.size (by simp; omega)))
  have hLl : L.length ≤ 900000 := by
    have h1 := hS3.out.len
    rw [univ_len] at h1
    have h2 : l.length * qs12.length ≤ 30 * 12 := Nat.mul_le_mul (sysB_iff.1 hsys.out).2.2.1 (Nat.le_refl 12)
    omega
  have hkeys := Lib.hid (show ∀ k ∈ L.map (·.1), 97 ≤ k.2.1 ∧ k.2.1 ≤ 101 from fun k hk => by
    rcases hS3.out.keys k (cget_iff.2 hk) with h | h
    · obtain ⟨c, hc⟩ := cget_iff.2 h
      obtain ⟨m, hm, rfl⟩ := List.mem_map.1 ((hgo.out.2 k c).1 hc).2
      have := hgi.out m hm
      show 97 ≤ 97 + m.2.1 ∧ 97 + m.2.1 ≤ 101
      omega
    · obtain ⟨r, hr, h2⟩ := List.mem_flatMap.1 h
      obtain ⟨q, _, rfl⟩ := List.mem_map.1 h2
      exact (sys_rules hsys.out r hr).2.2.1)
  have hf3 := (hfW.out.then hb1.out).then hb2.out
  have hf4 : Els ElI w3 (.slice Af nf capf) fs := Els.bx hf3 hb3.out (fun h0 a ha => by
    obtain ⟨b', off, e, hc⟩ := Els.cell hfW.out h0
    rw [e] at ha
    cases ha
    have h9 : b' < W.heap.size := lt_of_cell (hc 0 h0 0 _ rfl)
    have := hb.out
    have := hb1.out.size
    simp; omega)
  have hma := Lib.hid (macc_any w3 b L st _ fs hS3.out.map hf4 hLl (by omega) hkeys.out)
  clear kA3 hf3 hf4
  have hwr : w.heap.size + 2 < w3.heap.size := kR3.out.lt
  go_wp2_with (go_at_call 37; refine hma.out.mono ?_; rintro e w7 ⟨vm7, vf7, ms7, rfl, hEm, hEf, hp7, hs7, hb7⟩; have hz3 := hB3.out.size; have hx7 := hB3.out.trans (hb7.mono hB3.out.size); obtain ⟨Am7, nm7, cm7, rfl, hnm7⟩ := OwnE.shape hEm; obtain ⟨Af7, nf7, cf7, rfl, hnf7⟩ := OwnE.shape hEf; have q7 := kR3.out.below hb7 kR3.out.lt; have u0 : w7.cell? ⟨w.heap.size + 1 + 1, 0, none⟩ = some (.int .i64 0) := q7.cell 0; have u1 : w7.cell? ⟨w.heap.size + 1 + 1, 1, none⟩ = some (.slice none 0 0) := q7.cell 1; have u2 : w7.cell? ⟨w.heap.size + 1 + 1, 2, none⟩ = some (.slice none 0 0) := q7.cell 2; have x0 := q7.free 0; have x1 := q7.free 1; have x2 := q7.free 2; have B2 := ((q7.set 0 (.int .i64 st)).set 1 (.slice Am7 nm7 cm7)).set 2 (.slice Af7 nf7 cf7); have e0 := B2.cell 0; have e1 := B2.cell 1; have e2 := B2.cell 2; simp at e0 e1 e2; have hfin := Lib.hid (show ∀ WE, BX [w.heap.size + 1 + 1] w7 WE → OwnE ElZ 78 w.heap.size WE (.slice Am7 nm7 cm7) ms7 ∧ OwnE ElI 3 w.heap.size WE (.slice Af7 nf7 cf7) fs ∧ Below w.heap.size w WE from fun WE hE => ⟨(hEm.of_block fun g hg => hE.block g (hEm.lt g hg).2 (by have := (hEm.lt g hg).1; simp; omega)).lo_le (by omega), (hEf.of_block fun g hg => hE.block g (hEf.lt g hg).2 (by have := (hEf.lt g hg).1; simp; omega)).lo_le (by omega), hx7.trans (hE.below hx7.size (by simp; omega))⟩); replace hfin := Lib.hid (hfin.out (((w7.setCell ⟨w.heap.size + 1 + 1, 0, none⟩ (.int .i64 st)).setCell ⟨w.heap.size + 1 + 1, 1, none⟩ (.slice Am7 nm7 cm7)).setCell ⟨w.heap.size + 1 + 1, 2, none⟩ (.slice Af7 nf7 cf7)) ((((BX.refl _ w7).set (by simp) _).set (by simp) _).set (by simp) _)); replace q7 := Lib.hid q7; replace hEm := Lib.hid hEm; replace hEf := Lib.hid hEf; replace hp7 := Lib.hid hp7; replace hs7 := Lib.hid hs7; replace hb7 := Lib.hid hb7; replace hx7 := Lib.hid hx7; clear B2)
  exact bodyPost_ret (v := .tuple #[acV st (.slice Am7 nm7 cm7) (.slice Af7 nf7 cf7), .int .i64 0]) (by simp [results, Tryz.results11, go_sem, e0, e1, e2]) rfl ⟨_, _, _, rfl, _, hfin.out.1, _, hfin.out.2.1, ⟨rfl, rfl, bfres_of hS3.out hcl3.out hkeys.out hp7.out hs7.out⟩, hfin.out.2.2⟩
set_option maxRecDepth 8000 in
set_option maxHeartbeats 4000000 in
theorem pAfter_any (w : World) (C st : Int) (v vm vf : Value) (l : List RuleB) (ms : List Mi) (fs : List Int) (hm : Els ElZ w vm ms) (hf : Els ElI w vf fs) (hr : Rls w v l) (hs : ∀ r ∈ l, r.put.size ≤ 9223372036854775807) :
    Calls Tryz.prog 14 #[sv C v, acV st vm vf] w fun e w' => ∃ n vm' vf' ms' fs', e = .returned (.tuple #[acV n vm' vf', .int .i64 (errA C st l ms fs [])]) ∧ OwnE ElZ 78 w.heap.size w' vm' ms' ∧ OwnE ElI 3 w.heap.size w' vf' fs' ∧ (errA C st l ms fs [] = 0 → AfRes C st l ms fs n ms' fs') ∧ Below w.heap.size w w' := by
  obtain ⟨A, n, cap, rfl, _⟩ := Els.shape hr
  obtain ⟨Am, nm, capm, rfl, _⟩ := Els.shape hm
  obtain ⟨Af, nf, capf, rfl, _⟩ := Els.shape hf
  obtain ⟨W, hW⟩ : ∃ W, ((w.alloc (.cells #[.int .i64 C, .slice A n cap] 40)).alloc (.cells #[.int .i64 st, .slice Am nm capm, .slice Af nf capf] 34)).alloc (.cells #[.int .i64 0, .slice none 0 0, .slice none 0 0] 34) = W := ⟨_, rfl⟩
  have hB : Below w.heap.size w W := by rw [← hW]; exact bthen (below1 _ _) (bthen (below1 _ _) (below1 _ _))
  have kS : Blk W w.heap.size 40 #[.int .i64 C, .slice A n cap] := by rw [← hW]; exact ((Blk.new w 40 _).alloc _).alloc _
  have kA : Blk W (w.heap.size + 1) 34 #[.int .i64 st, .slice Am nm capm, .slice Af nf capf] := by rw [← hW]; have := Blk.new (w.alloc (.cells #[.int .i64 C, .slice A n cap] 40)) 34 #[.int .i64 st, .slice Am nm capm, .slice Af nf capf]; rw [alloc_size] at this; exact this.alloc _
  have kR : Blk W (w.heap.size + 1 + 1) 34 #[.int .i64 0, .slice none 0 0, .slice none 0 0] := by rw [← hW]; have := Blk.new ((w.alloc (.cells #[.int .i64 C, .slice A n cap] 40)).alloc (.cells #[.int .i64 st, .slice Am nm capm, .slice Af nf capf] 34)) 34 #[.int .i64 0, .slice none 0 0, .slice none 0 0]; rw [alloc_size, alloc_size] at this; exact this
  have s0 : W.cell? ⟨w.heap.size, 0, none⟩ = some (.int .i64 C) := kS.cell 0
  have s1 : W.cell? ⟨w.heap.size, 1, none⟩ = some (.slice A n cap) := kS.cell 1
  have a0 : W.cell? ⟨w.heap.size + 1, 0, none⟩ = some (.int .i64 st) := kA.cell 0
  have a1 : W.cell? ⟨w.heap.size + 1, 1, none⟩ = some (.slice Am nm capm) := kA.cell 1
  have a2 : W.cell? ⟨w.heap.size + 1, 2, none⟩ = some (.slice Af nf capf) := kA.cell 2
  have hck := Lib.hid (CheckAcceptor_any W C st _ _ _ l ms fs (hm.then hB) (hf.then hB) (hr.then hB) hs)
  have hmW := Lib.hid (hm.then hB)
  have hfW := Lib.hid (hf.then hB)
  have hrW := Lib.hid (hr.then hB)
  replace hB := Lib.hid hB
  replace kS := Lib.hid kS
  replace kA := Lib.hid kA
  replace kR := Lib.hid kR
  clear hm hf hr
  obtain ⟨er, her⟩ : ∃ er, errA C st l ms fs [] = er := ⟨_, rfl⟩
  rw [her] at hck ⊢
  go_enter Tryz.func14, Tryz.ntmps14
  go_upto_region 2 with (go_at_call 30; refine hck.out.mono ?_; rintro e w1 ⟨rfl, hb1⟩; replace hb1 := Lib.hid hb1)
  have hB1 := Lib.hid (bthen hB.out hb1.out)
  have kS1 := kS.out.below hb1.out kS.out.lt
  have kA1 := kA.out.below hb1.out kA.out.lt
  have kR1 := kR.out.below hb1.out kR.out.lt
  clear hW hck s0 s1 a0 a1 a2
  by_cases h0 : er = 0
  case neg =>
    have hne : (er == 0) = false := by simpa using h0
    have x0 := kR1.free 0
    have x1 := kR1.free 1
    have x2 := kR1.free 2
    have u0 : w1.cell? ⟨w.heap.size + 1 + 1, 0, none⟩ = some (.int .i64 0) := kR1.cell 0
    have u1 : w1.cell? ⟨w.heap.size + 1 + 1, 1, none⟩ = some (.slice none 0 0) := kR1.cell 1
    have u2 : w1.cell? ⟨w.heap.size + 1 + 1, 2, none⟩ = some (.slice none 0 0) := kR1.cell 2
    have B2 := ((kR1.set 0 (.int .i64 0)).set 1 (.slice none 0 0)).set 2 (.slice none 0 0)
    have e0 := B2.cell 0
    have e1 := B2.cell 1
    have e2 := B2.cell 2
    simp at e0 e1 e2
    have hfin := Lib.hid (show Below w.heap.size w (((w1.setCell ⟨w.heap.size + 1 + 1, 0, none⟩ (.int .i64 0)).setCell ⟨w.heap.size + 1 + 1, 1, none⟩ (.slice none 0 0)).setCell ⟨w.heap.size + 1 + 1, 2, none⟩ (.slice none 0 0)) from
      hB1.out.trans (BX.below ((((BX.refl [w.heap.size + 1 + 1] w1).set (by simp) _).set (by simp) _).set (by simp) _) hB1.out.size (by simp; omega)))
    clear kS1 kA1 kR1 B2
    go_wp2
    exact bodyPost_ret (v := .tuple #[acV 0 (.slice none 0 0) (.slice none 0 0), .int .i64 er]) (by simp [results, Tryz.results14, go_sem, e0, e1, e2]) rfl ⟨_, _, _, [], [], rfl, OwnE.nil _ _ _, OwnE.nil _ _ _, fun e => absurd e h0, hfin.out⟩
  subst h0
  obtain ⟨hsys, hgiv⟩ := errA_ok her
  have s0 : w1.cell? ⟨w.heap.size, 0, none⟩ = some (.int .i64 C) := kS1.cell 0
  have s1 : w1.cell? ⟨w.heap.size, 1, none⟩ = some (.slice A n cap) := kS1.cell 1
  have a0 : w1.cell? ⟨w.heap.size + 1, 0, none⟩ = some (.int .i64 st) := kA1.cell 0
  have a1 : w1.cell? ⟨w.heap.size + 1, 1, none⟩ = some (.slice Am nm capm) := kA1.cell 1
  have a2 : w1.cell? ⟨w.heap.size + 1, 2, none⟩ = some (.slice Af nf capf) := kA1.cell 2
  have hsu := Lib.hid (successors_any w1 C st _ _ _ l ms fs (hmW.out.then hb1.out) (hfW.out.then hb1.out) (hrW.out.then hb1.out) hsys hgiv)
  replace kR1 := Lib.hid kR1
  replace hsys := Lib.hid hsys
  replace her := Lib.hid her
  replace hgiv := Lib.hid hgiv
  have hwr : w.heap.size + 2 < w1.heap.size := kR1.out.lt
  clear kS1 kA1
  go_wp2_with (go_at_call 38; refine hsu.out.mono ?_; rintro e w7 ⟨vm7, vf7, ms7, fs7, n7, rfl, hEm, hEf, hres, hb7⟩; have hz3 := hB1.out.size; have hx7 := hB1.out.trans (hb7.mono hB1.out.size); obtain ⟨Am7, nm7, cm7, rfl, hnm7⟩ := OwnE.shape hEm; obtain ⟨Af7, nf7, cf7, rfl, hnf7⟩ := OwnE.shape hEf; have q7 := kR1.out.below hb7 kR1.out.lt; have u0 : w7.cell? ⟨w.heap.size + 1 + 1, 0, none⟩ = some (.int .i64 0) := q7.cell 0; have u1 : w7.cell? ⟨w.heap.size + 1 + 1, 1, none⟩ = some (.slice none 0 0) := q7.cell 1; have u2 : w7.cell? ⟨w.heap.size + 1 + 1, 2, none⟩ = some (.slice none 0 0) := q7.cell 2; have x0 := q7.free 0; have x1 := q7.free 1; have x2 := q7.free 2; have B2 := ((q7.set 0 (.int .i64 n7)).set 1 (.slice Am7 nm7 cm7)).set 2 (.slice Af7 nf7 cf7); have e0 := B2.cell 0; have e1 := B2.cell 1; have e2 := B2.cell 2; simp at e0 e1 e2; have hfin := Lib.hid (show ∀ WE, BX [w.heap.size + 1 + 1] w7 WE → OwnE ElZ 78 w.heap.size WE (.slice Am7 nm7 cm7) ms7 ∧ OwnE ElI 3 w.heap.size WE (.slice Af7 nf7 cf7) fs7 ∧ Below w.heap.size w WE from fun WE hE => ⟨(hEm.of_block fun g hg => hE.block g (hEm.lt g hg).2 (by have := (hEm.lt g hg).1; simp; omega)).lo_le (by omega), (hEf.of_block fun g hg => hE.block g (hEf.lt g hg).2 (by have := (hEf.lt g hg).1; simp; omega)).lo_le (by omega), hx7.trans (hE.below hx7.size (by simp; omega))⟩); replace hfin := Lib.hid (hfin.out (((w7.setCell ⟨w.heap.size + 1 + 1, 0, none⟩ (.int .i64 n7)).setCell ⟨w.heap.size + 1 + 1, 1, none⟩ (.slice Am7 nm7 cm7)).setCell ⟨w.heap.size + 1 + 1, 2, none⟩ (.slice Af7 nf7 cf7)) ((((BX.refl _ w7).set (by simp) _).set (by simp) _).set (by simp) _)); replace q7 := Lib.hid q7; replace hEm := Lib.hid hEm; replace hEf := Lib.hid hEf; replace hres := Lib.hid hres; replace hb7 := Lib.hid hb7; replace hx7 := Lib.hid hx7; clear B2)
  exact bodyPost_ret (v := .tuple #[acV n7 (.slice Am7 nm7 cm7) (.slice Af7 nf7 cf7), .int .i64 0]) (by simp [results, Tryz.results14, go_sem, e0, e1, e2]) rfl ⟨_, _, _, rfl, _, hfin.out.1, _, hfin.out.2.1, hres.out, hfin.out.2.2⟩
end Go.Proofs.YtaapnflhjbdmlaaGreatDoor
