/- polygon: the search from each point. No condition. Polygon, Empty. No condition. -/
import Derived.Test.YthnabheibacbcaaQB
import Derived.Test.YthnabheibacbcaaF2
import Derived.Deep.CutRange
import Derived.Laws.EntriesVeiled
import Derived.Test.YthnabheibacbcaaC14
namespace Go.Proofs.Ythnabheibacbcaa
section
open Go.RowKit Go.Shelf

theorem i8_i64 {t : Int} (h : t = 1 ∨ t = -1 ∨ t = 0) : IntKind.i64.wrap t = t ∧ IntKind.i64.wrap (-t) = -t := by
  rcases h with rfl | rfl | rfl <;> decide
set_option maxHeartbeats 1000000 in
theorem polyCmp_any (w : World) (g L Bp Bf : Nat) (t : Nat → Nat → Nat → Int) (f x y : Nat) (hb : w.cell? ⟨Bp, 0, none⟩ = some (.pointer (some ⟨g, 0, none⟩))) (hc : w.cell? ⟨Bf, 0, none⟩ = some (.int .i64 (f : Int)))
    (hT : w.cell? ⟨g, 1 + f * 196 + x * 14 + y, none⟩ = some (.int .i8 (t f x y))) (ht : t f x y = 1 ∨ t f x y = -1 ∨ t f x y = 0) (hL : L ≤ 14) (hf : f < L) (hx : x < L) (hy : y < L) :
    Calls Try.prog 93 #[.int .i64 (x : Int), .int .i64 (y : Int), .pointer (some ⟨Bp, 0, none⟩), .pointer (some ⟨Bf, 0, none⟩)] w fun e w' => e = .returned (.int .i64 (- t f x y)) ∧ ∃ q, w' = w.drewN q := by
  have hw := i8_i64 ht
  obtain ⟨hw1, hw2⟩ := hw
  have hf14 : f < 14 := by omega
  have hx14 : x < 14 := by omega
  have hy14 : y < 14 := by omega
  have ht1 : -1 ≤ t f x y := by omega
  have ht2 : t f x y ≤ 1 := by omega
  clear ht hL hf hx hy
  generalize t f x y = T at *
  go_enter Try.func93, Try.ntmps93
  go_wp2
  go_quiet (fail)
  go_wp2
  go_ret
  exact ⟨rfl, _, rfl⟩

theorem polySort_any (w : World) (v : Value) (later : List Nat) (g Bp Bf lo : Nat) (l : List Pt) (f : Nat) (hg : Gen l) (h14 : l.length ≤ 14) (hf : f < l.length) (hl : ∀ x ∈ later, x < l.length ∧ befI l f x) (hnd : later.Nodup) (ho : OwnI lo 3 w v (nats later))
    (h1 : w.cell? ⟨Bp, 0, none⟩ = some (.pointer (some ⟨g, 0, none⟩))) (h2 : w.cell? ⟨Bf, 0, none⟩ = some (.int .i64 (f : Int))) (hT : ∀ i j k, i < l.length → j < l.length → k < l.length → w.cell? ⟨g, 1 + i * 196 + j * 14 + k, none⟩ = some (.int .i8 (tur l i j k)))
    (q1 : Bp < lo) (q2 : Bf < lo) (q3 : g < lo) :
    Calls Try.prog 79 #[v, .func (.func 93) #[] #[.pointer (some ⟨Bp, 0, none⟩), .pointer (some ⟨Bf, 0, none⟩)]] w fun e w' => ∃ B : List Nat, e = .returned (.tuple #[]) ∧ B.Perm later ∧ B.Pairwise (fun x y => 0 < tur l f x y) ∧ OwnI lo 3 w' v (nats B) ∧ w.grownBy w' v.ownBlock := by
  by_cases h0 : later = []
  · subst h0
    obtain ⟨A, n, c, rfl, hn⟩ := OwnL.shape ho
    obtain rfl : n = 0 := by rw [hn.out]; rfl
    refine (sort0 w A c _).mono ?_
    rintro e w' ⟨rfl, rfl⟩
    exact ⟨[], rfl, List.Perm.refl _, List.Pairwise.nil, ho, World.grownBy.refl _ _⟩
  · obtain ⟨s1, s2, s3⟩ := round_swo hg f hf
    have hlt : later.length ≤ 1000000 := by
      have h3 := (List.perm_ext_iff_of_nodup (hnd) ((List.nodup_range (n := l.length)).sublist (List.filter_sublist (p := fun i => decide (i ∈ later))))).2 fun x => by
        rw [List.mem_filter, List.mem_range, decide_eq_true_eq]; exact ⟨fun h => ⟨(hl x h).1, h⟩, fun h => h.2⟩
      rw [h3.length_eq]
      have := List.length_filter_le (fun i => decide (i ∈ later)) (List.range l.length)
      rw [List.length_range] at this
      omega
    refine (sortP w v later (fun x => x < l.length ∧ befI l f x) hl (List.length_pos_iff.2 h0) hlt ho 93 #[.pointer (some ⟨Bp, 0, none⟩), .pointer (some ⟨Bf, 0, none⟩)] (fun args w => by simp [go_sem]) (fun x y => - tur l f x y) s1 s2 s3 ?_).mono ?_
    · intro W hW x y hx hy
      have hblk : ∀ b, b < lo → b < w.heap.size → W.heap[b]? = w.heap[b]? := fun b hb hbs => hW b hbs fun e => by have := (OwnL.lt ho b e).1; omega
      exact polyCmp_any W g l.length Bp Bf (tur l) f x y ((World.cell?_of_block (hblk _ q1 (lt_of_cell h1))).trans h1) ((World.cell?_of_block (hblk _ q2 (lt_of_cell h2))).trans h2)
        ((World.cell?_of_block (hblk _ q3 (lt_of_cell (hT f x y hf hx.1 hy.1)))).trans (hT f x y hf hx.1 hy.1)) (trn_cases _ _ _) h14 hf hx.1 hy.1
    · rintro e w' ⟨rfl, B, hp, hs, hO, hgr⟩
      have hBn : B.Nodup := hp.nodup_iff.2 hnd
      refine ⟨B, rfl, hp, ?_, hO, hgr⟩
      refine List.Pairwise.imp_of_mem ?_ (hs.and hBn)
      intro x y hx hy ⟨h3, h4⟩
      have hx' := hl x (hp.mem_iff.1 hx)
      have hy' := hl y (hp.mem_iff.1 hy)
      have hC := chi_of hg
      have n1 := hC.gen hf hx'.1 hy'.1 (hC.ne hx'.2) h4 (hC.ne hy'.2)
      have := hC.swap f x y
      omega

set_option maxRecDepth 100000 in
set_option maxHeartbeats 4000000 in
theorem polygon_ok (w : World) (g : Nat) (l : List Pt) (os : List Nat) (E : Bool) (hP : PObj w g l os) (ho : Ordd l os) (hg : Gen l) (h14 : l.length ≤ 14) :
    Calls Try.prog 78 #[.pointer (some ⟨g, 0, none⟩), .bool E] w fun e w' => ∃ v' ys, e = .returned v' ∧ OwnI w.heap.size 3 w' v' (nats ys) ∧ BestP (tur l) (befI l) (iEO (tur l) os) E os ys ∧ Below w.heap.size w w' := by
  have hmf : ∀ (fn : Fn) (first cap : Array Value) (w : World), (Instr.makeFunc fn first cap).run Try.prog w = .ok (.func fn first cap) w := fun _ _ _ _ => rfl
  have hcf : ∀ (args : Array Value) (W : World), (callFunc 94 args).run Try.prog W = .ok (.enter 94 args) W := fun args W => by simp [go_sem]
  obtain ⟨vp, vo, hTB, _, hol⟩ := hP
  obtain ⟨W3, hW3⟩ : ∃ W3, ((w.alloc (.cells #[.pointer (some ⟨g, 0, none⟩)] 66)).alloc (.cells #[.bool E] 4)).alloc (.cells #[.slice none 0 0] 33) = W3 := ⟨_, rfl⟩
  have b1 : Blk W3 w.heap.size 66 #[.pointer (some ⟨g, 0, none⟩)] := by rw [← hW3]; exact ((Blk.new w 66 _).alloc _).alloc _
  have b2 : Blk W3 (w.heap.size + 1) 4 #[.bool E] := by
    rw [← hW3]; have := (Blk.new (w.alloc (.cells #[.pointer (some ⟨g, 0, none⟩)] 66)) 4 #[.bool E]).alloc (.cells #[.slice none 0 0] 33); rwa [World.size_alloc] at this
  have b3 : Blk W3 (w.heap.size + 1 + 1) 33 #[.slice none 0 0] := by
    rw [← hW3]; have := Blk.new ((w.alloc (.cells #[.pointer (some ⟨g, 0, none⟩)] 66)).alloc (.cells #[.bool E] 4)) 33 #[.slice none 0 0]; rwa [World.size_alloc, World.size_alloc] at this
  have hBW : Below w.heap.size w W3 := by rw [← hW3]; exact bthen (bthen (below1 _ _) (below1 _ _)) (below1 _ _)
  have hlen : os.length = l.length := by rw [ho.1.length_eq, List.length_range]
  obtain ⟨Ao, no, co, rfl, hno⟩ := OwnL.shape hol
  rw [nats_length] at hno
  have c1 := b1.cell 0
  have c2 := b2.cell 0
  have c3 := b3.cell 0
  simp at c1 c2 c3
  have cO := cell_below hTB.order hBW
  have hgl := hTB.lt
  have hno14 : no ≤ 14 := by rw [hno.out, hlen]; exact h14
  have hTw := Lib.hid (show ∀ i j k, i < l.length → j < l.length → k < l.length → w.cell? ⟨g, 1 + i * 196 + j * 14 + k, none⟩ = some (.int .i8 (tur l i j k)) from fun i j k hi hj hk => by
    have := hTB.turn i j k (by omega) (by omega) (by omega)
    rwa [if_pos ⟨hi, hj, hk⟩] at this)
  have hOw := Lib.hid hTB.order
  replace ho := Lib.hid ho
  have hoL := Lib.hid (show ∀ i, i < no → natAt os i < l.length from fun i hi => ord_lt ho.out _ (by rw [natAt_eq (by rw [← hno.out]; exact hi)]; exact List.getElem_mem _))
  replace hlen := Lib.hid hlen
  replace hol := Lib.hid hol
  replace hg := Lib.hid hg
  clear hTB
  go_enter Try.func78, Try.ntmps78
  go_wp2
  clear c1 c2 c3 cO
  generalize hBO : w.heap.size + 1 + 1 = BO at *
  generalize hBe : w.heap.size + 1 = Be at *
  generalize hBp : w.heap.size = Bp at *
  have hord : g < Bp ∧ Bp < Be ∧ Be < BO := by omega
  replace hBO := Lib.hid hBO
  replace hBe := Lib.hid hBe
  replace hBp := Lib.hid hBp
  replace hW3 := Lib.hid hW3
  obtain ⟨hgB, hpe, heo⟩ := hord
  go_loopg [16] no (fun gh c16 wr => ∃ (a : Nat) (ys : List Nat), a + gh = no ∧ c16 = .int .i64 (a : Int) ∧ ys.length ≤ 15 ∧ Hid (∃ vq, Blk wr BO 33 #[vq] ∧ OwnI (BO + 1) 3 wr vq (nats ys)) ∧ Hid (PolyUp (tur l) (befI l) (iEO (tur l) os) E os a ys) ∧ Hid (Blk wr Bp 66 #[.pointer (some ⟨g, 0, none⟩)]) ∧ Hid (Blk wr Be 4 #[.bool E]) ∧ Hid (Below Bp w wr))
  case atStart => exact ⟨0, [], by omega, rfl, by simp, Lib.hid ⟨_, b3, own_nil _ _ _⟩, Lib.hid PolyUp.start, b1, b2, hBW⟩
  case round =>
    clear b1 b2 b3 hBW
    obtain ⟨a, ys, hag, rfl, hy15, hQ, hPU, kp, ke, hB⟩ := hrel
    by_cases hlt : a < no
    case neg =>
      obtain rfl : no = a := by omega
      obtain ⟨vq, hbq, hoq⟩ := hQ.out
      obtain ⟨A5, n5, c5, rfl, -⟩ := OwnL.shape hoq
      have kq := hbq.cell 0
      simp at kq
      replace hbq := Lib.hid hbq
      replace hoq := Lib.hid hoq
      go_wp2
      go_ret
      exact ⟨_, ys, rfl, OwnL.lo_le hoq.out (by rw [hBp.out]; omega), by have := hPU.out; rw [hno.out] at this; exact this.all, by rw [hBp.out]; exact hB.out⟩
    have haL := hoL.out a hlt
    obtain ⟨go', co', e, hgo1, hgo2, hlc, hcm, hat, -⟩ := OwnI.open hol.out (by rw [nats_length, ← hno.out]; omega)
    rw [nats_length, ← hno.out] at e hlc
    obtain ⟨rfl, rfl⟩ : Ao = some ⟨go', 0, none⟩ ∧ co = co' := by injection e with e1 _ e3; exact ⟨e1, e3⟩
    clear e
    unfold maxLen at hcm
    have hsz := hB.out.size
    rw [hBp.out] at hgo2 hsz
    have hBw := Lib.hid (show Below w.heap.size w wr by rw [hBp.out]; exact hB.out)
    have hca := cell_below (hat a (by rw [nats_length, ← hno.out]; exact hlt)) hBw.out
    rw [at0_nats] at hca
    have hIo := Lib.hid (Ints.below (OwnI.ints hol.out) (Nat.le_refl _) hBw.out)
    clear hat
    obtain ⟨f, hf⟩ : ∃ f, natAt os a = f := ⟨_, rfl⟩
    rw [hf] at haL hca
    replace hf := Lib.hid hf
    have kpc := kp.out.cell 0
    have kec := ke.out.cell 0
    simp at kpc kec
    have cO := cell_below hOw.out hBw.out
    obtain ⟨U1, hU1⟩ : ∃ U1, wr.alloc (.cells #[.int .i64 (f : Int)] 3) = U1 := ⟨_, rfl⟩
    have hBU := Lib.hid (show Below wr.heap.size wr U1 by rw [← hU1]; exact below1 _ _)
    have kf := Lib.hid (show Blk U1 wr.heap.size 3 #[.int .i64 (f : Int)] by rw [← hU1]; exact Blk.new _ _ _)
    have kfc := kf.out.cell 0
    simp at kfc
    have kpc1 := cell_below kpc hBU.out
    have cO1 := cell_below cO hBU.out
    have hla : a + 1 ≤ co := by omega
    have hIo1 := Lib.hid (Ints.below hIo.out (Nat.le_refl _) hBU.out)
    have hUs := hBU.out.size
    obtain ⟨Bf, hBf⟩ : ∃ Bf, wr.heap.size = Bf := ⟨_, rfl⟩
    rw [hBf] at kf kfc hUs
    go_upto_region 5 with (fail)
    go_cut [8] from 21 to 37 (fun c8 wx => ∃ (Bb : Nat) (A8 : Option Addr) (n8 C8 : Nat), c8 = .pointer (some ⟨Bb, 0, none⟩) ∧ Hid (Blk wx Bb 33 #[.slice A8 n8 C8]) ∧ Hid (OwnI (Bf + 1) 3 wx (.slice A8 n8 C8) (nats (os.drop (a + 1)))) ∧ Hid (Below U1.heap.size U1 wx) ∧ Bf < Bb)
    case first =>
      have hUs2 : U1.heap.size = Bf + 1 := by rw [← hU1, World.size_alloc, hBf]
      by_cases hcap : a + 1 = co
      · have hd0 : os.drop (a + 1) = [] := List.drop_eq_nil_of_le (by rw [← hno.out]; omega)
        replace hd0 := Lib.hid hd0
        have hCl := Lib.hid (clone_any U1 (.slice (some ⟨go', 0, none⟩) 0 0) (nats []) ⟨_, 0, rfl, Nat.le_refl _, Nat.zero_le _, (fun h => by cases h), fun i hi => absurd hi (by simp [nats])⟩ (by simp [nats]))
        obtain rfl : no = a + 1 := by omega
        subst hcap
        go_wp2_with (go_at_call 59; refine hCl.out.mono ?_; rintro e w2 ⟨v2, rfl, ho2, hb2⟩; obtain ⟨A2, n2, c2, rfl, -⟩ := OwnL.shape ho2; rw [hUs2] at ho2; have hs2 := hb2.size; replace ho2 := Lib.hid ho2; replace hb2 := Lib.hid hb2)
        go_meet
        exact ⟨w2.heap.size, A2, n2, c2, rfl, Lib.hid (Blk.new _ _ _), Lib.hid (by rw [hd0.out]; exact OwnL.below ho2.out (Nat.le_refl _) (below1 _ _)), Lib.hid (bthen hb2.out (below1 _ _)), by omega⟩
      · have hdr := Ints.drop hIo1.out (a + 1) (by rw [nats_length, ← hno.out]; omega)
        rw [Nat.zero_add, show (nats os).drop (a + 1) = nats (os.drop (a + 1)) by unfold nats; rw [List.map_drop]] at hdr
        have hCl := Lib.hid (clone_any U1 _ _ hdr (by rw [nats_length, List.length_drop, ← hno.out]; omega))
        clear hdr
        have hcap2 : a + 1 < co := by omega
        go_wp2_with (go_at_call 59; refine hCl.out.mono ?_; rintro e w2 ⟨v2, rfl, ho2, hb2⟩; obtain ⟨A2, n2, c2, rfl, -⟩ := OwnL.shape ho2; rw [hUs2] at ho2; have hs2 := hb2.size; replace ho2 := Lib.hid ho2; replace hb2 := Lib.hid hb2)
        go_meet
        exact ⟨w2.heap.size, A2, n2, c2, rfl, Lib.hid (Blk.new _ _ _), Lib.hid (OwnL.below ho2.out (Nat.le_refl _) (below1 _ _)), Lib.hid (bthen hb2.out (below1 _ _)), by omega⟩
    case rest =>
      obtain ⟨Bb, A8, n8, C8, rfl, kb, ho8, hbx, hBbf⟩ := hcut
      have hbc := Lib.hid (bthen hBU.out hbx.out)
      have hbwc := Lib.hid (bthen hBw.out hbc.out)
      replace kpc := cell_below kpc hbc.out
      replace kec := cell_below kec hbc.out
      replace cO := cell_below cO hbc.out
      replace kfc := cell_below kfc hbx.out
      have kbc := kb.out.cell 0
      simp at kbc
      have hnd : os.Nodup := ho.out.1.nodup_iff.2 List.nodup_range
      have hlater : ∀ x ∈ os.drop (a + 1), x < l.length ∧ befI l f x := fun x hx => by
        obtain ⟨i, hi, e⟩ := List.getElem_of_mem hx
        rw [List.getElem_drop] at e
        rw [List.length_drop] at hi
        refine ⟨ord_lt ho.out x (List.mem_of_mem_drop hx), ?_⟩
        rw [← hf.out, natAt_eq (by rw [← hno.out]; exact hlt), ← e]
        exact List.pairwise_iff_getElem.1 ho.out.2 a (a + 1 + i) (by rw [← hno.out]; exact hlt) (by omega) (by omega)
      have hTc := Lib.hid (fun i j k h1 h2 h3 => cell_below (hTw.out i j k h1 h2 h3) hbwc.out)
      have hSort := Lib.hid (polySort_any wc _ (os.drop (a + 1)) g Bp Bf (Bf + 1) l f hg.out h14 haL hlater (hnd.sublist (List.drop_sublist _ _)) ho8.out kpc kfc hTc.out (by omega) (by omega) (by omega))
      clear hnd hlater hca cO1 kpc1
      go_upto_region 7 with (go_at_call 79; refine hSort.out.mono ?_; rintro e w3 ⟨B, rfl, hBp3, hBs, hBo, hBg⟩; have hBo := Lib.hid hBo; have hBg := Lib.hid hBg; have hBp3 := Lib.hid hBp3; have hBs := Lib.hid hBs)
      go_upto_region 10 with (fail)
      have hno0 := OwnL.lt ho8.out
      have hB3 : Below (Bf + 1) wc w3 := below_of_grown hBg.out (by have := kb.out.lt; omega) (fun k hk => (hno0 k hk).1)
      have kb3 : Blk w3 Bb 33 #[.slice A8 n8 C8] := (hBg.out.block Bb kb.out.lt (fun e => OwnI.ne_blk ho8.out kb.out e.symm)).trans kb.out
      have hb3 : Below Bf wr w3 := by rw [← hBf]; exact hbc.out.trans (hB3.mono (by omega))
      obtain ⟨BL, hBL⟩ : ∃ BL, w3.heap.size = BL := ⟨_, rfl⟩
      rw [hBL]
      obtain ⟨V2, hV2⟩ : ∃ V2, (w3.alloc (.cells #[.slice none 0 0] 33)).alloc (.cells #[.func (.func 94) #[] #[.pointer (some ⟨BL, 0, none⟩), .pointer (some ⟨BO, 0, none⟩), .pointer (some ⟨Bp, 0, none⟩), .pointer (some ⟨Bf, 0, none⟩), .pointer (some ⟨Bb, 0, none⟩), .pointer (some ⟨Be, 0, none⟩), .pointer (some ⟨BL + 1, 0, none⟩)]] 110) = V2 := ⟨_, rfl⟩
      rw [hV2]
      have hV2b : Below BL w3 V2 := by rw [← hV2, ← hBL]; exact bthen (below1 _ _) (below1 _ _)
      have hV2s : V2.heap.size = BL + 1 + 1 := by rw [← hV2, World.size_alloc, World.size_alloc, hBL]
      have kL : Blk V2 BL 33 #[.slice none 0 0] := by rw [← hV2, ← hBL]; exact (Blk.new w3 33 _).alloc _
      have kG : Blk V2 (BL + 1) 110 #[.func (.func 94) #[] #[.pointer (some ⟨BL, 0, none⟩), .pointer (some ⟨BO, 0, none⟩), .pointer (some ⟨Bp, 0, none⟩), .pointer (some ⟨Bf, 0, none⟩), .pointer (some ⟨Bb, 0, none⟩), .pointer (some ⟨Be, 0, none⟩), .pointer (some ⟨BL + 1, 0, none⟩)]] := by
        rw [← hV2]; have := Blk.new (w3.alloc (.cells #[.slice none 0 0] 33)) 110 #[.func (.func 94) #[] #[.pointer (some ⟨BL, 0, none⟩), .pointer (some ⟨BO, 0, none⟩), .pointer (some ⟨Bp, 0, none⟩), .pointer (some ⟨Bf, 0, none⟩), .pointer (some ⟨Bb, 0, none⟩), .pointer (some ⟨Be, 0, none⟩), .pointer (some ⟨BL + 1, 0, none⟩)]]
        rwa [World.size_alloc, hBL] at this
      clear hV2
      obtain ⟨V4, hV4n⟩ : ∃ V4, (V2.setCell ⟨BL, 0, none⟩ (.slice (some ⟨BL + 1 + 1, 0, none⟩) 1 1)).alloc (.cells #[.int .i64 (f : Int)] 3) = V4 := ⟨_, rfl⟩
      have hV4 : (V2.alloc (.cells #[.int .i64 (f : Int)] 3)).setCell ⟨BL, 0, none⟩ (.slice (some ⟨V2.heap.size, 0, none⟩) 1 1) = V4 := by
        rw [World.setCell_alloc_past _ _ _ _ (show BL < V2.heap.size by omega), hV2s]; exact hV4n
      have kL3 : Blk (V2.alloc (.cells #[.int .i64 (f : Int)] 3)) BL 33 #[.slice none 0 0] := kL.alloc _
      have kL4 : Blk V4 BL 33 #[.slice (some ⟨V2.heap.size, 0, none⟩) 1 1] := by rw [← hV4]; simpa using kL3.set 0 (.slice (some ⟨V2.heap.size, 0, none⟩) 1 1)
      have hkeep : ∀ b, b < V2.heap.size → b ≠ BL → V4.heap[b]? = V2.heap[b]? := fun b hb hne => by
        rw [← hV4]
        exact (Below.heap_setCell _ _ _ _ (fun e => hne e)).trans (Below.heap_alloc V2 _ b hb)
      have hV4s : V4.heap.size = V2.heap.size + 1 := by rw [← hV4]; simp
      have kG4 : Blk V4 (BL + 1) 110 _ := (hkeep (BL + 1) (by omega) (by omega)).trans kG
      have hlt3 : Bb < BL := by rw [← hBL]; exact kb3.lt
      have hkeep3 : ∀ b, b < BL → V4.heap[b]? = w3.heap[b]? := fun b hb => (hkeep b (by omega) (by omega)).trans (hV2b.block b hb)
      have hb4 : Below Bf wr V4 := by
        refine hb3.trans ⟨?_, ?_, ?_, ?_, fun b hb => hkeep3 b (by omega)⟩
        · rw [← hV4]; exact hV2b.os
        · rw [← hV4]; exact hV2b.tape
        · rw [← hV4]; exact hV2b.output
        · rw [hV4s]; have := hV2b.size; omega
      have hown4 : OwnI V2.heap.size 3 V4 (.slice (some ⟨V2.heap.size, 0, none⟩) 1 1) (nats [f]) := by
        have h0 : OwnI V2.heap.size 3 (V2.alloc (.cells #[.int .i64 (f : Int)] 3)) (.slice (some ⟨V2.heap.size, 0, none⟩) 1 1) (nats [f]) :=
          OwnI.mk ⟨by simp [nats], .inr ⟨V2.heap.size, 1, #[.int .i64 (f : Int)], rfl, Nat.le_refl _, Blk.new V2 3 _, Nat.le_refl _, by decide, by simp, by simp [nats]⟩⟩
        rw [← hV4]
        exact OwnI.setBlk h0 kL3
      obtain ⟨vq, hbq, hoq⟩ := hQ.out
      have hBOr : BO < Bf := by rw [← hBf]; exact hbq.lt
      have hoqlt : ∀ b, vq.ownBlock = some b → b < Bf := fun b e => by rw [← hBf]; exact (OwnL.lt hoq b e).2
      have kf3 : Blk w3 Bf 3 #[.int .i64 (f : Int)] := (kf.out.below1 hbx.out).below hB3 (by omega)
      have cw : ∀ {p : Addr} {c : Value}, wr.cell? p = some c → p.block < Bf → V4.cell? p = some c := fun h hp => (hb4.cell hp).trans h
      have hBl : B.length = no - (a + 1) := by rw [hBp3.out.length_eq, List.length_drop, ← hno.out]
      have hBL' : ∀ k ∈ B, k < l.length := fun k hk => ord_lt ho.out k (List.mem_of_mem_drop (hBp3.out.mem_iff.1 hk))
      have hEnv : GEnv V4 V2.heap.size g l.length BL BO Bp Bf Bb Be (BL + 1) (tur l) os B f E (.slice (some ⟨go', 0, none⟩) no co) (.slice A8 n8 C8) := by
        refine ⟨⟨by omega, by omega, by omega⟩, ⟨by omega, by omega, by omega⟩, ⟨by omega, by omega, by omega⟩, ⟨by omega, by omega, by omega⟩, ⟨by omega, by omega, by omega⟩, ⟨by omega, by omega, by omega⟩,
          fun i j k h1 h2 h3 => cw (cell_below (hTw.out i j k h1 h2 h3) hBw.out) (by show g < Bf; omega), cw (cell_below hOw.out hBw.out) (by show g < Bf; omega), (kp.out.below hb4 (by omega)).cell 0, ?_, ?_, (ke.out.below hb4 (by omega)).cell 0, kG4.cell 0, ?_, ?_⟩
        · have : Blk V4 Bf 3 #[.int .i64 (f : Int)] := (hkeep3 Bf (by omega)).trans kf3
          exact this.cell 0
        · have : Blk V4 Bb 33 #[.slice A8 n8 C8] := (hkeep3 Bb hlt3).trans kb3
          exact this.cell 0
        · refine Slc.keep (OwnL.slc hol.out) (fun b hb hlt => ?_) (fun _ _ _ h => h)
          rw [hBp.out] at hlt
          exact ⟨⟨by omega, by omega, by omega⟩, (hb4.block b (by omega)).trans (hBw.out.block b (by rw [hBp.out]; omega))⟩
        · refine Slc.keep (OwnL.slc hBo.out) (fun b hb hlt => ?_) (fun _ _ _ h => h)
          rw [hBL] at hlt
          exact ⟨⟨by omega, by omega, by omega⟩, hkeep3 b hlt⟩
      have hVar : GVar V4 V2.heap.size BL BO [f] ys := ⟨_, vq, kL4, hbq.below hb4 hBOr, hown4, OwnL.below hoq (by rw [hBf]; exact Nat.le_refl _) hb4, fun b e1 e2 => by
        have h1 := hoqlt b e2
        have h2 : V2.heap.size = b := by simpa [Value.ownBlock] using e1
        omega⟩
      have hRec := grow_any (E := E) h14 (fun k hk => ord_lt ho.out k hk) hBL' haL (by omega) (show BL ≠ BO by omega) (by omega) (by omega) B.length 0 (Nat.sub_zero _) (Nat.zero_le _) V4 [f] ys (by omega) hEnv hVar (by simp) (by simp) hy15 (fun x hx => by rw [List.mem_singleton.1 hx]; exact haL)
      rw [show ((0 : Nat) : Int) = 0 from rfl] at hRec
      replace hRec := Lib.hid hRec
      have z1 := ((show Blk V2 Bf 3 #[.int .i64 (f : Int)] from (hV2b.block Bf (by omega)).trans kf3)).cell 0
      have z2 := kL3.cell 0
      have z3 := kL3.free 0
      have z4 := kG4.cell 0
      simp at z1 z2 z4
      replace hb4 := Lib.hid hb4
      have hB4' := Lib.hid (show Below Bp w V4 from hB.out.trans (hb4.out.mono (by omega)))
      have hkp4 := Lib.hid (kp.out.below hb4.out (show Bp < Bf by omega))
      have hke4 := Lib.hid (ke.out.below hb4.out (show Be < Bf by omega))
      clear hV4 hEnv hVar hown4 hkeep hkeep3 hV2b kL kL3 kL4 kG kG4 cw kf3 kb3 hB3 hb3 hoqlt hbq hoq hBg hBo hSort hTc kbc kfc kec kpc cO hno0
      go_wp2_with (go_at_call 94; refine hRec.out.mono ?_; rintro e w6 ⟨ys', rfl, hGP, hG6, hK6⟩; replace hGP := Lib.hid hGP; replace hG6 := Lib.hid hG6; replace hK6 := Lib.hid hK6)
      go_roundg (gk - 1)
      case measure => omega
      case rel =>
        have hst := PolyUp.step (chi_of hg.out) ho.out.2 (fun x hx => ord_lt ho.out x hx) (by rw [← hno.out]; exact hlt) hBp3.out (by rw [hf.out]; exact hBs.out) hPU.out (by rw [hf.out]; exact hGP.out)
        have hlen6 := hGP.out.len
        rw [hBl] at hlen6
        simp only [List.length_singleton] at hlen6
        obtain ⟨vl6, vo6, _, g2, _, g4, _⟩ := hG6.out
        refine ⟨a + 1, ys', by omega, by go_num, by omega, Lib.hid ⟨vo6, g2, g4⟩, Lib.hid hst, Lib.hid ((hK6.out.block Bp ⟨by omega, by omega, by omega⟩).trans hkp4.out), Lib.hid ((hK6.out.block Be ⟨by omega, by omega, by omega⟩).trans hke4.out), Lib.hid ?_⟩
        exact ⟨hK6.out.os.trans hB4'.out.os, hK6.out.tape.trans hB4'.out.tape, hK6.out.output.trans hB4'.out.output, Nat.le_trans hB4'.out.size hK6.out.size, fun b hb => (hK6.out.block b ⟨by omega, by omega, by omega⟩).trans (hB4'.out.block b hb)⟩
end
section
open Go.RowKit Go.Shelf

set_option maxHeartbeats 1000000 in
theorem Polygon_ok (w : World) (v : Value) (l : List Pt) (h : Pts w v l) (hc : checkB l = true) (hg : genB l = true) (h3 : 3 ≤ l.length) :
    Calls Try.prog 46 #[v] w fun e w' => ∃ v' os ys, e = .returned (.tuple #[v', .int .i64 0]) ∧ Ordd l os ∧ OwnI w.heap.size 3 w' v' (nats ys) ∧ BestP (tur l) (befI l) (iEO (tur l) os) false os ys ∧ Below w.heap.size w w' := by
  have H := Lib.hid (open_ok w _ l 3 h hc hg (by omega))
  have hn14 : l.length ≤ 14 := (len_of hc).2
  have hG := Lib.hid (gen_of hc hg)
  clear h hc hg
  go_enter Try.func46, Try.ntmps46
  go_wp2_with (first
    | (go_at_call 54; refine H.out.mono ?_; rintro e w1 ⟨g, os, rfl, hg1, hord, hP, hb⟩; have hz := hb.size; have hP := Lib.hid hP; have hord := Lib.hid hord; replace hb := Lib.hid hb)
    | (go_at_call 78; refine (polygon_ok w1 g l os false hP.out hord.out hG.out hn14).mono ?_; rintro e w2 ⟨v', ys, rfl, ho, hq, hb2⟩; replace ho := Lib.hid ho; replace hq := Lib.hid hq; replace hb2 := Lib.hid hb2))
  go_ret2
  exact ⟨_, os, ys, rfl, hord.out, OwnL.lo_le ho.out (by omega), hq.out, bthen hb.out hb2.out⟩

set_option maxHeartbeats 1000000 in
theorem Empty_ok (w : World) (v : Value) (l : List Pt) (h : Pts w v l) (hc : checkB l = true) (hg : genB l = true) (h3 : 3 ≤ l.length) :
    Calls Try.prog 47 #[v] w fun e w' => ∃ v' os ys, e = .returned (.tuple #[v', .int .i64 0]) ∧ Ordd l os ∧ OwnI w.heap.size 3 w' v' (nats ys) ∧ BestP (tur l) (befI l) (iEO (tur l) os) true os ys ∧ Below w.heap.size w w' := by
  have H := Lib.hid (open_ok w _ l 3 h hc hg (by omega))
  have hn14 : l.length ≤ 14 := (len_of hc).2
  have hG := Lib.hid (gen_of hc hg)
  clear h hc hg
  go_enter Try.func47, Try.ntmps47
  go_wp2_with (first
    | (go_at_call 54; refine H.out.mono ?_; rintro e w1 ⟨g, os, rfl, hg1, hord, hP, hb⟩; have hz := hb.size; have hP := Lib.hid hP; have hord := Lib.hid hord; replace hb := Lib.hid hb)
    | (go_at_call 78; refine (polygon_ok w1 g l os true hP.out hord.out hG.out hn14).mono ?_; rintro e w2 ⟨v', ys, rfl, ho, hq, hb2⟩; replace ho := Lib.hid ho; replace hq := Lib.hid hq; replace hb2 := Lib.hid hb2))
  go_ret2
  exact ⟨_, os, ys, rfl, hord.out, OwnL.lo_le ho.out (by omega), hq.out, bthen hb.out hb2.out⟩
end
end Go.Proofs.Ythnabheibacbcaa
