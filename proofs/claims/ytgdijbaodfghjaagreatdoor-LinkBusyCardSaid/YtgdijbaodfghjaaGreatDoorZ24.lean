/-
  Texts of this claim, one behind the other: RndPut, Last, Mix, MixTake, MixWhen, MixImp, MixNew.
-/
import Derived.Test.YtgdijbaodfghjaaGreatDoorZ23
import Derived.Test.YtgdijbaodfghjaaGreatDoorZ14
import Derived.Deep.AppendLies
import Derived.Deep.CutRange
import Derived.Test.YtgdijbaodfghjaaGreatDoorZ12
import Derived.Test.YtgdijbaodfghjaaGreatDoorZ13
import Derived.Test.YtgdijbaodfghjaaGreatDoorZ22
import Derived.Test.YtgdijbaodfghjaaGreatDoorZ01
/-
  Flows that take turns, in memory: Put.
-/
namespace Go.Proofs.YtgdijbaodfghjaaGreatDoor
open Go.RowKit Bkt
set_option linter.unusedVariables false

def RndPutOut (w : World) (base g : Nat) (V : Nat → Value) (tv : Value) (Q : Nat → Int) (room : Int) (s : Pl.RS) (b m : Int) (x : Hd) (e : Ending) (w' : World) : Prop :=
  ∃ (A : Option Addr) (c : Nat) (b' m' : Int) (cs' : Array Value) (V' : Nat → Value) (tv' : Value),
    e = .returned (.slice A (Pl.putR room x s).1.length c) ∧ RdR HdR w' w'.heap.size A (Pl.putR room x s).1.length (Pl.putR room x s).1 ∧ (∀ ad, A = some ad → w.heap.size ≤ ad.block) ∧
    Rds w' base g cs' V' tv' Q room (Pl.putR room x s).2 b' m' ∧ RTrn w w' g V tv V' tv' ∧ (((Pl.putR room x s).1 = [x] ∧ b' = b ∧ m' = m) ∨ ((Pl.putR room x s).1 = [] ∧ b' = b + x.it.len ∧ m' = m + 1))

set_option maxHeartbeats 2000000 in
set_option maxRecDepth 100000 in
theorem rndPut_full (base g : Nat) (cs : Array Value) (V : Nat → Value) (tv : Value) (Q : Nat → Int) (room : Int) (s : Pl.RS) (b m now : Int) (x : Hd) (w : World) (h : Rds w base g cs V tv Q room s b m) {f : Nat} (hf : f < 16) (hxf : x.it.flow = f)
    (hfull : room ≤ ((s.L f).length : Int)) :
    Calls Tryz.prog 145 #[.pointer (some ⟨g, 0, none⟩), .int .i64 now, hdV x] w (RndPutOut w base g V tv Q room s b m x) := by
  have hgl := h.blk.lt
  have hb0 : Below w.heap.size w (w.alloc (.cells #[.int .i64 x.it.at_, .int .i64 x.it.len, .int .i64 x.it.flow, .int .i64 x.it.band, .int .i64 x.it.mark, .int .i64 x.num] 78)) := (Below.refl _ _).alloc (Nat.le_refl _) _
  have hput : Pl.putR room x s = ([x], s) := by unfold Pl.putR; rw [hxf, Int.toNat_natCast, if_pos hfull]
  obtain ⟨A, c, hv, _, _, _⟩ := (h.own f hf).reads
  have y0 := h.cell (h.l0 f hf)
  rw [hv] at y0
  have y48 := h.cell h.rm
  have d0 := (hb0.cell (p := ⟨g, f * 2, none⟩) hgl).trans y0
  have d48 := (hb0.cell (p := ⟨g, 48, none⟩) hgl).trans y48
  have H := Lib.hid h; have HB0 := Lib.hid hb0; have HPUT := Lib.hid hput
  obtain ⟨⟨xa, xl, xf, xb, xm⟩, xn⟩ := x
  dsimp only at hxf HB0
  subst hxf
  unfold hdV
  dsimp only at d0 d48 ⊢
  clear h hb0 hput hv y0 y48
  have n1 : w.heap.size ≠ g := by omega
  have n2 : g ≠ w.heap.size := by omega
  have i0 : (0 : Int) ≤ (f : Int) := by omega
  have i1 : (f : Int) < 16 := by omega
  generalize (s.L f).length = len at *
  have t1 : decide (room ≤ (len : Int)) = true := by simpa using hfull
  go_enter Tryz.func145, Tryz.ntmps145
  go_upto_region 1 with fail
  have hk := Blk.new w 78 #[.int .i64 xa, .int .i64 xl, .int .i64 f, .int .i64 xb, .int .i64 xm, .int .i64 xn]
  obtain ⟨t0, t1, t2, t3, t4, t5, s0, s1, s2, s3, s4, s5⟩ := blk6 hk
  have HK := Lib.hid hk
  clear hk
  generalize w.alloc (.cells #[.int .i64 xa, .int .i64 xl, .int .i64 f, .int .i64 xb, .int .i64 xm, .int .i64 xn] 78) = W at *
  go_quiet (fail)
  go_upto_region 2 with fail
  have u0 : (W.drewN nq).cell? ⟨g, f * 2, none⟩ = some (.slice A len c) := d0
  have u48 : (W.drewN nq).cell? ⟨g, 48, none⟩ = some (.int .i64 room) := d48
  have u2 : (W.drewN nq).cell? ⟨w.heap.size, 0, none⟩ = some (.int .i64 xa) := t0
  clear d0 d48 t0 t1 t2 t3 t4 t5 s0 s1 s2 s3 s4 s5
  have HB1 := Lib.hid (bl_drewN (n := nq) HB0.out); have HK1 := Lib.hid (HK.out.drewN nq)
  clear HB0 HK
  generalize W.drewN nq = W1 at *
  go_quiet (first | (go_at_call 108; exact Calls.quiet_of_same (len_q _ _ _ _ _ _ (by assumption))))
  go_upto_region 3 with fail
  have HB2 := Lib.hid (bl_drewN (n := nq) HB1.out)
  obtain ⟨t0, t1, t2, t3, t4, t5, s0, s1, s2, s3, s4, s5⟩ := blk6 (HK1.out.drewN nq)
  clear u0 u48 u2
  generalize W1.drewN nq = W2 at *
  go_wp2_with fail
  go_ret
  refine ⟨some ⟨W2.heap.size, 0, none⟩, 1, b, m, cs, V, tv, ?_⟩
  rw [HPUT.out]
  exact ⟨rfl, rdHd_one (Blk.new W2 _ _) rfl, fun ad e => by injection e with e; subst e; exact HB2.out.size, H.out.below (HB2.out.alloc HB2.out.size _), (RTrn.refl w g V tv).below (HB2.out.alloc HB2.out.size _), .inl ⟨rfl, rfl, rfl⟩⟩

set_option maxHeartbeats 4000000 in
set_option maxRecDepth 100000 in
theorem rndPut_add (base g : Nat) (cs : Array Value) (V : Nat → Value) (tv : Value) (Q : Nat → Int) (room : Int) (s : Pl.RS) (b m now : Int) (x : Hd) (w : World) (h : Rds w base g cs V tv Q room s b m) {f : Nat} (hf : f < 16) (hxf : x.it.flow = f) (hx : 0 ≤ x.it.len ∧ x.it.len ≤ 10000)
    (hbase : base ≤ w.heap.size) (hl : HdsOk (s.L f)) (hT : s.T.length ≤ 1000) (hb : 0 ≤ b ∧ b ≤ 100000000) (hm : 0 ≤ m ∧ m ≤ 100000000) (hfull : ¬ room ≤ ((s.L f).length : Int)) :
    Calls Tryz.prog 145 #[.pointer (some ⟨g, 0, none⟩), .int .i64 now, hdV x] w (RndPutOut w base g V tv Q room s b m x) := by
  have hgl := h.blk.lt
  have hb0 : Below w.heap.size w (w.alloc (.cells #[.int .i64 x.it.at_, .int .i64 x.it.len, .int .i64 x.it.flow, .int .i64 x.it.band, .int .i64 x.it.mark, .int .i64 x.num] 78)) := (Below.refl _ _).alloc (Nat.le_refl _) _
  have hput : Pl.putR room x s = ([], ⟨Pl.updf s.L f (s.L f ++ [x]), if (s.L f).length = 0 then Pl.updf s.C f 0 else s.C, if (s.L f).length = 0 then s.T ++ [f] else s.T, s.beg⟩) := by
    unfold Pl.putR; rw [hxf, Int.toNat_natCast, if_neg hfull]
  obtain ⟨A, c, hv, _, _, _⟩ := (h.own f hf).reads
  have H0 := Lib.hid (h.below hb0); have HV := Lib.hid hv
  have d0 := (H0.out.cell (h.l0 f hf))
  rw [hv] at d0
  have d48 := H0.out.cell h.rm
  have hrlt := h.rlt
  have HRLT := Lib.hid hrlt
  have HB0 := Lib.hid hb0; have HPUT := Lib.hid hput; have HL := Lib.hid hl
  obtain ⟨⟨xa, xl, xf, xb, xm⟩, xn⟩ := x
  dsimp only at hxf HB0 hx H0 d0 d48
  subst hxf
  unfold hdV
  dsimp only
  obtain ⟨hx0, hx1⟩ := hx; obtain ⟨hb0', hb1⟩ := hb; obtain ⟨hm0, hm1⟩ := hm
  clear h hb0 hput hv hl hrlt
  have n1 : w.heap.size ≠ g := by omega
  have n2 : g ≠ w.heap.size := by omega
  have hrw : ¬ RF V tv w.heap.size := fun e => by have := (HRLT.out _ e).2; omega
  have HRW := Lib.hid hrw
  clear hrw
  have i0 : (0 : Int) ≤ (f : Int) := by omega
  have i1 : (f : Int) < 16 := by omega
  obtain ⟨len, hlen⟩ : ∃ len, (s.L f).length = len := ⟨_, rfl⟩
  rw [hlen] at d0 hfull
  have HLEN := Lib.hid hlen
  clear hlen
  have t1 : decide (room ≤ (len : Int)) = false := by simpa using hfull
  go_enter Tryz.func145, Tryz.ntmps145
  go_upto_region 1 with fail
  have hk := Blk.new w 78 #[.int .i64 xa, .int .i64 xl, .int .i64 f, .int .i64 xb, .int .i64 xm, .int .i64 xn]
  obtain ⟨t0, t1, t2, t3, t4, t5, s0, s1, s2, s3, s4, s5⟩ := blk6 hk
  have HK := Lib.hid hk
  clear hk
  have ht0 : RTrn w (w.alloc (.cells #[.int .i64 xa, .int .i64 xl, .int .i64 f, .int .i64 xb, .int .i64 xm, .int .i64 xn] 78)) g V tv V tv := (RTrn.refl w g V tv).below HB0.out
  have HT0 := Lib.hid ht0
  clear ht0
  generalize w.alloc (.cells #[.int .i64 xa, .int .i64 xl, .int .i64 f, .int .i64 xb, .int .i64 xm, .int .i64 xn] 78) = W at *
  go_quiet (fail)
  go_upto_region 2 with fail
  have u0 : (W.drewN nq).cell? ⟨g, f * 2, none⟩ = some (.slice A len c) := d0
  have u48 : (W.drewN nq).cell? ⟨g, 48, none⟩ = some (.int .i64 room) := d48
  have H1 := Lib.hid (H0.out.drewN nq); have HK1 := Lib.hid (HK.out.drewN nq); have HT1 := Lib.hid (HT0.out.drewN nq)
  clear d0 d48 t0 t1 t2 t3 t4 t5 s0 s1 s2 s3 s4 s5 H0 HK HT0 HB0
  generalize W.drewN nq = W1 at *
  go_quiet (first | (go_at_call 108; exact Calls.quiet_of_same (len_q _ _ _ _ _ _ (by assumption))))
  go_upto_region 4 with fail
  have u0' : (W1.drewN nq).cell? ⟨g, f * 2, none⟩ = some (.slice A len c) := u0
  have H2 := Lib.hid (H1.out.drewN nq); have HK2 := Lib.hid (HK1.out.drewN nq); have HT2 := Lib.hid (HT1.out.drewN nq)
  clear u0 u48 H1 HK1 HT1
  generalize W1.drewN nq = W2 at *
  have hlq := len_q g (f * 2) len c A W2 u0'
  have HLQ := Lib.hid hlq
  clear hlq u0'
  obtain ⟨s1, hs1⟩ : ∃ s1 : Pl.RS, s1 = ⟨s.L, if (s.L f).length = 0 then Pl.updf s.C f 0 else s.C, if (s.L f).length = 0 then s.T ++ [f] else s.T, s.beg⟩ := ⟨_, rfl⟩
  have HS1 := Lib.hid hs1
  clear hs1
  go_upto_if 26 with (go_at_call 108; (with_reducible refine HLQ.out.mono ?_); rintro e w3 ⟨rfl, rfl⟩)
  go_cut [] from 26 to 45 (fun wx => ∃ cs1 tv1, Rds wx base g cs1 V tv1 Q room s1 b m ∧ RTrn w wx g V tv V tv1 ∧ Blk wx w.heap.size 78 #[.int .i64 xa, .int .i64 xl, .int .i64 f, .int .i64 xb, .int .i64 xm, .int .i64 xn])
  case first =>
    by_cases h0 : len = 0
    · subst h0
      go_upto_region 5 with fail
      have hA := (H2.out.below ((Below.refl _ _).alloc (Nat.le_refl _) (.cells #[.int .i64 f] 3))).drew
      have hKA := HK2.out.alloc (.cells #[.int .i64 f] 3)
      have hTA := HT2.out.alloc (.cells #[.int .i64 f] 3)
      have hcn : (w3.alloc (.cells #[.int .i64 f] 3)).drew.cell? ⟨w3.heap.size, 0, none⟩ = some (.int .i64 f) := (Blk.new w3 3 #[.int .i64 f]).cell 0
      have y65 := H2.out.cell H2.out.t
      have hsz3 := HT2.out.chg.size
      have g3 := H2.out.blk.lt
      have g4 := HK2.out.lt
      have g5 : g ≠ w3.heap.size := by omega
      have g6 : w.heap.size ≠ w3.heap.size := by omega
      obtain ⟨At, ct, hvt, _, _, _⟩ := H2.out.tn.reads
      rw [hvt] at y65
      obtain ⟨t0, t1, t2, t3, t4, t5, s0, s1', s2, s3, s4, s5⟩ := blk6 HK2.out
      have HA := Lib.hid hA; have HKA := Lib.hid hKA; have HTA := Lib.hid hTA; have HCN := Lib.hid hcn; have HVT := Lib.hid hvt
      clear hA hKA hTA hcn hvt
      go_region_law ((refine step_addW IntR (by rfl) (.tmp 31) (.tmp 35) _ base 3 _ 8 Tryz.underlying26 Tryz.intRInfo (by rfl) rfl (.slice At s.T.length ct) s.T.length (tnL s.T) (f : Int) ?_ (by rfl) ⟨_, rfl, int_cells HCN.out⟩ (int_one _) (by omega) (by omega) ?_ ?_; (focus (rw [← HVT.out]; exact HA.out.tn)); (focus (simp; omega)); intro tv1 w1 hown1 hg1 hat1; rw [← HVT.out] at hg1 hat1; obtain ⟨A', c', rfl, hq1, hq2, hrd1⟩ := hown1.reads; have z1 : w1.frozen? ⟨g, 65, none⟩ = false := ((HA.out.blk.chg (Chg.of_grown (S := fun i => tv.ownBlock = some i) hg1 (fun i e => e.symm)) (fun e => HA.out.rne g (.inl e) rfl)).frozen 65); have z0 : w1.cell? ⟨g, 65, none⟩ = some tv := ((HA.out.blk.chg (Chg.of_grown (S := fun i => tv.ownBlock = some i) hg1 (fun i e => e.symm)) (fun e => HA.out.rne g (.inl e) rfl)).cell 65).trans HA.out.t))
      all_goals
        have hset := HA.out.setT (T' := s.T ++ [f]) hg1 (by rw [tnL_app, List.length_append]; exact hown1) hat1
        have hgr : Chg (w3.alloc (.cells #[.int .i64 f] 3)).drew w1 (fun i => tv.ownBlock = some i) := Chg.of_grown hg1 (fun i e => e.symm)
        have hkb := (Blk.chg (Blk.drew HKA.out) hgr (fun e => HRW.out (.inl e))).far (p := ⟨g, 65, none⟩) n1 (.slice A' (s.T.length + 1) c')
        have htb := HTA.out.drew.trans hset.2
        have h4 := hset.1
        have x49 := fun i => h4.blk.frozen i
        have hs1 := HS1.out
        rw [HLEN.out, if_pos rfl, if_pos rfl] at hs1
        have hfin := h4.setC hf 0
        have H4 := Lib.hid h4; have HKB := Lib.hid hkb; have HTB := Lib.hid htb; have HFIN := Lib.hid hfin; have HSS := Lib.hid hs1
        obtain ⟨t0, t1, t2, t3, t4, t5, s0, s1', s2, s3, s4, s5⟩ := blk6 hkb
        have z49 := h4.cell (h4.c f hf)
        have x49' := x49 (49 + f)
        clear hset hgr hkb htb h4 x49 hfin hs1 hown1 hg1 hat1 hq1 hq2 hrd1 z0 z1
        generalize w1.setCell ⟨g, 65, none⟩ (.slice A' (s.T.length + 1) c') = w4 at *
        go_upto_region 6 with fail
        go_still_tail 7, (by kernel_rfl)
        change wpList _ _ _ _ _ w4.drew
        go_wp2_with fail
        go_meet
        case rel =>
          exact ⟨_, _, by rw [HSS.out]; exact HFIN.out.drew, (HTB.out.set_ (49 + f) (.int .i64 0)).drew, (HKB.out.far (p := ⟨g, 49 + f, none⟩) n1 _).drew⟩
    · have t2 : ((len : Int) == 0) = false := by simpa using h0
      go_wp2_with fail
      go_meet
      case rel =>
        have hs1 := HS1.out
        rw [HLEN.out, if_neg h0, if_neg h0] at hs1
        exact ⟨cs, tv, by rw [hs1]; exact H2.out, HT2.out, HK2.out⟩
  case rest =>
    obtain ⟨cs1, tv1, h3, ht3, hk3⟩ := hcut
    have hs1 := HS1.out
    have hL1 : s1.L = s.L := by rw [hs1]
    have hlst := h3.lst hf
    rw [hL1] at hlst
    have htot := HL.out.tot
    obtain ⟨htot0, htot1⟩ := htot
    have hadd := add_any base g (f * 2) 148 cs1 (V f) (s.L f) (Pl.tot (s.L f)) ⟨⟨xa, xl, f, xb, xm⟩, xn⟩ wc hlst (by have := ht3.chg.size; omega) HL.out.n htot0 (by omega) hx0 (by simp only []; omega)
    unfold hdV at hadd
    dsimp only at hadd
    obtain ⟨t0, t1', t2, t3, t4, t5, s0, s1', s2, s3, s4, s5⟩ := blk6 hk3
    have H3 := Lib.hid h3; have HT3 := Lib.hid ht3; have HK3 := Lib.hid hk3; have HADD := Lib.hid hadd; have HS2 := Lib.hid hs1; have HL1 := Lib.hid hL1
    clear h3 ht3 hk3 hadd hlst hs1 hL1 HS1
    go_upto_region 8 with (go_at_call 112; (with_reducible refine HADD.out.mono ?_); rintro e w5 ⟨rfl, v5, h5⟩; have H5 := Lib.hid h5; clear h5)
    have hrw3 : ¬ RF V tv1 w.heap.size := by
      rintro (e | e)
      · exact H3.out.tn.blk_ne HK3.out (by decide) e
      · exact HRW.out (.inr e)
    obtain ⟨cs6, h6, ht6⟩ := H3.out.of_lst hf H5.out (Pl.tot_snoc (s.L f) ⟨⟨xa, xl, f, xb, xm⟩, xn⟩).symm
    have hk6 := HK3.out.chg ht6.chg (by rintro (e | e); exact n1 e; exact hrw3 e)
    have ht6' := HT3.out.trans ht6
    have y67 := h6.cell h6.by_
    have x67 := h6.blk.frozen 67
    have e67 : IntKind.i64.wrap (b + xl) = b + xl := IntWalk.i64_in _ (by omega)
    have h7 := (h6.setB (b + xl)).drew
    have hk7 := (hk6.far (p := ⟨g, 67, none⟩) n1 (.int .i64 (b + xl))).drew
    have ht7 := (ht6'.set_ 67 (.int .i64 (b + xl))).drew
    have hgl5 := h6.blk.lt
    obtain ⟨q0, q1, q2, q3, q4, q5, r0, r1, r2, r3, r4, r5⟩ := blk6 hk6
    have H7 := Lib.hid h7; have HK7 := Lib.hid hk7; have HT7 := Lib.hid ht7
    clear h6 ht6 hk6 ht6' h7 hk7 ht7 t0 t1' t2 t3 t4 t5 s0 s1' s2 s3 s4 s5 H5 HADD HT3 HK3 H3 hrw3
    go_still_tail 10, (by kernel_rfl)
    change wpList _ _ _ _ _ w5.drew
    go_upto_region 9 with fail
    clear y67 x67 e67 q0 q1 q2 q3 q4 q5 r0 r1 r2 r3 r4 r5
    generalize (w5.setCell ⟨g, 67, none⟩ (.int .i64 (b + xl))).drew = w7 at *
    have y68 := H7.out.cell H7.out.mn
    have x68 := H7.out.blk.frozen 68
    have e68 : IntKind.i64.wrap (m + 1) = m + 1 := IntWalk.i64_in _ (by omega)
    have h8 := H7.out.setM (m + 1)
    have ht8 := HT7.out.set_ 68 (.int .i64 (m + 1))
    have H8 := Lib.hid h8; have HT8 := Lib.hid ht8
    clear h8 ht8
    go_wp2_with fail
    go_ret
    refine ⟨none, 0, b + xl, m + 1, (cs6.setIfInBounds 67 (.int .i64 (b + xl))).setIfInBounds 68 (.int .i64 (m + 1)), Pl.updf V f v5, tv1, ?_⟩
    rw [HPUT.out]
    refine ⟨rfl, Reads.none_, fun ad e => (by cases e), ?_, HT8.out, .inr ⟨rfl, rfl, rfl⟩⟩
    have h9 := H8.out
    rw [HS2.out] at h9
    exact h9

theorem rndPut_any (base g : Nat) (cs : Array Value) (V : Nat → Value) (tv : Value) (Q : Nat → Int) (room : Int) (s : Pl.RS) (b m now : Int) (x : Hd) (w : World) (h : Rds w base g cs V tv Q room s b m) {f : Nat} (hf : f < 16) (hxf : x.it.flow = f) (hx : 0 ≤ x.it.len ∧ x.it.len ≤ 10000)
    (hbase : base ≤ w.heap.size) (hl : HdsOk (s.L f)) (hT : s.T.length ≤ 1000) (hb : 0 ≤ b ∧ b ≤ 100000000) (hm : 0 ≤ m ∧ m ≤ 100000000) :
    Calls Tryz.prog 145 #[.pointer (some ⟨g, 0, none⟩), .int .i64 now, hdV x] w (RndPutOut w base g V tv Q room s b m x) := by
  by_cases hfull : room ≤ ((s.L f).length : Int)
  · exact rndPut_full base g cs V tv Q room s b m now x w h hf hxf hfull
  · exact rndPut_add base g cs V tv Q room s b m now x w h hf hxf hx hbase hl hT hb hm hfull
end Go.Proofs.YtgdijbaodfghjaaGreatDoor

/-
  What queue.List's Last does.
-/
namespace Go.Proofs.YtgdijbaodfghjaaGreatDoor
open Go.RowKit Bkt
set_option linter.unusedVariables false

theorem run_init1 {P : Program} {t e : TypeId} {i : TypeInfo} {s : Nat} (ht : P.underlying t = some (.slice e)) (hi : P.info? e = some i) (hs : i.size = s) (g off n c k : Nat) (hk : k ≤ c) :
    ∀ w, (Instr.sliceAt t (.slice (some ⟨g, off, none⟩) n c) none (some (.int .i64 (k : Int))) (some (.int .i64 (k : Int)))).run P w = .ok (.slice (some ⟨g, off, none⟩) k k) w := fun w => by
  have he : P.elem t = e := by simp [Program.elem, ht]
  have ht' : P.underlying t = some (.slice (P.elem t)) := by rw [he]; exact ht
  rw [run_sliceAt_slice w t _ _ _ _ ht', run_slice_hm w t (some ⟨g, off, none⟩) n c ht' .i64 .i64 (k : Int) (k : Int) (by omega) (Int.le_refl _) (by omega), he]
  simp [sizeOf, typeInfo, hi, hs, Result.andThen, sliced]
  intro _
  simp [Addr.add]
theorem Lst.last {w : World} {base g o : Nat} {t : TypeId} {cs : Array Value} {v : Value} {x : Hd} {l : List Hd} {b : Int} (h : Lst w base g o t cs v (l ++ [x]) b) :
    ∃ gr off c, v = .slice (some ⟨gr, off, none⟩) (l.length + 1) c ∧ l.length + 1 ≤ c ∧ gr < w.heap.size ∧ base ≤ gr ∧ w.cell? ⟨gr, off + l.length * 6, none⟩ = some (.int .i64 x.it.at_) ∧ w.cell? ⟨gr, off + l.length * 6 + 1, none⟩ = some (.int .i64 x.it.len) ∧ w.cell? ⟨gr, off + l.length * 6 + 2, none⟩ = some (.int .i64 x.it.flow) ∧
      w.cell? ⟨gr, off + l.length * 6 + 3, none⟩ = some (.int .i64 x.it.band) ∧ w.cell? ⟨gr, off + l.length * 6 + 4, none⟩ = some (.int .i64 x.it.mark) ∧ w.cell? ⟨gr, off + l.length * 6 + 5, none⟩ = some (.int .i64 x.num) := by
  obtain ⟨A, c, hv, hnc, _, hr⟩ := h.own.reads
  rw [List.length_append, List.length_singleton] at hv hr hnc
  have hR : RdR HdR w w.heap.size A (l.length + 1) (l ++ [x]) := hr
  obtain ⟨gr, off, rfl, hlt⟩ := hR.addr (show 0 < l.length + 1 by omega)
  have ha := hR.all (show l.length < l.length + 1 by omega)
  have hbg := (h.own.lt gr (by rw [hv]; rfl)).1
  have hx : ixR HdR (l ++ [x]) l.length = x := by simp [ixR, List.getD]
  rw [hx] at ha
  refine ⟨gr, off, c, hv, hnc, hlt, hbg, ?_, ?_, ?_, ?_, ?_, ?_⟩
  · exact ha 0 _ rfl
  · exact ha 1 _ rfl
  · exact ha 2 _ rfl
  · exact ha 3 _ rfl
  · exact ha 4 _ rfl
  · exact ha 5 _ rfl
theorem last_fin {w w1 : World} {base g o : Nat} {t : TypeId} {cs : Array Value} {v v' : Value} {l l' : List Hd} {b b' : Int} (h : Lst w base g o t cs v l' b) (h0 : Below w.heap.size w w1)
    (hown : OwnW w base 78 HdR.sz v' l.length (l.flatMap HdR.cells)) (hv : v'.ownBlock = v.ownBlock) :
    LstTo w (((w1.setCell ⟨g, o, none⟩ v').setCell ⟨g, o + 1, none⟩ (.int .i64 b')).drew) base g o t cs v v' l b' := by
  have hgl := h.blk.lt
  have hcs1 : o + 1 < cs.size := by
    rcases Nat.lt_or_ge (o + 1) cs.size with h' | h'
    · exact h'
    · have := h.c1; rw [Array.getElem?_eq_none h'] at this; cases this
  have hk1 : Blk w1 g t cs := h.blk.below h0 hgl
  have hn' : v'.ownBlock ≠ some g := hown.blk_ne h.blk (Ne.symm h.ne)
  refine ⟨⟨Blk.drew (Blk.set_ (Blk.set_ hk1 o v') (o + 1) (.int .i64 b')), (set2_get hcs1).1, (set2_get hcs1).2, ?_, h.ne⟩, ?_, .inl hv⟩
  · have hc : Chg w1 (((w1.setCell ⟨g, o, none⟩ v').setCell ⟨g, o + 1, none⟩ (.int .i64 b')).drew) (fun i => i = g) :=
      Chg.drew (Chg.setCell (p := ⟨g, o + 1, none⟩) (Chg.setCell (p := ⟨g, o, none⟩) (Chg.refl w1 (fun i => i = g)) (fun _ => rfl) v') (fun _ => rfl) (.int .i64 b'))
    exact (hown.below h0).chg hc (fun i hi e => hn' (by rw [hi, e]))
  · have hc1 : Chg w w1 (fun i => i = g ∨ v.ownBlock = some i) := Chg.of_below h0
    exact Chg.drew (Chg.setCell (p := ⟨g, o + 1, none⟩) (Chg.setCell (p := ⟨g, o, none⟩) hc1 (fun _ => .inl rfl) v') (fun _ => .inl rfl) (.int .i64 b'))
def LastOut (w : World) (base g o : Nat) (t : TypeId) (cs : Array Value) (v : Value) (x : Hd) (l : List Hd) (b : Int) (e : Ending) (w' : World) : Prop := e = .returned (.tuple #[hdV x, .bool true]) ∧ ∃ v', LstTo w w' base g o t cs v v' l b
set_option maxHeartbeats 4000000 in
set_option maxRecDepth 100000 in
theorem last_some (base g o : Nat) (t : TypeId) (cs : Array Value) (v : Value) (x : Hd) (l : List Hd) (b : Int) (w : World) (h : Lst w base g o t cs v (l ++ [x]) b) (hn : l.length ≤ 1000) (hb0 : 0 ≤ b) (hb1 : b ≤ 1000000000) (hx0 : 0 ≤ x.it.len) (hx1 : x.it.len ≤ 1000000) :
    Calls Tryz.prog 129 #[.pointer (some ⟨g, o, none⟩)] w (LastOut w base g o t cs v x l (b - x.it.len)) := by
  have hgl := h.blk.lt
  have hba : Below w.heap.size w (w.alloc (.cells #[.int .i64 0, .int .i64 0, .int .i64 0, .int .i64 0, .int .i64 0, .int .i64 0] 78)) := (Below.refl _ _).alloc (Nat.le_refl _) _
  obtain ⟨gr, off, c, rfl, hc, hgr, hgb, c0, c1, c2, c3, c4, c5⟩ := h.last
  have hown := OwnW.init (k := l.length) (by have := h.own; rw [List.length_append, List.length_singleton] at this; exact this) (by omega) (by omega)
  have ed : ((l ++ [x]).flatMap HdR.cells).take (l.length * HdR.sz) = l.flatMap HdR.cells := by
    rw [List.flatMap_append]
    have hl : (l.flatMap HdR.cells).length = l.length * HdR.sz := flatR_len (R := HdR) l
    rw [← hl, List.take_left]
  rw [ed] at hown
  obtain ⟨i0, hi, hz0, hz1, hz2⟩ := info_parts Tryz.heldInfo
  have hsl := run_init1 (P := Tryz.prog) (s := 6) Tryz.underlying76 hi hz1 gr off (l.length + 1) c l.length (by omega)
  have HO := Lib.hid hown; have H := Lib.hid h; have HBA := Lib.hid hba
  have q0 := (hba.cell (p := ⟨g, o, none⟩) hgl).trans ((h.blk.cell o).trans h.c0)
  have hz := Blk.new w 78 #[.int .i64 0, .int .i64 0, .int .i64 0, .int .i64 0, .int .i64 0, .int .i64 0]
  have HZ := Lib.hid hz
  obtain ⟨⟨xa, xl, xf, xb, xm⟩, xn⟩ := x
  dsimp only at c0 c1 c2 c3 c4 c5 hx0 hx1 ⊢
  have d0 := (hba.cell (p := ⟨gr, off + l.length * 6, none⟩) hgr).trans c0
  have d1 := (hba.cell (p := ⟨gr, off + l.length * 6 + 1, none⟩) hgr).trans c1
  have d2 := (hba.cell (p := ⟨gr, off + l.length * 6 + 2, none⟩) hgr).trans c2
  have d3 := (hba.cell (p := ⟨gr, off + l.length * 6 + 3, none⟩) hgr).trans c3
  have d4 := (hba.cell (p := ⟨gr, off + l.length * 6 + 4, none⟩) hgr).trans c4
  have d5 := (hba.cell (p := ⟨gr, off + l.length * 6 + 5, none⟩) hgr).trans c5
  have n1 : w.heap.size ≠ g := by omega
  have n2 : g ≠ w.heap.size := by omega
  have n3 : w.heap.size ≠ gr := by omega
  have e0 : (((l.length : Int) + 1) == 0) = false := by simp; omega
  have e1 : IntKind.i64.wrap (l.length : Int) = (l.length : Int) := IntWalk.i64_in _ (by omega)
  clear h hown hba hz ed hi hz0 hz1 hz2 c0 c1 c2 c3 c4 c5
  have hln : l.length = l.length := rfl
  obtain ⟨n, hnl⟩ : ∃ n, n = l.length := ⟨_, rfl⟩
  rw [← hnl] at hsl hn e0 e1 q0 d0 d1 d2 d3 d4 d5 ⊢
  have HNL := Lib.hid hnl
  clear hnl hln
  go_enter Tryz.func129, Tryz.ntmps129
  go_upto_region 4 with fail
  have hs0 : w.heap.size < (w.alloc (.cells #[.int .i64 0, .int .i64 0, .int .i64 0, .int .i64 0, .int .i64 0, .int .i64 0] 78)).heap.size := by simp
  generalize w.alloc (.cells #[.int .i64 0, .int .i64 0, .int .i64 0, .int .i64 0, .int .i64 0, .int .i64 0] 78) = W0 at *
  have in1 : (n : Int) < (n : Int) + 1 := by omega
  go_upto_region 5 with fail
  have hx := Blk.new W0 78 #[.int .i64 xa, .int .i64 xl, .int .i64 xf, .int .i64 xb, .int .i64 xm, .int .i64 xn]
  have hb2 := HBA.out.alloc HBA.out.size (.cells #[.int .i64 xa, .int .i64 xl, .int .i64 xf, .int .i64 xb, .int .i64 xm, .int .i64 xn] 78)
  have hz2 := HZ.out.alloc (.cells #[.int .i64 xa, .int .i64 xl, .int .i64 xf, .int .i64 xb, .int .i64 xm, .int .i64 xn] 78)
  have HX := Lib.hid hx; have HB2 := Lib.hid hb2; have HZ2 := Lib.hid hz2
  have hkx : W0.heap.size ≠ g := by omega
  have hkw : W0.heap.size ≠ w.heap.size := by omega
  clear hx hb2 hz2 d0 d1 d2 d3 d4 d5 q0 HZ HBA
  generalize W0.heap.size = kx at *
  generalize W0.alloc (.cells #[.int .i64 xa, .int .i64 xl, .int .i64 xf, .int .i64 xb, .int .i64 xm, .int .i64 xn] 78) = w1 at *
  have q0 := (HB2.out.cell (p := ⟨g, o, none⟩) hgl).trans ((H.out.blk.cell o).trans H.out.c0)
  rw [← HNL.out] at q0
  have x0 := (H.out.blk.below HB2.out hgl).frozen o
  go_upto_region 6 with fail
  clear q0 x0
  have hk6 : Blk (w1.setCell ⟨g, o, none⟩ (.slice (some ⟨gr, off, none⟩) n n)) g t (cs.setIfInBounds o (.slice (some ⟨gr, off, none⟩) n n)) := Blk.set_ (H.out.blk.below HB2.out hgl) o _
  have y1 : (w1.setCell ⟨g, o, none⟩ (.slice (some ⟨gr, off, none⟩) n n)).cell? ⟨g, o + 1, none⟩ = some (.int .i64 b) := (hk6.cell (o + 1)).trans (by rw [Array.getElem?_setIfInBounds, if_neg (by omega)]; exact H.out.c1)
  have y2 := hk6.frozen (o + 1)
  have hx6 := HX.out.far (p := ⟨g, o, none⟩) hkx (.slice (some ⟨gr, off, none⟩) n n)
  have hz6 := HZ2.out.far (p := ⟨g, o, none⟩) n1 (.slice (some ⟨gr, off, none⟩) n n)
  have hfin := fun b' => last_fin (b' := b') H.out HB2.out (v' := .slice (some ⟨gr, off, none⟩) n n) (l := l) (by rw [HNL.out]; exact HO.out) (by rfl)
  have HFIN := Lib.hid hfin; have HX6 := Lib.hid hx6; have HZ6 := Lib.hid hz6
  obtain ⟨p0, p1, p2, p3, p4, p5, _, _, _, _, _, _⟩ := blk6 hx6
  have e2 : IntKind.i64.wrap (b - xl) = b - xl := IntWalk.i64_in _ (by omega)
  clear hk6 hx6 hz6 hfin
  generalize w1.setCell ⟨g, o, none⟩ (.slice (some ⟨gr, off, none⟩) n n) = w2 at *
  go_still_tail 10, (by kernel_rfl)
  change wpList _ _ _ _ _ w2.drew
  go_upto_region 7 with fail
  clear y1 y2 p0 p1 p2 p3 p4 p5 e2
  have hx7 := (HX6.out.far (p := ⟨g, o + 1, none⟩) hkx (.int .i64 (b - xl))).drew
  have hz7 := (HZ6.out.far (p := ⟨g, o + 1, none⟩) n1 (.int .i64 (b - xl))).drew
  have h7 := HFIN.out (b - xl)
  have H7 := Lib.hid h7
  obtain ⟨p0, p1, p2, p3, p4, p5, _, _, _, _, _, _⟩ := blk6 hx7
  obtain ⟨t0, t1, t2, t3, t4, t5, s0, s1, s2, s3, s4, s5⟩ := blk6 hz7
  have hkf := blk_six hz7 (.int .i64 xa) (.int .i64 xl) (.int .i64 xf) (.int .i64 xb) (.int .i64 xm) (.int .i64 xn)
  have HKF := Lib.hid hkf
  clear hx7 hz7 h7 hkf
  generalize (w2.setCell ⟨g, o + 1, none⟩ (.int .i64 (b - xl))).drew = w3 at *
  go_wp2_with fail
  have r0 := HKF.out.cell 0; have r1 := HKF.out.cell 1; have r2 := HKF.out.cell 2; have r3 := HKF.out.cell 3; have r4 := HKF.out.cell 4; have r5 := HKF.out.cell 5
  simp at r0 r1 r2 r3 r4 r5
  have hnew := fun (W : World) (k : Nat) (u : Value) (hl : LstTo w W base g o t cs (.slice (some ⟨gr, off, none⟩) (n + 1) c) (.slice (some ⟨gr, off, none⟩) n n) l (b - xl)) => hl.setNew hgl (p := ⟨w.heap.size, k, none⟩) (Nat.le_refl _) (by simp [Value.ownBlock]; omega) u
  exact bodyPost_ret (v := .tuple #[hdV ⟨⟨xa, xl, xf, xb, xm⟩, xn⟩, .bool true]) (by simp [results, Tryz.results129, go_sem, hdV, r0, r1, r2, r3, r4, r5]) rfl
    ⟨rfl, _, hnew _ 5 _ (hnew _ 4 _ (hnew _ 3 _ (hnew _ 2 _ (hnew _ 1 _ (hnew _ 0 _ (by rw [HNL.out] at *; exact H7.out))))))⟩
end Go.Proofs.YtgdijbaodfghjaaGreatDoor

/-
  Bands of whatever queues in memory: their block, the row of their queues, the queues; Put.
-/
namespace Go.Proofs.YtgdijbaodfghjaaGreatDoor
open Go.RowKit Bkt
set_option linter.unusedVariables false

structure MixP where
  Ms : Nat → Pl.QM
  V : Nat → Value
  Inv : (i : Nat) → (Ms i).σ → Nat → (Nat → Prop) → World → Prop
  Is : (i : Nat) → (Ms i).σ → Prop
  late : Bool
structure MixOk (P : MixP) (base m : Nat) : Prop where
  imp : ∀ i, i < m → QImp (P.Ms i) (P.V i) base (P.Inv i)
  qb : ∀ i, i < m → Pl.QB (P.Ms i) P.late (P.Is i)
structure MxM (P : MixP) (base gb gi c m : Nat) (ls : Array Value) (FF : Nat → Nat → Prop) (kk : Nat → Nat) (s : Pl.BSt P.Ms) (k : Nat) (F : Nat → Prop) (w : World) : Prop where
  blk : Blk w gb 156 #[.slice (some ⟨gi, 0, none⟩) m c]
  row : Blk w gi 50 ls
  l : ∀ i, i < m → ls[i]? = some (P.V i)
  f : ∀ i, i < m → P.Inv i (s i) (kk i) (FF i) w
  kl : ∀ i, i < m → kk i ≤ k
  ne : ∀ i j, i < m → j < m → i ≠ j → ∀ b, FF i b → ¬ FF j b
  nb : ∀ i, i < m → ¬ FF i gb ∧ ¬ FF i gi
  gne : gb ≠ gi
  bb : base ≤ gb
  bi : base ≤ gi
  bs : base ≤ w.heap.size
  k1 : k ≤ 1000
  m0 : 0 < m
  m8 : m ≤ 8
  inv : Pl.BndI m P.Is s
  wl : (Pl.waitG P.Ms m s).length ≤ k
  mF : ∀ i, F i ↔ (i = gb ∨ i = gi ∨ ∃ j, j < m ∧ FF j i)
def Mx1 (P : MixP) (base gb m : Nat) (s : Pl.BSt P.Ms) (k : Nat) (F : Nat → Prop) (w : World) : Prop := ∃ gi c ls FF kk, MxM P base gb gi c m ls FF kk s k F w
section
variable {P : MixP} {w w' : World} {base gb gi c m k : Nat} {ls : Array Value} {FF : Nat → Nat → Prop} {kk : Nat → Nat} {s : Pl.BSt P.Ms} {F : Nat → Prop}
theorem MxM.lt (ok : MixOk P base m) (h : MxM P base gb gi c m ls FF kk s k F w) : ∀ i, F i → base ≤ i ∧ i < w.heap.size := fun i hi => by
  rcases (h.mF i).1 hi with e | e | ⟨j, hj, e⟩
  · subst e; exact ⟨h.bb, h.blk.lt⟩
  · subst e; exact ⟨h.bi, h.row.lt⟩
  · exact (ok.imp j hj).lt _ _ _ _ (h.f j hj) i e
theorem MxM.chg (ok : MixOk P base m) {S : Nat → Prop} (h : MxM P base gb gi c m ls FF kk s k F w) (hc : Chg w w' S) (hn : ∀ i, F i → ¬ S i) : MxM P base gb gi c m ls FF kk s k F w' :=
  ⟨h.blk.chg hc (hn _ ((h.mF _).2 (.inl rfl))), h.row.chg hc (hn _ ((h.mF _).2 (.inr (.inl rfl)))), h.l, fun i hi => (ok.imp i hi).chg _ _ _ _ _ _ (h.f i hi) hc (fun b hb => hn _ ((h.mF _).2 (.inr (.inr ⟨i, hi, hb⟩)))), h.kl, h.ne, h.nb, h.gne, h.bb, h.bi, Nat.le_trans h.bs hc.size, h.k1, h.m0, h.m8, h.inv, h.wl, h.mF⟩
theorem MxM.below (ok : MixOk P base m) (h : MxM P base gb gi c m ls FF kk s k F w) (hb : Below w.heap.size w w') : MxM P base gb gi c m ls FF kk s k F w' := h.chg ok (S := fun _ => False) (Chg.of_below hb) (fun _ _ h => h)
theorem MxM.step (ok : MixOk P base m) (h : MxM P base gb gi c m ls FF kk s k F w) {i : Nat} (hi : i < m) {v' : (P.Ms i).σ} {k' k2 : Nat} {F' : Nat → Prop} (hf : P.Inv i v' k2 F' w') (hk2 : k2 ≤ k') (hk : k ≤ k') (hk' : k' ≤ 1000) (hc : Chg w w' (FF i)) (ha : ∀ b, F' b → FF i b ∨ w.heap.size ≤ b) (hv : Pl.BndI m P.Is (Pl.updD s i v')) (hw : (Pl.waitG P.Ms m (Pl.updD s i v')).length ≤ k') :
    ∃ F2 FF2 kk2, MxM P base gb gi c m ls FF2 kk2 (Pl.updD s i v') k' F2 w' ∧ Chg w w' F ∧ ∀ b, F2 b → F b ∨ w.heap.size ≤ b := by
  have hlt : ∀ j, j < m → ∀ b, FF j b → b < w.heap.size := fun j hj b hb => ((ok.imp j hj).lt _ _ _ _ (h.f j hj) b hb).2
  refine ⟨fun b => b = gb ∨ b = gi ∨ ∃ j, j < m ∧ Pl.updf FF i F' j b, Pl.updf FF i F', Pl.updf kk i k2, ⟨h.blk.chg hc (h.nb i hi).1, h.row.chg hc (h.nb i hi).2, h.l, fun j hj => ?_, fun j hj => ?_, fun j1 j2 h1 h2 hne b hb => ?_, fun j hj => ?_, h.gne, h.bb, h.bi, Nat.le_trans h.bs hc.size, hk', h.m0, h.m8, hv, hw, fun b => Iff.rfl⟩, hc.mono (fun b _ hb => (h.mF b).2 (.inr (.inr ⟨i, hi, hb⟩))), fun b hb => ?_⟩
  · by_cases e : j = i
    · subst e; rw [Pl.updf_same, Pl.updf_same, Pl.updD_same]; exact hf
    · rw [Pl.updf_ne _ _ e, Pl.updf_ne _ _ e, Pl.updD_ne _ _ e]
      exact (ok.imp j hj).chg _ _ _ _ _ _ (h.f j hj) hc (fun b hb => h.ne j i hj hi e b hb)
  · by_cases e : j = i
    · subst e; rw [Pl.updf_same]; exact hk2
    · rw [Pl.updf_ne _ _ e]; exact Nat.le_trans (h.kl j hj) hk
  · by_cases e1 : j1 = i
    · subst e1
      rw [Pl.updf_same] at hb
      rw [Pl.updf_ne _ _ (Ne.symm hne)]
      intro hb2
      rcases ha b hb with e | e
      · exact h.ne j1 j2 h1 h2 hne b e hb2
      · have := hlt j2 h2 b hb2; omega
    · rw [Pl.updf_ne _ _ e1] at hb
      by_cases e2 : j2 = i
      · subst e2
        rw [Pl.updf_same]
        intro hb2
        rcases ha b hb2 with e | e
        · exact h.ne j1 j2 h1 h2 hne b hb e
        · have := hlt j1 h1 b hb; omega
      · rw [Pl.updf_ne _ _ e2]; exact h.ne j1 j2 h1 h2 hne b hb
  · by_cases e : j = i
    · subst e
      rw [Pl.updf_same]
      have hg1 := h.blk.lt; have hg2 := h.row.lt
      exact ⟨fun hb => (ha _ hb).elim (h.nb j hj).1 (by omega), fun hb => (ha _ hb).elim (h.nb j hj).2 (by omega)⟩
    · rw [Pl.updf_ne _ _ e]; exact h.nb j hj
  · rcases hb with e | e | ⟨j, hj, e⟩
    · exact .inl ((h.mF b).2 (.inl e))
    · exact .inl ((h.mF b).2 (.inr (.inl e)))
    · by_cases e2 : j = i
      · subst e2
        rw [Pl.updf_same] at e
        exact (ha b e).imp (fun e => (h.mF b).2 (.inr (.inr ⟨j, hj, e⟩))) id
      · rw [Pl.updf_ne _ _ e2] at e
        exact .inl ((h.mF b).2 (.inr (.inr ⟨j, hj, e⟩)))
theorem MxM.cell (h : MxM P base gb gi c m ls FF kk s k F w) : w.cell? ⟨gb, 0, none⟩ = some (.slice (some ⟨gi, 0, none⟩) m c) := (h.blk.cell 0).trans rfl
theorem MxM.lcell (h : MxM P base gb gi c m ls FF kk s k F w) {i : Nat} (hi : i < m) : w.cell? ⟨gi, i, none⟩ = some (P.V i) := (h.row.cell i).trans (h.l i hi)
theorem MxM.good (ok : MixOk P base m) (h : MxM P base gb gi c m ls FF kk s k F w) : Pl.QB (Pl.bndM P.Ms m) P.late (Pl.BndI m P.Is) := Pl.bnd_qb h.m0 ok.qb
end
theorem bndOk {x : It} (h : Pl.okB x = true) : 0 ≤ x.band ∧ x.band ≤ 1000 := by
  have := (okB_fine.1 h).f3
  omega
set_option maxHeartbeats 4000000 in
set_option maxRecDepth 100000 in
theorem mix_put_c (P : MixP) (base gb m : Nat) (ok : MixOk P base m) (s : Pl.BSt P.Ms) (k : Nat) (F : Nat → Prop) (w : World) (now : Int) (x : Hd) (hh : Mx1 P base gb m s k F w) (hk : k < 1000) (hx : InOk now x) :
    Calls Tryz.prog 150 #[.pointer (some ⟨gb, 0, none⟩), .int .i64 now, hdV x] w (PutOut (Mx1 P base gb m) w F (k + 1) ((Pl.bndM P.Ms m).put now x s)) := by
  obtain ⟨gi, c, ls, FF, kk, h⟩ := hh
  obtain ⟨hb0, hb1⟩ := bndOk hx.ok
  have hm0 := h.m0; have hm8 := h.m8
  obtain ⟨g1, g2⟩ := (h.good ok).good.put s now x h.inv hx.ok
  have hwl : (Pl.waitG P.Ms m ((Pl.bndM P.Ms m).put now x s).2).length ≤ k + 1 := by
    have e1 := g2.length_eq
    rw [List.length_append, List.length_append] at e1
    have e2 : ((Pl.bndM P.Ms m).wait s).length ≤ k := h.wl
    have e3 : ((Pl.bndM P.Ms m).wait ((Pl.bndM P.Ms m).put now x s).2).length ≤ k + 1 := by simp at e1; omega
    exact e3
  clear g2
  obtain ⟨i, hi⟩ : ∃ i, i = Pl.bandOf m x.it := ⟨_, rfl⟩
  have him : i < m := by rw [hi]; exact Pl.bandOf_lt hm0 _
  have hpe : (Pl.bndM P.Ms m).put now x s = (((P.Ms i).put now x (s i)).1, Pl.updD s i ((P.Ms i).put now x (s i)).2) := by subst hi; rfl
  rw [hpe] at g1 hwl ⊢
  have g1' : Pl.BndI m P.Is (Pl.updD s i ((P.Ms i).put now x (s i)).2) := g1
  clear g1 hpe
  unfold Pl.bandOf at hi
  have hwx : Below w.heap.size w (w.alloc (.cells #[.int .i64 x.it.at_, .int .i64 x.it.len, .int .i64 x.it.flow, .int .i64 x.it.band, .int .i64 x.it.mark, .int .i64 x.num] 78)) := (Below.refl _ _).alloc (Nat.le_refl _) _
  have h1 := h.below ok hwx
  have hf1 := h1.f i him
  have hki := h.kl i him
  obtain ⟨fp, rp, hmp, hcp⟩ := (ok.imp i him).put
  have hput : Calls Tryz.prog fp #[rp, .int .i64 now, hdV x] ((w.alloc (.cells #[.int .i64 x.it.at_, .int .i64 x.it.len, .int .i64 x.it.flow, .int .i64 x.it.band, .int .i64 x.it.mark, .int .i64 x.num] 78)).drew) _ := hcp (s i) (kk i) (FF i) _ now x ((ok.imp i him).chg _ _ _ _ _ (fun _ => False) hf1 (Chg.refl _ _).drew (fun _ _ h => h)) (by omega) hx
  have hp2 := hput.mono (R' := fun e w' => ∃ A n c, e = .returned (.slice A n c) ∧ Hid (∃ F2, n ≤ 100000 ∧ RdR HdR w' w'.heap.size A n ((P.Ms i).put now x (s i)).1 ∧ (∀ ad, A = some ad → F ad.block ∨ w.heap.size ≤ ad.block) ∧ Mx1 P base gb m (Pl.updD s i ((P.Ms i).put now x (s i)).2) (k + 1) F2 w' ∧ Chg w w' F ∧ ∀ i, F2 i → F i ∨ w.heap.size ≤ i)) (by
    rintro e w' ⟨A, n, c', F', e1, e2, e3, e4, e5, e6, e7⟩
    have h2 := h1.chg ok (S := fun _ => False) (Chg.refl _ _).drew (fun _ _ h => h)
    obtain ⟨F2, FF2, kk2, g1, g2, g3⟩ := h2.step ok him e5 (by omega) (by omega : k ≤ k + 1) (by omega) e6 e7 g1' hwl
    refine ⟨A, n, c', e1, Lib.hid ⟨F2, e2, e3, fun ad e => ?_, ⟨_, _, _, _, _, g1⟩, ?_, fun b hb => ?_⟩⟩
    · rcases e4 ad e with e8 | e8
      · exact .inl ((h.mF _).2 (.inr (.inr ⟨i, him, e8⟩)))
      · exact .inr (by simp [World.drew] at e8; omega)
    · exact ((Chg.of_below hwx).drew).trans g2 (fun i _ h => h)
    · rcases g3 b hb with e8 | e8
      · exact .inl e8
      · exact .inr (by simp [World.drew] at e8; omega))
  have y0 := h1.cell
  have yi := h1.lcell him
  have hx6 := Blk.new w 78 #[.int .i64 x.it.at_, .int .i64 x.it.len, .int .i64 x.it.flow, .int .i64 x.it.band, .int .i64 x.it.mark, .int .i64 x.num]
  obtain ⟨M, hM⟩ : ∃ M, m = M + 1 := ⟨m - 1, by omega⟩
  have e1 : IntKind.i64.wrap ((m : Int) - 1) = (M : Int) := by rw [IntWalk.i64_in _ (by omega)]; omega
  have HP := Lib.hid hp2; have HM := Lib.hid hmp
  clear hput hcp hmp hp2 hf1 h1 h g1' hwl hwx hx hki ok
  obtain ⟨⟨xa, xl, xf, xb, xm⟩, xn⟩ := x
  unfold hdV at HP
  unfold hdV
  dsimp only at hi HP y0 yi hb0 hb1 hx6 ⊢
  have HX6 := Lib.hid hx6
  clear hx6
  obtain ⟨b, hb⟩ : ∃ b : Nat, xb = b := ⟨xb.toNat, by omega⟩
  subst hb
  have iim : (i : Int) < (m : Int) := by omega
  generalize P.V i = V at *
  by_cases hc : b ≤ M
  · obtain rfl : i = b := by omega
    have hm2 : (M < i) = False := by simp; omega
    clear hi hM
    go_enter Tryz.func150, Tryz.ntmps150
    go_upto_region 1 with fail
    generalize w.alloc (.cells #[.int .i64 xa, .int .i64 xl, .int .i64 xf, .int .i64 (i : Nat), .int .i64 xm, .int .i64 xn] 78) = W at *
    obtain ⟨t0, t1, t2, t3, t4, t5, _, _, _, _, _, _⟩ := blk6 HX6.out
    go_still_tail 18, (by kernel_rfl)
    change wpList _ _ _ _ _ (World.drew _)
    go_wp2_with (refine wpList_invoke2 (vx := .int .i64 now) (vy := .agg #[.int .i64 xa, .int .i64 xl, .int .i64 xf, .int .i64 (i : Nat), .int .i64 xm, .int .i64 xn]) rfl (.tmp 22) (.tmp 23) (.tmp 24) #[3, 78] rfl HM.out rfl rfl rfl HP.out (fun e w' ⟨_, _, _, h, _⟩ => ⟨_, h⟩) ?_; rintro v3 w3 ⟨A, n, c', e3, h3⟩; injection e3 with e3; subst e3; have H3 := Lib.hid h3.out; clear h3)
    go_ret
    obtain ⟨F2, g1, g2, g3, g4, g5, g6⟩ := H3.out
    exact ⟨A, n, c', F2, rfl, g1, g2, g3, g4, g5, g6⟩
  · obtain rfl : i = M := by omega
    have hm2 : (i < b) = True := by simp; omega
    clear hi hM
    go_enter Tryz.func150, Tryz.ntmps150
    go_upto_region 1 with fail
    generalize w.alloc (.cells #[.int .i64 xa, .int .i64 xl, .int .i64 xf, .int .i64 (b : Nat), .int .i64 xm, .int .i64 xn] 78) = W at *
    obtain ⟨t0, t1, t2, t3, t4, t5, _, _, _, _, _, _⟩ := blk6 HX6.out
    go_still_tail 18, (by kernel_rfl)
    change wpList _ _ _ _ _ (World.drew _)
    go_wp2_with (refine wpList_invoke2 (vx := .int .i64 now) (vy := .agg #[.int .i64 xa, .int .i64 xl, .int .i64 xf, .int .i64 (b : Nat), .int .i64 xm, .int .i64 xn]) rfl (.tmp 22) (.tmp 23) (.tmp 24) #[3, 78] rfl HM.out rfl rfl rfl HP.out (fun e w' ⟨_, _, _, h, _⟩ => ⟨_, h⟩) ?_; rintro v3 w3 ⟨A, n, c', e3, h3⟩; injection e3 with e3; subst e3; have H3 := Lib.hid h3.out; clear h3)
    go_ret
    obtain ⟨F2, g1, g2, g3, g4, g5, g6⟩ := H3.out
    exact ⟨A, n, c', F2, rfl, g1, g2, g3, g4, g5, g6⟩
end Go.Proofs.YtgdijbaodfghjaaGreatDoor

/-
  Bands of whatever queues in memory: Take.
-/
namespace Go.Proofs.YtgdijbaodfghjaaGreatDoor
open Go.RowKit Bkt
set_option linter.unusedVariables false

theorem ownsRow_lt {w : World} {base e size n : Nat} {v : Value} {xs : List Value} (h : w.ownsRow base e size v n xs) : ∀ b, v.ownBlock = some b → base ≤ b ∧ b < w.heap.size := by
  intro b hb
  rcases h.2 with ⟨rfl, _⟩ | ⟨g, cap, cur, rfl, h1, hg, rest⟩
  · simp [Value.ownBlock] at hb
  · have e2 : g = b := by simpa [Value.ownBlock] using hb
    subst e2
    exact ⟨h1, Blk.lt (t := e) hg⟩
theorem chg_sixN {w w' : World} {S : Nat → Prop} (h : Chg w w' S) {b : Nat} (hb : w.heap.size ≤ b) (u0 u1 u2 u3 u4 u5 : Value) :
    Chg w ((((((w'.setCell ⟨b, 0, none⟩ u0).setCell ⟨b, 1, none⟩ u1).setCell ⟨b, 2, none⟩ u2).setCell ⟨b, 3, none⟩ u3).setCell ⟨b, 4, none⟩ u4).setCell ⟨b, 5, none⟩ u5) S :=
  (((((h.setCell (p := ⟨b, 0, none⟩) (fun e => absurd e (Nat.not_lt.2 hb)) u0).setCell (p := ⟨b, 1, none⟩) (fun e => absurd e (Nat.not_lt.2 hb)) u1).setCell (p := ⟨b, 2, none⟩) (fun e => absurd e (Nat.not_lt.2 hb)) u2).setCell (p := ⟨b, 3, none⟩) (fun e => absurd e (Nat.not_lt.2 hb)) u3).setCell (p := ⟨b, 4, none⟩) (fun e => absurd e (Nat.not_lt.2 hb)) u4).setCell (p := ⟨b, 5, none⟩) (fun e => absurd e (Nat.not_lt.2 hb)) u5
theorem chg_oneN {w : World} (b : Nat) (u0 u1 u2 u3 u4 u5 : Value) :
    Chg w ((((((w.setCell ⟨b, 0, none⟩ u0).setCell ⟨b, 1, none⟩ u1).setCell ⟨b, 2, none⟩ u2).setCell ⟨b, 3, none⟩ u3).setCell ⟨b, 4, none⟩ u4).setCell ⟨b, 5, none⟩ u5) (fun i => i = b) :=
  ((((((Chg.refl w (fun i => i = b)).setCell (p := ⟨b, 0, none⟩) (fun _ => rfl) u0).setCell (p := ⟨b, 1, none⟩) (fun _ => rfl) u1).setCell (p := ⟨b, 2, none⟩) (fun _ => rfl) u2).setCell (p := ⟨b, 3, none⟩) (fun _ => rfl) u3).setCell (p := ⟨b, 4, none⟩) (fun _ => rfl) u4).setCell (p := ⟨b, 5, none⟩) (fun _ => rfl) u5
structure MTk (P : MixP) (w wr : World) (base gb gi c m : Nat) (ls : Array Value) (k : Nat) (F : Nat → Prop) (L : List Hd) (lv : Value) (s : Pl.BSt P.Ms) (FF' : Nat → Nat → Prop) (kk' : Nat → Nat) (F' : Nat → Prop) : Prop where
  d : MxM P base gb gi c m ls FF' kk' s k F' wr
  ch : Chg w wr F
  at_ : ∀ b, F' b → F b ∨ w.heap.size < b
  blk : Blk wr w.heap.size 78 #[.int .i64 0, .int .i64 0, .int .i64 0, .int .i64 0, .int .i64 0, .int .i64 0]
  old : ∀ b, F b → b < w.heap.size
  lo : wr.ownsRow w.heap.size 78 6 lv L.length (L.flatMap HdR.cells)
  ld : ∀ b, lv.ownBlock = some b → ¬ F' b ∧ b ≠ w.heap.size
  bd : L.length + (Pl.waitG P.Ms m s).length ≤ k
section
variable {P : MixP} {w wr w3 w5 : World} {base gb gi c m k n u : Nat} {ls : Array Value} {F F' F3 : Nat → Prop} {L : List Hd} {lv v' : Value} {s : Pl.BSt P.Ms} {FF' : Nat → Nat → Prop} {kk' : Nat → Nat} {now : Int} {A : Option Addr} {x : Array Value} {r : Option Hd × List Hd × (P.Ms u).σ}
theorem MTk.kb (h : MTk P w wr base gb gi c m ls k F L lv s FF' kk' F') : ¬ F' w.heap.size := fun e => by
  rcases h.at_ _ e with h1 | h1
  · have := h.old _ h1; omega
  · omega
theorem MTk.row (h : MTk P w wr base gb gi c m ls k F L lv s FF' kk' F') (hu : u < m) (hc : Chg wr w3 (FF' u)) (o : Obj) : (w3.alloc o).ownsRow w.heap.size 78 6 lv L.length (L.flatMap HdR.cells) :=
  ownsRow_chg (ownsRow_chg h.lo hc (fun b hb e => (h.ld b hb).1 ((h.d.mF b).2 (.inr (.inr ⟨u, hu, e⟩))))) (S := fun _ => False) ((Chg.refl _ _).alloc o) (fun _ _ e => e)
theorem MTk.step (ok : MixOk P base m) (h : MTk P w wr base gb gi c m ls k F L lv s FF' kk' F') (hu : u < m) (hr : (P.Ms u).take now (s u) = r) (hrd : r.2.1.length = n)
    (hf : P.Inv u r.2.2 (kk' u) F3 w3) (hc : Chg wr w3 (FF' u)) (ha : ∀ b, F3 b → FF' u b ∨ wr.heap.size ≤ b) (ho : w5.ownsRow w.heap.size 78 6 v' (L.length + n) (L.flatMap HdR.cells ++ r.2.1.flatMap HdR.cells))
    (hg : (w3.alloc (.cells x 78)).grownBy w5 lv.ownBlock) (hv : v'.ownBlock = lv.ownBlock ∨ v'.ownBlock = some (w3.alloc (.cells x 78)).heap.size) :
    ∃ FF2 kk2 F2, MTk P w w5 base gb gi c m ls k F (L ++ r.2.1) v' (Pl.updD s u r.2.2) FF2 kk2 F2 ∧ Blk w5 w3.heap.size 78 x ∧ w.heap.size < w3.heap.size ∧ (∀ b, F2 b → b ≠ w3.heap.size) := by
  subst hrd
  obtain ⟨i1, i2⟩ := Pl.takeO_good (fun i hi => (ok.qb i hi).good) now hu s h.d.inv hr
  have hlen := i2.length_eq
  rw [List.length_append, List.length_append, List.length_map, List.length_map] at hlen
  have hbd := h.bd
  obtain ⟨F2, FF2, kk2, g1, g2, g3⟩ := h.d.step ok hu hf (h.d.kl u hu) (Nat.le_refl _) h.d.k1 hc ha i1 (by omega)
  have hkr := h.blk.lt
  have hlv := ownsRow_lt h.lo
  have hsz := hc.size
  have hF2 : ∀ b, F2 b → b < w3.heap.size := fun b hb => (g1.lt ok b hb).2
  have h4 := g1.below ok ((Below.refl _ _).alloc (Nat.le_refl _) (.cells x 78))
  have hcg : Chg (w3.alloc (.cells x 78)) w5 (fun i => lv.ownBlock = some i) := Chg.of_grown hg (fun i e => e.symm)
  have hdis : ∀ b, F2 b → ¬ lv.ownBlock = some b := fun b hb e => by
    rcases g3 b hb with e2 | e2
    · exact (h.ld b e).1 e2
    · have := (hlv b e).2; omega
  have h5 := h4.chg ok hcg hdis
  have hsa : (w3.alloc (.cells x 78)).heap.size = w3.heap.size + 1 := by simp
  have hch4 : Chg w (w3.alloc (.cells x 78)) F := (h.ch.trans g2 (fun b hb hs => by
    rcases h.at_ b hs with e | e
    · exact e
    · omega)).alloc _
  have hat : ∀ b, F2 b → F b ∨ w.heap.size < b := fun b hb => by
    rcases g3 b hb with e | e
    · exact h.at_ b e
    · exact .inr (by omega)
  refine ⟨FF2, kk2, F2, ⟨h5, hch4.trans hcg (fun b hb e => ?_), hat, ?_, h.old, ?_, fun b hb => ?_, ?_⟩, ?_, by omega, fun b hb e => ?_⟩
  · have := (hlv b e).1; omega
  · refine Blk.chg (Blk.alloc (h.blk.chg g2 h.kb) _) hcg (fun e => ?_)
    exact (h.ld _ e).2 rfl
  · rw [List.length_append, List.flatMap_append]; exact ho
  · rcases hv with e | e
    · rw [e] at hb
      exact ⟨fun hb2 => hdis b hb2 hb, (h.ld b hb).2⟩
    · rw [e] at hb
      injection hb with hb
      subst hb
      exact ⟨fun hb2 => by have := hF2 _ hb2; omega, by omega⟩
  · rw [List.length_append]; omega
  · exact Blk.chg (Blk.new _ _ _) hcg (fun e => by have := (hlv _ e).2; omega)
  · subst e; have := hF2 _ hb; omega
end
set_option maxHeartbeats 4000000 in
set_option maxRecDepth 100000 in
theorem mix_take_c (P : MixP) (base gb m : Nat) (ok : MixOk P base m) (s : Pl.BSt P.Ms) (k : Nat) (F : Nat → Prop) (w : World) (now : Int) (hh : Mx1 P base gb m s k F w) (hn0 : 0 ≤ now) (hn1 : now ≤ 1000000000) :
    Calls Tryz.prog 151 #[.pointer (some ⟨gb, 0, none⟩), .int .i64 now] w (TakeOut (Mx1 P base gb m) w F k ((Pl.bndM P.Ms m).take now s)) := by
  obtain ⟨gi, c, ls, FF, kk, h⟩ := hh
  have hm0 := h.m0; have hm8 := h.m8; have hk1 := h.k1
  have hb0 : Below w.heap.size w (w.alloc (.cells #[.int .i64 0, .int .i64 0, .int .i64 0, .int .i64 0, .int .i64 0, .int .i64 0] 78)) := (Below.refl _ _).alloc (Nat.le_refl _) _
  have htk : MTk P w (w.alloc (.cells #[.int .i64 0, .int .i64 0, .int .i64 0, .int .i64 0, .int .i64 0, .int .i64 0] 78)) base gb gi c m ls k F [] (.slice none 0 0) s FF kk F :=
    ⟨h.below ok hb0, Chg.of_below hb0, fun b hb => .inl hb, Blk.new _ _ _, fun b hb => (h.lt ok b hb).2, World.ownsRow_nil _ _ _ _, fun b e => by simp [Value.ownBlock] at e, by simpa using h.wl⟩
  have HTK := Lib.hid htk
  have y0 := htk.d.cell
  obtain ⟨R, hR⟩ : ∃ R, R = (Pl.bndM P.Ms m).take now s := ⟨_, rfl⟩
  rw [← hR]
  have hR' : R = Pl.takeG P.Ms now m 0 s := hR
  have HR := Lib.hid hR'; have HO := Lib.hid ok
  clear h hb0 htk hR hR' ok
  go_enter Tryz.func151, Tryz.ntmps151
  go_upto_region 1 with fail
  generalize w.alloc (.cells #[.int .i64 0, .int .i64 0, .int .i64 0, .int .i64 0, .int .i64 0, .int .i64 0] 78) = W at *
  go_wp2_with fail
  go_loopw [5, 17] (fun lv i wr => ∃ (u : Nat) (L : List Hd) (s' : Pl.BSt P.Ms) (FF' : Nat → Nat → Prop) (kk' : Nat → Nat) (F' : Nat → Prop), u ≤ m ∧ i = .int .i64 u ∧ MTk P w wr base gb gi c m ls k F L lv s' FF' kk' F' ∧ R = ((Pl.takeG P.Ms now (m - u) u s').1, L ++ (Pl.takeG P.Ms now (m - u) u s').2.1, (Pl.takeG P.Ms now (m - u) u s').2.2)) (fun _ i _ => m - (intOf i).toNat)
  case atStart => exact ⟨0, [], s, FF, kk, F, Nat.zero_le _, rfl, HTK.out, by rw [HR.out]; rfl⟩
  case round =>
    clear HTK y0 HR
    obtain ⟨u, L, s', FF', kk', F', hu, rfl, htk, hres⟩ := hrel
    have HTK := Lib.hid htk; have HRES := Lib.hid hres
    obtain ⟨Al, cl, hlv, _⟩ := own_reads htk.lo
    clear htk hres
    by_cases hlt : u < m
    · have yi := HTK.out.d.lcell hlt
      have iu : (u : Int) < (m : Int) := by omega
      obtain ⟨ft, rt, hmt, hct⟩ := (HO.out.imp u hlt).take
      have ht := hct (s' u) (kk' u) (FF' u) wr now (HTK.out.d.f u hlt) hn0 hn1
      obtain ⟨N, hN⟩ : ∃ N, m - u = N + 1 := ⟨m - u - 1, by omega⟩
      rw [hN] at HRES
      obtain ⟨r, hr⟩ : ∃ r, (P.Ms u).take now (s' u) = r := ⟨_, rfl⟩
      rw [hr] at ht
      obtain ⟨o, lo, sv⟩ := r
      have HT := Lib.hid ht; have HM := Lib.hid hmt; have HRR := Lib.hid hr
      obtain ⟨i0, hi0, hz0, hz1, hz2⟩ := info_parts Tryz.heldInfo
      have I0 := Lib.hid hi0; have I1 := Lib.hid hz0; have I2 := Lib.hid hz1; have I3 := Lib.hid hz2
      have HLV := Lib.hid hlv
      clear ht hct hmt hr hi0 hz0 hz1 hz2 hlv
      generalize P.V u = V at *
      go_upto_region 5 with (refine wpList_invoke1 (vx := .int .i64 now) rfl (.tmp 22) (.tmp 23) #[3] rfl HM.out rfl rfl HT.out TakeOut.ret ?_; rintro v3 w3 h3; obtain ⟨y, A, n, c3, F3, rfl, hy, hn, hrd, had, hf3, hc3, ha3⟩ := h3.val; have HY := Lib.hid hy; have HRD := Lib.hid hrd; have HF3 := Lib.hid hf3; have HC3 := Lib.hid hc3; have HA3 := Lib.hid ha3; clear hy hrd had hf3 hc3 ha3 h3; obtain ⟨⟨xa, xl, xf, xb, xm⟩, xn⟩ := y; unfold hdV)
      have hrow := HTK.out.row hlt HC3.out (.cells #[.int .i64 xa, .int .i64 xl, .int .i64 xf, .int .i64 xb, .int .i64 xm, .int .i64 xn] 78)
      have hrd4 : Reads (w3.alloc (.cells #[.int .i64 xa, .int .i64 xl, .int .i64 xf, .int .i64 xb, .int .i64 xm, .int .i64 xn] 78)) w3.heap.size 6 A n (lo.flatMap HdR.cells) := Reads.alloc HRD.out (Nat.le_refl _) _
      have hnl : lo.length = n := HRD.out.len
      have hsz3 : w.heap.size ≤ (w3.alloc (.cells #[.int .i64 xa, .int .i64 xl, .int .i64 xf, .int .i64 xb, .int .i64 xm, .int .i64 xn] 78)).heap.size := by have := HTK.out.ch.size; have := HC3.out.size; simp; omega
      have hone : ∀ v ∈ lo.flatMap HdR.cells, v.oneCell' = true := fun v hv => by
        obtain ⟨z, _, hz⟩ := List.mem_flatMap.1 hv
        exact hd_one z v hz
      have hLk : L.length ≤ 1000 := by have := HTK.out.bd; omega
      have HROW := Lib.hid hrow; have HRD4 := Lib.hid hrd4; have HONE := Lib.hid hone; have HSZ3 := Lib.hid hsz3
      clear hrow hrd4 hone hsz3
      have hst := fun v' w5 ho hg hv => HTK.out.step (n := n) HO.out (now := now) hlt HRR.out hnl HF3.out HC3.out HA3.out (v' := v') (w5 := w5) (x := #[.int .i64 xa, .int .i64 xl, .int .i64 xf, .int .i64 xb, .int .i64 xm, .int .i64 xn]) ho hg hv
      have HST := Lib.hid hst
      clear hst
      generalize w3.alloc (.cells #[.int .i64 xa, .int .i64 xl, .int .i64 xf, .int .i64 xb, .int .i64 xm, .int .i64 xn] 78) = w4 at *
      go_upto_region 6 with (at_builtin; refine wpList_append_any _ rfl (.tmp 28) (.tmp 29) 76 rfl w.heap.size 78 i0 _ 6 48 Tryz.underlying76 I0.out I1.out I2.out I3.out rfl (by decide) _ L.length (L.flatMap HdR.cells) rfl HROW.out w3.heap.size A n c3 (lo.flatMap HdR.cells) rfl HRD4.out HONE.out (by simp only [maxLen]; omega) (by omega) HSZ3.out ?_; intro v' w5 g1 g2 g3; obtain ⟨A5, c5, rfl, _⟩ := own_reads g1; have hs5 := HST.out _ w5 g1 g2 g3; have HS5 := Lib.hid hs5; clear g1 g2 g3 hs5)
      obtain ⟨FF2, kk2, F2, h5, hx5, hlt5, -⟩ := HS5.out
      have H5 := Lib.hid h5; have HX5 := Lib.hid hx5
      clear HROW HRD4 HST HS5 HF3 HC3 HA3 HT yi
      cases o with
      | none =>
        go_wp2_with fail
        have hg := Pl.takeG_none (n := N) HRR.out
        refine ⟨⟨u + 1, L ++ lo, _, FF2, kk2, F2, by omega, by go_num, H5.out, ?_⟩, by simp [intOf]; omega⟩
        rw [HRES.out, hg, show m - (u + 1) = N by omega, List.append_assoc]
      | some x =>
        go_upto_region 7 with fail
        have hg := Pl.takeG_some (n := N) HRR.out
        have hRR : R = (some x, L ++ lo, Pl.updD s' u sv) := by rw [HRES.out, hg]
        have HRX := Lib.hid hRR
        have e0 := HY.out x rfl
        subst e0
        clear hg hRR HRES HRR HTK HM HY HRD HLV I0 I1 I2 I3 hn0 hn1 hLk
        have HLB := Lib.hid hlt5
        have n5 : w.heap.size ≠ w3.heap.size := by omega
        have n6 : w3.heap.size ≠ w.heap.size := by omega
        generalize w3.heap.size = kx at *
        obtain ⟨t0, t1, t2, t3, t4, t5, s0, s1, s2, s3, s4, s5⟩ := blk6 H5.out.blk
        obtain ⟨q0, q1, q2, q3, q4, q5, _, _, _, _, _, _⟩ := blk6 HX5.out
        have hkf := blk_six H5.out.blk (.int .i64 xa) (.int .i64 xl) (.int .i64 xf) (.int .i64 xb) (.int .i64 xm) (.int .i64 xn)
        have hcf := chg_sixN H5.out.ch (Nat.le_refl _) (.int .i64 xa) (.int .i64 xl) (.int .i64 xf) (.int .i64 xb) (.int .i64 xm) (.int .i64 xn)
        have hc1 := chg_oneN (w := w5) w.heap.size (.int .i64 xa) (.int .i64 xl) (.int .i64 xf) (.int .i64 xb) (.int .i64 xm) (.int .i64 xn)
        have hdf := H5.out.d.chg HO.out hc1 (fun i hi e => H5.out.kb (e ▸ hi))
        have hlf := ownsRow_chg H5.out.lo hc1 (fun b hb e => (H5.out.ld b hb).2 e)
        have HKF := Lib.hid hkf; have HCF := Lib.hid hcf; have HDF := Lib.hid hdf; have HLF := Lib.hid hlf
        clear hkf hcf hdf hlf hc1
        go_wp2_with fail
        have r0 := HKF.out.cell 0; have r1 := HKF.out.cell 1; have r2 := HKF.out.cell 2; have r3 := HKF.out.cell 3; have r4 := HKF.out.cell 4; have r5 := HKF.out.cell 5
        simp at r0 r1 r2 r3 r4 r5
        clear t0 t1 t2 t3 t4 t5 s0 s1 s2 s3 s4 s5 q0 q1 q2 q3 q4 q5
        obtain ⟨A6, c6, e6, hr5⟩ := own_rdR (R := HdR) HLF.out
        injection e6 with e6 e7 e8
        subst e6 e8
        have hb5 := H5.out.bd
        exact bodyPost_ret (v := .tuple #[hdV ⟨⟨xa, xl, xf, xb, xm⟩, xn⟩, .slice A5 (L.length + n) c5, .bool true]) (by simp [results, Tryz.results151, go_sem, hdV, r0, r1, r2, r3, r4, r5]) rfl (by
          rw [HRX.out]
          exact ⟨⟨⟨xa, xl, xf, xb, xm⟩, xn⟩, A5, L.length + n, c5, F2, rfl, fun x e => (by injection e), by rw [List.length_append] at hb5; omega, (by rw [e7]; exact hr5), fun ad e => .inr (by subst e; exact (ownsRow_lt HLF.out _ rfl).1), ⟨gi, c, ls, FF2, kk2, HDF.out⟩, HCF.out, fun b hb => (H5.out.at_ b hb).imp id (fun h => Nat.le_of_lt h)⟩)
    · obtain rfl : u = m := by omega
      have hz : u - u = 0 := Nat.sub_self u
      rw [hz] at HRES
      have hRR : R = (none, L, s') := by rw [HRES.out]; show (none, L ++ [], s') = _; rw [List.append_nil]
      have HRX := Lib.hid hRR
      clear hRR HRES
      obtain ⟨t0, t1, t2, t3, t4, t5, s0, s1, s2, s3, s4, s5⟩ := blk6 HTK.out.blk
      have hlv2 := hlv
      subst hlv
      go_wp2_with fail
      have hkf := blk_six HTK.out.blk (.int .i64 0) (.int .i64 0) (.int .i64 0) (.int .i64 0) (.int .i64 0) (.int .i64 0)
      have r0 := hkf.cell 0; have r1 := hkf.cell 1; have r2 := hkf.cell 2; have r3 := hkf.cell 3; have r4 := hkf.cell 4; have r5 := hkf.cell 5
      simp at r0 r1 r2 r3 r4 r5
      have hc1 := chg_oneN (w := wr) w.heap.size (.int .i64 0) (.int .i64 0) (.int .i64 0) (.int .i64 0) (.int .i64 0) (.int .i64 0)
      have hlf := ownsRow_chg HTK.out.lo hc1 (fun b hb e => (HTK.out.ld b hb).2 e)
      obtain ⟨A5, c5, e5, hr5⟩ := own_rdR (R := HdR) hlf
      injection e5 with e5 _ e6
      subst e5 e6
      have hb5 := HTK.out.bd
      refine bodyPost_ret (v := .tuple #[hdV Hd.zero, .slice Al L.length cl, .bool false]) (by simp [results, Tryz.results151, go_sem, hdV, Hd.zero, It.zero, r0, r1, r2, r3, r4, r5]) rfl ?_
      rw [HRX.out]
      refine ⟨Hd.zero, Al, L.length, cl, F', rfl, fun x e => (by cases e), by omega, hr5, fun ad e => .inr (by subst e; exact (ownsRow_lt hlf _ rfl).1), ⟨gi, c, ls, FF', kk', ?_⟩, chg_sixN HTK.out.ch (Nat.le_refl _) _ _ _ _ _ _, fun b hb => (HTK.out.at_ b hb).imp id (fun h => Nat.le_of_lt h)⟩
      exact HTK.out.d.chg HO.out hc1 (fun i hi e => HTK.out.kb (e ▸ hi))
end Go.Proofs.YtgdijbaodfghjaaGreatDoor

/-
  Bands of whatever queues in memory: When, Len, Bytes.
-/
namespace Go.Proofs.YtgdijbaodfghjaaGreatDoor
open Go.RowKit Bkt
set_option linter.unusedVariables false

section
variable {P : MixP} {w wr w3 : World} {base gb gi c m k u : Nat} {ls : Array Value} {F F' F3 : Nat → Prop} {s : Pl.BSt P.Ms} {FF' : Nat → Nat → Prop} {kk' : Nat → Nat} {now : Int} {r : Option Int × (P.Ms u).σ}
structure MWn (P : MixP) (w wr : World) (base gb gi c m : Nat) (ls : Array Value) (k : Nat) (F : Nat → Prop) (s : Pl.BSt P.Ms) (FF' : Nat → Nat → Prop) (kk' : Nat → Nat) (F' : Nat → Prop) : Prop where
  d : MxM P base gb gi c m ls FF' kk' s k F' wr
  ch : Chg w wr F
  at_ : ∀ b, F' b → F b ∨ w.heap.size ≤ b
theorem MWn.step (ok : MixOk P base m) (h : MWn P w wr base gb gi c m ls k F s FF' kk' F') (hu : u < m) (hr : (P.Ms u).when_ now (s u) = r)
    (hf : P.Inv u r.2 (kk' u) F3 w3) (hc : Chg wr w3 (FF' u)) (ha : ∀ b, F3 b → FF' u b ∨ wr.heap.size ≤ b) : ∃ FF2 kk2 F2, MWn P w w3 base gb gi c m ls k F (Pl.updD s u r.2) FF2 kk2 F2 := by
  obtain ⟨i1, i2⟩ := Pl.whenO_good (fun i hi => (ok.qb i hi).good) now hu s h.d.inv hr
  have hlen := i2.length_eq
  have hwl := h.d.wl
  obtain ⟨F2, FF2, kk2, g1, g2, g3⟩ := h.d.step ok hu hf (h.d.kl u hu) (Nat.le_refl _) h.d.k1 hc ha i1 (by omega)
  refine ⟨FF2, kk2, F2, g1, h.ch.trans g2 (fun b hb hs => ?_), fun b hb => ?_⟩
  · rcases h.at_ b hs with e | e
    · exact e
    · omega
  · rcases g3 b hb with e | e
    · exact h.at_ b e
    · exact .inr (Nat.le_trans h.ch.size e)
end
set_option maxHeartbeats 4000000 in
set_option maxRecDepth 100000 in
theorem mix_when_c (P : MixP) (base gb m : Nat) (ok : MixOk P base m) (s : Pl.BSt P.Ms) (k : Nat) (F : Nat → Prop) (w : World) (now : Int) (hh : Mx1 P base gb m s k F w) (hn0 : 0 ≤ now) (hn1 : now ≤ 1000000000) :
    Calls Tryz.prog 152 #[.pointer (some ⟨gb, 0, none⟩), .int .i64 now] w (WhenOut (Mx1 P base gb m) w F k ((Pl.bndM P.Ms m).when_ now s)) := by
  obtain ⟨gi, c, ls, FF, kk, h⟩ := hh
  have hm8 := h.m8
  have hwn : MWn P w w base gb gi c m ls k F s FF kk F := ⟨h, Chg.refl _ _, fun b hb => .inl hb⟩
  have HWN := Lib.hid hwn
  have y0 := h.cell
  obtain ⟨R, hR⟩ : ∃ R, R = (Pl.bndM P.Ms m).when_ now s := ⟨_, rfl⟩
  rw [← hR]
  have hR' : R = Pl.whenG P.Ms now m 0 none s := hR
  have HR := Lib.hid hR'; have HO := Lib.hid ok
  clear h hwn hR hR' ok
  go_enter Tryz.func152, Tryz.ntmps152
  go_wp2_with fail
  go_loopw [6, 7, 17] (fun bv fv i wr => ∃ (u : Nat) (b : Option Int) (a : Int) (s' : Pl.BSt P.Ms) (FF' : Nat → Nat → Prop) (kk' : Nat → Nat) (F' : Nat → Prop), u ≤ m ∧ i = .int .i64 u ∧ bv = .int .i64 a ∧ fv = .bool b.isSome ∧ (∀ x, b = some x → a = x) ∧ MWn P w wr base gb gi c m ls k F s' FF' kk' F' ∧ R = Pl.whenG P.Ms now (m - u) u b s') (fun _ _ i _ => m - (intOf i).toNat)
  case atStart => exact ⟨0, none, 0, s, FF, kk, F, Nat.zero_le _, rfl, rfl, rfl, fun x e => (by cases e), HWN.out, HR.out⟩
  case round =>
    clear HWN y0 HR
    obtain ⟨u, b, a, s', FF', kk', F', hu, rfl, rfl, rfl, hba, hwn, hres⟩ := hrel
    have HWN := Lib.hid hwn; have HRES := Lib.hid hres; have HBA := Lib.hid hba
    clear hwn hres hba
    by_cases hlt : u < m
    · have yi := HWN.out.d.lcell hlt
      have iu : (u : Int) < (m : Int) := by omega
      obtain ⟨ft, rt, hmt, hct⟩ := (HO.out.imp u hlt).when_
      have ht := hct (s' u) (kk' u) (FF' u) wr now (HWN.out.d.f u hlt) hn0 hn1
      obtain ⟨N, hN⟩ : ∃ N, m - u = N + 1 := ⟨m - u - 1, by omega⟩
      rw [hN] at HRES
      obtain ⟨r, hr⟩ : ∃ r, (P.Ms u).when_ now (s' u) = r := ⟨_, rfl⟩
      rw [hr] at ht
      obtain ⟨o, sv⟩ := r
      have hg : R = Pl.whenG P.Ms now N (u + 1) (Pl.lessO b o) (Pl.updD s' u sv) := HRES.out.trans (Pl.whenG_is hr)
      rw [show N = m - (u + 1) by omega] at hg
      have HT := Lib.hid ht; have HM := Lib.hid hmt; have HRR := Lib.hid hr; have HG := Lib.hid hg
      clear ht hct hmt hr hg HRES hN
      generalize P.V u = V at *
      cases o with
      | none =>
        have hcl : Pl.lessO b none = b := by cases b <;> rfl
        rw [hcl] at HG
        go_wp2_with (refine wpList_invoke1 (vx := .int .i64 now) rfl (.tmp 22) (.tmp 23) #[3] rfl HM.out rfl rfl HT.out WhenOut.ret ?_; rintro v3 w3 h3; obtain ⟨a3, F3, rfl, hy, hf3, hc3, ha3⟩ := h3.val; have hs3 := HWN.out.step HO.out hlt HRR.out hf3 hc3 ha3; have HS3 := Lib.hid hs3; clear hy hf3 hc3 ha3 h3 hs3; simp only [Option.isSome_none])
        obtain ⟨FF2, kk2, F2, h5⟩ := HS3.out
        exact ⟨⟨u + 1, b, a, _, FF2, kk2, F2, by omega, by go_num, rfl, rfl, HBA.out, h5, HG.out⟩, by simp [intOf]; omega⟩
      | some a0 =>
        cases b with
        | none =>
          go_wp2_with (refine wpList_invoke1 (vx := .int .i64 now) rfl (.tmp 22) (.tmp 23) #[3] rfl HM.out rfl rfl HT.out WhenOut.ret ?_; rintro v3 w3 h3; obtain ⟨a3, F3, rfl, hy, hf3, hc3, ha3⟩ := h3.val; obtain rfl := hy _ rfl; have hs3 := HWN.out.step HO.out hlt HRR.out hf3 hc3 ha3; have HS3 := Lib.hid hs3; clear hy hf3 hc3 ha3 h3 hs3; simp only [Option.isSome_none, Option.isSome_some])
          obtain ⟨FF2, kk2, F2, h5⟩ := HS3.out
          exact ⟨⟨u + 1, some a3, a3, _, FF2, kk2, F2, by omega, by go_num, rfl, rfl, fun x e => (by injection e), h5, HG.out⟩, by simp [intOf]; omega⟩
        | some c0 =>
          have e0 := HBA.out c0 rfl
          subst e0
          by_cases hac : a0 < a
          · have hcl : Pl.lessO (some a) (some a0) = some a0 := if_pos hac
            rw [hcl] at HG
            go_wp2_with (refine wpList_invoke1 (vx := .int .i64 now) rfl (.tmp 22) (.tmp 23) #[3] rfl HM.out rfl rfl HT.out WhenOut.ret ?_; rintro v3 w3 h3; obtain ⟨a3, F3, rfl, hy, hf3, hc3, ha3⟩ := h3.val; obtain rfl := hy _ rfl; have hs3 := HWN.out.step HO.out hlt HRR.out hf3 hc3 ha3; have HS3 := Lib.hid hs3; clear hy hf3 hc3 ha3 h3 hs3; simp only [Option.isSome_some])
            obtain ⟨FF2, kk2, F2, h5⟩ := HS3.out
            exact ⟨⟨u + 1, some a3, a3, _, FF2, kk2, F2, by omega, by go_num, rfl, rfl, fun x e => (by injection e), h5, HG.out⟩, by simp [intOf]; omega⟩
          · have hcl : Pl.lessO (some a) (some a0) = some a := if_neg hac
            rw [hcl] at HG
            go_wp2_with (refine wpList_invoke1 (vx := .int .i64 now) rfl (.tmp 22) (.tmp 23) #[3] rfl HM.out rfl rfl HT.out WhenOut.ret ?_; rintro v3 w3 h3; obtain ⟨a3, F3, rfl, hy, hf3, hc3, ha3⟩ := h3.val; obtain rfl := hy _ rfl; have hs3 := HWN.out.step HO.out hlt HRR.out hf3 hc3 ha3; have HS3 := Lib.hid hs3; clear hy hf3 hc3 ha3 h3 hs3; first | simp only [Option.isSome_some] | simp only [Option.isSome_none])
            obtain ⟨FF2, kk2, F2, h5⟩ := HS3.out
            exact ⟨⟨u + 1, some a, a, _, FF2, kk2, F2, by omega, by go_num, rfl, rfl, fun x e => (by injection e), h5, HG.out⟩, by simp [intOf]; omega⟩
    · obtain rfl : u = m := by omega
      have hz : u - u = 0 := Nat.sub_self u
      rw [hz] at HRES
      have hRR : R = (b, s') := HRES.out
      have HRX := Lib.hid hRR
      clear hRR HRES hz
      go_wp2_with fail
      go_ret2
      rw [HRX.out]
      exact ⟨a, F', rfl, HBA.out, ⟨gi, c, ls, FF', kk', HWN.out.d⟩, HWN.out.ch, HWN.out.at_⟩
set_option maxHeartbeats 2000000 in
set_option maxRecDepth 100000 in
theorem mix_len_c (P : MixP) (base gb m : Nat) (ok : MixOk P base m) (s : Pl.BSt P.Ms) (k : Nat) (F : Nat → Prop) (w : World) (hh : Mx1 P base gb m s k F w) :
    Calls Tryz.prog 149 #[.pointer (some ⟨gb, 0, none⟩)] w fun e w' => e = .returned (.int .i64 ((Pl.bndM P.Ms m).len s)) ∧ Below w.heap.size w w' := by
  obtain ⟨gi, c, ls, FF, kk, h⟩ := hh
  have hm8 := h.m8; have hk1 := h.k1
  have hpos : ∀ i, i < m → 0 ≤ (P.Ms i).len (s i) := fun i hi => ((ok.qb i hi).pos _ (h.inv i hi)).1
  have hbd : ∀ u, u ≤ m → 0 ≤ Pl.sumG (fun i => (P.Ms i).len (s i)) u ∧ Pl.sumG (fun i => (P.Ms i).len (s i)) u ≤ 1000 := fun u hu => by
    have h1 := Pl.sumG_pos (f := fun i => (P.Ms i).len (s i)) (n := u) (fun i hi => hpos i (by omega))
    have h2 := Pl.sumG_up (f := fun i => (P.Ms i).len (s i)) hpos hu
    have h3 : Pl.sumG (fun i => (P.Ms i).len (s i)) m ≤ ((Pl.waitG P.Ms m s).length : Int) := (Pl.bnd_len (fun i hi => (ok.qb i hi).good) s h.inv).1
    have h4 := h.wl
    omega
  have y0 := h.cell
  obtain ⟨R, hR⟩ : ∃ R, R = Pl.sumG (fun i => (P.Ms i).len (s i)) m := ⟨_, rfl⟩
  have hR' : (Pl.bndM P.Ms m).len s = R := hR.symm
  rw [hR']
  have HR := Lib.hid hR; have HO := Lib.hid ok; have H := Lib.hid h; have HBD := Lib.hid hbd
  clear h hR hR' ok hbd hpos
  go_enter Tryz.func149, Tryz.ntmps149
  go_wp2_with fail
  go_loopw [3, 11] (fun nv i wr => ∃ (u : Nat), u ≤ m ∧ i = .int .i64 u ∧ nv = .int .i64 (Pl.sumG (fun i => (P.Ms i).len (s i)) u) ∧ Below w.heap.size w wr) (fun _ i _ => m - (intOf i).toNat)
  case atStart => exact ⟨0, Nat.zero_le _, rfl, rfl, Below.refl _ _⟩
  case round =>
    obtain ⟨u, hu, rfl, rfl, hbl⟩ := hrel
    have HBL := Lib.hid hbl
    by_cases hlt : u < m
    · have hr := H.out.below HO.out hbl
      have yi := hr.lcell hlt
      have iu : (u : Int) < (m : Int) := by omega
      obtain ⟨ft, rt, hmt, hct⟩ := (HO.out.imp u hlt).len
      have ht := hct (s u) (kk u) (FF u) wr (hr.f u hlt)
      have hb0 := HBD.out u (by omega)
      have hb1 := HBD.out (u + 1) (by omega)
      have hnx : Pl.sumG (fun i => (P.Ms i).len (s i)) (u + 1) = Pl.sumG (fun i => (P.Ms i).len (s i)) u + (P.Ms u).len (s u) := rfl
      rw [hnx] at hb1
      have HT := Lib.hid ht; have HM := Lib.hid hmt; have HNX := Lib.hid hnx
      clear ht hct hmt hnx hbl hr
      generalize P.V u = V at *
      generalize (P.Ms u).len (s u) = n at *
      generalize Pl.sumG (fun i => (P.Ms i).len (s i)) u = a at *
      have e1 : IntKind.i64.wrap (a + n) = a + n := IntWalk.i64_in _ (by omega)
      go_wp2_with (refine wpList_invoke0 rfl (.tmp 16) #[] rfl HM.out rfl HT.out (fun e w' ⟨h, _⟩ => ⟨_, h⟩) ?_; rintro v3 w3 ⟨e3, h3⟩; injection e3 with e3; subst e3; have H3 := Lib.hid h3; clear h3)
      exact ⟨⟨u + 1, by omega, by go_num, by rw [HNX.out], bl_next HBL.out H3.out⟩, by simp [intOf]; omega⟩
    · obtain rfl : u = m := by omega
      obtain rfl : R = _ := HR.out
      clear hbl
      go_wp2_with fail
      go_ret
      exact ⟨rfl, HBL.out⟩
set_option maxHeartbeats 2000000 in
set_option maxRecDepth 100000 in
theorem mix_bytes_c (P : MixP) (base gb m : Nat) (ok : MixOk P base m) (s : Pl.BSt P.Ms) (k : Nat) (F : Nat → Prop) (w : World) (hh : Mx1 P base gb m s k F w) :
    Calls Tryz.prog 148 #[.pointer (some ⟨gb, 0, none⟩)] w fun e w' => e = .returned (.int .i64 ((Pl.bndM P.Ms m).bytes s)) ∧ Below w.heap.size w w' := by
  obtain ⟨gi, c, ls, FF, kk, h⟩ := hh
  have hm8 := h.m8; have hk1 := h.k1
  have hpos : ∀ i, i < m → 0 ≤ (P.Ms i).bytes (s i) := fun i hi => ((ok.qb i hi).pos _ (h.inv i hi)).2
  have hbd : ∀ u, u ≤ m → 0 ≤ Pl.sumG (fun i => (P.Ms i).bytes (s i)) u ∧ Pl.sumG (fun i => (P.Ms i).bytes (s i)) u ≤ 10000000 := fun u hu => by
    have h1 := Pl.sumG_pos (f := fun i => (P.Ms i).bytes (s i)) (n := u) (fun i hi => hpos i (by omega))
    have h2 := Pl.sumG_up (f := fun i => (P.Ms i).bytes (s i)) hpos hu
    have h3 : Pl.sumG (fun i => (P.Ms i).bytes (s i)) m ≤ 10000 * (k : Int) := ((h.good ok).bd (s := s) h.inv (k := k) h.wl).2.2.2
    omega
  have y0 := h.cell
  obtain ⟨R, hR⟩ : ∃ R, R = Pl.sumG (fun i => (P.Ms i).bytes (s i)) m := ⟨_, rfl⟩
  have hR' : (Pl.bndM P.Ms m).bytes s = R := hR.symm
  rw [hR']
  have HR := Lib.hid hR; have HO := Lib.hid ok; have H := Lib.hid h; have HBD := Lib.hid hbd
  clear h hR hR' ok hbd hpos
  go_enter Tryz.func148, Tryz.ntmps148
  go_wp2_with fail
  go_loopw [3, 11] (fun nv i wr => ∃ (u : Nat), u ≤ m ∧ i = .int .i64 u ∧ nv = .int .i64 (Pl.sumG (fun i => (P.Ms i).bytes (s i)) u) ∧ Below w.heap.size w wr) (fun _ i _ => m - (intOf i).toNat)
  case atStart => exact ⟨0, Nat.zero_le _, rfl, rfl, Below.refl _ _⟩
  case round =>
    obtain ⟨u, hu, rfl, rfl, hbl⟩ := hrel
    have HBL := Lib.hid hbl
    by_cases hlt : u < m
    · have hr := H.out.below HO.out hbl
      have yi := hr.lcell hlt
      have iu : (u : Int) < (m : Int) := by omega
      obtain ⟨ft, rt, hmt, hct⟩ := (HO.out.imp u hlt).bytes
      have ht := hct (s u) (kk u) (FF u) wr (hr.f u hlt)
      have hb0 := HBD.out u (by omega)
      have hb1 := HBD.out (u + 1) (by omega)
      have hnx : Pl.sumG (fun i => (P.Ms i).bytes (s i)) (u + 1) = Pl.sumG (fun i => (P.Ms i).bytes (s i)) u + (P.Ms u).bytes (s u) := rfl
      rw [hnx] at hb1
      have HT := Lib.hid ht; have HM := Lib.hid hmt; have HNX := Lib.hid hnx
      clear ht hct hmt hnx hbl hr
      generalize P.V u = V at *
      generalize (P.Ms u).bytes (s u) = n at *
      generalize Pl.sumG (fun i => (P.Ms i).bytes (s i)) u = a at *
      have e1 : IntKind.i64.wrap (a + n) = a + n := IntWalk.i64_in _ (by omega)
      go_wp2_with (refine wpList_invoke0 rfl (.tmp 16) #[] rfl HM.out rfl HT.out (fun e w' ⟨h, _⟩ => ⟨_, h⟩) ?_; rintro v3 w3 ⟨e3, h3⟩; injection e3 with e3; subst e3; have H3 := Lib.hid h3; clear h3)
      exact ⟨⟨u + 1, by omega, by go_num, by rw [HNX.out], bl_next HBL.out H3.out⟩, by simp [intOf]; omega⟩
    · obtain rfl : u = m := by omega
      obtain rfl : R = _ := HR.out
      clear hbl
      go_wp2_with fail
      go_ret
      exact ⟨rfl, HBL.out⟩
end Go.Proofs.YtgdijbaodfghjaaGreatDoor

/-
  Bands of whatever queues are their machine.
-/
namespace Go.Proofs.YtgdijbaodfghjaaGreatDoor
open Go.RowKit Bkt
set_option linter.unusedVariables false

def bndV (g : Nat) : Value := .iface 137 (.pointer (some ⟨g, 0, none⟩))
theorem bnd_put_meth (g : Nat) : Meth (bndV g) "Put" 150 (.pointer (some ⟨g, 0, none⟩)) := by
  intro args w; kernel_rfl
theorem bnd_take_meth (g : Nat) : Meth (bndV g) "Take" 151 (.pointer (some ⟨g, 0, none⟩)) := by
  intro args w; kernel_rfl
theorem bnd_when_meth (g : Nat) : Meth (bndV g) "When" 152 (.pointer (some ⟨g, 0, none⟩)) := by
  intro args w; kernel_rfl
theorem bnd_len_meth (g : Nat) : Meth (bndV g) "Len" 149 (.pointer (some ⟨g, 0, none⟩)) := by
  intro args w; kernel_rfl
theorem bnd_bytes_meth (g : Nat) : Meth (bndV g) "Bytes" 148 (.pointer (some ⟨g, 0, none⟩)) := by
  intro args w; kernel_rfl
theorem mix_imp (P : MixP) (base g m : Nat) (ok : MixOk P base m) : QImp (Pl.bndM P.Ms m) (bndV g) base (Mx1 P base g m) where
  lt := fun s k F w ⟨_, _, _, _, _, h⟩ => h.lt ok
  base := fun s k F w ⟨_, _, _, _, _, h⟩ => h.bs
  chg := fun s k F w w' S ⟨_, _, _, _, _, h⟩ hc hn => ⟨_, _, _, _, _, h.chg ok hc hn⟩
  put := ⟨_, _, bnd_put_meth g, fun s k F w now x h hk hx => mix_put_c P base g m ok s k F w now x h hk hx⟩
  take := ⟨_, _, bnd_take_meth g, fun s k F w now h h0 h1 => mix_take_c P base g m ok s k F w now h h0 h1⟩
  when_ := ⟨_, _, bnd_when_meth g, fun s k F w now h h0 h1 => mix_when_c P base g m ok s k F w now h h0 h1⟩
  len := ⟨_, _, bnd_len_meth g, fun s k F w h => mix_len_c P base g m ok s k F w h⟩
  bytes := ⟨_, _, bnd_bytes_meth g, fun s k F w h => mix_bytes_c P base g m ok s k F w h⟩
end Go.Proofs.YtgdijbaodfghjaaGreatDoor

/-
  Bands of whatever queues: their making.
-/
namespace Go.Proofs.YtgdijbaodfghjaaGreatDoor
open Go.RowKit Bkt
set_option linter.unusedVariables false

theorem Tryz.queueInfo : (Tryz.prog.info? 50).map (fun i => (i.zero, i.size, i.bytes)) = some (some .nilIface, 1, 16) := by kernel_rfl
def QV (v : Value) : Prop := ∃ T g, v = .iface T (.pointer (some ⟨g, 0, none⟩))
def RdV (w : World) (B : Nat) (A : Option Addr) (n : Nat) (vs : List Value) : Prop := Reads w B 1 A n vs ∧ ∀ v ∈ vs, QV v
theorem RdV.len {w : World} {B n : Nat} {A : Option Addr} {vs : List Value} (h : RdV w B A n vs) : vs.length = n := by simpa using h.1.1
theorem RdV.at_ {w : World} {B n : Nat} {A : Option Addr} {vs : List Value} (h : RdV w B A n vs) {k : Nat} (hk : k < n) : ∃ b off T g, A = some ⟨b, off, none⟩ ∧ b < B ∧ w.cell? ⟨b, off + k, none⟩ = some (.iface T (.pointer (some ⟨g, 0, none⟩))) ∧ vs[k]? = some (.iface T (.pointer (some ⟨g, 0, none⟩))) := by
  obtain ⟨ad0, u0, hA0, _, _, hc0⟩ := Reads.at_ h.1 (show 0 < n by omega)
  obtain ⟨ad, u, rfl, hb, hx, hc⟩ := Reads.at_ h.1 hk
  injection hA0 with hA0
  subst hA0
  obtain ⟨b, off, spot⟩ := ad
  have hs' : spot = none := by simpa [Addr.add] using World.cell?_spot hc0
  subst hs'
  obtain ⟨T, g, hu⟩ := h.2 u (List.mem_of_getElem? hx)
  subst hu
  refine ⟨b, off, T, g, rfl, hb, ?_, hx⟩
  rw [← hc]
  unfold Addr.add
  split
  · subst_vars; rfl
  · rfl
theorem qnil_any (T : TypeId) (g : Nat) (w : World) : Calls Tryz.prog 53 #[.iface T (.pointer (some ⟨g, 0, none⟩))] w fun e w' => e = .returned (.bool false) ∧ w = w' := by
  go_enter Tryz.func53, Tryz.ntmps53
  go_wp2_with fail
  go_ret
  exact ⟨rfl, rfl⟩
set_option maxHeartbeats 1000000 in
theorem bindex_any (A : Option Addr) (n c : Nat) (vs : List Value) (w : World) (hr : RdV w w.heap.size A n vs) (hn : n ≤ 1000) :
    Calls Tryz.prog 63 #[.slice A n c, .func (.func 53) #[] #[]] w fun e w' => e = .returned (.int .i64 (-1)) ∧ w = w' := by
  have HR := Lib.hid hr
  clear hr
  go_enter Tryz.func63, Tryz.ntmps63
  go_wp2_with fail
  go_loopw [8] (fun i wr => ∃ k : Nat, k ≤ n ∧ i = .int .i64 k ∧ wr = w) (fun i _ => n - (intOf i).toNat)
  case atStart => exact ⟨0, Nat.zero_le _, rfl, rfl⟩
  case round =>
    obtain ⟨k, hk, rfl, rfl⟩ := hrel
    by_cases hlt : k < n
    · obtain ⟨b, off, T, g, rfl, hbl, hc, _⟩ := HR.out.at_ hlt
      have HP := Lib.hid (qnil_any T g wr)
      have ik : (k : Int) < (n : Int) := by omega
      go_wp2_with (go_at_call 53; (with_reducible refine HP.out.mono ?_); rintro e w' ⟨rfl, rfl⟩)
      exact ⟨⟨k + 1, by omega, by go_num, by first | rfl | trivial⟩, by simp [intOf]; omega⟩
    · obtain rfl : k = n := by omega
      go_wp2_with fail
      go_ret
      exact ⟨rfl, rfl⟩
theorem bcontains_any (A : Option Addr) (n c : Nat) (vs : List Value) (w : World) (hr : RdV w w.heap.size A n vs) (hn : n ≤ 1000) :
    Calls Tryz.prog 52 #[.slice A n c, .func (.func 53) #[] #[]] w fun e w' => e = .returned (.bool false) ∧ w = w' := by
  have h := bindex_any A n c vs w hr hn
  have H := Lib.hid h
  clear h hr
  go_enter Tryz.func52, Tryz.ntmps52
  go_wp2_with fail
  (with_reducible refine H.out.mono ?_)
  rintro e w' ⟨rfl, rfl⟩
  go_wp2_with fail
  go_ret
  exact ⟨rfl, rfl⟩
theorem own_empty (w : World) (e : TypeId) : (w.alloc (.cells #[] e)).ownsRow w.heap.size e 1 (.slice (some ⟨w.heap.size, 0, none⟩) 0 0) 0 [] :=
  ⟨rfl, .inr ⟨w.heap.size, 0, #[], rfl, Nat.le_refl _, heap_alloc_new w _, Nat.le_refl _, by decide, rfl, rfl⟩⟩
def CloneOut (w : World) (n : Nat) (vs : List Value) (e : Ending) (w' : World) : Prop :=
  ∃ v, e = .returned v ∧ Hid (w'.ownsRow w.heap.size 50 1 v n vs ∧ Below w.heap.size w w')
set_option maxHeartbeats 1000000 in
set_option maxRecDepth 100000 in
theorem bclone_any (b off : Nat) (n c : Nat) (vs : List Value) (w : World) (hr : RdV w w.heap.size (some ⟨b, off, none⟩) n vs) (hn : n ≤ 1000) :
    Calls Tryz.prog 54 #[.slice (some ⟨b, off, none⟩) n c] w (CloneOut w n vs) := by
  obtain ⟨i0, hi, hz0, hz1, hz2⟩ := info_parts Tryz.queueInfo
  have hown := own_empty w 50
  have hr2 : Reads (w.alloc (.cells #[] 50)) w.heap.size 1 (some ⟨b, off, none⟩) n vs := Reads.below hr.1 ((Below.refl _ _).alloc (Nat.le_refl _) _)
  have h1c : ∀ u ∈ vs, u.oneCell' = true := fun u hu => by
    obtain ⟨T, g, rfl⟩ := hr.2 u hu
    rfl
  have hcmp : ∀ w, Sem.run Tryz.prog (binOp BinOp.eql 136 (.slice (some ⟨b, off, none⟩) n c) (.slice none 0 0)) w = .ok (.bool false) w := fun w => by kernel_rfl
  have HOWN := Lib.hid hown; have HR2 := Lib.hid hr2; have H1C := Lib.hid h1c
  clear hown hr2 h1c hr
  go_enter Tryz.func54, Tryz.ntmps54
  go_wp2_with (at_builtin; refine wpList_append_any _ rfl (.tmp 5) (.tmp 6) 136 rfl w.heap.size 50 i0 .nilIface 1 16 Tryz.underlying136 hi hz0 hz1 hz2 rfl (by decide) _ 0 [] rfl HOWN.out w.heap.size (some ⟨b, off, none⟩) n c vs rfl HR2.out H1C.out (by simp only [maxLen]; omega) (by omega) (by simp) ?_; intro v' w' g1 g2 g3; have G1 := Lib.hid g1; have G2 := Lib.hid g2; clear g1 g2 g3)
  go_ret
  refine ⟨v', rfl, Lib.hid ⟨?_, ?_⟩⟩
  · have := G1.out
    rw [Nat.zero_add, List.nil_append] at this
    exact this
  · have hb0 : Below w.heap.size w (w.alloc (.cells #[] 50)) := (Below.refl _ _).alloc (Nat.le_refl _) _
    exact hb0.grown G2.out (by simp) (fun k hk => by injection hk with hk; subst hk; exact Nat.le_refl _)
def NewMixOut (w : World) (n : Nat) (vs : List Value) (e : Ending) (w' : World) : Prop :=
  ∃ gb, e = .returned (.tuple #[.pointer (some ⟨gb, 0, none⟩), .nilIface]) ∧ Hid (∃ gi c ls, w.heap.size ≤ gi ∧ w.heap.size ≤ gb ∧ gb ≠ gi ∧ Blk w' gb 156 #[.slice (some ⟨gi, 0, none⟩) n c] ∧ Blk w' gi 50 ls ∧ (∀ i, i < n → ls[i]? = vs[i]?) ∧ Below w.heap.size w w')
set_option maxHeartbeats 1000000 in
theorem mixNew_yes (A : Option Addr) (n c : Nat) (vs : List Value) (w : World) (hr : RdV w w.heap.size A n vs) (h1 : 1 ≤ n) (h8 : n ≤ 8) :
    Calls Tryz.prog 45 #[.slice A n c] w (NewMixOut w n vs) := by
  obtain ⟨b, off, _, _, rfl, _⟩ := hr.at_ (show 0 < n by omega)
  have hct := bcontains_any _ n c vs w hr (by omega)
  have hcl := bclone_any b off n c vs w hr (by omega)
  have hl := hr.len
  have HCT := Lib.hid hct; have HCL := Lib.hid hcl; have HL := Lib.hid hl
  clear hct hcl hr hl
  go_enter Tryz.func45, Tryz.ntmps45
  go_wp2_with fail
  (with_reducible refine HCT.out.mono ?_)
  rintro e w1 ⟨rfl, rfl⟩
  go_wp2_with fail
  (with_reducible refine HCL.out.mono ?_)
  rintro e w2 ⟨v, rfl, h2⟩
  obtain ⟨hown, hb⟩ := h2.out
  obtain ⟨hlen, h3⟩ := hown
  rcases h3 with ⟨_, h0⟩ | ⟨gi, cap, cur, rfl, hgi, hblk, hcap, _, hcs, htk⟩
  · omega
  have hgl : gi < w2.heap.size := by
    have := hblk
    exact Array.getElem?_eq_some_iff.1 this |>.1
  have hls : ∀ i, i < n → cur[i]? = vs[i]? := fun i hi => by
    have e1 : (cur.toList.take (n * 1))[i]? = vs[i]? := by rw [htk]
    rw [List.getElem?_take, if_pos (by omega)] at e1
    simpa using e1
  have hsz := hb.size
  have hfin : ∃ gi' c' ls, w.heap.size ≤ gi' ∧ w.heap.size ≤ w2.heap.size ∧ w2.heap.size ≠ gi' ∧ Blk (w2.alloc (.cells #[.slice (some ⟨gi, 0, none⟩) n cap] 156)) w2.heap.size 156 #[.slice (some ⟨gi', 0, none⟩) n c'] ∧ Blk (w2.alloc (.cells #[.slice (some ⟨gi, 0, none⟩) n cap] 156)) gi' 50 ls ∧ (∀ i, i < n → ls[i]? = vs[i]?) ∧ Below w.heap.size w (w2.alloc (.cells #[.slice (some ⟨gi, 0, none⟩) n cap] 156)) :=
    ⟨gi, cap, cur, hgi, hsz, by omega, Blk.new _ _ _, (show Blk w2 gi 50 cur from hblk).alloc _, hls, hb.alloc hsz _⟩
  have HFIN := Lib.hid hfin
  clear hfin hls hblk hlen htk hcs hb h2
  go_wp2_with fail
  go_ret2
  exact ⟨w2.heap.size, rfl, Lib.hid HFIN.out⟩
set_option maxHeartbeats 1000000 in
theorem mixNew_no (A : Option Addr) (n c : Nat) (w : World) (h1 : 8 < n) (h2 : n ≤ 1000) :
    Calls Tryz.prog 45 #[.slice A n c] w fun e w' => (∃ k : Int, e = .returned (.tuple #[.pointer none, .iface 69 (.int .i64 k)])) ∧ w = w' := by
  go_enter Tryz.func45, Tryz.ntmps45
  go_wp2_with fail
  go_ret2
  exact ⟨⟨_, rfl⟩, rfl⟩
end Go.Proofs.YtgdijbaodfghjaaGreatDoor
