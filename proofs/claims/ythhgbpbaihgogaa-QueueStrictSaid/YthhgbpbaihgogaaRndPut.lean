/-
  Flows that take turns, in memory: Put.
-/
import Derived.Test.YthhgbpbaihgogaaRnd
import Derived.Test.YthhgbpbaihgogaaFifoImp
import Derived.Test.YthhgbpbaihgogaaBoth
import Derived.Deep.AppendLies
import Derived.Deep.CutRange
namespace Go.Proofs.Ythhgbpbaihgogaa
open Go.RowKit Bkt
set_option linter.unusedVariables false

/-- behind a Put -/
def RndPutOut (w : World) (base g : Nat) (V : Nat → Value) (tv : Value) (Q : Nat → Int) (room : Int) (s : Pl.RS) (b m : Int) (x : Hd) (e : Ending) (w' : World) : Prop :=
  ∃ (A : Option Addr) (c : Nat) (b' m' : Int) (cs' : Array Value) (V' : Nat → Value) (tv' : Value),
    e = .returned (.slice A (Pl.putR room x s).1.length c) ∧ RdR HdR w' w'.heap.size A (Pl.putR room x s).1.length (Pl.putR room x s).1 ∧ (∀ ad, A = some ad → w.heap.size ≤ ad.block) ∧
    Rds w' base g cs' V' tv' Q room (Pl.putR room x s).2 b' m' ∧ RTrn w w' g V tv V' tv' ∧ (((Pl.putR room x s).1 = [x] ∧ b' = b ∧ m' = m) ∨ ((Pl.putR room x s).1 = [] ∧ b' = b + x.it.len ∧ m' = m + 1))

set_option maxHeartbeats 2000000 in
set_option maxRecDepth 100000 in
theorem rndPut_full (base g : Nat) (cs : Array Value) (V : Nat → Value) (tv : Value) (Q : Nat → Int) (room : Int) (s : Pl.RS) (b m now : Int) (x : Hd) (w : World) (h : Rds w base g cs V tv Q room s b m) {f : Nat} (hf : f < 16) (hxf : x.it.flow = f)
    (hfull : room ≤ ((s.L f).length : Int)) :
    Calls Try.prog 30 #[.pointer (some ⟨g, 0, none⟩), .int .i64 now, hdV x] w (RndPutOut w base g V tv Q room s b m x) := by
  have hgl := h.blk.lt
  have hb0 : Below w.heap.size w (w.alloc (.cells #[.int .i64 x.it.at_, .int .i64 x.it.len, .int .i64 x.it.flow, .int .i64 x.it.band, .int .i64 x.it.mark, .int .i64 x.num] 54)) := (Below.refl _ _).alloc (Nat.le_refl _) _
  have hput : Pl.putR room x s = ([x], s) := by unfold Pl.putR; rw [hxf, Int.toNat_natCast, if_pos hfull]
  obtain ⟨A, c, hv, _, _, _⟩ := (h.own f hf).reads
  have y0 := h.cell (h.l0 f hf)
  rw [hv] at y0
  have y48 := h.cell h.rm
  have d0 := (hb0.cell (p := ⟨g, f * 2, none⟩) hgl).trans y0
  have d48 := (hb0.cell (p := ⟨g, 48, none⟩) hgl).trans y48
  have H := Lib.hid h; have HB0 := Lib.hid hb0; have HPUT := Lib.hid hput
  obtain ⟨⟨xa, xl, xf, xb, xm⟩, xn⟩ := x
  dsimp only at hxf HB0
  subst hxf
  unfold hdV
  dsimp only at d0 d48 ⊢
  clear h hb0 hput hv y0 y48
  have n1 : w.heap.size ≠ g := by omega
  have n2 : g ≠ w.heap.size := by omega
  have i0 : (0 : Int) ≤ (f : Int) := by omega
  have i1 : (f : Int) < 16 := by omega
  generalize (s.L f).length = len at *
  have t1 : decide (room ≤ (len : Int)) = true := by simpa using hfull
  go_enter Try.func30, Try.ntmps30
  go_upto_region 1 with fail
  have hk := Blk.new w 54 #[.int .i64 xa, .int .i64 xl, .int .i64 f, .int .i64 xb, .int .i64 xm, .int .i64 xn]
  obtain ⟨t0, t1, t2, t3, t4, t5, s0, s1, s2, s3, s4, s5⟩ := blk6 hk
  have HK := Lib.hid hk
  clear hk
  generalize w.alloc (.cells #[.int .i64 xa, .int .i64 xl, .int .i64 f, .int .i64 xb, .int .i64 xm, .int .i64 xn] 54) = W at *
  go_quiet (fail)
  go_upto_region 2 with fail
  have u0 : (W.drewN nq).cell? ⟨g, f * 2, none⟩ = some (.slice A len c) := d0
  have u48 : (W.drewN nq).cell? ⟨g, 48, none⟩ = some (.int .i64 room) := d48
  have u2 : (W.drewN nq).cell? ⟨w.heap.size, 0, none⟩ = some (.int .i64 xa) := t0
  clear d0 d48 t0 t1 t2 t3 t4 t5 s0 s1 s2 s3 s4 s5
  have HB1 := Lib.hid (bl_drewN (n := nq) HB0.out); have HK1 := Lib.hid (HK.out.drewN nq)
  clear HB0 HK
  generalize W.drewN nq = W1 at *
  go_quiet (first | (go_at_call 21; exact Calls.quiet_of_same (len_q _ _ _ _ _ _ (by assumption))))
  go_upto_region 3 with fail
  have HB2 := Lib.hid (bl_drewN (n := nq) HB1.out)
  obtain ⟨t0, t1, t2, t3, t4, t5, s0, s1, s2, s3, s4, s5⟩ := blk6 (HK1.out.drewN nq)
  clear u0 u48 u2
  generalize W1.drewN nq = W2 at *
  go_wp2_with fail
  go_ret
  refine ⟨some ⟨W2.heap.size, 0, none⟩, 1, b, m, cs, V, tv, ?_⟩
  rw [HPUT.out]
  exact ⟨rfl, rdHd_one (Blk.new W2 _ _) rfl, fun ad e => by injection e with e; subst e; exact HB2.out.size, H.out.below (HB2.out.alloc HB2.out.size _), (RTrn.refl w g V tv).below (HB2.out.alloc HB2.out.size _), .inl ⟨rfl, rfl, rfl⟩⟩

set_option maxHeartbeats 4000000 in
set_option maxRecDepth 100000 in
theorem rndPut_add (base g : Nat) (cs : Array Value) (V : Nat → Value) (tv : Value) (Q : Nat → Int) (room : Int) (s : Pl.RS) (b m now : Int) (x : Hd) (w : World) (h : Rds w base g cs V tv Q room s b m) {f : Nat} (hf : f < 16) (hxf : x.it.flow = f) (hx : 0 ≤ x.it.len ∧ x.it.len ≤ 10000)
    (hbase : base ≤ w.heap.size) (hl : HdsOk (s.L f)) (hT : s.T.length ≤ 1000) (hb : 0 ≤ b ∧ b ≤ 100000000) (hm : 0 ≤ m ∧ m ≤ 100000000) (hfull : ¬ room ≤ ((s.L f).length : Int)) :
    Calls Try.prog 30 #[.pointer (some ⟨g, 0, none⟩), .int .i64 now, hdV x] w (RndPutOut w base g V tv Q room s b m x) := by
  have hgl := h.blk.lt
  have hb0 : Below w.heap.size w (w.alloc (.cells #[.int .i64 x.it.at_, .int .i64 x.it.len, .int .i64 x.it.flow, .int .i64 x.it.band, .int .i64 x.it.mark, .int .i64 x.num] 54)) := (Below.refl _ _).alloc (Nat.le_refl _) _
  have hput : Pl.putR room x s = ([], ⟨Pl.updf s.L f (s.L f ++ [x]), if (s.L f).length = 0 then Pl.updf s.C f 0 else s.C, if (s.L f).length = 0 then s.T ++ [f] else s.T, s.beg⟩) := by
    unfold Pl.putR; rw [hxf, Int.toNat_natCast, if_neg hfull]
  obtain ⟨A, c, hv, _, _, _⟩ := (h.own f hf).reads
  have H0 := Lib.hid (h.below hb0); have HV := Lib.hid hv
  have d0 := (H0.out.cell (h.l0 f hf))
  rw [hv] at d0
  have d48 := H0.out.cell h.rm
  have hrlt := h.rlt
  have HRLT := Lib.hid hrlt
  have HB0 := Lib.hid hb0; have HPUT := Lib.hid hput; have HL := Lib.hid hl
  obtain ⟨⟨xa, xl, xf, xb, xm⟩, xn⟩ := x
  dsimp only at hxf HB0 hx H0 d0 d48
  subst hxf
  unfold hdV
  dsimp only
  obtain ⟨hx0, hx1⟩ := hx; obtain ⟨hb0', hb1⟩ := hb; obtain ⟨hm0, hm1⟩ := hm
  clear h hb0 hput hv hl hrlt
  have n1 : w.heap.size ≠ g := by omega
  have n2 : g ≠ w.heap.size := by omega
  have hrw : ¬ RF V tv w.heap.size := fun e => by have := (HRLT.out _ e).2; omega
  have HRW := Lib.hid hrw
  clear hrw
  have i0 : (0 : Int) ≤ (f : Int) := by omega
  have i1 : (f : Int) < 16 := by omega
  obtain ⟨len, hlen⟩ : ∃ len, (s.L f).length = len := ⟨_, rfl⟩
  rw [hlen] at d0 hfull
  have HLEN := Lib.hid hlen
  clear hlen
  have t1 : decide (room ≤ (len : Int)) = false := by simpa using hfull
  go_enter Try.func30, Try.ntmps30
  go_upto_region 1 with fail
  have hk := Blk.new w 54 #[.int .i64 xa, .int .i64 xl, .int .i64 f, .int .i64 xb, .int .i64 xm, .int .i64 xn]
  obtain ⟨t0, t1, t2, t3, t4, t5, s0, s1, s2, s3, s4, s5⟩ := blk6 hk
  have HK := Lib.hid hk
  clear hk
  have ht0 : RTrn w (w.alloc (.cells #[.int .i64 xa, .int .i64 xl, .int .i64 f, .int .i64 xb, .int .i64 xm, .int .i64 xn] 54)) g V tv V tv := (RTrn.refl w g V tv).below HB0.out
  have HT0 := Lib.hid ht0
  clear ht0
  generalize w.alloc (.cells #[.int .i64 xa, .int .i64 xl, .int .i64 f, .int .i64 xb, .int .i64 xm, .int .i64 xn] 54) = W at *
  go_quiet (fail)
  go_upto_region 2 with fail
  have u0 : (W.drewN nq).cell? ⟨g, f * 2, none⟩ = some (.slice A len c) := d0
  have u48 : (W.drewN nq).cell? ⟨g, 48, none⟩ = some (.int .i64 room) := d48
  have H1 := Lib.hid (H0.out.drewN nq); have HK1 := Lib.hid (HK.out.drewN nq); have HT1 := Lib.hid (HT0.out.drewN nq)
  clear d0 d48 t0 t1 t2 t3 t4 t5 s0 s1 s2 s3 s4 s5 H0 HK HT0 HB0
  generalize W.drewN nq = W1 at *
  go_quiet (first | (go_at_call 21; exact Calls.quiet_of_same (len_q _ _ _ _ _ _ (by assumption))))
  go_upto_region 4 with fail
  have u0' : (W1.drewN nq).cell? ⟨g, f * 2, none⟩ = some (.slice A len c) := u0
  have H2 := Lib.hid (H1.out.drewN nq); have HK2 := Lib.hid (HK1.out.drewN nq); have HT2 := Lib.hid (HT1.out.drewN nq)
  clear u0 u48 H1 HK1 HT1
  generalize W1.drewN nq = W2 at *
  have hlq := len_q g (f * 2) len c A W2 u0'
  have HLQ := Lib.hid hlq
  clear hlq u0'
  obtain ⟨s1, hs1⟩ : ∃ s1 : Pl.RS, s1 = ⟨s.L, if (s.L f).length = 0 then Pl.updf s.C f 0 else s.C, if (s.L f).length = 0 then s.T ++ [f] else s.T, s.beg⟩ := ⟨_, rfl⟩
  have HS1 := Lib.hid hs1
  clear hs1
  go_upto_if 26 with (go_at_call 21; (with_reducible refine HLQ.out.mono ?_); rintro e w3 ⟨rfl, rfl⟩)
  go_cut [] from 26 to 45 (fun wx => ∃ cs1 tv1, Rds wx base g cs1 V tv1 Q room s1 b m ∧ RTrn w wx g V tv V tv1 ∧ Blk wx w.heap.size 54 #[.int .i64 xa, .int .i64 xl, .int .i64 f, .int .i64 xb, .int .i64 xm, .int .i64 xn])
  case first =>
    by_cases h0 : len = 0
    · subst h0
      go_upto_region 5 with fail
      have hA := (H2.out.below ((Below.refl _ _).alloc (Nat.le_refl _) (.cells #[.int .i64 f] 3))).drew
      have hKA := HK2.out.alloc (.cells #[.int .i64 f] 3)
      have hTA := HT2.out.alloc (.cells #[.int .i64 f] 3)
      have hcn : (w3.alloc (.cells #[.int .i64 f] 3)).drew.cell? ⟨w3.heap.size, 0, none⟩ = some (.int .i64 f) := (Blk.new w3 3 #[.int .i64 f]).cell 0
      have y65 := H2.out.cell H2.out.t
      have hsz3 := HT2.out.chg.size
      have g3 := H2.out.blk.lt
      have g4 := HK2.out.lt
      have g5 : g ≠ w3.heap.size := by omega
      have g6 : w.heap.size ≠ w3.heap.size := by omega
      obtain ⟨At, ct, hvt, _, _, _⟩ := H2.out.tn.reads
      rw [hvt] at y65
      obtain ⟨t0, t1, t2, t3, t4, t5, s0, s1', s2, s3, s4, s5⟩ := blk6 HK2.out
      have HA := Lib.hid hA; have HKA := Lib.hid hKA; have HTA := Lib.hid hTA; have HCN := Lib.hid hcn; have HVT := Lib.hid hvt
      clear hA hKA hTA hcn hvt
      go_region_law ((refine step_addW IntR (by rfl) (.tmp 31) (.tmp 35) _ base 3 _ 8 Try.underlying32 Try.intRInfo (by rfl) rfl (.slice At s.T.length ct) s.T.length (tnL s.T) (f : Int) ?_ (by rfl) ⟨_, rfl, int_cells HCN.out⟩ (int_one _) (by omega) (by omega) ?_ ?_; (focus (rw [← HVT.out]; exact HA.out.tn)); (focus (simp; omega)); intro tv1 w1 hown1 hg1 hat1; rw [← HVT.out] at hg1 hat1; obtain ⟨A', c', rfl, hq1, hq2, hrd1⟩ := hown1.reads; have z1 : w1.frozen? ⟨g, 65, none⟩ = false := ((HA.out.blk.chg (Chg.of_grown (S := fun i => tv.ownBlock = some i) hg1 (fun i e => e.symm)) (fun e => HA.out.rne g (.inl e) rfl)).frozen 65); have z0 : w1.cell? ⟨g, 65, none⟩ = some tv := ((HA.out.blk.chg (Chg.of_grown (S := fun i => tv.ownBlock = some i) hg1 (fun i e => e.symm)) (fun e => HA.out.rne g (.inl e) rfl)).cell 65).trans HA.out.t))
      all_goals
        have hset := HA.out.setT (T' := s.T ++ [f]) hg1 (by rw [tnL_app, List.length_append]; exact hown1) hat1
        have hgr : Chg (w3.alloc (.cells #[.int .i64 f] 3)).drew w1 (fun i => tv.ownBlock = some i) := Chg.of_grown hg1 (fun i e => e.symm)
        have hkb := (Blk.chg (Blk.drew HKA.out) hgr (fun e => HRW.out (.inl e))).far (p := ⟨g, 65, none⟩) n1 (.slice A' (s.T.length + 1) c')
        have htb := HTA.out.drew.trans hset.2
        have h4 := hset.1
        have x49 := fun i => h4.blk.frozen i
        have hs1 := HS1.out
        rw [HLEN.out, if_pos rfl, if_pos rfl] at hs1
        have hfin := h4.setC hf 0
        have H4 := Lib.hid h4; have HKB := Lib.hid hkb; have HTB := Lib.hid htb; have HFIN := Lib.hid hfin; have HSS := Lib.hid hs1
        obtain ⟨t0, t1, t2, t3, t4, t5, s0, s1', s2, s3, s4, s5⟩ := blk6 hkb
        have z49 := h4.cell (h4.c f hf)
        have x49' := x49 (49 + f)
        clear hset hgr hkb htb h4 x49 hfin hs1 hown1 hg1 hat1 hq1 hq2 hrd1 z0 z1
        generalize w1.setCell ⟨g, 65, none⟩ (.slice A' (s.T.length + 1) c') = w4 at *
        go_upto_region 6 with fail
        go_still_tail 7, (by kernel_rfl)
        change wpList _ _ _ _ _ w4.drew
        go_wp2_with fail
        go_meet
        case rel =>
          exact ⟨_, _, by rw [HSS.out]; exact HFIN.out.drew, (HTB.out.set_ (49 + f) (.int .i64 0)).drew, (HKB.out.far (p := ⟨g, 49 + f, none⟩) n1 _).drew⟩
    · have t2 : ((len : Int) == 0) = false := by simpa using h0
      go_wp2_with fail
      go_meet
      case rel =>
        have hs1 := HS1.out
        rw [HLEN.out, if_neg h0, if_neg h0] at hs1
        exact ⟨cs, tv, by rw [hs1]; exact H2.out, HT2.out, HK2.out⟩
  case rest =>
    obtain ⟨cs1, tv1, h3, ht3, hk3⟩ := hcut
    have hs1 := HS1.out
    have hL1 : s1.L = s.L := by rw [hs1]
    have hlst := h3.lst hf
    rw [hL1] at hlst
    have htot := HL.out.tot
    obtain ⟨htot0, htot1⟩ := htot
    have hadd := add_any base g (f * 2) 104 cs1 (V f) (s.L f) (Pl.tot (s.L f)) ⟨⟨xa, xl, f, xb, xm⟩, xn⟩ wc hlst (by have := ht3.chg.size; omega) HL.out.n htot0 (by omega) hx0 (by simp only []; omega)
    unfold hdV at hadd
    dsimp only at hadd
    obtain ⟨t0, t1', t2, t3, t4, t5, s0, s1', s2, s3, s4, s5⟩ := blk6 hk3
    have H3 := Lib.hid h3; have HT3 := Lib.hid ht3; have HK3 := Lib.hid hk3; have HADD := Lib.hid hadd; have HS2 := Lib.hid hs1; have HL1 := Lib.hid hL1
    clear h3 ht3 hk3 hadd hlst hs1 hL1 HS1
    go_upto_region 8 with (go_at_call 43; (with_reducible refine HADD.out.mono ?_); rintro e w5 ⟨rfl, v5, h5⟩; have H5 := Lib.hid h5; clear h5)
    have hrw3 : ¬ RF V tv1 w.heap.size := by
      rintro (e | e)
      · exact H3.out.tn.blk_ne HK3.out (by decide) e
      · exact HRW.out (.inr e)
    obtain ⟨cs6, h6, ht6⟩ := H3.out.of_lst hf H5.out (Pl.tot_snoc (s.L f) ⟨⟨xa, xl, f, xb, xm⟩, xn⟩).symm
    have hk6 := HK3.out.chg ht6.chg (by rintro (e | e); exact n1 e; exact hrw3 e)
    have ht6' := HT3.out.trans ht6
    have y67 := h6.cell h6.by_
    have x67 := h6.blk.frozen 67
    have e67 : IntKind.i64.wrap (b + xl) = b + xl := IntWalk.i64_in _ (by omega)
    have h7 := (h6.setB (b + xl)).drew
    have hk7 := (hk6.far (p := ⟨g, 67, none⟩) n1 (.int .i64 (b + xl))).drew
    have ht7 := (ht6'.set_ 67 (.int .i64 (b + xl))).drew
    have hgl5 := h6.blk.lt
    obtain ⟨q0, q1, q2, q3, q4, q5, r0, r1, r2, r3, r4, r5⟩ := blk6 hk6
    have H7 := Lib.hid h7; have HK7 := Lib.hid hk7; have HT7 := Lib.hid ht7
    clear h6 ht6 hk6 ht6' h7 hk7 ht7 t0 t1' t2 t3 t4 t5 s0 s1' s2 s3 s4 s5 H5 HADD HT3 HK3 H3 hrw3
    go_still_tail 10, (by kernel_rfl)
    change wpList _ _ _ _ _ w5.drew
    go_upto_region 9 with fail
    clear y67 x67 e67 q0 q1 q2 q3 q4 q5 r0 r1 r2 r3 r4 r5
    generalize (w5.setCell ⟨g, 67, none⟩ (.int .i64 (b + xl))).drew = w7 at *
    have y68 := H7.out.cell H7.out.mn
    have x68 := H7.out.blk.frozen 68
    have e68 : IntKind.i64.wrap (m + 1) = m + 1 := IntWalk.i64_in _ (by omega)
    have h8 := H7.out.setM (m + 1)
    have ht8 := HT7.out.set_ 68 (.int .i64 (m + 1))
    have H8 := Lib.hid h8; have HT8 := Lib.hid ht8
    clear h8 ht8
    go_wp2_with fail
    go_ret
    refine ⟨none, 0, b + xl, m + 1, (cs6.setIfInBounds 67 (.int .i64 (b + xl))).setIfInBounds 68 (.int .i64 (m + 1)), Pl.updf V f v5, tv1, ?_⟩
    rw [HPUT.out]
    refine ⟨rfl, Reads.none_, fun ad e => (by cases e), ?_, HT8.out, .inr ⟨rfl, rfl, rfl⟩⟩
    have h9 := H8.out
    rw [HS2.out] at h9
    exact h9

theorem rndPut_any (base g : Nat) (cs : Array Value) (V : Nat → Value) (tv : Value) (Q : Nat → Int) (room : Int) (s : Pl.RS) (b m now : Int) (x : Hd) (w : World) (h : Rds w base g cs V tv Q room s b m) {f : Nat} (hf : f < 16) (hxf : x.it.flow = f) (hx : 0 ≤ x.it.len ∧ x.it.len ≤ 10000)
    (hbase : base ≤ w.heap.size) (hl : HdsOk (s.L f)) (hT : s.T.length ≤ 1000) (hb : 0 ≤ b ∧ b ≤ 100000000) (hm : 0 ≤ m ∧ m ≤ 100000000) :
    Calls Try.prog 30 #[.pointer (some ⟨g, 0, none⟩), .int .i64 now, hdV x] w (RndPutOut w base g V tv Q room s b m x) := by
  by_cases hfull : room ≤ ((s.L f).length : Int)
  · exact rndPut_full base g cs V tv Q room s b m now x w h hf hxf hfull
  · exact rndPut_add base g cs V tv Q room s b m now x w h hf hxf hx hbase hl hT hb hm hfull
end Go.Proofs.Ythhgbpbaihgogaa
