/-
  Texts of this claim, one behind the other: RndTake, RndNew, RndImp, Hsh.
-/
import Derived.Test.YtgdijbaodfghjaaGreatDoorZ24
import Derived.Deep.LoopGhost
import Derived.Test.YtgdijbaodfghjaaGreatDoorZ14
/-
  Flows that take turns, in memory: Take.
-/
namespace Go.Proofs.YtgdijbaodfghjaaGreatDoor
open Go.RowKit Bkt
set_option linter.unusedVariables false

theorem updf_self {α : Type} (V : Nat → α) (f : Nat) : Pl.updf V f (V f) = V := by
  funext i
  by_cases e : i = f
  · subst e; exact Pl.updf_same V i _
  · exact Pl.updf_ne V _ e
theorem updf_updf {α : Type} (V : Nat → α) (f : Nat) (u v : α) : Pl.updf (Pl.updf V f u) f v = Pl.updf V f v := by
  funext i
  by_cases e : i = f
  · subst e; rw [Pl.updf_same, Pl.updf_same]
  · rw [Pl.updf_ne _ _ e, Pl.updf_ne _ _ e, Pl.updf_ne _ _ e]
def RndTakeOut (w : World) (base g : Nat) (V : Nat → Value) (tv : Value) (Q : Nat → Int) (room : Int) (R : Option Hd × Pl.RS) (b m : Int) (e : Ending) (w' : World) : Prop :=
  ∃ (h : Hd) (b' m' : Int) (cs' : Array Value) (V' : Nat → Value) (tv' : Value),
    e = .returned (.tuple #[hdV h, .slice none 0 0, .bool R.1.isSome]) ∧ (∀ x, R.1 = some x → h = x ∧ b' = b - x.it.len ∧ m' = m - 1) ∧ (R.1 = none → b' = b ∧ m' = m) ∧
    Rds w' base g cs' V' tv' Q room R.2 b' m' ∧ RTrn w w' g V tv V' tv'
structure TkRel (w wr : World) (base g : Nat) (V : Nat → Value) (tv : Value) (Q : Nat → Int) (room : Int) (L : Nat → List Hd) (R : Option Hd × Pl.RS) (b m : Int) (tl gk : Nat) (s' : Pl.RS) (cs' : Array Value) (tv' : Value) : Prop where
  d : Rds wr base g cs' V tv' Q room s' b m
  t : RTrn w wr g V tv V tv'
  ri : Pl.RI s'
  ms : Pl.measR s' ≤ gk
  eq : Pl.takeR Q (Pl.measR s' + 1) s' = R
  L : s'.L = L
  k : Blk wr w.heap.size 78 #[.int .i64 0, .int .i64 0, .int .i64 0, .int .i64 0, .int .i64 0, .int .i64 0]
  tl : s'.T.length = tl
theorem takeR_none {Q : Nat → Int} {s : Pl.RS} {n : Nat} (h : s.T = []) : Pl.takeR Q (n + 1) s = (none, s) := by rw [Pl.takeR, h]
theorem takeR_turn {Q : Nat → Int} {s : Pl.RS} {n f : Nat} {T : List Nat} {x : Hd} {r : List Hd} (h : s.T = f :: T) (hL : s.L f = x :: r) (hc : Pl.credR Q s f < x.it.len) : Pl.takeR Q (n + 1) s = Pl.takeR Q n ⟨s.L, Pl.updf s.C f (Pl.credR Q s f), T ++ [f], false⟩ := by
  rw [Pl.takeR, h]
  dsimp only
  rw [hL]
  dsimp only
  rw [if_pos hc]
theorem takeR_out {Q : Nat → Int} {s : Pl.RS} {n f : Nat} {T : List Nat} {x : Hd} {r : List Hd} (h : s.T = f :: T) (hL : s.L f = x :: r) (hc : ¬ Pl.credR Q s f < x.it.len) :
    Pl.takeR Q (n + 1) s = (some x, ⟨Pl.updf s.L f r, Pl.updf s.C f (Pl.credR Q s f - x.it.len), if r.length = 0 then T else f :: T, if r.length = 0 then false else true⟩) := by
  rw [Pl.takeR, h]
  dsimp only
  rw [hL]
  dsimp only
  rw [if_neg hc]

theorem turn_tail {w : World} {base gt ot c f TN : Nat} {T' : List Nat} (h : OwnW w base 3 1 (.slice (some ⟨gt, ot, none⟩) (TN + 1) c) (TN + 1) ((tnL (f :: T')).flatMap IntR.cells)) (hn : TN ≤ 1000) :
    ∃ A' : Addr, A'.block = gt ∧ OwnW w base 3 1 (.slice (some A') TN (c - 1)) TN ((tnL T').flatMap IntR.cells) ∧
      ∀ w, (Instr.sliceAt 26 (.slice (some ⟨gt, ot, none⟩) (TN + 1) c) (some (.int .i64 1)) none none).run Tryz.prog w = .ok (.slice (some A') TN (c - 1)) w := by
  obtain ⟨hc1, g', o', e, ht1, ht2⟩ := h.tail (by omega)
  injection e with e; injection e with e1 e2
  subst e1 e2
  have ed : ((tnL (f :: T')).flatMap IntR.cells).drop 1 = (tnL T').flatMap IntR.cells := rfl
  rw [ed, Nat.add_sub_cancel] at ht1 ht2
  obtain ⟨i0, hi, hz0, hz1, hz2⟩ := info_parts Tryz.intInfo
  have hsl := run_tail1 (P := Tryz.prog) (s := 1) Tryz.underlying26 hi hz1 ⟨gt, ot, none⟩ TN c (by unfold maxLen; omega)
  refine ⟨if c = 1 then ⟨gt, ot, none⟩ else (⟨gt, ot, none⟩ : Addr).add 1, ?_, ?_, hsl⟩
  · split
    · rfl
    · rfl
  · split
    · rename_i e; exact ht1 e
    · exact ht2

set_option maxHeartbeats 8000000 in
set_option maxRecDepth 100000 in
theorem rndTake_any (base g : Nat) (cs : Array Value) (V : Nat → Value) (tv : Value) (Q : Nat → Int) (room : Int) (s : Pl.RS) (b m now : Int) (w : World) (h : Rds w base g cs V tv Q room s b m) (hi : Pl.RI s) (hQ : Pl.QOk Q)
    (hbase : base ≤ w.heap.size) (hl : ∀ f, f < 16 → HdsOk (s.L f)) (hT : s.T.length ≤ 1000) (hb : 0 ≤ b ∧ b ≤ 100000000) (hm : 0 ≤ m ∧ m ≤ 100000000) :
    Calls Tryz.prog 146 #[.pointer (some ⟨g, 0, none⟩), .int .i64 now] w (RndTakeOut w base g V tv Q room (Pl.takeR Q (Pl.measR s + 1) s) b m) := by
  have hgl := h.blk.lt
  have hrlt := h.rlt
  have hb0 : Below w.heap.size w (w.alloc (.cells #[.int .i64 0, .int .i64 0, .int .i64 0, .int .i64 0, .int .i64 0, .int .i64 0] 78)) := (Below.refl _ _).alloc (Nat.le_refl _) _
  obtain ⟨R, hR⟩ : ∃ R, R = Pl.takeR Q (Pl.measR s + 1) s := ⟨_, rfl⟩
  have hrel : TkRel w (w.alloc (.cells #[.int .i64 0, .int .i64 0, .int .i64 0, .int .i64 0, .int .i64 0, .int .i64 0] 78)) base g V tv Q room s.L R b m s.T.length (Pl.measR s) s cs tv :=
    ⟨h.below hb0, (RTrn.refl w g V tv).below hb0, hi, Nat.le_refl _, hR.symm, rfl, Blk.new _ _ _, rfl⟩
  rw [← hR]
  have HREL := Lib.hid hrel; have HRLT := Lib.hid hrlt; have HL := Lib.hid hl; have HQ := Lib.hid hQ
  obtain ⟨hb1, hb2⟩ := hb; obtain ⟨hm1, hm2⟩ := hm
  clear hrel hrlt hl hQ h hi hR hb0
  generalize Pl.measR s = N0 at *
  generalize s.T.length = TL at *
  generalize s.L = L at *
  have n1 : w.heap.size ≠ g := by omega
  have n2 : g ≠ w.heap.size := by omega
  go_enter Tryz.func146, Tryz.ntmps146
  go_wp2_with fail
  go_loopg [] N0 (fun gk wr => ∃ (s' : Pl.RS) (cs' : Array Value) (tv' : Value), TkRel w wr base g V tv Q room L R b m TL gk s' cs' tv')
  case atStart => exact ⟨_, _, _, HREL.out⟩
  case round =>
    clear HREL
    obtain ⟨s', cs', tv', hrel⟩ := hrel
    have HREL := Lib.hid hrel
    have y65 := hrel.d.cell hrel.d.t
    have hgr := hrel.d.blk.lt
    have hszr := hrel.t.chg.size
    obtain ⟨At, ct, hvt, _, _, hrt⟩ := hrel.d.tn.reads
    rw [hvt] at y65
    cases hTT : s'.T with
    | nil =>
      rw [hTT] at y65
      simp only [List.length_nil] at y65
      have hk := hrel.k
      obtain ⟨t0, t1, t2, t3, t4, t5, s0, s1, s2, s3, s4, s5⟩ := blk6 hk
      have hkf := blk_six hk (.int .i64 0) (.int .i64 0) (.int .i64 0) (.int .i64 0) (.int .i64 0) (.int .i64 0)
      have HKF := Lib.hid hkf
      have HTT := Lib.hid hTT
      clear hrel hvt hrt hk hkf hTT
      go_wp2_with fail
      have r0 := HKF.out.cell 0; have r1 := HKF.out.cell 1; have r2 := HKF.out.cell 2; have r3 := HKF.out.cell 3; have r4 := HKF.out.cell 4; have r5 := HKF.out.cell 5
      simp at r0 r1 r2 r3 r4 r5
      have hrw : ¬ RF V tv' w.heap.size := fun e => by
        rcases HREL.out.t.at_ _ e with e2 | e2
        · have := (HRLT.out _ e2).2; omega
        · rcases e with e | e
          · exact HREL.out.d.tn.blk_ne HREL.out.k (by decide) e
          · have := HRLT.out _ (.inr e); omega
      have hset := fun (W : World) (c : Nat) (u : Value) (hd : Rds W base g cs' V tv' Q room s' b m) => hd.setNew (p := ⟨w.heap.size, c, none⟩) n1 hrw u
      have hst := fun (W : World) (c : Nat) (u : Value) (ht : RTrn w W g V tv V tv') => ht.setNew (p := ⟨w.heap.size, c, none⟩) (Nat.le_refl _) u
      have heq := HREL.out.eq
      rw [takeR_none HTT.out] at heq
      refine bodyPost_ret (v := .tuple #[hdV Hd.zero, .slice none 0 0, .bool false]) (by simp [results, Tryz.results146, go_sem, hdV, Hd.zero, It.zero, r0, r1, r2, r3, r4, r5]) rfl ⟨Hd.zero, b, m, cs', V, tv', ?_⟩
      rw [← heq]
      exact ⟨rfl, fun x e => (by cases e), fun _ => ⟨rfl, rfl⟩, hset _ 5 _ (hset _ 4 _ (hset _ 3 _ (hset _ 2 _ (hset _ 1 _ (hset _ 0 _ HREL.out.d))))), hst _ 5 _ (hst _ 4 _ (hst _ 3 _ (hst _ 2 _ (hst _ 1 _ (hst _ 0 _ HREL.out.t)))))⟩
    | cons f T' =>
      have hri := hrel.ri
      have hf := (hri.ne f (by rw [hTT]; simp)).1
      have hLne := (hri.ne f (by rw [hTT]; simp)).2
      obtain ⟨x, r, hLf⟩ : ∃ x r, s'.L f = x :: r := by
        cases hq : s'.L f with
        | nil => exact absurd hq hLne
        | cons x r => exact ⟨x, r, rfl⟩
      rw [hTT] at y65
      simp only [List.length_cons] at y65
      have htl := hrel.tl
      rw [hTT, List.length_cons] at htl
      obtain ⟨TN, hTN⟩ : ∃ n, T'.length = n := ⟨_, rfl⟩
      rw [hTN] at htl y65
      subst htl
      have HTN := Lib.hid hTN
      clear hTN
      have hcr := Pl.credR_bd HQ.out hri hTT
      obtain ⟨hcr0, hcr1⟩ := hcr
      have hxb := hri.b f hf x (by rw [hLf]; simp)
      obtain ⟨hx0, hx1, hx2⟩ := hxb
      -- the first turn
      obtain ⟨gt, ot, hAt, hgt, hct⟩ : ∃ gt ot, At = some ⟨gt, ot, none⟩ ∧ gt < wr.heap.size ∧ wr.cell? ⟨gt, ot, none⟩ = some (.int .i64 f) := by
        have hrt2 : RdR IntR wr wr.heap.size At s'.T.length (tnL s'.T) := hrt
        obtain ⟨gt, ot, e, hlt⟩ := hrt2.addr (show 0 < s'.T.length by rw [hTT]; simp)
        subst e
        have ha := hrt2.all (show 0 < s'.T.length by rw [hTT]; simp) 0 (.int .i64 f) (by rw [hTT]; rfl)
        exact ⟨gt, ot, rfl, hlt, ha⟩
      subst hAt
      have y66 := hrel.d.cell hrel.d.bg
      have x66 := hrel.d.blk.frozen 66
      have HVT := Lib.hid hvt; have HTT := Lib.hid hTT; have HLF := Lib.hid hLf
      have i0 : (0 : Int) ≤ (f : Int) := by omega
      have i1 : (f : Int) < 16 := by omega
      obtain ⟨cr, hcr⟩ : ∃ cr, cr = Pl.credR Q s' f := ⟨_, rfl⟩
      rw [← hcr] at hcr0 hcr1
      have HCR := Lib.hid hcr
      have y49 := hrel.d.cell (hrel.d.c f hf); have y32 := hrel.d.cell (hrel.d.q f hf); have x49 := hrel.d.blk.frozen (49 + f)
      have hcrf : s'.beg = false → IntKind.i64.wrap (s'.C f + Q f) = cr := fun hb => by
        have e : cr = s'.C f + Q f := by rw [hcr]; unfold Pl.credR; rw [hb]; rfl
        rw [← e]; exact IntWalk.i64_in _ (by omega)
      have hcrt : s'.beg = true → s'.C f = cr := fun hb => by rw [hcr]; unfold Pl.credR; rw [if_pos hb]
      have HCF := Lib.hid hcrf; have HCT := Lib.hid hcrt
      clear hrel hvt hrt hri hLne hTT hLf hcr hcrf hcrt
      obtain ⟨sa, hsa⟩ : ∃ sa : Pl.RS, sa = ⟨s'.L, Pl.updf s'.C f cr, s'.T, true⟩ := ⟨_, rfl⟩
      have HSA := Lib.hid hsa
      clear hsa
      go_upto_region 3 with fail
      go_upto_if 26 with fail
      go_cut [] from 10 to 45 (fun wx => ∃ cs1, Rds wx base g cs1 V tv' Q room sa b m ∧ RTrn w wx g V tv V tv' ∧ Blk wx w.heap.size 78 #[.int .i64 0, .int .i64 0, .int .i64 0, .int .i64 0, .int .i64 0, .int .i64 0] ∧ gt < wx.heap.size)
      case first =>
        cases hbg : s'.beg with
        | true =>
          rw [hbg] at y66
          have hc := HCT.out hbg
          go_wp2_with fail
          go_meet
          case rel =>
            refine ⟨cs', ?_, HREL.out.t, HREL.out.k, hgt⟩
            have hd := HREL.out.d
            rw [HSA.out, ← hc, updf_self]
            rw [show (⟨s'.L, s'.C, s'.T, true⟩ : Pl.RS) = s' from by rw [← hbg]]
            exact hd
        | false =>
          rw [hbg] at y66
          have hc := HCF.out hbg
          go_upto_region 4 with fail
          have h4 := (HREL.out.d.setC hf cr).drew
          have ht4 := (HREL.out.t.set_ (49 + f) (.int .i64 cr)).drew
          have hk4 := (HREL.out.k.far (p := ⟨g, 49 + f, none⟩) n1 (.int .i64 cr)).drew
          have H4 := Lib.hid h4; have HT4 := Lib.hid ht4; have HK4 := Lib.hid hk4
          clear h4 ht4 hk4
          go_still_tail 16, (by kernel_rfl)
          change wpList _ _ _ _ _ wr.drew
          go_upto_region 5 with fail
          have hgt4 := Nat.lt_of_lt_of_le hgt (show wr.heap.size ≤ (wr.setCell ⟨g, 49 + f, none⟩ (.int .i64 cr)).drew.heap.size by simp [World.setCell, World.drew])
          generalize (wr.setCell ⟨g, 49 + f, none⟩ (.int .i64 cr)).drew = w4 at *
          have x66' := H4.out.blk.frozen 66
          have y66' := H4.out.cell H4.out.bg
          go_wp2_with fail
          go_meet
          case rel =>
            refine ⟨(cs'.setIfInBounds (49 + f) (.int .i64 cr)).setIfInBounds 66 (.bool true), ?_, HT4.out.set_ 66 (.bool true), HK4.out.far (p := ⟨g, 66, none⟩) n1 (.bool true), ?_⟩
            · rw [HSA.out]; exact H4.out.setBeg true
            · simpa [World.setCell] using hgt4
      case rest =>
        obtain ⟨cs1, h1, ht1, hk1, hgt1⟩ := hcut
        have hsaL : sa.L = s'.L := by rw [HSA.out]
        have hsaC : sa.C f = cr := by rw [HSA.out]; exact Pl.updf_same _ _ _
        have hlst := h1.lst hf
        rw [hsaL, HLF.out] at hlst
        have hlf := HL.out f hf
        rw [← HREL.out.L, HLF.out] at hlf
        have hlfn := hlf.n
        have hfst := first_some base g (f * 2) 148 cs1 (V f) x r _ wc hlst (by simp at hlfn; omega)
        have c49 := h1.cell (h1.c f hf)
        rw [hsaC] at c49
        have HFST := Lib.hid hfst; have H1 := Lib.hid h1; have HT1 := Lib.hid ht1; have HK1 := Lib.hid hk1; have HLH := Lib.hid hlf
        obtain ⟨⟨xa, xl, xf, xb, xm⟩, xn⟩ := x
        unfold PairOut hdV at HFST
        dsimp only at HFST hx0 hx1 hx2
        subst hx2
        clear hfst hlst h1 ht1 hk1 hlf hsaL hsaC y65 y66 x66 y49 y32 x49
        go_upto_region 7 with (go_at_call 114; (with_reducible refine HFST.out.mono ?_); rintro e w6 ⟨rfl, hb6⟩; have HB6 := Lib.hid hb6; clear hb6)
        have hvlt : ∀ i, RF V tv' i → i < wc.heap.size := fun i hi => (H1.out.rlt i hi).2
        have hk6 := HB6.out.size
        have hb7 : Below wc.heap.size wc (w6.alloc (.cells #[.int .i64 xa, .int .i64 xl, .int .i64 f, .int .i64 xb, .int .i64 xm, .int .i64 xn] 78)) := HB6.out.alloc hk6 _
        have hx7 := Blk.new w6 78 #[.int .i64 xa, .int .i64 xl, .int .i64 f, .int .i64 xb, .int .i64 xm, .int .i64 xn]
        have h7 := H1.out.below hb7
        have ht7 := HT1.out.below hb7
        have hk7 := HK1.out.below hb7 HK1.out.lt
        have hgt7 := Nat.lt_of_lt_of_le hgt1 hb7.size
        have hbs7 := Nat.le_trans HT1.out.chg.size hb7.size
        have c49' := (hb7.cell (p := ⟨g, 49 + f, none⟩) H1.out.blk.lt).trans c49
        have hkg : w6.heap.size ≠ g := by have := H1.out.blk.lt; omega
        have hkr : ¬ RF V tv' w6.heap.size := fun e => by have := hvlt _ e; omega
        have hkw : w6.heap.size ≠ w.heap.size := by have := HK1.out.lt; omega
        have H7 := Lib.hid h7; have HT7 := Lib.hid ht7; have HK7 := Lib.hid hk7; have HX7 := Lib.hid hx7; have HKR := Lib.hid hkr
        obtain ⟨q0, q1, q2, q3, q4, q5, _, _, _, _, _, _⟩ := blk6 hx7
        clear hvlt hb7 hx7 h7 ht7 hk7 hkr HFST H1 HT1 HK1 HB6 c49 hgt1
        generalize w6.heap.size = kx at *
        generalize w6.alloc (.cells #[.int .i64 xa, .int .i64 xl, .int .i64 f, .int .i64 xb, .int .i64 xm, .int .i64 xn] 78) = w7 at *
        go_quiet (fail)
        have HA := Lib.hid (H7.out.drewN nq); have HTA := Lib.hid (HT7.out.drewN nq); have HKA := Lib.hid (HK7.out.drewN nq); have HXA := Lib.hid (HX7.out.drewN nq)
        have hgtA : gt < (w7.drewN nq).heap.size := hgt7
        have hbsA : w.heap.size ≤ (w7.drewN nq).heap.size := hbs7
        clear H7 HT7 HK7 HX7 q0 q1 q2 q3 q4 q5 c49' hgt7 hbs7
        generalize w7.drewN nq = wA at *
        by_cases hc : cr < xl
        · have tc : decide (cr < xl) = true := by simpa using hc
          have hown := HA.out.tn
          have hsT : sa.T = f :: T' := by rw [HSA.out]; exact HTT.out
          rw [hsT, HVT.out, HREL.out.tl, List.length_cons, HTN.out] at hown
          obtain ⟨A', hA', hown', hsl⟩ := turn_tail hown (by omega)
          have hob : Value.ownBlock (.slice (some A') TN (ct - 1)) = tv'.ownBlock := by rw [HVT.out]; simp [Value.ownBlock, hA']
          have y65 := HA.out.cell HA.out.t
          rw [HVT.out, HREL.out.tl] at y65
          have hgA := HA.out.blk.lt
          have hkwA := HKA.out.lt
          have hgN : g ≠ wA.heap.size := by omega
          have hown2 : OwnW wA base 3 IntR.sz (.slice (some A') TN (ct - 1)) TN ((tnL T').flatMap IntR.cells) := hown'
          have HOWN := Lib.hid hown2; have HOB := Lib.hid hob
          clear hown hsT hown' hown2 hob
          go_upto_region 8 with fail
          go_upto_region 9 with (at_builtin; go_must (refine wpList_addW IntR rfl (.tmp 70) (.tmp 72) _ base 3 _ 8 Tryz.underlying26 Tryz.intRInfo rfl rfl _ TN (tnL T') (f : Int) _ HOWN.out rfl rfl (by show Value.slice (some ⟨wA.heap.size, 0, none⟩) 1 1 = _; simp) (int_one _) (by omega) (by omega) (by omega) ?_); intro v8 w8 h1 h2 h3; rw [HOB.out] at h2 h3; have hc8 : Chg wA w8 (fun i => tv'.ownBlock = some i) := Chg.of_grown h2 (fun i e => e.symm); have hb8 := HA.out.blk.chg hc8 (fun e => HA.out.rne g (.inl e) rfl); have z65 := (hb8.cell 65).trans HA.out.t; have x65 := hb8.frozen 65; obtain ⟨A8, c8, hv8, _, _, _⟩ := h1.reads; subst hv8; have H81 := Lib.hid h1; have H82 := Lib.hid h2; have H83 := Lib.hid h3; clear h1 h2 h3 hb8)
          have hset := HA.out.setT (T' := T' ++ [f]) H82.out (by rw [tnL_app, List.length_append, HTN.out]; exact H81.out) (H83.out.imp id fun h k hk => Nat.le_of_lt (h k hk))
          have hk8 := (HKA.out.chg hc8 (fun e => HA.out.rne _ (.inl e) (by
            exfalso
            exact HA.out.tn.blk_ne HKA.out (by decide) e))).far (p := ⟨g, 65, none⟩) n1 (.slice A8 (TN + 1) c8)
          have ht8 := HTA.out.trans hset.2
          have h8 := hset.1
          have H8 := Lib.hid h8; have HT8 := Lib.hid ht8; have HK8 := Lib.hid hk8
          clear hset hk8 ht8 h8 H81 H82 H83 hc8 z65 x65 y65
          generalize w8.setCell ⟨g, 65, none⟩ (.slice A8 (TN + 1) c8) = w9 at *
          have y66 := H8.out.cell H8.out.bg
          have x66 := H8.out.blk.frozen 66
          have hfin := H8.out.setBeg false
          have hkf := HK8.out.far (p := ⟨g, 66, none⟩) n1 (.bool false)
          have htf := HT8.out.set_ 66 (.bool false)
          have hss : (⟨sa.L, sa.C, T' ++ [f], false⟩ : Pl.RS) = ⟨s'.L, Pl.updf s'.C f (Pl.credR Q s' f), T' ++ [f], false⟩ := by rw [HSA.out, ← HCR.out]
          rw [hss] at hfin
          rw [HCR.out] at hc
          have htu := HREL.out.ri.turn HQ.out HTT.out HLF.out hc
          have hre : TkRel w (w9.setCell ⟨g, 66, none⟩ (.bool false)) base g V tv Q room L R b m (TN + 1) (Pl.measR ⟨s'.L, Pl.updf s'.C f (Pl.credR Q s' f), T' ++ [f], false⟩) ⟨s'.L, Pl.updf s'.C f (Pl.credR Q s' f), T' ++ [f], false⟩ _ _ :=
            ⟨hfin, htf, htu.1, Nat.le_refl _, by
              have he := HREL.out.eq
              rw [takeR_turn HTT.out HLF.out hc] at he
              rw [← he]
              exact Pl.takeR_fuel HQ.out _ _ _ htu.1 (by omega) htu.2, HREL.out.L, hkf, by simp [HTN.out]⟩
          have hms := Nat.lt_of_lt_of_le htu.2 HREL.out.ms
          have HRE := Lib.hid hre; have HMS := Lib.hid hms
          clear hfin hkf htf hss htu hre hms
          go_wp2_with fail
          go_roundg (Pl.measR ⟨s'.L, Pl.updf s'.C f (Pl.credR Q s' f), T' ++ [f], false⟩)
          case rel => exact ⟨_, _, _, HRE.out⟩
          case measure => exact HMS.out
        · have tc : decide (cr < xl) = false := by simpa using hc
          have hlst := HA.out.lst hf
          rw [show sa.L = s'.L by rw [HSA.out], HLF.out] at hlst
          have htot := HLH.out.tot
          obtain ⟨htot0, htot1⟩ := htot
          have hrn : r.length ≤ 1000 := by have := HLH.out.n; simp at this; omega
          have hnx := next_some base g (f * 2) 148 cs1 (V f) ⟨⟨xa, xl, f, xb, xm⟩, xn⟩ r _ wA hlst hrn htot0 (by omega) hx0 (by simp only []; omega)
          unfold hdV at hnx
          dsimp only at hnx
          have HNX := Lib.hid hnx
          clear hlst hnx
          go_upto_region 11 with (go_at_call 113; (with_reducible refine HNX.out.mono ?_); rintro e w10 ⟨rfl, v10, h10⟩; have H10 := Lib.hid h10; clear h10)
          have htc : Pl.tot (⟨⟨xa, xl, f, xb, xm⟩, xn⟩ :: r) - xl = Pl.tot r := by rw [Pl.tot_cons]; simp only []; omega
          obtain ⟨cs2, h2, ht2⟩ := HA.out.of_lst hf H10.out htc
          have hx2 := HXA.out.chg ht2.chg (by rintro (e | e); exact hkg e; exact HKR.out e)
          have hrwA : ¬ RF V tv' w.heap.size := by
            rintro (e | e)
            · exact HA.out.tn.blk_ne HKA.out (by decide) e
            · have := HRLT.out _ (.inr e); omega
          have hk2 := HKA.out.chg ht2.chg (by rintro (e | e); exact n1 e; exact hrwA e)
          have htt2 := HTA.out.trans ht2
          have hrw2 : ¬ RF (Pl.updf V f v10) tv' w.heap.size := fun e => by
            rcases ht2.at_ _ e with e2 | e2
            · exact hrwA e2
            · have := HKA.out.lt; omega
          have hkr2 : ¬ RF (Pl.updf V f v10) tv' kx := fun e => by
            rcases ht2.at_ _ e with e2 | e2
            · exact HKR.out e2
            · have := HXA.out.lt; omega
          have c49 := h2.cell (h2.c f hf)
          rw [show (⟨Pl.updf sa.L f r, sa.C, sa.T, sa.beg⟩ : Pl.RS).C f = cr by show sa.C f = cr; rw [HSA.out]; exact Pl.updf_same _ _ _] at c49
          have x49 := h2.blk.frozen (49 + f)
          obtain ⟨q0, q1, q2, q3, q4, q5, _, _, _, _, _, _⟩ := blk6 hx2
          have e49 : IntKind.i64.wrap (cr - xl) = cr - xl := IntWalk.i64_in _ (by omega)
          have h3 := (h2.setC hf (cr - xl)).drew
          have hx3 := (hx2.far (p := ⟨g, 49 + f, none⟩) hkg (.int .i64 (cr - xl))).drew
          have hk3 := (hk2.far (p := ⟨g, 49 + f, none⟩) n1 (.int .i64 (cr - xl))).drew
          have ht3 := (htt2.set_ (49 + f) (.int .i64 (cr - xl))).drew
          have H3 := Lib.hid h3; have HX3 := Lib.hid hx3; have HK3 := Lib.hid hk3; have HT3 := Lib.hid ht3; have HRW2 := Lib.hid hrw2; have HKR2 := Lib.hid hkr2
          clear h2 ht2 hx2 hk2 htt2 h3 hx3 hk3 ht3 hrw2 hkr2 hrwA htc H10 HNX HA HTA HKA HXA
          go_still_tail 13, (by kernel_rfl)
          change wpList _ _ _ _ _ w10.drew
          go_upto_region 12 with fail
          clear c49 x49 e49 q0 q1 q2 q3 q4 q5
          generalize (w10.setCell ⟨g, 49 + f, none⟩ (.int .i64 (cr - xl))).drew = w11 at *
          have y67 := H3.out.cell H3.out.by_
          have x67 := H3.out.blk.frozen 67
          have e67 : IntKind.i64.wrap (b - xl) = b - xl := IntWalk.i64_in _ (by omega)
          obtain ⟨q0, q1, q2, q3, q4, q5, _, _, _, _, _, _⟩ := blk6 HX3.out
          have h4 := (H3.out.setB (b - xl)).drew
          have hx4 := (HX3.out.far (p := ⟨g, 67, none⟩) hkg (.int .i64 (b - xl))).drew
          have hk4 := (HK3.out.far (p := ⟨g, 67, none⟩) n1 (.int .i64 (b - xl))).drew
          have ht4 := (HT3.out.set_ 67 (.int .i64 (b - xl))).drew
          have H4 := Lib.hid h4; have HX4 := Lib.hid hx4; have HK4 := Lib.hid hk4; have HT4 := Lib.hid ht4
          clear h4 hx4 hk4 ht4 H3 HX3 HK3 HT3
          go_still_tail 10, (by kernel_rfl)
          change wpList _ _ _ _ _ w11.drew
          go_upto_region 13 with fail
          clear y67 x67 e67 q0 q1 q2 q3 q4 q5
          generalize (w11.setCell ⟨g, 67, none⟩ (.int .i64 (b - xl))).drew = w12 at *
          have y68 := H4.out.cell H4.out.mn
          have x68 := H4.out.blk.frozen 68
          have e68 : IntKind.i64.wrap (m - 1) = m - 1 := IntWalk.i64_in _ (by omega)
          have h5 := H4.out.setM (m - 1)
          have hx5 := HX4.out.far (p := ⟨g, 68, none⟩) hkg (.int .i64 (m - 1))
          have hk5 := HK4.out.far (p := ⟨g, 68, none⟩) n1 (.int .i64 (m - 1))
          have ht5 := HT4.out.set_ 68 (.int .i64 (m - 1))
          have H5 := Lib.hid h5; have HX5 := Lib.hid hx5; have HK5 := Lib.hid hk5; have HT5 := Lib.hid ht5
          clear h5 hx5 hk5 ht5 H4 HX4 HK4 HT4
          go_upto_region 14 with fail
          clear y68 x68 e68
          generalize w12.setCell ⟨g, 68, none⟩ (.int .i64 (m - 1)) = w13 at *
          have hl5 := H5.out.l0 f hf
          have ho5 := H5.out.own f hf
          rw [Pl.updf_same] at hl5 ho5
          rw [show (⟨Pl.updf sa.L f r, Pl.updf sa.C f (cr - xl), sa.T, sa.beg⟩ : Pl.RS).L f = r from Pl.updf_same _ _ _] at ho5
          obtain ⟨A5, c5, hv5, _, _, _⟩ := ho5.reads
          rw [hv5] at hl5
          have hlq := len_q g (f * 2) r.length c5 A5 w13 (H5.out.cell hl5)
          have HLQ := Lib.hid hlq
          have he := HREL.out.eq
          rw [HCR.out] at hc
          rw [takeR_out HTT.out HLF.out (Int.not_lt.2 hc)] at he
          rw [← HCR.out] at hc he
          dsimp only at he
          have HE := Lib.hid he
          have y65 := H5.out.cell H5.out.t
          have x65 := H5.out.blk.frozen 65
          have hown := H5.out.tn
          have hsT : sa.T = f :: T' := by rw [HSA.out]; exact HTT.out
          have hown1 : OwnW w13 base 3 1 (.slice (some ⟨gt, ot, none⟩) (TN + 1) ct) (TN + 1) ((tnL (f :: T')).flatMap IntR.cells) := by
            have := hown
            rw [show (⟨Pl.updf sa.L f r, Pl.updf sa.C f (cr - xl), sa.T, sa.beg⟩ : Pl.RS).T = f :: T' from hsT, HVT.out, HREL.out.tl, List.length_cons, HTN.out] at this
            exact this
          rw [HVT.out, HREL.out.tl] at y65
          obtain ⟨A', hA', hown', hsl⟩ := turn_tail hown1 (by omega)
          have hob : Value.ownBlock (.slice (some A') TN (ct - 1)) = tv'.ownBlock := by rw [HVT.out]; simp [Value.ownBlock, hA']
          have hset := H5.out.setT (T' := T') (World.grownBy.refl w13 _) (by rw [HTN.out]; exact hown') (.inl hob)
          have hk6 := HK5.out.far (p := ⟨g, 65, none⟩) n1 (.slice (some A') TN (ct - 1))
          have hx6 := HX5.out.far (p := ⟨g, 65, none⟩) hkg (.slice (some A') TN (ct - 1))
          have hrw6 : ¬ RF (Pl.updf V f v10) (.slice (some A') TN (ct - 1)) w.heap.size := by
            rintro (e | e)
            · exact HRW2.out (.inl (hob ▸ e))
            · exact HRW2.out (.inr e)
          have hss : (⟨Pl.updf sa.L f r, Pl.updf sa.C f (cr - xl), T', false⟩ : Pl.RS) = ⟨Pl.updf s'.L f r, Pl.updf s'.C f (cr - xl), T', false⟩ := by rw [HSA.out, updf_updf]
          have hss2 : (⟨Pl.updf sa.L f r, Pl.updf sa.C f (cr - xl), sa.T, sa.beg⟩ : Pl.RS) = ⟨Pl.updf s'.L f r, Pl.updf s'.C f (cr - xl), f :: T', true⟩ := by rw [HSA.out, updf_updf, HTT.out]
          have HSET := Lib.hid hset; have HK6 := Lib.hid hk6; have HX6 := Lib.hid hx6; have HRW6 := Lib.hid hrw6; have HSS := Lib.hid hss; have HSS2 := Lib.hid hss2
          clear hl5 ho5 hv5 hlq he hown hsT hown1 hown' hob hset hk6 hx6 hrw6 hss hss2
          go_upto_if 121 with (go_at_call 108; (with_reducible refine HLQ.out.mono ?_); rintro e w14 ⟨rfl, rfl⟩)
          go_cut [] from 115 to 132 (fun wx => ∃ cs3 tv3, Rds wx base g cs3 (Pl.updf V f v10) tv3 Q room R.2 (b - xl) (m - 1) ∧ RTrn w wx g V tv (Pl.updf V f v10) tv3 ∧ Blk wx kx 78 #[.int .i64 xa, .int .i64 xl, .int .i64 f, .int .i64 xb, .int .i64 xm, .int .i64 xn] ∧ Blk wx w.heap.size 78 #[.int .i64 0, .int .i64 0, .int .i64 0, .int .i64 0, .int .i64 0, .int .i64 0] ∧ ¬ RF (Pl.updf V f v10) tv3 w.heap.size)
          case first =>
            by_cases h0 : r.length = 0
            · have t0 : ((r.length : Int) == 0) = true := by rw [h0]; rfl
              go_upto_region 16 with fail
              have h6 := HSET.out.1
              have ht6 := HT5.out.trans HSET.out.2
              have H6 := Lib.hid h6; have HT6 := Lib.hid ht6
              clear h6 ht6 y65 x65
              generalize w14.setCell ⟨g, 65, none⟩ (.slice (some A') TN (ct - 1)) = w15 at *
              have y66 := H6.out.cell H6.out.bg
              have x66 := H6.out.blk.frozen 66
              go_wp2_with fail
              go_meet
              case rel =>
                have hfin := H6.out.setBeg false
                have hR2 : R.2 = ⟨Pl.updf s'.L f r, Pl.updf s'.C f (cr - xl), T', false⟩ := by rw [← HE.out, if_pos h0, if_pos h0]
                rw [HSS.out, ← hR2] at hfin
                exact ⟨_, _, hfin, HT6.out.set_ 66 (.bool false), HX6.out.far (p := ⟨g, 66, none⟩) hkg (.bool false), HK6.out.far (p := ⟨g, 66, none⟩) n1 (.bool false), HRW6.out⟩
            · have t0 : ((r.length : Int) == 0) = false := by simp; intro e; rw [e] at h0; exact h0 rfl
              go_wp2_with fail
              go_meet
              case rel =>
                have hfin := H5.out
                have hR2 : R.2 = ⟨Pl.updf s'.L f r, Pl.updf s'.C f (cr - xl), f :: T', true⟩ := by rw [← HE.out, if_neg h0, if_neg h0]
                rw [HSS2.out, ← hR2] at hfin
                exact ⟨_, _, hfin, HT5.out, HX5.out, HK5.out, HRW2.out⟩
          case rest =>
            obtain ⟨cs3, tv3, h6, ht6, hx6, hk6, hrw6⟩ := hcut
            obtain ⟨q0, q1, q2, q3, q4, q5, _, _, _, _, _, _⟩ := blk6 hx6
            obtain ⟨p0, p1, p2, p3, p4, p5, s0, s1, s2, s3, s4, s5⟩ := blk6 hk6
            have hkf := blk_six hk6 (.int .i64 xa) (.int .i64 xl) (.int .i64 f) (.int .i64 xb) (.int .i64 xm) (.int .i64 xn)
            have HKF := Lib.hid hkf; have H6 := Lib.hid h6; have HT6 := Lib.hid ht6; have HRW7 := Lib.hid hrw6
            clear h6 ht6 hx6 hk6 hrw6 hkf y65 x65
            go_wp2_with fail
            have r0 := HKF.out.cell 0; have r1 := HKF.out.cell 1; have r2 := HKF.out.cell 2; have r3 := HKF.out.cell 3; have r4 := HKF.out.cell 4; have r5 := HKF.out.cell 5
            simp at r0 r1 r2 r3 r4 r5
            have hset := fun (W : World) (c : Nat) (u : Value) (hd : Rds W base g cs3 (Pl.updf V f v10) tv3 Q room R.2 (b - xl) (m - 1)) => hd.setNew (p := ⟨w.heap.size, c, none⟩) n1 HRW7.out u
            have hst := fun (W : World) (c : Nat) (u : Value) (ht : RTrn w W g V tv (Pl.updf V f v10) tv3) => ht.setNew (p := ⟨w.heap.size, c, none⟩) (Nat.le_refl _) u
            have hR1 : R.1 = some ⟨⟨xa, xl, f, xb, xm⟩, xn⟩ := by rw [← HE.out]
            refine bodyPost_ret (v := .tuple #[hdV ⟨⟨xa, xl, f, xb, xm⟩, xn⟩, .slice none 0 0, .bool true]) (by simp [results, Tryz.results146, go_sem, hdV, r0, r1, r2, r3, r4, r5]) rfl ⟨⟨⟨xa, xl, f, xb, xm⟩, xn⟩, b - xl, m - 1, cs3, Pl.updf V f v10, tv3, ?_⟩
            refine ⟨by rw [hR1]; rfl, fun x e => ?_, fun e => ?_, hset _ 5 _ (hset _ 4 _ (hset _ 3 _ (hset _ 2 _ (hset _ 1 _ (hset _ 0 _ H6.out))))), hst _ 5 _ (hst _ 4 _ (hst _ 3 _ (hst _ 2 _ (hst _ 1 _ (hst _ 0 _ HT6.out)))))⟩
            · rw [hR1] at e; injection e with e; subst e; exact ⟨rfl, rfl, rfl⟩
            · rw [hR1] at e; cases e
end Go.Proofs.YtgdijbaodfghjaaGreatDoor

/-
  Flows that take turns: their making.
-/
namespace Go.Proofs.YtgdijbaodfghjaaGreatDoor
open Go.RowKit Bkt
set_option linter.unusedVariables false

def qBad (x : Int) : Bool := decide (x < 1) || decide (1000000 < x)
theorem qbad_any (x : Int) (w : World) : Calls Tryz.prog 50 #[.int .i64 x] w fun e w' => e = .returned (.bool (qBad x)) ∧ w = w' := by
  unfold qBad
  by_cases h : x < 1
  · have h2 : decide (x < 1) = true := by simpa using h
    go_enter Tryz.func50, Tryz.ntmps50
    go_wp2_with fail
    go_ret
    exact ⟨by first | rfl | (rw [h2]; rfl), rfl⟩
  · have h2 : decide (x < 1) = false := by simpa using h
    go_enter Tryz.func50, Tryz.ntmps50
    go_wp2_with fail
    go_ret
    exact ⟨by first | rfl | (rw [h2]; rfl), rfl⟩
set_option maxHeartbeats 1000000 in
theorem qindex_any (A : Option Addr) (n c : Nat) (zs : List Int) (w : World) (hr : RdI w w.heap.size A n zs) (hn : n ≤ 2000) :
    Calls Tryz.prog 62 #[.slice A n c, .func (.func 50) #[] #[]] w fun e w' => (∃ k : Int, e = .returned (.int .i64 k) ∧ (0 ≤ k ↔ ∃ i, i < n ∧ qBad (zs.getD i 0) = true)) ∧ w = w' := by
  have HR := Lib.hid hr
  clear hr
  go_enter Tryz.func62, Tryz.ntmps62
  go_wp2_with fail
  go_loopw [8] (fun i wr => ∃ k : Nat, k ≤ n ∧ i = .int .i64 k ∧ wr = w ∧ Hid (∀ j, j < k → qBad (zs.getD j 0) = false)) (fun i _ => n - (intOf i).toNat)
  case atStart => exact ⟨0, Nat.zero_le _, rfl, rfl, Lib.hid fun j hj => absurd hj (by omega)⟩
  case round =>
    obtain ⟨k, hk, rfl, rfl, hj⟩ := hrel
    by_cases hlt : k < n
    · obtain ⟨b, off, rfl, hbl⟩ := HR.out.addr hlt
      have hc := HR.out.all rfl k hlt
      have hp := qbad_any (zs.getD k 0) wr
      have ik : (k : Int) < (n : Int) := by omega
      obtain ⟨y, hy⟩ : ∃ y, y = zs.getD k 0 := ⟨_, rfl⟩
      rw [← hy] at hc hp
      have HY := Lib.hid hy
      clear hy
      have HP := Lib.hid hp
      clear hp
      cases hq : qBad y with
      | true =>
        rw [hq] at HP
        go_wp2_with (go_at_call 50; (with_reducible refine HP.out.mono ?_); rintro e w' ⟨rfl, rfl⟩)
        go_ret
        exact ⟨⟨k, rfl, ⟨fun _ => ⟨k, hlt, by rw [← HY.out]; exact hq⟩, fun _ => by omega⟩⟩, rfl⟩
      | false =>
        rw [hq] at HP
        go_wp2_with (go_at_call 50; (with_reducible refine HP.out.mono ?_); rintro e w' ⟨rfl, rfl⟩)
        refine ⟨⟨k + 1, by omega, by go_num, by first | rfl | trivial, Lib.hid fun j hjk => by
          by_cases e : j = k
          · subst e; rw [← HY.out]; exact hq
          · exact hj.out j (by omega)⟩, by simp [intOf]; omega⟩
    · obtain rfl : k = n := by omega
      go_wp2_with fail
      go_ret
      exact ⟨⟨-1, rfl, ⟨fun h => absurd h (by omega), fun ⟨i, hi, hb⟩ => by rw [hj.out i hi] at hb; cases hb⟩⟩, rfl⟩
theorem qcontains_any (A : Option Addr) (n c : Nat) (zs : List Int) (w : World) (hr : RdI w w.heap.size A n zs) (hn : n ≤ 2000) :
    Calls Tryz.prog 49 #[.slice A n c, .func (.func 50) #[] #[]] w fun e w' => (∃ b : Bool, e = .returned (.bool b) ∧ (b = true ↔ ∃ i, i < n ∧ qBad (zs.getD i 0) = true)) ∧ w = w' := by
  have h := qindex_any A n c zs w hr hn
  have H := Lib.hid h
  clear h hr
  go_enter Tryz.func49, Tryz.ntmps49
  go_wp2_with fail
  (with_reducible refine H.out.mono ?_)
  rintro e w' ⟨⟨k, rfl, hk⟩, rfl⟩
  have HK := Lib.hid hk
  clear hk
  go_wp2_with fail
  go_ret
  exact ⟨⟨decide (0 ≤ k), rfl, by rw [← HK.out]; simp⟩, rfl⟩

def NewNo (w : World) (e : Ending) (w' : World) : Prop := (∃ ek : Int, e = .returned (.tuple #[.pointer none, .iface 69 (.int .i64 ek)])) ∧ Below w.heap.size w w'
structure QsOk (room : Int) (n : Nat) (zs : List Int) : Prop where
  nn : 1 ≤ n ∧ n ≤ 16
  rm : 0 ≤ room ∧ room ≤ 1000000
  q : ∀ i, i < n → 1 ≤ zs.getD i 0 ∧ zs.getD i 0 ≤ 1000000
theorem qBad_iff {x : Int} : qBad x = true ↔ ¬ (1 ≤ x ∧ x ≤ 1000000) := by
  unfold qBad
  rw [Bool.or_eq_true, decide_eq_true_eq, decide_eq_true_eq]
  omega
set_option maxHeartbeats 1000000 in
theorem newRounds_no (room : Int) (A : Option Addr) (n c : Nat) (zs : List Int) (w : World) (hr : RdI w w.heap.size A n zs) (hn : n ≤ 2000) (hq : ¬ QsOk room n zs) :
    Calls Tryz.prog 43 #[.int .i64 room, .slice A n c] w (NewNo w) := by
  have hcon := qcontains_any A n c zs w hr hn
  have HCON := Lib.hid hcon; have HR := Lib.hid hr
  clear hcon hr
  by_cases c1 : n < 1
  · have c1' : decide ((n : Int) < 1) = true := by simp; omega
    clear hq
    go_enter Tryz.func43, Tryz.ntmps43
    go_wp2_with fail
    go_ret2
    exact ⟨⟨_, rfl⟩, Below.refl _ _⟩
  · have c1' : decide ((n : Int) < 1) = false := by simp; omega
    by_cases c2 : 16 < n
    · have c2' : decide (16 < (n : Int)) = true := by simp; omega
      clear hq
      go_enter Tryz.func43, Tryz.ntmps43
      go_wp2_with fail
      go_ret2
      exact ⟨⟨_, rfl⟩, Below.refl _ _⟩
    · have c2' : decide (16 < (n : Int)) = false := by simp; omega
      by_cases c3 : room < 0
      · clear hq
        go_enter Tryz.func43, Tryz.ntmps43
        go_wp2_with fail
        go_ret2
        exact ⟨⟨_, rfl⟩, Below.refl _ _⟩
      · by_cases c4 : 1000000 < room
        · clear hq
          go_enter Tryz.func43, Tryz.ntmps43
          go_wp2_with fail
          go_ret2
          exact ⟨⟨_, rfl⟩, Below.refl _ _⟩
        · have hex : ∃ i, i < n ∧ qBad (zs.getD i 0) = true := by
            by_cases h : ∃ i, i < n ∧ qBad (zs.getD i 0) = true
            · exact h
            · exact absurd ⟨by omega, by omega, fun i hi => by
                by_cases h2 : 1 ≤ zs.getD i 0 ∧ zs.getD i 0 ≤ 1000000
                · exact h2
                · exact absurd ⟨i, hi, qBad_iff.2 h2⟩ h⟩ hq
          have HEX := Lib.hid hex
          clear hq hex
          go_enter Tryz.func43, Tryz.ntmps43
          go_wp2_with fail
          (with_reducible refine HCON.out.mono ?_)
          rintro e w' ⟨⟨bb, rfl, hbb⟩, rfl⟩
          have hb : bb = true := hbb.2 HEX.out
          subst hb
          clear hbb
          go_wp2_with fail
          go_ret2
          exact ⟨⟨_, rfl⟩, Below.refl _ _⟩

def qTo (zs : List Int) (n k : Nat) (f : Nat) : Int := if f < k then zs.getD (min f (n - 1)) 0 else 0
theorem qTo_next (zs : List Int) (n k : Nat) : qTo zs n (k + 1) = Pl.updf (qTo zs n k) k (zs.getD (min k (n - 1)) 0) := by
  funext f
  unfold qTo
  by_cases e : f = k
  · subst e; rw [Pl.updf_same, if_pos (by omega)]
  · rw [Pl.updf_ne _ _ e]
    by_cases h : f < k
    · rw [if_pos h, if_pos (by omega)]
    · rw [if_neg h, if_neg (by omega)]
def rs0 : Pl.RS := ⟨fun _ => [], fun _ => 0, [], false⟩
theorem Rds.setQ {w : World} {base g : Nat} {cs : Array Value} {V : Nat → Value} {tv : Value} {Q : Nat → Int} {room : Int} {s : Pl.RS} {b m : Int} (h : Rds w base g cs V tv Q room s b m) {f : Nat} (hf : f < 16) (x : Int) :
    Rds (w.setCell ⟨g, 32 + f, none⟩ (.int .i64 x)) base g (cs.setIfInBounds (32 + f) (.int .i64 x)) V tv (Pl.updf Q f x) room s b m :=
  ⟨h.blk.set_ _ _, by simp [h.sz], fun i hi => (set_at (by omega)).trans (h.l0 i hi), fun i hi => (set_at (by omega)).trans (h.l1 i hi), h.setO _ _, h.ne, fun i hi => by
    by_cases e : i = f
    · subst e; rw [Pl.updf_same]; exact set_is (by rw [h.sz]; omega)
    · rw [Pl.updf_ne _ _ e]; exact (set_at (by omega)).trans (h.q i hi), (set_at (by omega)).trans h.rm, fun i hi => (set_at (by omega)).trans (h.c i hi), (set_at (by omega)).trans h.t, (set_at (by omega)).trans h.bg, (set_at (by omega)).trans h.by_, (set_at (by omega)).trans h.mn, h.setN _ _⟩
theorem zero_l0 (f : Nat) (hf : f < 16) : Tryz.zeroCells148[f * 2]? = some (.slice none 0 0) :=
  match f, hf with
  | 0, _ => by kernel_rfl
  | 1, _ => by kernel_rfl
  | 2, _ => by kernel_rfl
  | 3, _ => by kernel_rfl
  | 4, _ => by kernel_rfl
  | 5, _ => by kernel_rfl
  | 6, _ => by kernel_rfl
  | 7, _ => by kernel_rfl
  | 8, _ => by kernel_rfl
  | 9, _ => by kernel_rfl
  | 10, _ => by kernel_rfl
  | 11, _ => by kernel_rfl
  | 12, _ => by kernel_rfl
  | 13, _ => by kernel_rfl
  | 14, _ => by kernel_rfl
  | 15, _ => by kernel_rfl
  | k + 16, h => absurd h (by omega)
theorem zero_l1 (f : Nat) (hf : f < 16) : Tryz.zeroCells148[f * 2 + 1]? = some (.int .i64 0) :=
  match f, hf with
  | 0, _ => by kernel_rfl
  | 1, _ => by kernel_rfl
  | 2, _ => by kernel_rfl
  | 3, _ => by kernel_rfl
  | 4, _ => by kernel_rfl
  | 5, _ => by kernel_rfl
  | 6, _ => by kernel_rfl
  | 7, _ => by kernel_rfl
  | 8, _ => by kernel_rfl
  | 9, _ => by kernel_rfl
  | 10, _ => by kernel_rfl
  | 11, _ => by kernel_rfl
  | 12, _ => by kernel_rfl
  | 13, _ => by kernel_rfl
  | 14, _ => by kernel_rfl
  | 15, _ => by kernel_rfl
  | k + 16, h => absurd h (by omega)
theorem zero_q (f : Nat) (hf : f < 16) : Tryz.zeroCells148[32 + f]? = some (.int .i64 0) :=
  match f, hf with
  | 0, _ => by kernel_rfl
  | 1, _ => by kernel_rfl
  | 2, _ => by kernel_rfl
  | 3, _ => by kernel_rfl
  | 4, _ => by kernel_rfl
  | 5, _ => by kernel_rfl
  | 6, _ => by kernel_rfl
  | 7, _ => by kernel_rfl
  | 8, _ => by kernel_rfl
  | 9, _ => by kernel_rfl
  | 10, _ => by kernel_rfl
  | 11, _ => by kernel_rfl
  | 12, _ => by kernel_rfl
  | 13, _ => by kernel_rfl
  | 14, _ => by kernel_rfl
  | 15, _ => by kernel_rfl
  | k + 16, h => absurd h (by omega)
theorem zero_c (f : Nat) (hf : f < 16) : Tryz.zeroCells148[49 + f]? = some (.int .i64 0) :=
  match f, hf with
  | 0, _ => by kernel_rfl
  | 1, _ => by kernel_rfl
  | 2, _ => by kernel_rfl
  | 3, _ => by kernel_rfl
  | 4, _ => by kernel_rfl
  | 5, _ => by kernel_rfl
  | 6, _ => by kernel_rfl
  | 7, _ => by kernel_rfl
  | 8, _ => by kernel_rfl
  | 9, _ => by kernel_rfl
  | 10, _ => by kernel_rfl
  | 11, _ => by kernel_rfl
  | 12, _ => by kernel_rfl
  | 13, _ => by kernel_rfl
  | 14, _ => by kernel_rfl
  | 15, _ => by kernel_rfl
  | k + 16, h => absurd h (by omega)
theorem zero_sz : Tryz.zeroCells148.size = 69 := by kernel_rfl
theorem Rds.start (w : World) (zs : List Int) (n : Nat) (room : Int) : Rds (w.alloc (.cells (Tryz.zeroCells148.setIfInBounds 48 (.int .i64 room)) 148)) w.heap.size w.heap.size (Tryz.zeroCells148.setIfInBounds 48 (.int .i64 room)) (fun _ => .slice none 0 0) (.slice none 0 0) (qTo zs n 0) room rs0 0 0 :=
  ⟨Blk.new _ _ _, (by first | (simp; done) | simp [zero_sz]), fun f hf => (set_at (by omega)).trans (zero_l0 f hf), fun f hf => (set_at (by omega)).trans (zero_l1 f hf), fun f hf => OwnW.nil _ _ _ _, fun i j _ _ _ k hk => by simp [Value.ownBlock] at hk,
    fun f hf => (set_at (by omega)).trans (by rw [zero_q f hf]; simp [qTo]), set_is (by rw [zero_sz]; omega), fun f hf => (set_at (by omega)).trans (zero_c f hf), (set_at (by omega)).trans (by kernel_rfl), (set_at (by omega)).trans (by kernel_rfl), (set_at (by omega)).trans (by kernel_rfl), (set_at (by omega)).trans (by kernel_rfl), OwnW.nil _ _ _ _⟩
def NewRndOut (w : World) (room : Int) (n : Nat) (zs : List Int) (e : Ending) (w' : World) : Prop :=
  ∃ g cs, e = .returned (.tuple #[.pointer (some ⟨g, 0, none⟩), .nilIface]) ∧ w.heap.size ≤ g ∧ Below w.heap.size w w' ∧ Rds w' w.heap.size g cs (fun _ => .slice none 0 0) (.slice none 0 0) (qTo zs n 16) room rs0 0 0
set_option maxHeartbeats 2000000 in
set_option maxRecDepth 100000 in
theorem newRounds_yes (room : Int) (A : Option Addr) (n c : Nat) (zs : List Int) (w : World) (hr : RdI w w.heap.size A n zs) (hq : QsOk room n zs) :
    Calls Tryz.prog 43 #[.int .i64 room, .slice A n c] w (NewRndOut w room n zs) := by
  obtain ⟨⟨hn1, hn2⟩, ⟨hr0, hr1⟩, hqq⟩ := hq
  have hcon := qcontains_any A n c zs w hr (by omega)
  have c1' : decide ((n : Int) < 1) = false := by simp; omega
  have c2' : decide (16 < (n : Int)) = false := by simp; omega
  have hnb : ∀ bb : Bool, (bb = true ↔ ∃ i, i < n ∧ qBad (zs.getD i 0) = true) → bb = false := fun bb h => by
    cases bb with
    | false => rfl
    | true =>
      obtain ⟨i, hi, hb⟩ := h.1 rfl
      exact absurd (hqq i hi) (qBad_iff.1 hb)
  have HCON := Lib.hid hcon; have HR := Lib.hid hr; have HNB := Lib.hid hnb; have HQQ := Lib.hid hqq
  clear hcon hr hnb hqq
  go_enter Tryz.func43, Tryz.ntmps43
  go_wp2_with fail
  (with_reducible refine HCON.out.mono ?_)
  rintro e w' ⟨⟨bb, rfl, hbb⟩, rfl⟩
  have hb : bb = false := HNB.out bb hbb
  subst hb
  clear hbb
  go_upto_region 6 with fail
  have hst := Rds.start w zs n room
  have hb0 : Below w.heap.size w (w.alloc (.cells (Tryz.zeroCells148.setIfInBounds 48 (.int .i64 room)) 148)) := (Below.refl _ _).alloc (Nat.le_refl _) _
  have hre := HR.out.over hb0 (Nat.le_refl _)
  have HST := Lib.hid hst; have HB0 := Lib.hid hb0
  clear hst hb0 hre
  generalize w.alloc (.cells (Tryz.zeroCells148.setIfInBounds 48 (.int .i64 room)) 148) = w1 at *
  generalize Tryz.zeroCells148.setIfInBounds 48 (.int .i64 room) = cs0 at *
  go_wp2_with fail
  go_loopw [31] (fun i wr => ∃ (k : Nat) (cs : Array Value), k ≤ 16 ∧ i = .int .i64 k ∧ Rds wr w.heap.size w.heap.size cs (fun _ => .slice none 0 0) (.slice none 0 0) (qTo zs n k) room rs0 0 0 ∧ Below w.heap.size w wr) (fun i _ => 16 - (intOf i).toNat)
  case atStart => exact ⟨0, _, by omega, rfl, HST.out, HB0.out⟩
  case round =>
    obtain ⟨k, cs, hk, rfl, hrd, hbl⟩ := hrel
    by_cases hlt : k < 16
    · obtain ⟨b, off, rfl, hb⟩ := HR.out.addr (show 0 < n by omega)
      have hc := HR.out.all rfl (min k (n - 1)) (by omega)
      have hc2 := (hbl.cell (p := ⟨b, off + min k (n - 1), none⟩) hb).trans hc
      have x32 := hrd.blk.frozen (32 + k)
      have y32 := hrd.cell (hrd.q k hlt)
      have hfin := hrd.setQ hlt (zs.getD (min k (n - 1)) 0)
      rw [← qTo_next] at hfin
      have hbf := hbl.setCell (p := ⟨w.heap.size, 32 + k, none⟩) (Nat.le_refl _) (.int .i64 (zs.getD (min k (n - 1)) 0))
      have HFIN := Lib.hid hfin; have HBF := Lib.hid hbf
      have ik : (k : Int) < 16 := by omega
      obtain ⟨N, hN⟩ : ∃ N, n = N + 1 := ⟨n - 1, by omega⟩
      have hN1 : IntKind.i64.wrap ((n : Int) - 1) = (N : Int) := by rw [IntWalk.i64_in _ (by omega)]; omega
      clear hc hfin hbf hrd hbl
      obtain ⟨mk, hmk⟩ : ∃ mk, mk = min k (n - 1) := ⟨_, rfl⟩
      rw [← hmk] at hc2 HFIN HBF
      obtain ⟨y, hy⟩ : ∃ y, y = zs.getD mk 0 := ⟨_, rfl⟩
      rw [← hy] at hc2 HFIN HBF
      have HY := Lib.hid hy
      clear hy
      by_cases hm : k ≤ N
      · obtain rfl : mk = k := by omega
        have hm2 : (N < mk) = False := by simp; omega
        have hm3 : (mk : Int) < (n : Int) := by omega
        clear hmk hN
        go_upto_region 9 with fail
        go_still_tail 13, (by kernel_rfl)
        change wpList _ _ _ _ _ wr.drew
        go_wp2_with fail
        exact ⟨⟨mk + 1, _, by omega, by go_num, HFIN.out.drew, HBF.out.drew⟩, by simp [intOf]; omega⟩
      · obtain rfl : mk = N := by omega
        have hm2 : (mk < k) = True := by simp; omega
        have hm3 : (mk : Int) < (n : Int) := by omega
        clear hmk hN
        go_upto_region 9 with fail
        go_still_tail 13, (by kernel_rfl)
        change wpList _ _ _ _ _ wr.drew
        go_wp2_with fail
        exact ⟨⟨k + 1, _, by omega, by go_num, HFIN.out.drew, HBF.out.drew⟩, by simp [intOf]; omega⟩
    · obtain rfl : k = 16 := by omega
      have HRD := Lib.hid hrd; have HBL := Lib.hid hbl
      clear hrd hbl
      go_wp2_with fail
      go_ret2
      exact ⟨w.heap.size, cs, rfl, Nat.le_refl _, HBL.out, HRD.out⟩
end Go.Proofs.YtgdijbaodfghjaaGreatDoor

/-
  Flows that take turns are their machine.
-/
namespace Go.Proofs.YtgdijbaodfghjaaGreatDoor
open Go.RowKit Bkt
set_option linter.unusedVariables false

theorem rnd_put_meth (g : Nat) : Meth (.iface 127 (.pointer (some ⟨g, 0, none⟩))) "Put" 145 (.pointer (some ⟨g, 0, none⟩)) := by
  intro args w; kernel_rfl
theorem rnd_take_meth (g : Nat) : Meth (.iface 127 (.pointer (some ⟨g, 0, none⟩))) "Take" 146 (.pointer (some ⟨g, 0, none⟩)) := by
  intro args w; kernel_rfl
theorem rnd_when_meth (g : Nat) : Meth (.iface 127 (.pointer (some ⟨g, 0, none⟩))) "When" 147 (.pointer (some ⟨g, 0, none⟩)) := by
  intro args w; kernel_rfl
theorem rnd_len_meth (g : Nat) : Meth (.iface 127 (.pointer (some ⟨g, 0, none⟩))) "Len" 144 (.pointer (some ⟨g, 0, none⟩)) := by
  intro args w; kernel_rfl
theorem rnd_bytes_meth (g : Nat) : Meth (.iface 127 (.pointer (some ⟨g, 0, none⟩))) "Bytes" 143 (.pointer (some ⟨g, 0, none⟩)) := by
  intro args w; kernel_rfl

theorem nodup_lt : ∀ (n : Nat) (T : List Nat), T.Nodup → (∀ x ∈ T, x < n) → T.length ≤ n
  | 0, T, _, h => by
    cases T with
    | nil => simp
    | cons x r => exact absurd (h x (by simp)) (by omega)
  | n + 1, T, hn, h => by
    by_cases hm : n ∈ T
    · have h1 := nodup_lt n (T.erase n) (hn.erase n) (fun x hx => by
        have h2 := (hn.mem_erase_iff).1 hx
        have h3 := h x h2.2
        have h4 := h2.1
        omega)
      rw [List.length_erase_of_mem hm] at h1
      omega
    · have h1 := nodup_lt n T hn (fun x hx => by
        have h3 := h x hx
        have h4 : x ≠ n := fun e => hm (e ▸ hx)
        omega)
      omega
theorem flat_lenR {α : Type} {G : Nat → List α} {f : Nat} : ∀ {I : List Nat}, f ∈ I → (G f).length ≤ (I.flatMap G).length
  | i :: I, h => by
    rw [List.flatMap_cons, List.length_append]
    rcases List.mem_cons.1 h with e | e
    · subst e; omega
    · have := flat_lenR (G := G) e; omega
namespace Pl
theorem RI.len_le {s : RS} {f : Nat} (hf : f < 16) : (s.L f).length ≤ (waitR s).length := by
  have := flat_lenR (G := fun f => (s.L f).map key) (List.mem_range.2 hf)
  simpa [waitR] using this
theorem sumLen_bdc {c : Int} (hc : 0 ≤ c) : ∀ l : List (Int × Int), (∀ x ∈ l, 0 ≤ x.2 ∧ x.2 ≤ c) → 0 ≤ sumLen l ∧ sumLen l ≤ c * l.length
  | [], _ => by simp [sumLen]
  | x :: l, h => by
    have h1 := sumLen_bdc hc l fun y hy => h y (by simp [hy])
    have h2 := h x (by simp)
    rw [sumLen, List.length_cons]
    have e : c * ((l.length + 1 : Nat) : Int) = c * l.length + c := by rw [Int.natCast_add, Int.mul_add]; simp
    rw [e]
    omega
theorem RI.sum {s : RS} (h : RI s) : 0 ≤ sumLen (waitR s) ∧ sumLen (waitR s) ≤ 10000 * (waitR s).length :=
  sumLen_bdc (by omega) _ fun x hx => by
    unfold waitR at hx
    obtain ⟨f, hf, hx⟩ := List.mem_flatMap.1 hx
    obtain ⟨y, hy, rfl⟩ := List.mem_map.1 hx
    have := h.b f (List.mem_range.1 hf) y hy
    exact ⟨this.1, this.2.1⟩
theorem RI.tl {s : RS} (h : RI s) : s.T.length ≤ 16 := nodup_lt 16 s.T h.nd fun x hx => (h.ne x hx).1
theorem rs0_ok : RI rs0 := ⟨by simp [rs0], fun f hf => by simp [rs0] at hf, fun f _ h => by simp [rs0] at h, fun f _ => by simp [rs0], fun f hf => by simp [rs0] at hf, fun h => by simp [rs0] at h, fun f _ x hx => by simp [rs0] at hx⟩
theorem waitR_rs0 : waitR rs0 = [] := by simp [waitR, rs0]
end Pl
structure RInvM (base g : Nat) (Q : Nat → Int) (room : Int) (s : Pl.RS) (k : Nat) (F : Nat → Prop) (w : World) (cs : Array Value) (V : Nat → Value) (tv : Value) : Prop where
  d : Rds w base g cs V tv Q room s (Pl.sumLen (Pl.waitR s)) (Pl.waitR s).length
  ri : Pl.RI s
  n : (Pl.waitR s).length ≤ k
  bs : base ≤ w.heap.size
  k1 : k ≤ 1000
  bg : base ≤ g
  mF : ∀ i, F i ↔ (i = g ∨ RF V tv i)
def RInv1 (base g : Nat) (Q : Nat → Int) (room : Int) (s : Pl.RS) (k : Nat) (F : Nat → Prop) (w : World) : Prop := ∃ cs V tv, RInvM base g Q room s k F w cs V tv
section
variable {w w' : World} {base g k : Nat} {Q : Nat → Int} {room : Int} {s s' : Pl.RS} {F : Nat → Prop} {cs cs' : Array Value} {V V' : Nat → Value} {tv tv' : Value}
theorem RInvM.hds (h : RInvM base g Q room s k F w cs V tv) : ∀ f, f < 16 → HdsOk (s.L f) := fun f hf =>
  ⟨by have := Pl.RI.len_le (s := s) hf; have := h.n; have := h.k1; omega, fun x hx => by have := h.ri.b f hf x hx; omega⟩
theorem RInvM.lt (h : RInvM base g Q room s k F w cs V tv) : ∀ i, F i → base ≤ i ∧ i < w.heap.size := fun i hi => by
  rcases (h.mF i).1 hi with e | e
  · subst e; exact ⟨h.bg, h.d.blk.lt⟩
  · exact h.d.rlt i e
theorem RInvM.chg {S : Nat → Prop} (h : RInvM base g Q room s k F w cs V tv) (hc : Chg w w' S) (hn : ∀ i, F i → ¬ S i) : RInvM base g Q room s k F w' cs V tv :=
  ⟨h.d.chg hc (hn _ ((h.mF _).2 (.inl rfl))) (fun i hi => hn _ ((h.mF _).2 (.inr hi))), h.ri, h.n, Nat.le_trans h.bs hc.size, h.k1, h.bg, h.mF⟩
theorem RInvM.to (h : RInvM base g Q room s k F w cs V tv) {b' m' : Int} (hd : Rds w' base g cs' V' tv' Q room s' b' m') (ht : RTrn w w' g V tv V' tv') (hb : b' = Pl.sumLen (Pl.waitR s')) (hm : m' = (Pl.waitR s').length) (hri : Pl.RI s') {k' : Nat} (hn : (Pl.waitR s').length ≤ k') (hk : k' ≤ 1000) :
    ∃ F', RInv1 base g Q room s' k' F' w' ∧ Chg w w' F ∧ ∀ i, F' i → F i ∨ w.heap.size ≤ i := by
  subst hb hm
  refine ⟨fun i => i = g ∨ RF V' tv' i, ⟨cs', V', tv', hd, hri, hn, Nat.le_trans h.bs ht.chg.size, hk, h.bg, fun i => Iff.rfl⟩, ht.chg.mono (fun i _ hi => (h.mF i).2 hi), fun i hi => ?_⟩
  rcases hi with e | e
  · exact .inl ((h.mF i).2 (.inl e))
  · exact (ht.at_ i e).imp (fun e => (h.mF i).2 (.inr e)) id
end
theorem rnd_put_c (base g : Nat) (Q : Nat → Int) (room : Int) (s : Pl.RS) (k : Nat) (F : Nat → Prop) (w : World) (now : Int) (x : Hd) (hh : RInv1 base g Q room s k F w) (hk : k < 1000) (hx : Pl.okB x.it = true) :
    Calls Tryz.prog 145 #[.pointer (some ⟨g, 0, none⟩), .int .i64 now, hdV x] w (PutOut (RInv1 base g Q room) w F (k + 1) (Pl.putR room x s)) := by
  obtain ⟨cs, V, tv, h⟩ := hh
  have hfi := okB_fine.1 hx
  have hxl := okB_len hx
  have hf2 := hfi.f2
  have hf : x.it.flow.toNat < 16 := by omega
  have hxf : x.it.flow = (x.it.flow.toNat : Int) := by omega
  have hs := h.ri.sum; have hn := h.n; have htl := h.ri.tl
  refine (rndPut_any base g cs V tv Q room s _ _ now x w h.d hf hxf hxl h.bs (h.hds _ hf) (by omega) (by omega) (by omega)).mono fun e w' ho => ?_
  obtain ⟨A, c, b', m', cs', V', tv', e1, hr, ha, hd, ht, hcase⟩ := ho
  have hp := Pl.waitR_put (room := room) (s := s) (x := x) hf
  have hp1 := Pl.sumLen_perm hp
  have hp2 := hp.length_eq
  rw [Pl.sumLen_append, Pl.sumLen_append] at hp1
  rw [List.length_append, List.length_append, List.length_map] at hp2
  have hk1 : Pl.sumLen [Pl.key x] = x.it.len := by simp [Pl.sumLen, Pl.key]
  rw [hk1] at hp1
  simp only [List.length_cons, List.length_nil] at hp2
  have hbm : b' = Pl.sumLen (Pl.waitR (Pl.putR room x s).2) ∧ m' = (Pl.waitR (Pl.putR room x s).2).length := by
    rcases hcase with ⟨e2, e3, e4⟩ | ⟨e2, e3, e4⟩
    · rw [e2] at hp1 hp2
      simp only [List.map_cons, List.map_nil, List.length_cons, List.length_nil] at hp1 hp2
      rw [hk1] at hp1
      omega
    · rw [e2] at hp1 hp2
      simp only [List.map_nil, List.length_nil, Pl.sumLen] at hp1 hp2
      omega
  obtain ⟨F', g1, g2, g3⟩ := h.to hd ht hbm.1 hbm.2 (h.ri.put hx) (k' := k + 1) (by omega) (by omega)
  exact ⟨A, _, c, F', e1, by have := hr.len; show (Pl.putR room x s).1.length ≤ 100000; omega, hr, fun ad e => .inr (ha ad e), g1, g2, g3⟩
theorem rnd_take_c (base g : Nat) (Q : Nat → Int) (hQ : Pl.QOk Q) (room : Int) (s : Pl.RS) (k : Nat) (F : Nat → Prop) (w : World) (now : Int) (hh : RInv1 base g Q room s k F w) :
    Calls Tryz.prog 146 #[.pointer (some ⟨g, 0, none⟩), .int .i64 now] w (TakeOut (RInv1 base g Q room) w F k ((Pl.takeR Q (Pl.measR s + 1) s).1, [], (Pl.takeR Q (Pl.measR s + 1) s).2)) := by
  obtain ⟨cs, V, tv, h⟩ := hh
  have hs := h.ri.sum; have hn := h.n; have htl := h.ri.tl; have hk := h.k1
  refine (rndTake_any base g cs V tv Q room s _ _ now w h.d h.ri hQ h.bs h.hds (by omega) (by omega) (by omega)).mono fun e w' ho => ?_
  have hg := (Pl.fair_good Q hQ room).take s now h.ri
  obtain ⟨hgi, hgp⟩ := hg
  have hgi' : Pl.RI (Pl.takeR Q (Pl.measR s + 1) s).2 := hgi
  have hgp' : (Pl.waitR s).Perm ([] ++ ((Pl.takeR Q (Pl.measR s + 1) s).1.toList.map Pl.key ++ Pl.waitR (Pl.takeR Q (Pl.measR s + 1) s).2)) := hgp
  show TakeOut (RInv1 base g Q room) w F k ((Pl.takeR Q (Pl.measR s + 1) s).1, [], (Pl.takeR Q (Pl.measR s + 1) s).2) e w'
  clear hgi hgp
  generalize Pl.takeR Q (Pl.measR s + 1) s = R at *
  obtain ⟨hh, b', m', cs', V', tv', e1, e2, e3, hd, ht⟩ := ho
  have hp1 := Pl.sumLen_perm hgp'
  have hp2 := hgp'.length_eq
  rw [List.nil_append, Pl.sumLen_append] at hp1
  rw [List.nil_append, List.length_append, List.length_map] at hp2
  obtain ⟨xo, s'⟩ := R
  have hbm : b' = Pl.sumLen (Pl.waitR s') ∧ m' = (Pl.waitR s').length ∧ (Pl.waitR s').length ≤ (Pl.waitR s).length := by
    cases xo with
    | none =>
      obtain ⟨e4, e5⟩ := e3 rfl
      simp [Pl.sumLen] at hp1 hp2
      omega
    | some x =>
      obtain ⟨e4, e5, e6⟩ := e2 x rfl
      simp [Pl.sumLen, Pl.key] at hp1 hp2
      omega
  obtain ⟨F', g1, g2, g3⟩ := h.to hd ht hbm.1 hbm.2.1 hgi' (k' := k) (by omega) hk
  exact ⟨hh, none, 0, 0, F', e1, fun x hx => (e2 x hx).1, by omega, Reads.none_, fun ad e => (by cases e), g1, g2, g3⟩
theorem rnd_imp (base g : Nat) (Q : Nat → Int) (hQ : Pl.QOk Q) (room : Int) : QImp (Pl.fairM Q room) (.iface 127 (.pointer (some ⟨g, 0, none⟩))) base (RInv1 base g Q room) where
  lt := fun s k F w ⟨cs, V, tv, h⟩ => h.lt
  base := fun s k F w ⟨cs, V, tv, h⟩ => h.bs
  chg := fun s k F w w' S ⟨cs, V, tv, h⟩ hc hn => ⟨cs, V, tv, h.chg hc hn⟩
  put := ⟨_, _, rnd_put_meth g, fun s k F w now x h hk hx => rnd_put_c base g Q room s k F w now x h hk hx.ok⟩
  take := ⟨_, _, rnd_take_meth g, fun s k F w now h h0 h1 => rnd_take_c base g Q hQ room s k F w now h⟩
  when_ := ⟨_, _, rnd_when_meth g, fun s k F w now ⟨cs, V, tv, h⟩ _ _ => by
    refine (rndWhen_any base g cs V tv Q room s _ _ now w h.d).mono fun e w' ⟨e1, q, e2⟩ => ?_
    subst e2
    have hb : Below w.heap.size w (w.drewN q) := bl_drewN (Below.refl _ _)
    refine ⟨now, F, ?_, ?_, ⟨cs, V, tv, h.chg (Chg.of_below (S := fun _ => False) hb) (fun _ _ h => h)⟩, Chg.of_below hb, fun i hi => .inl hi⟩
    · rw [e1]
      show Ending.returned (.tuple #[.int .i64 now, .bool (decide ((0 : Int) < ((Pl.waitR s).length : Int)))]) = .returned (.tuple #[.int .i64 now, .bool (if 0 < (Pl.waitR s).length then some now else none).isSome])
      by_cases h0 : 0 < (Pl.waitR s).length
      · rw [if_pos h0, decide_eq_true (by omega)]; rfl
      · rw [if_neg h0, decide_eq_false (by omega)]; rfl
    · intro x hx
      have hx' : (if 0 < (Pl.waitR s).length then some now else none) = some x := hx
      by_cases h0 : 0 < (Pl.waitR s).length
      · rw [if_pos h0] at hx'; injection hx'
      · rw [if_neg h0] at hx'; cases hx'⟩
  len := ⟨_, _, rnd_len_meth g, fun s k F w ⟨cs, V, tv, h⟩ => (rndLen_any base g cs V tv Q room s _ _ w h.d).mono fun e w' ⟨e1, e2⟩ => ⟨e1, by subst e2; exact Below.refl _ _⟩⟩
  bytes := ⟨_, _, rnd_bytes_meth g, fun s k F w ⟨cs, V, tv, h⟩ => (rndBytes_any base g cs V tv Q room s _ _ w h.d).mono fun e w' ⟨e1, e2⟩ => ⟨e1, by subst e2; exact Below.refl _ _⟩⟩
end Go.Proofs.YtgdijbaodfghjaaGreatDoor

/-
  Flows that are put together by a hash, in memory: their blocks, and what a store, or a list's method, makes of them.
-/
namespace Go.Proofs.YtgdijbaodfghjaaGreatDoor
open Go.RowKit Bkt
set_option linter.unusedVariables false

def HF (m : Nat) (V : Nat → Value) (tv : Value) (i : Nat) : Prop := tv.ownBlock = some i ∨ ∃ f, f < m ∧ (V f).ownBlock = some i
structure Hsh (w : World) (base g gl : Nat) (cs ls : Array Value) (V : Nat → Value) (tv : Value) (P : Pl.HP) (s : Pl.HS) (n : Int) : Prop where
  blk : Blk w g 126 cs
  sz : cs.size = 5
  c0 : cs[0]? = some (.slice (some ⟨gl, 0, none⟩) P.m P.m)
  c1 : cs[1]? = some (.int .i64 P.salt)
  c2 : cs[2]? = some (.int .i64 P.room)
  c3 : cs[3]? = some tv
  c4 : cs[4]? = some (.int .i64 n)
  lk : Blk w gl 90 ls
  lz : ls.size = P.m * 2
  l0 : ∀ f, f < P.m → ls[f * 2]? = some (V f)
  l1 : ∀ f, f < P.m → ls[f * 2 + 1]? = some (.int .i64 (Pl.tot (s.L f)))
  own : ∀ f, f < P.m → OwnW w base 78 HdR.sz (V f) (s.L f).length ((s.L f).flatMap HdR.cells)
  ne : ∀ i j, i < P.m → j < P.m → i ≠ j → ∀ k, (V i).ownBlock = some k → (V j).ownBlock ≠ some k
  tn : OwnW w base 3 1 tv s.T.length ((tnL s.T).flatMap IntR.cells)
structure HTrn (w w' : World) (g gl m : Nat) (V : Nat → Value) (tv : Value) (V' : Nat → Value) (tv' : Value) : Prop where
  chg : Chg w w' (fun i => i = g ∨ i = gl ∨ HF m V tv i)
  at_ : ∀ i, HF m V' tv' i → HF m V tv i ∨ w.heap.size ≤ i
section
variable {w w' w'' : World} {base g gl m : Nat} {V V' V'' : Nat → Value} {tv tv' tv'' : Value} {cs ls : Array Value} {P : Pl.HP} {s : Pl.HS} {n : Int}
theorem HTrn.refl (w : World) (g gl m : Nat) (V : Nat → Value) (tv : Value) : HTrn w w g gl m V tv V tv := ⟨Chg.refl _ _, fun i hi => .inl hi⟩
theorem HTrn.trans (h : HTrn w w' g gl m V tv V' tv') (h' : HTrn w' w'' g gl m V' tv' V'' tv'') : HTrn w w'' g gl m V tv V'' tv'' := by
  refine ⟨h.chg.trans h'.chg (fun i hi hs => ?_), fun i hi => ?_⟩
  · rcases hs with e | e | e
    · exact .inl e
    · exact .inr (.inl e)
    · rcases h.at_ i e with e2 | e2
      · exact .inr (.inr e2)
      · omega
  · rcases h'.at_ i hi with e | e
    · exact h.at_ i e
    · exact .inr (Nat.le_trans h.chg.size e)
theorem HTrn.below (h : HTrn w w' g gl m V tv V' tv') (hb : Below w'.heap.size w' w'') : HTrn w w'' g gl m V tv V' tv' := ⟨h.chg.trans (Chg.of_below hb) (fun i _ hs => hs), h.at_⟩
theorem HTrn.set_ (h : HTrn w w' g gl m V tv V' tv') (i : Nat) (u : Value) : HTrn w (w'.setCell ⟨g, i, none⟩ u) g gl m V tv V' tv' := ⟨h.chg.setCell (p := ⟨g, i, none⟩) (fun _ => .inl rfl) u, h.at_⟩
theorem HTrn.setNew (h : HTrn w w' g gl m V tv V' tv') {p : Addr} (hp : w.heap.size ≤ p.block) (u : Value) : HTrn w (w'.setCell p u) g gl m V tv V' tv' := ⟨h.chg.setCell (p := p) (fun e => by omega) u, h.at_⟩
theorem HTrn.drew (h : HTrn w w' g gl m V tv V' tv') : HTrn w w'.drew g gl m V tv V' tv' := ⟨h.chg.drew, h.at_⟩
theorem HTrn.drewN (h : HTrn w w' g gl m V tv V' tv') (n : Nat) : HTrn w (w'.drewN n) g gl m V tv V' tv' := ⟨h.chg.drewN n, h.at_⟩
theorem HTrn.alloc (h : HTrn w w' g gl m V tv V' tv') (o : Obj) : HTrn w (w'.alloc o) g gl m V tv V' tv' := ⟨h.chg.alloc o, h.at_⟩

theorem Hsh.cell {i : Nat} {u : Value} (h : Hsh w base g gl cs ls V tv P s n) (hi : cs[i]? = some u) : w.cell? ⟨g, i, none⟩ = some u := (h.blk.cell i).trans hi
theorem Hsh.lcell {i : Nat} {u : Value} (h : Hsh w base g gl cs ls V tv P s n) (hi : ls[i]? = some u) : w.cell? ⟨gl, i, none⟩ = some u := (h.lk.cell i).trans hi
theorem Hsh.gne (h : Hsh w base g gl cs ls V tv P s n) : g ≠ gl := fun e => by
  have h1 := h.blk
  rw [e] at h1
  exact Blk.ne_ h1 h.lk (by decide) rfl
theorem Hsh.rlt (h : Hsh w base g gl cs ls V tv P s n) : ∀ i, HF P.m V tv i → base ≤ i ∧ i < w.heap.size := by
  rintro i (hi | ⟨f, hf, hi⟩)
  · exact h.tn.lt i hi
  · exact (h.own f hf).lt i hi
theorem Hsh.rne (h : Hsh w base g gl cs ls V tv P s n) : ∀ i, HF P.m V tv i → i ≠ g ∧ i ≠ gl := by
  rintro i (hi | ⟨f, hf, hi⟩)
  · exact ⟨fun e => by subst e; exact h.tn.blk_ne h.blk (by decide) hi, fun e => by subst e; exact h.tn.blk_ne h.lk (by decide) hi⟩
  · exact ⟨fun e => by subst e; exact (h.own f hf).blk_ne h.blk (by decide) hi, fun e => by subst e; exact (h.own f hf).blk_ne h.lk (by decide) hi⟩
theorem Hsh.chg {S : Nat → Prop} (h : Hsh w base g gl cs ls V tv P s n) (hc : Chg w w' S) (h1 : ¬ S g) (h2 : ¬ S gl) (h3 : ∀ i, HF P.m V tv i → ¬ S i) : Hsh w' base g gl cs ls V tv P s n :=
  ⟨h.blk.chg hc h1, h.sz, h.c0, h.c1, h.c2, h.c3, h.c4, h.lk.chg hc h2, h.lz, h.l0, h.l1, fun f hf => (h.own f hf).chg hc (fun i hi => h3 i (.inr ⟨f, hf, hi⟩)), h.ne, h.tn.chg hc (fun i hi => h3 i (.inl hi))⟩
theorem Hsh.below (h : Hsh w base g gl cs ls V tv P s n) (hb : Below w.heap.size w w') : Hsh w' base g gl cs ls V tv P s n := h.chg (Chg.of_below hb) (fun h => h) (fun h => h) (fun _ _ h => h)
theorem Hsh.drewN (h : Hsh w base g gl cs ls V tv P s n) (k : Nat) : Hsh (w.drewN k) base g gl cs ls V tv P s n := h.below ⟨rfl, rfl, rfl, Nat.le_refl _, fun _ _ => rfl⟩
theorem Hsh.drew (h : Hsh w base g gl cs ls V tv P s n) : Hsh w.drew base g gl cs ls V tv P s n := h.below ⟨rfl, rfl, rfl, Nat.le_refl _, fun _ _ => rfl⟩
theorem Hsh.setNew (h : Hsh w base g gl cs ls V tv P s n) {p : Addr} (hp : p.block ≠ g) (hp2 : p.block ≠ gl) (hv : ¬ HF P.m V tv p.block) (u : Value) : Hsh (w.setCell p u) base g gl cs ls V tv P s n :=
  h.chg (Chg.setCell (S := fun i => i = p.block) (p := p) (Chg.refl w _) (fun _ => rfl) u) (fun e => hp e.symm) (fun e => hp2 e.symm) (fun i hi e => hv (e ▸ hi))
theorem Hsh.lst (h : Hsh w base g gl cs ls V tv P s n) {f : Nat} (hf : f < P.m) : Lst w base gl (f * 2) 90 ls (V f) (s.L f) (Pl.tot (s.L f)) := ⟨h.lk, h.l0 f hf, h.l1 f hf, h.own f hf, by decide⟩
theorem Hsh.of_lst (h : Hsh w base g gl cs ls V tv P s n) {f : Nat} (hf : f < P.m) {v' : Value} {l' : List Hd} {b' : Int} (h' : LstTo w w' base gl (f * 2) 90 ls (V f) v' l' b') (e : b' = Pl.tot l') :
    ∃ ls', Hsh w' base g gl cs ls' (Pl.updf V f v') tv P ⟨Pl.updf s.L f l', s.T⟩ n ∧ HTrn w w' g gl P.m V tv (Pl.updf V f v') tv := by
  subst e
  have hk : ∀ j, j ≠ f * 2 → j ≠ f * 2 + 1 → ((ls.setIfInBounds (f * 2) v').setIfInBounds (f * 2 + 1) (.int .i64 (Pl.tot l')))[j]? = ls[j]? := fun j h0 h1 => by rw [set_at h1, set_at h0]
  have hnew : ∀ i, v'.ownBlock = some i → (V f).ownBlock = some i ∨ w.heap.size ≤ i := fun i hi => by
    rcases h'.at_ with e | e
    · exact .inl (e ▸ hi)
    · exact .inr (e i hi)
  have hold : ∀ j, j < P.m → ∀ i, (V j).ownBlock = some i → i < w.heap.size := fun j hj i hi => ((h.own j hj).lt i hi).2
  refine ⟨_, ⟨h.blk.chg h'.chg ?_, h.sz, h.c0, h.c1, h.c2, h.c3, h.c4, h'.lst.blk, by simp [h.lz], fun i hi => ?_, fun i hi => ?_, fun i hi => ?_, fun i j hi hj hne k hkk => ?_, ?_⟩, ⟨h'.chg.mono (fun i _ hs => .inr (hs.imp id fun e => .inr ⟨f, hf, e⟩)), ?_⟩⟩
  · rintro (e | e)
    · exact h.gne e
    · exact (h.rne g (.inr ⟨f, hf, e⟩)).1 rfl
  · by_cases e : i = f
    · subst e; rw [Pl.updf_same]; exact h'.lst.c0
    · rw [Pl.updf_ne _ _ e]; exact (hk _ (by omega) (by omega)).trans (h.l0 i hi)
  · show _ = some (Value.int .i64 (Pl.tot (Pl.updf s.L f l' i)))
    by_cases e : i = f
    · subst e; rw [Pl.updf_same]; exact h'.lst.c1
    · rw [Pl.updf_ne _ _ e]; exact (hk _ (by omega) (by omega)).trans (h.l1 i hi)
  · show OwnW w' base _ _ _ (Pl.updf s.L f l' i).length ((Pl.updf s.L f l' i).flatMap HdR.cells)
    by_cases e : i = f
    · subst e
      rw [Pl.updf_same, Pl.updf_same]; exact h'.lst.own
    · rw [Pl.updf_ne _ _ e, Pl.updf_ne _ _ e]
      refine (h.own i hi).chg h'.chg (fun k hk hs => ?_)
      rcases hs with e2 | e2
      · exact (h.rne k (.inr ⟨i, hi, hk⟩)).2 e2
      · exact h.ne i f hi hf e k hk e2
  · by_cases e : i = f
    · subst e
      rw [Pl.updf_same] at hkk
      rw [Pl.updf_ne _ _ (Ne.symm hne)]
      rcases hnew k hkk with e2 | e2
      · exact h.ne i j hi hj hne k e2
      · intro e3; have := hold j hj k e3; omega
    · rw [Pl.updf_ne _ _ e] at hkk
      by_cases e3 : j = f
      · subst e3
        rw [Pl.updf_same]
        intro e4
        rcases hnew k e4 with e2 | e2
        · exact h.ne i j hi hj hne k hkk e2
        · have := hold i hi k hkk; omega
      · rw [Pl.updf_ne _ _ e3]; exact h.ne i j hi hj hne k hkk
  · refine h.tn.chg h'.chg (fun k hk hs => ?_)
    rcases hs with e2 | e2
    · exact (h.rne k (.inl hk)).2 e2
    · exact (h.tn.ne_of (h.own f hf) (by decide)) k hk e2
  · rintro i (hi | ⟨j, hj, hi⟩)
    · exact .inl (.inl hi)
    · by_cases e : j = f
      · subst e
        rw [Pl.updf_same] at hi
        exact (hnew i hi).imp (fun e => .inr ⟨j, hj, e⟩) id
      · rw [Pl.updf_ne _ _ e] at hi
        exact .inl (.inr ⟨j, hj, hi⟩)
theorem Hsh.setM (h : Hsh w base g gl cs ls V tv P s n) (x : Int) : Hsh (w.setCell ⟨g, 4, none⟩ (.int .i64 x)) base g gl (cs.setIfInBounds 4 (.int .i64 x)) ls V tv P s x := by
  have hc : Chg w (w.setCell ⟨g, 4, none⟩ (.int .i64 x)) (fun i => i = g) := Chg.setCell (S := fun i => i = g) (p := ⟨g, 4, none⟩) (Chg.refl w _) (fun _ => rfl) _
  exact ⟨h.blk.set_ _ _, by simp [h.sz], (set_at (by omega)).trans h.c0, (set_at (by omega)).trans h.c1, (set_at (by omega)).trans h.c2, (set_at (by omega)).trans h.c3, set_is (by rw [h.sz]; omega), h.lk.chg hc (Ne.symm h.gne), h.lz, h.l0, h.l1, fun f hf => (h.own f hf).chg hc (fun i hi => (h.rne i (.inr ⟨f, hf, hi⟩)).1), h.ne, h.tn.chg hc (fun i hi => (h.rne i (.inl hi)).1)⟩
theorem Hsh.setT (h : Hsh w base g gl cs ls V tv P s n) {w1 : World} {T' : List Nat} (hg : w.grownBy w1 tv.ownBlock) (ho : OwnW w1 base 3 1 tv' T'.length ((tnL T').flatMap IntR.cells)) (hat : tv'.ownBlock = tv.ownBlock ∨ ∀ k, tv'.ownBlock = some k → w.heap.size ≤ k) :
    Hsh (w1.setCell ⟨g, 3, none⟩ tv') base g gl (cs.setIfInBounds 3 tv') ls V tv' P ⟨s.L, T'⟩ n ∧ HTrn w (w1.setCell ⟨g, 3, none⟩ tv') g gl P.m V tv V tv' := by
  have hc : Chg w w1 (fun i => tv.ownBlock = some i) := Chg.of_grown hg (fun i e => e.symm)
  have hblk := h.blk.chg hc (fun e => (h.rne g (.inl e)).1 rfl)
  have hlk := h.lk.chg hc (fun e => (h.rne gl (.inl e)).2 rfl)
  have hv : ∀ f, f < P.m → OwnW w1 base 78 HdR.sz (V f) (s.L f).length ((s.L f).flatMap HdR.cells) := fun f hf => (h.own f hf).chg hc (fun i hi e => (h.tn.ne_of (h.own f hf) (by decide)) i e hi)
  have hs : Chg w1 (w1.setCell ⟨g, 3, none⟩ tv') (fun i => i = g) := Chg.setCell (S := fun i => i = g) (p := ⟨g, 3, none⟩) (Chg.refl w1 _) (fun _ => rfl) tv'
  refine ⟨⟨hblk.set_ _ _, by simp [h.sz], (set_at (by omega)).trans h.c0, (set_at (by omega)).trans h.c1, (set_at (by omega)).trans h.c2, set_is (by rw [h.sz]; omega), (set_at (by omega)).trans h.c4, hlk.chg hs (Ne.symm h.gne), h.lz, h.l0, h.l1, fun f hf => (hv f hf).chg hs (fun j hj => (h.rne j (.inr ⟨f, hf, hj⟩)).1), h.ne, ho.chg hs (fun j hj e => ?_)⟩, ⟨?_, ?_⟩⟩
  · subst e; exact ho.blk_ne hblk (by decide) hj
  · exact (hc.mono (S' := fun i => i = g ∨ i = gl ∨ HF P.m V tv i) (fun i _ e => .inr (.inr (.inl e)))).trans (hs.mono (S' := fun i => i = g ∨ i = gl ∨ HF P.m V tv i) (fun i _ e => .inl e)) (fun i _ h => h)
  · rintro i (hi | ⟨f, hf, hi⟩)
    · rcases hat with e | e
      · exact .inl (.inl (e ▸ hi))
      · exact .inr (e i hi)
    · exact .inl (.inr ⟨f, hf, hi⟩)
end

theorem hshLen_any (base g gl : Nat) (cs ls : Array Value) (V : Nat → Value) (tv : Value) (P : Pl.HP) (s : Pl.HS) (n : Int) (w : World) (h : Hsh w base g gl cs ls V tv P s n) :
    Calls Tryz.prog 124 #[.pointer (some ⟨g, 0, none⟩)] w fun e w' => e = .returned (.int .i64 n) ∧ w = w' := by
  have z := h.cell h.c4
  clear h
  go_enter Tryz.func124, Tryz.ntmps124
  go_wp2_with fail
  go_ret
  exact ⟨rfl, rfl⟩
theorem hshWhen_any (base g gl : Nat) (cs ls : Array Value) (V : Nat → Value) (tv : Value) (P : Pl.HP) (s : Pl.HS) (n now : Int) (w : World) (h : Hsh w base g gl cs ls V tv P s n) :
    Calls Tryz.prog 127 #[.pointer (some ⟨g, 0, none⟩), .int .i64 now] w fun e w' => e = .returned (.tuple #[.int .i64 now, .bool (decide (0 < n))]) ∧ ∃ q, w' = w.drewN q := by
  have z := h.cell h.c4
  clear h
  go_enter Tryz.func127, Tryz.ntmps127
  go_wp2_with fail
  go_quiet (fail)
  go_wp2_with fail
  go_ret2
  exact ⟨rfl, _, rfl⟩
set_option maxHeartbeats 1000000 in
theorem hshWhere_any (base g gl : Nat) (cs ls : Array Value) (V : Nat → Value) (tv : Value) (P : Pl.HP) (s : Pl.HS) (n : Int) (f : Int) (w : World) (h : Hsh w base g gl cs ls V tv P s n) (hP : Pl.HPOk P) (hf : 0 ≤ f ∧ f < 16) :
    Calls Tryz.prog 128 #[.pointer (some ⟨g, 0, none⟩), .int .i64 f] w fun e w' => e = .returned (.int .i64 (Pl.whr P f : Nat)) ∧ ∃ q, w' = w.drewN q := by
  have z0 := h.cell h.c0; have z1 := h.cell h.c1
  obtain ⟨hm1, hm2⟩ := hP.m
  obtain ⟨hs1, hs2⟩ := hP.salt
  obtain ⟨hf0, hf1⟩ := hf
  have hfs : 0 ≤ f * P.salt ∧ f * P.salt ≤ 16 * 1000000 := ⟨Int.mul_nonneg hf0 hs1, Int.mul_le_mul (by omega) hs2 hs1 (by omega)⟩
  obtain ⟨hfs0, hfs1⟩ := hfs
  have hmn := Int.emod_nonneg (f * 31 + P.salt * 7 + f * P.salt) (show (P.m : Int) ≠ 0 by omega)
  have hmm := Int.emod_lt_of_pos (f * 31 + P.salt * 7 + f * P.salt) (show (0 : Int) < P.m by omega)
  have hwh : (((Pl.whr P f : Nat) : Int)) = (f * 31 + P.salt * 7 + f * P.salt) % (P.m : Int) := by
    unfold Pl.whr
    omega
  rw [hwh]
  clear h hwh
  obtain ⟨m, salt, room⟩ := P
  dsimp only at *
  have e1 : IntKind.i64.wrap (f * 31) = f * 31 := IntWalk.i64_in _ (by omega)
  have e2 : IntKind.i64.wrap (salt * 7) = salt * 7 := IntWalk.i64_in _ (by omega)
  have e3 : IntKind.i64.wrap (f * 31 + salt * 7) = f * 31 + salt * 7 := IntWalk.i64_in _ (by omega)
  have e4 : IntKind.i64.wrap (f * salt) = f * salt := IntWalk.i64_in _ (by omega)
  have e5 : IntKind.i64.wrap (f * 31 + salt * 7 + f * salt) = f * 31 + salt * 7 + f * salt := IntWalk.i64_in _ (by omega)
  have e6 : IntKind.i64.wrap ((f * 31 + salt * 7 + f * salt) % (m : Int)) = (f * 31 + salt * 7 + f * salt) % (m : Int) := IntWalk.i64_in _ (by omega)
  have e7 : ((m : Int) == 0) = false := by simp; omega
  have e8 : (m : Int) ≠ 0 := by omega
  clear hmm hmn
  go_enter Tryz.func128, Tryz.ntmps128
  go_wp2_with fail
  go_quiet (fail)
  go_wp2_with fail
  go_ret
  exact ⟨rfl, _, rfl⟩
end Go.Proofs.YtgdijbaodfghjaaGreatDoor
