/-
  Flows that take turns, in memory: Take.
-/
import Derived.Test.YthhgbpbaihgogaaRndPut
import Derived.Deep.LoopGhost
namespace Go.Proofs.Ythhgbpbaihgogaa
open Go.RowKit Bkt
set_option linter.unusedVariables false

theorem updf_self {α : Type} (V : Nat → α) (f : Nat) : Pl.updf V f (V f) = V := by
  funext i
  by_cases e : i = f
  · subst e; exact Pl.updf_same V i _
  · exact Pl.updf_ne V _ e
theorem updf_updf {α : Type} (V : Nat → α) (f : Nat) (u v : α) : Pl.updf (Pl.updf V f u) f v = Pl.updf V f v := by
  funext i
  by_cases e : i = f
  · subst e; rw [Pl.updf_same, Pl.updf_same]
  · rw [Pl.updf_ne _ _ e, Pl.updf_ne _ _ e, Pl.updf_ne _ _ e]
/-- behind a Take -/
def RndTakeOut (w : World) (base g : Nat) (V : Nat → Value) (tv : Value) (Q : Nat → Int) (room : Int) (R : Option Hd × Pl.RS) (b m : Int) (e : Ending) (w' : World) : Prop :=
  ∃ (h : Hd) (b' m' : Int) (cs' : Array Value) (V' : Nat → Value) (tv' : Value),
    e = .returned (.tuple #[hdV h, .slice none 0 0, .bool R.1.isSome]) ∧ (∀ x, R.1 = some x → h = x ∧ b' = b - x.it.len ∧ m' = m - 1) ∧ (R.1 = none → b' = b ∧ m' = m) ∧
    Rds w' base g cs' V' tv' Q room R.2 b' m' ∧ RTrn w w' g V tv V' tv'
/-- at the head of the loop -/
structure TkRel (w wr : World) (base g : Nat) (V : Nat → Value) (tv : Value) (Q : Nat → Int) (room : Int) (L : Nat → List Hd) (R : Option Hd × Pl.RS) (b m : Int) (tl gk : Nat) (s' : Pl.RS) (cs' : Array Value) (tv' : Value) : Prop where
  d : Rds wr base g cs' V tv' Q room s' b m
  t : RTrn w wr g V tv V tv'
  ri : Pl.RI s'
  ms : Pl.measR s' ≤ gk
  eq : Pl.takeR Q (Pl.measR s' + 1) s' = R
  L : s'.L = L
  k : Blk wr w.heap.size 54 #[.int .i64 0, .int .i64 0, .int .i64 0, .int .i64 0, .int .i64 0, .int .i64 0]
  tl : s'.T.length = tl
theorem takeR_none {Q : Nat → Int} {s : Pl.RS} {n : Nat} (h : s.T = []) : Pl.takeR Q (n + 1) s = (none, s) := by rw [Pl.takeR, h]
theorem takeR_turn {Q : Nat → Int} {s : Pl.RS} {n f : Nat} {T : List Nat} {x : Hd} {r : List Hd} (h : s.T = f :: T) (hL : s.L f = x :: r) (hc : Pl.credR Q s f < x.it.len) : Pl.takeR Q (n + 1) s = Pl.takeR Q n ⟨s.L, Pl.updf s.C f (Pl.credR Q s f), T ++ [f], false⟩ := by
  rw [Pl.takeR, h]
  dsimp only
  rw [hL]
  dsimp only
  rw [if_pos hc]
theorem takeR_out {Q : Nat → Int} {s : Pl.RS} {n f : Nat} {T : List Nat} {x : Hd} {r : List Hd} (h : s.T = f :: T) (hL : s.L f = x :: r) (hc : ¬ Pl.credR Q s f < x.it.len) :
    Pl.takeR Q (n + 1) s = (some x, ⟨Pl.updf s.L f r, Pl.updf s.C f (Pl.credR Q s f - x.it.len), if r.length = 0 then T else f :: T, if r.length = 0 then false else true⟩) := by
  rw [Pl.takeR, h]
  dsimp only
  rw [hL]
  dsimp only
  rw [if_neg hc]

/-- the turns behind the first one -/
theorem turn_tail {w : World} {base gt ot c f TN : Nat} {T' : List Nat} (h : OwnW w base 3 1 (.slice (some ⟨gt, ot, none⟩) (TN + 1) c) (TN + 1) ((tnL (f :: T')).flatMap IntR.cells)) (hn : TN ≤ 1000) :
    ∃ A' : Addr, A'.block = gt ∧ OwnW w base 3 1 (.slice (some A') TN (c - 1)) TN ((tnL T').flatMap IntR.cells) ∧
      ∀ w, (Instr.sliceAt 32 (.slice (some ⟨gt, ot, none⟩) (TN + 1) c) (some (.int .i64 1)) none none).run Try.prog w = .ok (.slice (some A') TN (c - 1)) w := by
  obtain ⟨hc1, g', o', e, ht1, ht2⟩ := h.tail (by omega)
  injection e with e; injection e with e1 e2
  subst e1 e2
  have ed : ((tnL (f :: T')).flatMap IntR.cells).drop 1 = (tnL T').flatMap IntR.cells := rfl
  rw [ed, Nat.add_sub_cancel] at ht1 ht2
  obtain ⟨i0, hi, hz0, hz1, hz2⟩ := info_parts Try.intInfo
  have hsl := run_tail1 (P := Try.prog) (s := 1) Try.underlying32 hi hz1 ⟨gt, ot, none⟩ TN c (by unfold maxLen; omega)
  refine ⟨if c = 1 then ⟨gt, ot, none⟩ else (⟨gt, ot, none⟩ : Addr).add 1, ?_, ?_, hsl⟩
  · split
    · rfl
    · rfl
  · split
    · rename_i e; exact ht1 e
    · exact ht2

set_option maxHeartbeats 8000000 in
set_option maxRecDepth 100000 in
theorem rndTake_any (base g : Nat) (cs : Array Value) (V : Nat → Value) (tv : Value) (Q : Nat → Int) (room : Int) (s : Pl.RS) (b m now : Int) (w : World) (h : Rds w base g cs V tv Q room s b m) (hi : Pl.RI s) (hQ : Pl.QOk Q)
    (hbase : base ≤ w.heap.size) (hl : ∀ f, f < 16 → HdsOk (s.L f)) (hT : s.T.length ≤ 1000) (hb : 0 ≤ b ∧ b ≤ 100000000) (hm : 0 ≤ m ∧ m ≤ 100000000) :
    Calls Try.prog 31 #[.pointer (some ⟨g, 0, none⟩), .int .i64 now] w (RndTakeOut w base g V tv Q room (Pl.takeR Q (Pl.measR s + 1) s) b m) := by
  have hgl := h.blk.lt
  have hrlt := h.rlt
  have hb0 : Below w.heap.size w (w.alloc (.cells #[.int .i64 0, .int .i64 0, .int .i64 0, .int .i64 0, .int .i64 0, .int .i64 0] 54)) := (Below.refl _ _).alloc (Nat.le_refl _) _
  obtain ⟨R, hR⟩ : ∃ R, R = Pl.takeR Q (Pl.measR s + 1) s := ⟨_, rfl⟩
  have hrel : TkRel w (w.alloc (.cells #[.int .i64 0, .int .i64 0, .int .i64 0, .int .i64 0, .int .i64 0, .int .i64 0] 54)) base g V tv Q room s.L R b m s.T.length (Pl.measR s) s cs tv :=
    ⟨h.below hb0, (RTrn.refl w g V tv).below hb0, hi, Nat.le_refl _, hR.symm, rfl, Blk.new _ _ _, rfl⟩
  rw [← hR]
  have HREL := Lib.hid hrel; have HRLT := Lib.hid hrlt; have HL := Lib.hid hl; have HQ := Lib.hid hQ
  obtain ⟨hb1, hb2⟩ := hb; obtain ⟨hm1, hm2⟩ := hm
  clear hrel hrlt hl hQ h hi hR hb0
  generalize Pl.measR s = N0 at *
  generalize s.T.length = TL at *
  generalize s.L = L at *
  have n1 : w.heap.size ≠ g := by omega
  have n2 : g ≠ w.heap.size := by omega
  go_enter Try.func31, Try.ntmps31
  go_wp2_with fail
  go_loopg [] N0 (fun gk wr => ∃ (s' : Pl.RS) (cs' : Array Value) (tv' : Value), TkRel w wr base g V tv Q room L R b m TL gk s' cs' tv')
  case atStart => exact ⟨_, _, _, HREL.out⟩
  case round =>
    clear HREL
    obtain ⟨s', cs', tv', hrel⟩ := hrel
    have HREL := Lib.hid hrel
    have y65 := hrel.d.cell hrel.d.t
    have hgr := hrel.d.blk.lt
    have hszr := hrel.t.chg.size
    obtain ⟨At, ct, hvt, _, _, hrt⟩ := hrel.d.tn.reads
    rw [hvt] at y65
    cases hTT : s'.T with
    | nil =>
      rw [hTT] at y65
      simp only [List.length_nil] at y65
      have hk := hrel.k
      obtain ⟨t0, t1, t2, t3, t4, t5, s0, s1, s2, s3, s4, s5⟩ := blk6 hk
      have hkf := blk_six hk (.int .i64 0) (.int .i64 0) (.int .i64 0) (.int .i64 0) (.int .i64 0) (.int .i64 0)
      have HKF := Lib.hid hkf
      have HTT := Lib.hid hTT
      clear hrel hvt hrt hk hkf hTT
      go_wp2_with fail
      have r0 := HKF.out.cell 0; have r1 := HKF.out.cell 1; have r2 := HKF.out.cell 2; have r3 := HKF.out.cell 3; have r4 := HKF.out.cell 4; have r5 := HKF.out.cell 5
      simp at r0 r1 r2 r3 r4 r5
      have hrw : ¬ RF V tv' w.heap.size := fun e => by
        rcases HREL.out.t.at_ _ e with e2 | e2
        · have := (HRLT.out _ e2).2; omega
        · rcases e with e | e
          · exact HREL.out.d.tn.blk_ne HREL.out.k (by decide) e
          · have := HRLT.out _ (.inr e); omega
      have hset := fun (W : World) (c : Nat) (u : Value) (hd : Rds W base g cs' V tv' Q room s' b m) => hd.setNew (p := ⟨w.heap.size, c, none⟩) n1 hrw u
      have hst := fun (W : World) (c : Nat) (u : Value) (ht : RTrn w W g V tv V tv') => ht.setNew (p := ⟨w.heap.size, c, none⟩) (Nat.le_refl _) u
      have heq := HREL.out.eq
      rw [takeR_none HTT.out] at heq
      refine bodyPost_ret (v := .tuple #[hdV Hd.zero, .slice none 0 0, .bool false]) (by simp [results, Try.results31, go_sem, hdV, Hd.zero, It.zero, r0, r1, r2, r3, r4, r5]) rfl ⟨Hd.zero, b, m, cs', V, tv', ?_⟩
      rw [← heq]
      exact ⟨rfl, fun x e => (by cases e), fun _ => ⟨rfl, rfl⟩, hset _ 5 _ (hset _ 4 _ (hset _ 3 _ (hset _ 2 _ (hset _ 1 _ (hset _ 0 _ HREL.out.d))))), hst _ 5 _ (hst _ 4 _ (hst _ 3 _ (hst _ 2 _ (hst _ 1 _ (hst _ 0 _ HREL.out.t)))))⟩
    | cons f T' =>
      have hri := hrel.ri
      have hf := (hri.ne f (by rw [hTT]; simp)).1
      have hLne := (hri.ne f (by rw [hTT]; simp)).2
      obtain ⟨x, r, hLf⟩ : ∃ x r, s'.L f = x :: r := by
        cases hq : s'.L f with
        | nil => exact absurd hq hLne
        | cons x r => exact ⟨x, r, rfl⟩
      rw [hTT] at y65
      simp only [List.length_cons] at y65
      have htl := hrel.tl
      rw [hTT, List.length_cons] at htl
      obtain ⟨TN, hTN⟩ : ∃ n, T'.length = n := ⟨_, rfl⟩
      rw [hTN] at htl y65
      subst htl
      have HTN := Lib.hid hTN
      clear hTN
      have hcr := Pl.credR_bd HQ.out hri hTT
      obtain ⟨hcr0, hcr1⟩ := hcr
      have hxb := hri.b f hf x (by rw [hLf]; simp)
      obtain ⟨hx0, hx1, hx2⟩ := hxb
      -- the first turn
      obtain ⟨gt, ot, hAt, hgt, hct⟩ : ∃ gt ot, At = some ⟨gt, ot, none⟩ ∧ gt < wr.heap.size ∧ wr.cell? ⟨gt, ot, none⟩ = some (.int .i64 f) := by
        have hrt2 : RdR IntR wr wr.heap.size At s'.T.length (tnL s'.T) := hrt
        obtain ⟨gt, ot, e, hlt⟩ := hrt2.addr (show 0 < s'.T.length by rw [hTT]; simp)
        subst e
        have ha := hrt2.all (show 0 < s'.T.length by rw [hTT]; simp) 0 (.int .i64 f) (by rw [hTT]; rfl)
        exact ⟨gt, ot, rfl, hlt, ha⟩
      subst hAt
      have y66 := hrel.d.cell hrel.d.bg
      have x66 := hrel.d.blk.frozen 66
      have HVT := Lib.hid hvt; have HTT := Lib.hid hTT; have HLF := Lib.hid hLf
      have i0 : (0 : Int) ≤ (f : Int) := by omega
      have i1 : (f : Int) < 16 := by omega
      obtain ⟨cr, hcr⟩ : ∃ cr, cr = Pl.credR Q s' f := ⟨_, rfl⟩
      rw [← hcr] at hcr0 hcr1
      have HCR := Lib.hid hcr
      have y49 := hrel.d.cell (hrel.d.c f hf); have y32 := hrel.d.cell (hrel.d.q f hf); have x49 := hrel.d.blk.frozen (49 + f)
      have hcrf : s'.beg = false → IntKind.i64.wrap (s'.C f + Q f) = cr := fun hb => by
        have e : cr = s'.C f + Q f := by rw [hcr]; unfold Pl.credR; rw [hb]; rfl
        rw [← e]; exact IntWalk.i64_in _ (by omega)
      have hcrt : s'.beg = true → s'.C f = cr := fun hb => by rw [hcr]; unfold Pl.credR; rw [if_pos hb]
      have HCF := Lib.hid hcrf; have HCT := Lib.hid hcrt
      clear hrel hvt hrt hri hLne hTT hLf hcr hcrf hcrt
      obtain ⟨sa, hsa⟩ : ∃ sa : Pl.RS, sa = ⟨s'.L, Pl.updf s'.C f cr, s'.T, true⟩ := ⟨_, rfl⟩
      have HSA := Lib.hid hsa
      clear hsa
      go_upto_region 3 with fail
      go_upto_if 26 with fail
      go_cut [] from 10 to 45 (fun wx => ∃ cs1, Rds wx base g cs1 V tv' Q room sa b m ∧ RTrn w wx g V tv V tv' ∧ Blk wx w.heap.size 54 #[.int .i64 0, .int .i64 0, .int .i64 0, .int .i64 0, .int .i64 0, .int .i64 0] ∧ gt < wx.heap.size)
      case first =>
        cases hbg : s'.beg with
        | true =>
          rw [hbg] at y66
          have hc := HCT.out hbg
          go_wp2_with fail
          go_meet
          case rel =>
            refine ⟨cs', ?_, HREL.out.t, HREL.out.k, hgt⟩
            have hd := HREL.out.d
            rw [HSA.out, ← hc, updf_self]
            rw [show (⟨s'.L, s'.C, s'.T, true⟩ : Pl.RS) = s' from by rw [← hbg]]
            exact hd
        | false =>
          rw [hbg] at y66
          have hc := HCF.out hbg
          go_upto_region 4 with fail
          have h4 := (HREL.out.d.setC hf cr).drew
          have ht4 := (HREL.out.t.set_ (49 + f) (.int .i64 cr)).drew
          have hk4 := (HREL.out.k.far (p := ⟨g, 49 + f, none⟩) n1 (.int .i64 cr)).drew
          have H4 := Lib.hid h4; have HT4 := Lib.hid ht4; have HK4 := Lib.hid hk4
          clear h4 ht4 hk4
          go_still_tail 16, (by kernel_rfl)
          change wpList _ _ _ _ _ wr.drew
          go_upto_region 5 with fail
          have hgt4 := Nat.lt_of_lt_of_le hgt (show wr.heap.size ≤ (wr.setCell ⟨g, 49 + f, none⟩ (.int .i64 cr)).drew.heap.size by simp [World.setCell, World.drew])
          generalize (wr.setCell ⟨g, 49 + f, none⟩ (.int .i64 cr)).drew = w4 at *
          have x66' := H4.out.blk.frozen 66
          have y66' := H4.out.cell H4.out.bg
          go_wp2_with fail
          go_meet
          case rel =>
            refine ⟨(cs'.setIfInBounds (49 + f) (.int .i64 cr)).setIfInBounds 66 (.bool true), ?_, HT4.out.set_ 66 (.bool true), HK4.out.far (p := ⟨g, 66, none⟩) n1 (.bool true), ?_⟩
            · rw [HSA.out]; exact H4.out.setBeg true
            · simpa [World.setCell] using hgt4
      case rest =>
        obtain ⟨cs1, h1, ht1, hk1, hgt1⟩ := hcut
        have hsaL : sa.L = s'.L := by rw [HSA.out]
        have hsaC : sa.C f = cr := by rw [HSA.out]; exact Pl.updf_same _ _ _
        have hlst := h1.lst hf
        rw [hsaL, HLF.out] at hlst
        have hlf := HL.out f hf
        rw [← HREL.out.L, HLF.out] at hlf
        have hlfn := hlf.n
        have hfst := first_some base g (f * 2) 104 cs1 (V f) x r _ wc hlst (by simp at hlfn; omega)
        have c49 := h1.cell (h1.c f hf)
        rw [hsaC] at c49
        have HFST := Lib.hid hfst; have H1 := Lib.hid h1; have HT1 := Lib.hid ht1; have HK1 := Lib.hid hk1; have HLH := Lib.hid hlf
        obtain ⟨⟨xa, xl, xf, xb, xm⟩, xn⟩ := x
        unfold PairOut hdV at HFST
        dsimp only at HFST hx0 hx1 hx2
        subst hx2
        clear hfst hlst h1 ht1 hk1 hlf hsaL hsaC y65 y66 x66 y49 y32 x49
        go_upto_region 7 with (go_at_call 44; (with_reducible refine HFST.out.mono ?_); rintro e w6 ⟨rfl, hb6⟩; have HB6 := Lib.hid hb6; clear hb6)
        have hvlt : ∀ i, RF V tv' i → i < wc.heap.size := fun i hi => (H1.out.rlt i hi).2
        have hk6 := HB6.out.size
        have hb7 : Below wc.heap.size wc (w6.alloc (.cells #[.int .i64 xa, .int .i64 xl, .int .i64 f, .int .i64 xb, .int .i64 xm, .int .i64 xn] 54)) := HB6.out.alloc hk6 _
        have hx7 := Blk.new w6 54 #[.int .i64 xa, .int .i64 xl, .int .i64 f, .int .i64 xb, .int .i64 xm, .int .i64 xn]
        have h7 := H1.out.below hb7
        have ht7 := HT1.out.below hb7
        have hk7 := HK1.out.below hb7 HK1.out.lt
        have hgt7 := Nat.lt_of_lt_of_le hgt1 hb7.size
        have hbs7 := Nat.le_trans HT1.out.chg.size hb7.size
        have c49' := (hb7.cell (p := ⟨g, 49 + f, none⟩) H1.out.blk.lt).trans c49
        have hkg : w6.heap.size ≠ g := by have := H1.out.blk.lt; omega
        have hkr : ¬ RF V tv' w6.heap.size := fun e => by have := hvlt _ e; omega
        have hkw : w6.heap.size ≠ w.heap.size := by have := HK1.out.lt; omega
        have H7 := Lib.hid h7; have HT7 := Lib.hid ht7; have HK7 := Lib.hid hk7; have HX7 := Lib.hid hx7; have HKR := Lib.hid hkr
        obtain ⟨q0, q1, q2, q3, q4, q5, _, _, _, _, _, _⟩ := blk6 hx7
        clear hvlt hb7 hx7 h7 ht7 hk7 hkr HFST H1 HT1 HK1 HB6 c49 hgt1
        generalize w6.heap.size = kx at *
        generalize w6.alloc (.cells #[.int .i64 xa, .int .i64 xl, .int .i64 f, .int .i64 xb, .int .i64 xm, .int .i64 xn] 54) = w7 at *
        go_quiet (fail)
        have HA := Lib.hid (H7.out.drewN nq); have HTA := Lib.hid (HT7.out.drewN nq); have HKA := Lib.hid (HK7.out.drewN nq); have HXA := Lib.hid (HX7.out.drewN nq)
        have hgtA : gt < (w7.drewN nq).heap.size := hgt7
        have hbsA : w.heap.size ≤ (w7.drewN nq).heap.size := hbs7
        clear H7 HT7 HK7 HX7 q0 q1 q2 q3 q4 q5 c49' hgt7 hbs7
        generalize w7.drewN nq = wA at *
        by_cases hc : cr < xl
        · have tc : decide (cr < xl) = true := by simpa using hc
          have hown := HA.out.tn
          have hsT : sa.T = f :: T' := by rw [HSA.out]; exact HTT.out
          rw [hsT, HVT.out, HREL.out.tl, List.length_cons, HTN.out] at hown
          obtain ⟨A', hA', hown', hsl⟩ := turn_tail hown (by omega)
          have hob : Value.ownBlock (.slice (some A') TN (ct - 1)) = tv'.ownBlock := by rw [HVT.out]; simp [Value.ownBlock, hA']
          have y65 := HA.out.cell HA.out.t
          rw [HVT.out, HREL.out.tl] at y65
          have hgA := HA.out.blk.lt
          have hkwA := HKA.out.lt
          have hgN : g ≠ wA.heap.size := by omega
          have hown2 : OwnW wA base 3 IntR.sz (.slice (some A') TN (ct - 1)) TN ((tnL T').flatMap IntR.cells) := hown'
          have HOWN := Lib.hid hown2; have HOB := Lib.hid hob
          clear hown hsT hown' hown2 hob
          go_upto_region 8 with fail
          go_upto_region 9 with (at_builtin; go_must (refine wpList_addW IntR rfl (.tmp 70) (.tmp 72) _ base 3 _ 8 Try.underlying32 Try.intRInfo rfl rfl _ TN (tnL T') (f : Int) _ HOWN.out rfl rfl (by show Value.slice (some ⟨wA.heap.size, 0, none⟩) 1 1 = _; simp) (int_one _) (by omega) (by omega) (by omega) ?_); intro v8 w8 h1 h2 h3; rw [HOB.out] at h2 h3; have hc8 : Chg wA w8 (fun i => tv'.ownBlock = some i) := Chg.of_grown h2 (fun i e => e.symm); have hb8 := HA.out.blk.chg hc8 (fun e => HA.out.rne g (.inl e) rfl); have z65 := (hb8.cell 65).trans HA.out.t; have x65 := hb8.frozen 65; obtain ⟨A8, c8, hv8, _, _, _⟩ := h1.reads; subst hv8; have H81 := Lib.hid h1; have H82 := Lib.hid h2; have H83 := Lib.hid h3; clear h1 h2 h3 hb8)
          have hset := HA.out.setT (T' := T' ++ [f]) H82.out (by rw [tnL_app, List.length_append, HTN.out]; exact H81.out) (H83.out.imp id fun h k hk => Nat.le_of_lt (h k hk))
          have hk8 := (HKA.out.chg hc8 (fun e => HA.out.rne _ (.inl e) (by
            exfalso
            exact HA.out.tn.blk_ne HKA.out (by decide) e))).far (p := ⟨g, 65, none⟩) n1 (.slice A8 (TN + 1) c8)
          have ht8 := HTA.out.trans hset.2
          have h8 := hset.1
          have H8 := Lib.hid h8; have HT8 := Lib.hid ht8; have HK8 := Lib.hid hk8
          clear hset hk8 ht8 h8 H81 H82 H83 hc8 z65 x65 y65
          generalize w8.setCell ⟨g, 65, none⟩ (.slice A8 (TN + 1) c8) = w9 at *
          have y66 := H8.out.cell H8.out.bg
          have x66 := H8.out.blk.frozen 66
          have hfin := H8.out.setBeg false
          have hkf := HK8.out.far (p := ⟨g, 66, none⟩) n1 (.bool false)
          have htf := HT8.out.set_ 66 (.bool false)
          have hss : (⟨sa.L, sa.C, T' ++ [f], false⟩ : Pl.RS) = ⟨s'.L, Pl.updf s'.C f (Pl.credR Q s' f), T' ++ [f], false⟩ := by rw [HSA.out, ← HCR.out]
          rw [hss] at hfin
          rw [HCR.out] at hc
          have htu := HREL.out.ri.turn HQ.out HTT.out HLF.out hc
          have hre : TkRel w (w9.setCell ⟨g, 66, none⟩ (.bool false)) base g V tv Q room L R b m (TN + 1) (Pl.measR ⟨s'.L, Pl.updf s'.C f (Pl.credR Q s' f), T' ++ [f], false⟩) ⟨s'.L, Pl.updf s'.C f (Pl.credR Q s' f), T' ++ [f], false⟩ _ _ :=
            ⟨hfin, htf, htu.1, Nat.le_refl _, by
              have he := HREL.out.eq
              rw [takeR_turn HTT.out HLF.out hc] at he
              rw [← he]
              exact Pl.takeR_fuel HQ.out _ _ _ htu.1 (by omega) htu.2, HREL.out.L, hkf, by simp [HTN.out]⟩
          have hms := Nat.lt_of_lt_of_le htu.2 HREL.out.ms
          have HRE := Lib.hid hre; have HMS := Lib.hid hms
          clear hfin hkf htf hss htu hre hms
          go_wp2_with fail
          go_roundg (Pl.measR ⟨s'.L, Pl.updf s'.C f (Pl.credR Q s' f), T' ++ [f], false⟩)
          case rel => exact ⟨_, _, _, HRE.out⟩
          case measure => exact HMS.out
        · have tc : decide (cr < xl) = false := by simpa using hc
          have hlst := HA.out.lst hf
          rw [show sa.L = s'.L by rw [HSA.out], HLF.out] at hlst
          have htot := HLH.out.tot
          obtain ⟨htot0, htot1⟩ := htot
          have hrn : r.length ≤ 1000 := by have := HLH.out.n; simp at this; omega
          have hnx := next_some base g (f * 2) 104 cs1 (V f) ⟨⟨xa, xl, f, xb, xm⟩, xn⟩ r _ wA hlst hrn htot0 (by omega) hx0 (by simp only []; omega)
          unfold hdV at hnx
          dsimp only at hnx
          have HNX := Lib.hid hnx
          clear hlst hnx
          go_upto_region 11 with (go_at_call 37; (with_reducible refine HNX.out.mono ?_); rintro e w10 ⟨rfl, v10, h10⟩; have H10 := Lib.hid h10; clear h10)
          have htc : Pl.tot (⟨⟨xa, xl, f, xb, xm⟩, xn⟩ :: r) - xl = Pl.tot r := by rw [Pl.tot_cons]; simp only []; omega
          obtain ⟨cs2, h2, ht2⟩ := HA.out.of_lst hf H10.out htc
          have hx2 := HXA.out.chg ht2.chg (by rintro (e | e); exact hkg e; exact HKR.out e)
          have hrwA : ¬ RF V tv' w.heap.size := by
            rintro (e | e)
            · exact HA.out.tn.blk_ne HKA.out (by decide) e
            · have := HRLT.out _ (.inr e); omega
          have hk2 := HKA.out.chg ht2.chg (by rintro (e | e); exact n1 e; exact hrwA e)
          have htt2 := HTA.out.trans ht2
          have hrw2 : ¬ RF (Pl.updf V f v10) tv' w.heap.size := fun e => by
            rcases ht2.at_ _ e with e2 | e2
            · exact hrwA e2
            · have := HKA.out.lt; omega
          have hkr2 : ¬ RF (Pl.updf V f v10) tv' kx := fun e => by
            rcases ht2.at_ _ e with e2 | e2
            · exact HKR.out e2
            · have := HXA.out.lt; omega
          have c49 := h2.cell (h2.c f hf)
          rw [show (⟨Pl.updf sa.L f r, sa.C, sa.T, sa.beg⟩ : Pl.RS).C f = cr by show sa.C f = cr; rw [HSA.out]; exact Pl.updf_same _ _ _] at c49
          have x49 := h2.blk.frozen (49 + f)
          obtain ⟨q0, q1, q2, q3, q4, q5, _, _, _, _, _, _⟩ := blk6 hx2
          have e49 : IntKind.i64.wrap (cr - xl) = cr - xl := IntWalk.i64_in _ (by omega)
          have h3 := (h2.setC hf (cr - xl)).drew
          have hx3 := (hx2.far (p := ⟨g, 49 + f, none⟩) hkg (.int .i64 (cr - xl))).drew
          have hk3 := (hk2.far (p := ⟨g, 49 + f, none⟩) n1 (.int .i64 (cr - xl))).drew
          have ht3 := (htt2.set_ (49 + f) (.int .i64 (cr - xl))).drew
          have H3 := Lib.hid h3; have HX3 := Lib.hid hx3; have HK3 := Lib.hid hk3; have HT3 := Lib.hid ht3; have HRW2 := Lib.hid hrw2; have HKR2 := Lib.hid hkr2
          clear h2 ht2 hx2 hk2 htt2 h3 hx3 hk3 ht3 hrw2 hkr2 hrwA htc H10 HNX HA HTA HKA HXA
          go_still_tail 13, (by kernel_rfl)
          change wpList _ _ _ _ _ w10.drew
          go_upto_region 12 with fail
          clear c49 x49 e49 q0 q1 q2 q3 q4 q5
          generalize (w10.setCell ⟨g, 49 + f, none⟩ (.int .i64 (cr - xl))).drew = w11 at *
          have y67 := H3.out.cell H3.out.by_
          have x67 := H3.out.blk.frozen 67
          have e67 : IntKind.i64.wrap (b - xl) = b - xl := IntWalk.i64_in _ (by omega)
          obtain ⟨q0, q1, q2, q3, q4, q5, _, _, _, _, _, _⟩ := blk6 HX3.out
          have h4 := (H3.out.setB (b - xl)).drew
          have hx4 := (HX3.out.far (p := ⟨g, 67, none⟩) hkg (.int .i64 (b - xl))).drew
          have hk4 := (HK3.out.far (p := ⟨g, 67, none⟩) n1 (.int .i64 (b - xl))).drew
          have ht4 := (HT3.out.set_ 67 (.int .i64 (b - xl))).drew
          have H4 := Lib.hid h4; have HX4 := Lib.hid hx4; have HK4 := Lib.hid hk4; have HT4 := Lib.hid ht4
          clear h4 hx4 hk4 ht4 H3 HX3 HK3 HT3
          go_still_tail 10, (by kernel_rfl)
          change wpList _ _ _ _ _ w11.drew
          go_upto_region 13 with fail
          clear y67 x67 e67 q0 q1 q2 q3 q4 q5
          generalize (w11.setCell ⟨g, 67, none⟩ (.int .i64 (b - xl))).drew = w12 at *
          have y68 := H4.out.cell H4.out.mn
          have x68 := H4.out.blk.frozen 68
          have e68 : IntKind.i64.wrap (m - 1) = m - 1 := IntWalk.i64_in _ (by omega)
          have h5 := H4.out.setM (m - 1)
          have hx5 := HX4.out.far (p := ⟨g, 68, none⟩) hkg (.int .i64 (m - 1))
          have hk5 := HK4.out.far (p := ⟨g, 68, none⟩) n1 (.int .i64 (m - 1))
          have ht5 := HT4.out.set_ 68 (.int .i64 (m - 1))
          have H5 := Lib.hid h5; have HX5 := Lib.hid hx5; have HK5 := Lib.hid hk5; have HT5 := Lib.hid ht5
          clear h5 hx5 hk5 ht5 H4 HX4 HK4 HT4
          go_upto_region 14 with fail
          clear y68 x68 e68
          generalize w12.setCell ⟨g, 68, none⟩ (.int .i64 (m - 1)) = w13 at *
          have hl5 := H5.out.l0 f hf
          have ho5 := H5.out.own f hf
          rw [Pl.updf_same] at hl5 ho5
          rw [show (⟨Pl.updf sa.L f r, Pl.updf sa.C f (cr - xl), sa.T, sa.beg⟩ : Pl.RS).L f = r from Pl.updf_same _ _ _] at ho5
          obtain ⟨A5, c5, hv5, _, _, _⟩ := ho5.reads
          rw [hv5] at hl5
          have hlq := len_q g (f * 2) r.length c5 A5 w13 (H5.out.cell hl5)
          have HLQ := Lib.hid hlq
          have he := HREL.out.eq
          rw [HCR.out] at hc
          rw [takeR_out HTT.out HLF.out (Int.not_lt.2 hc)] at he
          rw [← HCR.out] at hc he
          dsimp only at he
          have HE := Lib.hid he
          have y65 := H5.out.cell H5.out.t
          have x65 := H5.out.blk.frozen 65
          have hown := H5.out.tn
          have hsT : sa.T = f :: T' := by rw [HSA.out]; exact HTT.out
          have hown1 : OwnW w13 base 3 1 (.slice (some ⟨gt, ot, none⟩) (TN + 1) ct) (TN + 1) ((tnL (f :: T')).flatMap IntR.cells) := by
            have := hown
            rw [show (⟨Pl.updf sa.L f r, Pl.updf sa.C f (cr - xl), sa.T, sa.beg⟩ : Pl.RS).T = f :: T' from hsT, HVT.out, HREL.out.tl, List.length_cons, HTN.out] at this
            exact this
          rw [HVT.out, HREL.out.tl] at y65
          obtain ⟨A', hA', hown', hsl⟩ := turn_tail hown1 (by omega)
          have hob : Value.ownBlock (.slice (some A') TN (ct - 1)) = tv'.ownBlock := by rw [HVT.out]; simp [Value.ownBlock, hA']
          have hset := H5.out.setT (T' := T') (World.grownBy.refl w13 _) (by rw [HTN.out]; exact hown') (.inl hob)
          have hk6 := HK5.out.far (p := ⟨g, 65, none⟩) n1 (.slice (some A') TN (ct - 1))
          have hx6 := HX5.out.far (p := ⟨g, 65, none⟩) hkg (.slice (some A') TN (ct - 1))
          have hrw6 : ¬ RF (Pl.updf V f v10) (.slice (some A') TN (ct - 1)) w.heap.size := by
            rintro (e | e)
            · exact HRW2.out (.inl (hob ▸ e))
            · exact HRW2.out (.inr e)
          have hss : (⟨Pl.updf sa.L f r, Pl.updf sa.C f (cr - xl), T', false⟩ : Pl.RS) = ⟨Pl.updf s'.L f r, Pl.updf s'.C f (cr - xl), T', false⟩ := by rw [HSA.out, updf_updf]
          have hss2 : (⟨Pl.updf sa.L f r, Pl.updf sa.C f (cr - xl), sa.T, sa.beg⟩ : Pl.RS) = ⟨Pl.updf s'.L f r, Pl.updf s'.C f (cr - xl), f :: T', true⟩ := by rw [HSA.out, updf_updf, HTT.out]
          have HSET := Lib.hid hset; have HK6 := Lib.hid hk6; have HX6 := Lib.hid hx6; have HRW6 := Lib.hid hrw6; have HSS := Lib.hid hss; have HSS2 := Lib.hid hss2
          clear hl5 ho5 hv5 hlq he hown hsT hown1 hown' hob hset hk6 hx6 hrw6 hss hss2
          go_upto_if 121 with (go_at_call 21; (with_reducible refine HLQ.out.mono ?_); rintro e w14 ⟨rfl, rfl⟩)
          go_cut [] from 115 to 132 (fun wx => ∃ cs3 tv3, Rds wx base g cs3 (Pl.updf V f v10) tv3 Q room R.2 (b - xl) (m - 1) ∧ RTrn w wx g V tv (Pl.updf V f v10) tv3 ∧ Blk wx kx 54 #[.int .i64 xa, .int .i64 xl, .int .i64 f, .int .i64 xb, .int .i64 xm, .int .i64 xn] ∧ Blk wx w.heap.size 54 #[.int .i64 0, .int .i64 0, .int .i64 0, .int .i64 0, .int .i64 0, .int .i64 0] ∧ ¬ RF (Pl.updf V f v10) tv3 w.heap.size)
          case first =>
            by_cases h0 : r.length = 0
            · have t0 : ((r.length : Int) == 0) = true := by rw [h0]; rfl
              go_upto_region 16 with fail
              have h6 := HSET.out.1
              have ht6 := HT5.out.trans HSET.out.2
              have H6 := Lib.hid h6; have HT6 := Lib.hid ht6
              clear h6 ht6 y65 x65
              generalize w14.setCell ⟨g, 65, none⟩ (.slice (some A') TN (ct - 1)) = w15 at *
              have y66 := H6.out.cell H6.out.bg
              have x66 := H6.out.blk.frozen 66
              go_wp2_with fail
              go_meet
              case rel =>
                have hfin := H6.out.setBeg false
                have hR2 : R.2 = ⟨Pl.updf s'.L f r, Pl.updf s'.C f (cr - xl), T', false⟩ := by rw [← HE.out, if_pos h0, if_pos h0]
                rw [HSS.out, ← hR2] at hfin
                exact ⟨_, _, hfin, HT6.out.set_ 66 (.bool false), HX6.out.far (p := ⟨g, 66, none⟩) hkg (.bool false), HK6.out.far (p := ⟨g, 66, none⟩) n1 (.bool false), HRW6.out⟩
            · have t0 : ((r.length : Int) == 0) = false := by simp; intro e; rw [e] at h0; exact h0 rfl
              go_wp2_with fail
              go_meet
              case rel =>
                have hfin := H5.out
                have hR2 : R.2 = ⟨Pl.updf s'.L f r, Pl.updf s'.C f (cr - xl), f :: T', true⟩ := by rw [← HE.out, if_neg h0, if_neg h0]
                rw [HSS2.out, ← hR2] at hfin
                exact ⟨_, _, hfin, HT5.out, HX5.out, HK5.out, HRW2.out⟩
          case rest =>
            obtain ⟨cs3, tv3, h6, ht6, hx6, hk6, hrw6⟩ := hcut
            obtain ⟨q0, q1, q2, q3, q4, q5, _, _, _, _, _, _⟩ := blk6 hx6
            obtain ⟨p0, p1, p2, p3, p4, p5, s0, s1, s2, s3, s4, s5⟩ := blk6 hk6
            have hkf := blk_six hk6 (.int .i64 xa) (.int .i64 xl) (.int .i64 f) (.int .i64 xb) (.int .i64 xm) (.int .i64 xn)
            have HKF := Lib.hid hkf; have H6 := Lib.hid h6; have HT6 := Lib.hid ht6; have HRW7 := Lib.hid hrw6
            clear h6 ht6 hx6 hk6 hrw6 hkf y65 x65
            go_wp2_with fail
            have r0 := HKF.out.cell 0; have r1 := HKF.out.cell 1; have r2 := HKF.out.cell 2; have r3 := HKF.out.cell 3; have r4 := HKF.out.cell 4; have r5 := HKF.out.cell 5
            simp at r0 r1 r2 r3 r4 r5
            have hset := fun (W : World) (c : Nat) (u : Value) (hd : Rds W base g cs3 (Pl.updf V f v10) tv3 Q room R.2 (b - xl) (m - 1)) => hd.setNew (p := ⟨w.heap.size, c, none⟩) n1 HRW7.out u
            have hst := fun (W : World) (c : Nat) (u : Value) (ht : RTrn w W g V tv (Pl.updf V f v10) tv3) => ht.setNew (p := ⟨w.heap.size, c, none⟩) (Nat.le_refl _) u
            have hR1 : R.1 = some ⟨⟨xa, xl, f, xb, xm⟩, xn⟩ := by rw [← HE.out]
            refine bodyPost_ret (v := .tuple #[hdV ⟨⟨xa, xl, f, xb, xm⟩, xn⟩, .slice none 0 0, .bool true]) (by simp [results, Try.results31, go_sem, hdV, r0, r1, r2, r3, r4, r5]) rfl ⟨⟨⟨xa, xl, f, xb, xm⟩, xn⟩, b - xl, m - 1, cs3, Pl.updf V f v10, tv3, ?_⟩
            refine ⟨by rw [hR1]; rfl, fun x e => ?_, fun e => ?_, hset _ 5 _ (hset _ 4 _ (hset _ 3 _ (hset _ 2 _ (hset _ 1 _ (hset _ 0 _ H6.out))))), hst _ 5 _ (hst _ 4 _ (hst _ 3 _ (hst _ 2 _ (hst _ 1 _ (hst _ 0 _ HT6.out)))))⟩
            · rw [hR1] at e; injection e with e; subst e; exact ⟨rfl, rfl, rfl⟩
            · rw [hR1] at e; cases e
end Go.Proofs.Ythhgbpbaihgogaa
