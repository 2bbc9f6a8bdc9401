/-
  Random early detection in memory: Put.
-/
import Derived.Test.YthhgbpbaihgogaaRed
import Derived.Test.YthhgbpbaihgogaaFifoImp
import Derived.Deep.AppendLies
import Derived.Deep.CutRange
namespace Go.Proofs.Ythhgbpbaihgogaa
open Go.RowKit Bkt
set_option linter.unusedVariables false

/-- behind a Put -/
def RPutOut (w : World) (base g : Nat) (v : Value) (U : Pl.SU) (p : Pl.FP) (s : List Hd) (m M : Int) (tv : Value) (x : Hd) (e : Ending) (w' : World) : Prop :=
  ∃ (A : Option Addr) (c : Nat) (gone s' : List Hd) (v' : Value) (cs' : Array Value) (tv' : Value) (zs' : List Int),
    e = .returned (.slice A gone.length c) ∧ Pl.RPut U m (Pl.fullR p x s) x s gone s' ∧ Rmm w' base g v' cs' U p s' M tv' zs' ∧ Trn w w' g v v' ∧ zs'.length ≤ 1000 ∧ ∀ i, tv'.ownBlock = some i → tv.ownBlock = some i
/-- behind the switch -/
structure RMid (w wx : World) (base g k : Nat) (v : Value) (U : Pl.SU) (p : Pl.FP) (s : List Hd) (M m : Int) (tv : Value) (x : Hd) (hit : Bool) (cs' : Array Value) (tv' : Value) (zs' : List Int) : Prop where
  r : Rmm wx base g v cs' U p s M tv' zs'
  t : Trn w wx g v v
  z : zs'.length ≤ 1000
  tk : tv'.ownBlock ≠ some k
  tb : ∀ i, tv'.ownBlock = some i → tv.ownBlock = some i
  b : Blk wx k 54 #[.int .i64 x.it.at_, .int .i64 x.it.len, .int .i64 x.it.flow, .int .i64 x.it.band, .int .i64 x.it.mark, .int .i64 x.num]
  lo : m < U.low → hit = false
  hi : ¬ m < U.low → U.high ≤ m → hit = true
theorem RMid.put {w wx w2 : World} {base g : Nat} {v : Value} {U : Pl.SU} {p : Pl.FP} {s : List Hd} {M m : Int} {x x' : Hd} {cs' : Array Value} {tv tv' : Value} {zs' : List Int} {e : Ending} (htb : ∀ i, tv'.ownBlock = some i → tv.ownBlock = some i) (hr : Rmm wx base g v cs' U p s M tv' zs') (ht : Trn w wx g v v) (hz : zs'.length ≤ 1000) (hg : g < w.heap.size) (hv : ∀ i, v.ownBlock = some i → i < w.heap.size) (hp : p.head = false) (hn : x'.num = x.num) (hl : x'.it.len = x.it.len) (h2 : U.high ≤ m → ¬ m < U.low → U.mark = true)
    (h : FPutOut wx base g 0 63 cs' v (Pl.fputL p x' s) p e w2) : RPutOut w base g v U p s m M tv x e w2 := by
  obtain ⟨A, n, c, rfl, hrd, _, hto⟩ := h
  obtain ⟨v', cs2, hr2, ht2⟩ := hr.of_fifo hto
  have hlen := hrd.len
  subst hlen
  exact ⟨A, c, _, _, v', cs2, tv', zs', rfl, Pl.RPut.of_fput U m p hp x x' s hn hl h2, hr2, ht.trans ht2 hg (fun i hi => Nat.lt_of_lt_of_le (hv i hi) ht.chg.size), hz, htb⟩

set_option maxHeartbeats 2000000 in
set_option maxRecDepth 100000 in
theorem rput_any (base g : Nat) (v : Value) (cs : Array Value) (U : Pl.SU) (p : Pl.FP) (s : List Hd) (M : Int) (tv : Value) (zs : List Int) (now : Int) (x : Hd) (w : World) (h : Rmm w base g v cs U p s M tv zs) (hl : HdsOk s) (hl2 : s.length ≤ 900) (hx : 0 ≤ x.it.len ∧ x.it.len ≤ 10000) (hbase : base ≤ w.heap.size) (hU : Pl.SUOk U) (hz : zs.length ≤ 1000) (hp : p.head = false) (hpk : Pl.FOk p) :
    Calls Try.prog 18 #[.pointer (some ⟨g, 0, none⟩), .int .i64 now, hdV x] w (RPutOut w base g v U p s (Pl.mnOf U (Pl.nextM U (Pl.tot s) M)) (Pl.nextM U (Pl.tot s) M) tv x) := by
  have hgl := h.blk.lt
  have hbk : Blk (w.alloc (.cells #[.int .i64 x.it.at_, .int .i64 x.it.len, .int .i64 x.it.flow, .int .i64 x.it.band, .int .i64 x.it.mark, .int .i64 x.num] 54)) w.heap.size 54 #[.int .i64 x.it.at_, .int .i64 x.it.len, .int .i64 x.it.flow, .int .i64 x.it.band, .int .i64 x.it.mark, .int .i64 x.num] := Blk.new _ _ _
  have hb0 : Below w.heap.size w (w.alloc (.cells #[.int .i64 x.it.at_, .int .i64 x.it.len, .int .i64 x.it.flow, .int .i64 x.it.band, .int .i64 x.it.mark, .int .i64 x.num] 54)) := (Below.refl _ _).alloc (Nat.le_refl _) _
  have hm1 := fun W (hW : Below w.heap.size w W) => rmean_any base g v cs U p s M tv zs W (h.below hW) hU.sl
  have hvk : ∀ i, v.ownBlock = some i → i < w.heap.size := fun i hi => (h.vlt i hi).2
  have htk : ∀ i, tv.ownBlock = some i → i < w.heap.size := fun i hi => (h.tp.lt i hi).2
  have z1 := fun W (hW : Below w.heap.size w W) => (h.below hW).cell h.f.lst.c1
  have z11 := fun W (hW : Below w.heap.size w W) => (h.below hW).cell h.c11
  have x11 := fun W (hW : Below w.heap.size w W) => (h.below hW).blk.frozen 11
  have HM1 := Lib.hid hm1; have H := Lib.hid h; have HBK := Lib.hid hbk; have HB0 := Lib.hid hb0; have HVK := Lib.hid hvk; have HTK := Lib.hid htk; have HL := Lib.hid hl; have HP := Lib.hid hp; have HPK := Lib.hid hpk; have HU := Lib.hid hU
  have Z1 := Lib.hid z1; have Z11 := Lib.hid z11; have X11 := Lib.hid x11
  obtain ⟨⟨xa, xl, xf, xb, xm⟩, xn⟩ := x
  unfold hdV
  dsimp only at hx HBK HB0 ⊢
  clear hm1 h hbk hb0 hvk htk hl hp hpk hU z1 z11 x11
  go_enter Try.func18, Try.ntmps18
  go_upto_region 1 with fail
  have z1 := Z1.out _ HB0.out; have z11 := Z11.out _ HB0.out; have x11 := X11.out _ HB0.out
  have hm2 := HM1.out _ (bl_drew HB0.out)
  have HM2 := Lib.hid hm2
  clear hm2
  simp only [Nat.zero_add] at z1
  generalize w.alloc (.cells #[.int .i64 xa, .int .i64 xl, .int .i64 xf, .int .i64 xb, .int .i64 xm, .int .i64 xn] 54) = W at *
  have hnm : IntKind.i64.wrap (M + IntKind.i64.wrap (Pl.tot s - Pl.mnOf U M)) = Pl.nextM U (Pl.tot s) M := rfl
  have HNM := Lib.hid hnm
  clear hnm
  generalize Pl.tot s = b at *
  generalize Pl.mnOf U M = mn at *
  have hbq := bytes_q g 0 b W.drew (by exact z1)
  have HBQ := Lib.hid hbq
  clear hbq
  go_cut [] from 12 (fun wx => ∃ m, wx = (W.setCell ⟨g, 11, none⟩ (.int .i64 (Pl.nextM U b M))).drewN m)
  case first =>
    go_region_law ((go_simp; first | (go_at_call 22; (with_reducible refine HBQ.out.mono ?_); rintro e w' ⟨rfl, rfl⟩) | (go_at_call 19; (with_reducible refine HM2.out.mono ?_); rintro e w' ⟨rfl, mq, rfl⟩)))
    all_goals
      go_wp2_with fail
      go_meet
      case rel => exact ⟨_, by rw [← HNM.out]; rfl⟩
  case rest =>
    obtain ⟨mq, rfl⟩ := hcut
    have hr1 := ((H.out.below HB0.out).setMean (Pl.nextM U b M)).drewN mq
    have hk1 := (HBK.out.far (p := ⟨g, 11, none⟩) (by simp only []; omega) (.int .i64 (Pl.nextM U b M))).drewN mq
    have ht1 : Trn w _ g v v := (((Trn.refl w g v).below HB0.out).set_ 11 (.int .i64 (Pl.nextM U b M))).drewN mq
    generalize cs.setIfInBounds 11 (.int .i64 (Pl.nextM U b M)) = cs1 at *
    generalize (W.setCell ⟨g, 11, none⟩ (.int .i64 (Pl.nextM U b M))).drewN mq = w1 at *
    generalize Pl.nextM U b M = M1 at *
    have hm1 := rmean_any base g v cs1 U p s M1 tv zs w1 hr1 HU.out.sl
    generalize Pl.mnOf U M1 = m at *
    have HM1 := Lib.hid hm1; have HR1 := Lib.hid hr1; have HK1 := Lib.hid hk1; have HT1 := Lib.hid ht1
    clear hm1 hr1 hk1 ht1 HM2 HBQ z1 z11 x11 HNM
    go_wp2_with fail
    (with_reducible refine HM1.out.mono ?_)
    rintro e w2 ⟨rfl, mq2, rfl⟩
    have hr2 := HR1.out.drewN mq2
    have hk2 := HK1.out.drewN mq2
    have ht2 := HT1.out.drewN mq2
    generalize w1.drewN mq2 = w2 at *
    have y5 := hr2.cell hr2.c5; have y6 := hr2.cell hr2.c6; have y7 := hr2.cell hr2.c7; have x12 := hr2.blk.frozen 12
    obtain ⟨si, hsi⟩ := hr2.c12
    have y12 := hr2.cell hsi
    have HR2 := Lib.hid hr2; have HK2 := Lib.hid hk2; have HT2 := Lib.hid ht2
    clear hr2 hk2 ht2 hsi
    have hvk := HVK.out; have htk := HTK.out
    have n5 : w.heap.size ≠ g := by omega
    have hvn : v.ownBlock ≠ some w.heap.size := fun e => by have := hvk _ e; omega
    have htn : tv.ownBlock ≠ some w.heap.size := fun e => by have := htk _ e; omega
    have hvk2 : ∀ nq i, v.ownBlock = some i → i < (w2.drewN nq).heap.size := fun nq i hi => by have := hvk i hi; have h2 := HT2.out.chg.size; show i < w2.heap.size; omega
    have HVK2 := Lib.hid hvk2
    clear hvk2
    have HVN := Lib.hid hvn; have HTN := Lib.hid htn
    clear hvk htk hvn htn
    go_upto_block 0 with fail
    go_cut [7] from 9 (fun hv wx => ∃ hit cs' tv' zs', hv = .bool hit ∧ RMid w wx base g w.heap.size v U p s M1 m tv ⟨⟨xa, xl, xf, xb, xm⟩, xn⟩ hit cs' tv' zs')
    case first =>
      by_cases c1 : m < U.low
      · go_wp2_with fail
        go_meet
        case rel => exact ⟨false, _, tv, zs, rfl, HR2.out.setSince 0, HT2.out.set_ 12 _, hz, HTN.out, fun _ h => h, HK2.out.far n5 _, fun _ => rfl, fun h => absurd c1 h⟩
      · by_cases c2 : U.high ≤ m
        · go_wp2_with fail
          go_meet
          case rel => exact ⟨true, _, tv, zs, rfl, HR2.out, HT2.out, hz, HTN.out, fun _ h => h, HK2.out, fun h => absurd h (by omega), fun _ _ => rfl⟩
        · obtain ⟨q1, hq1⟩ : ∃ q, IntKind.i64.wrap (m - U.low) = q := ⟨_, rfl⟩
          obtain ⟨q2, hq2⟩ : ∃ q, IntKind.i64.wrap (U.often * q1) = q := ⟨_, rfl⟩
          obtain ⟨q3, hq3⟩ : ∃ q, IntKind.i64.wrap (U.high - U.low) = q := ⟨_, rfl⟩
          obtain ⟨q4, hq4⟩ : ∃ q, IntKind.i64.wrap (1000 * q3) = q := ⟨_, rfl⟩
          obtain ⟨q5, hq5⟩ : ∃ q, IntKind.i64.wrap (si * q2) = q := ⟨_, rfl⟩
          obtain ⟨q6, hq6⟩ : ∃ q, IntKind.i64.wrap (q4 - q5) = q := ⟨_, rfl⟩
          go_upto_region 4 with fail
          go_quiet (fail)
          go_upto_region 6 with fail
          have hdr := fun nq => rdraw_any base g v cs1 U p s M1 tv zs (w2.drewN nq) (HR2.out.drewN nq) hz
          have HDR := Lib.hid hdr
          clear hdr
          by_cases c3 : q6 ≤ 0
          · have d3 : decide (q6 ≤ 0) = true := by simpa using c3
            go_wp2_with fail
            go_meet
            case rel => exact ⟨true, _, tv, zs, rfl, (HR2.out.drewN _).setSince _, (HT2.out.drewN _).set_ 12 _, hz, HTN.out, fun _ h => h, (HK2.out.drewN _).far n5 _, fun h => absurd h (by omega), fun _ h => absurd h (by omega)⟩
          · have d3 : decide (q6 ≤ 0) = false := by simpa using c3
            go_wp2_with (go_at_call 35; (with_reducible refine (HDR.out _).mono ?_); rintro e w3 ⟨z, cs3, tv3, zs3, rfl, hr3, ht3, hz3, hb3⟩; have y12' := hr3.blk.frozen 12; obtain ⟨si3, hsi3⟩ := hr3.c12; have z12' := hr3.cell hsi3; have HR3 := Lib.hid hr3; have HT3 := Lib.hid ht3; have HB3 := Lib.hid hb3; clear hr3 ht3 hb3 hsi3)
            have ht3 := (HT2.out.drewN nq).trans HT3.out hgl (HVK2.out _)
            have hk3 := Blk.chg (HK2.out.drewN nq) HT3.out.chg (by rintro (e | e); exact n5 e; exact HVN.out e)
            go_meet
            case rel => exact ⟨_, _, tv3, zs3, rfl, HR3.out.setSince _, ht3.set_ 12 _, hz3, fun e => HTN.out (HB3.out _ e), HB3.out, hk3.far n5 _, fun h => absurd h (by omega), fun _ h => absurd h (by omega)⟩
    case rest =>
      obtain ⟨hit, cs3, tv3, zs3, rfl, hmid⟩ := hcut
      obtain ⟨hr3, ht3, hz3, htk3, htb3, hk3, hlo, hhi⟩ := hmid
      have y9 := hr3.cell hr3.c9; have x12 := hr3.blk.frozen 12
      obtain ⟨si3, hsi3⟩ := hr3.c12
      have y12 := hr3.cell hsi3
      clear hsi3
      obtain ⟨t0, t1, t2, t3, t4, t5, s0, s1, s2, s3, s4, s5⟩ := blk6 hk3
      have HR3 := Lib.hid hr3; have HT3 := Lib.hid ht3; have HK3 := Lib.hid hk3; have HTK3 := Lib.hid htk3; have HTB3 := Lib.hid htb3; have HLO := Lib.hid hlo; have HHI := Lib.hid hhi
      clear hr3 ht3 hk3 htk3 htb3 hlo hhi
      have hsz3 := HT3.out.chg.size
      cases hit with
      | true =>
        by_cases hmk : U.mark = true
        · go_upto_region 17 with fail
          have hr4 := (HR3.out.setSince 0).setNew (q := ⟨w.heap.size, 4, none⟩) n5 HVN.out HTK3.out (.int .i64 255)
          have hk4 : Blk _ w.heap.size 54 #[.int .i64 xa, .int .i64 xl, .int .i64 xf, .int .i64 xb, .int .i64 255, .int .i64 xn] := (HK3.out.far (p := ⟨g, 12, none⟩) n5 (.int .i64 0)).set_ 4 (.int .i64 255)
          have ht4 := (HT3.out.set_ 12 (.int .i64 0)).setNew (p := ⟨w.heap.size, 4, none⟩) (Nat.le_refl _) (.int .i64 255)
          generalize cs3.setIfInBounds 12 (.int .i64 0) = cs4 at *
          generalize (wc.setCell ⟨g, 12, none⟩ (.int .i64 0)).setCell ⟨w.heap.size, 4, none⟩ (.int .i64 255) = w4 at *
          have hsz4 := ht4.chg.size
          have hx3 := fput_all base g 0 63 cs4 v s p now ⟨⟨xa, xl, xf, xb, 255⟩, xn⟩ w4.drew (hr4.drewN 1).f HL.out hx (by show base ≤ w4.heap.size; omega) (by omega) HPK.out
          obtain ⟨r0, r1, r2, r3, r4, r5, _, _, _, _, _, _⟩ := blk6 hk4
          unfold hdV at hx3
          have HX3 := Lib.hid hx3; have HR4 := Lib.hid hr4; have HT4 := Lib.hid ht4
          clear hx3 hr4 hk4 ht4 t0 t1 t2 t3 t4 t5 s0 s1 s2 s3 s4 s5 y9 x12 y12
          go_still_tail 5, (by kernel_rfl)
          change wpList _ _ _ _ _ w4.drew
          go_wp2_with fail
          (with_reducible refine HX3.out.mono ?_)
          rintro e w5 h5
          have hfin := RMid.put (m := m) (x := ⟨⟨xa, xl, xf, xb, xm⟩, xn⟩) (x' := ⟨⟨xa, xl, xf, xb, 255⟩, xn⟩) HTB3.out (HR4.out.drewN 1) (HT4.out.drewN 1) hz3 hgl HVK.out HP.out rfl rfl (fun _ _ => hmk) h5
          have HFIN := Lib.hid hfin
          obtain ⟨A5, n5', c5, rfl, _, _, _⟩ := h5
          clear hfin
          go_wp2_with fail
          go_ret
          exact HFIN.out
        · have hmk' : U.mark = false := by simpa using hmk
          go_wp2_with fail
          go_ret
          exact ⟨_, 1, [⟨⟨xa, xl, xf, xb, xm⟩, xn⟩], s, v, _, tv3, zs3, rfl, Pl.RPut.of_hit U m _ _ _ s hmk' (fun h => by cases HLO.out h), (HR3.out.setSince 0).below ((Below.refl _ _).alloc (Nat.le_refl _) _), (HT3.out.set_ 12 _).alloc _, hz3, HTB3.out⟩
      | false =>
        have hx3 := fput_all base g 0 63 cs3 v s p now ⟨⟨xa, xl, xf, xb, xm⟩, xn⟩ wc.drew (HR3.out.drewN 1).f HL.out hx (by show base ≤ wc.heap.size; omega) (by omega) HPK.out
        unfold hdV at hx3
        have HX3 := Lib.hid hx3
        clear hx3
        go_upto_region 17 with fail
        go_still_tail 5, (by kernel_rfl)
        change wpList _ _ _ _ _ wc.drew
        go_wp2_with fail
        (with_reducible refine HX3.out.mono ?_)
        rintro e w5 h5
        have hfin := RMid.put (m := m) (x := ⟨⟨xa, xl, xf, xb, xm⟩, xn⟩) HTB3.out (HR3.out.drewN 1) (HT3.out.drewN 1) hz3 hgl HVK.out HP.out rfl rfl (fun (h1 : U.high ≤ m) (h2 : ¬ m < U.low) => by cases HHI.out (by omega) h1) h5
        have HFIN := Lib.hid hfin
        obtain ⟨A5, n5', c5, rfl, _, _, _⟩ := h5
        clear hfin
        go_wp2_with fail
        go_ret
        exact HFIN.out
end Go.Proofs.Ythhgbpbaihgogaa
