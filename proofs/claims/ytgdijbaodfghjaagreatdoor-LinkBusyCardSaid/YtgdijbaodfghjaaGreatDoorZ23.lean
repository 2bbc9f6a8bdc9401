/-
  Texts of this claim, one behind the other: CodTakes, CodImp, CodNo, Rnd.
-/
import Derived.Test.YtgdijbaodfghjaaGreatDoorZ22
import Derived.Test.YtgdijbaodfghjaaGreatDoorZ14
/-
  Controlled delay in memory: Take, walked.
-/
namespace Go.Proofs.YtgdijbaodfghjaaGreatDoor
open Go.RowKit Bkt
set_option linter.unusedVariables false

theorem Tl.start {w w1 : World} {base g : Nat} {v v1 : Value} {cs1 : Array Value} {P : Pl.DP} {D1 : Pl.DS} (hgl : g < w.heap.size) (hv : ∀ i, v.ownBlock = some i → i < w.heap.size)
    (hd : Dmm w1 base g v1 cs1 P D1) (ht : Trn (w.alloc (.cells #[.int .i64 0, .int .i64 0, .int .i64 0, .int .i64 0, .int .i64 0, .int .i64 0] 78)) w1 g v v1) : Tl w w1 base g v v1 cs1 P D1 Hd.zero (.slice none 0 0) [] := by
  have hb0 : Below w.heap.size w (w.alloc (.cells #[.int .i64 0, .int .i64 0, .int .i64 0, .int .i64 0, .int .i64 0, .int .i64 0] 78)) := (Below.refl _ _).alloc (Nat.le_refl _) _
  refine ⟨hd, ht.behind hb0, (Blk.new w _ _).chg ht.chg ?_, OwnW.nil _ _ _ _, by simp [Value.ownBlock], fun i hi => by simp [Value.ownBlock] at hi, fun e => ?_, hgl⟩
  · rintro (e | e)
    · omega
    · have := hv _ e; omega
  · rcases ht.at_ with e2 | e2
    · have := hv _ (e2 ▸ e); omega
    · have := e2 _ e; simp at this; omega

theorem dropD_step (P : Pl.DP) (now : Int) (s : List Hd) (x : Hd) (lost : List Hd) (a nx c : Int) (h : nx ≤ now) (q : Option Hd × Bool × Pl.DS) (hq : q = Pl.pullD P now ⟨s, a, true, nx, c + 1⟩) :
    Pl.dropD P now s x lost a nx c = if q.2.1 = false then (q.1, lost ++ [x], ⟨q.2.2.s, q.2.2.above, false, q.2.2.next, q.2.2.count⟩) else Pl.dropD P now q.2.2.s (q.1.getD Hd.zero) (lost ++ [x]) q.2.2.above (Pl.lawD P q.2.2.count q.2.2.next) q.2.2.count := by
  subst hq
  cases s with
  | nil =>
    unfold Pl.dropD Pl.pullD
    rw [if_pos h]
    rfl
  | cons y r =>
    have hp : Pl.pullD P now ⟨y :: r, a, true, nx, c + 1⟩ = if now - y.it.at_ < P.target ∨ r.length = 0 then (some y, false, ⟨r, -1, true, nx, c + 1⟩) else if a < 0 then (some y, false, ⟨r, now + P.span, true, nx, c + 1⟩) else (some y, decide (a ≤ now), ⟨r, a, true, nx, c + 1⟩) := rfl
    rw [Pl.dropD, if_pos h]
    by_cases c1 : now - y.it.at_ < P.target ∨ r.length = 0
    · rw [if_pos c1] at hp
      rw [if_pos c1, hp]
      rfl
    · rw [if_neg c1] at hp
      rw [if_neg c1]
      by_cases c2 : a < 0
      · rw [if_pos c2] at hp
        rw [if_pos c2, hp]
        rfl
      · rw [if_neg c2] at hp
        rw [if_neg c2, hp]
        by_cases c3 : a ≤ now
        · rw [if_pos c3, decide_eq_true c3]
          rfl
        · rw [if_neg c3, decide_eq_false c3]
          rfl
structure Rl (w wr : World) (base g : Nat) (v : Value) (P : Pl.DP) (now : Int) (k N : Nat) (R : Option Hd × List Hd × Pl.DS) (lo ok : Value) (lost : List Hd) (xo : Option Hd) (D : Pl.DS) (v' : Value) (cs' : Array Value) : Prop where
  tl : Tl w wr base g v v' cs' P D (xo.getD Hd.zero) lo lost
  ok : ok = .bool xo.isSome
  hs : HsOk D.s
  dk : Pl.DOk P k D
  ln : lost.length ≤ N
  st : (D.drop = true ∧ ∃ x, xo = some x ∧ R = Pl.dropD P now D.s x lost D.above D.next D.count ∧ lost.length + 1 + D.s.length = N ∧ D.count + D.s.length + 1 ≤ k) ∨ (D.drop = false ∧ R = (xo, lost, D))
theorem dropD_end {P : Pl.DP} {now : Int} {s : List Hd} {x : Hd} {lost : List Hd} {a nx c : Int} (h : now < nx) : Pl.dropD P now s x lost a nx c = (some x, lost, ⟨s, a, true, nx, c⟩) := by
  cases s with
  | nil => unfold Pl.dropD; rw [if_neg (by omega)]
  | cons y r => unfold Pl.dropD; rw [if_neg (by omega)]

set_option maxHeartbeats 4000000 in
set_option maxRecDepth 100000 in
theorem dtake_any (base g : Nat) (v : Value) (cs : Array Value) (P : Pl.DP) (D : Pl.DS) (now : Int) (k : Nat) (w : World) (h : Dmm w base g v cs P D) (hl : HsOk D.s) (hP : Pl.DPOk P) (hn : 0 ≤ now ∧ now ≤ 1000000000) (hok : Pl.DOk P k D) (hk : k ≤ 1000) (hbase : base ≤ w.heap.size) :
    Calls Tryz.prog 119 #[.pointer (some ⟨g, 0, none⟩), .int .i64 now] w (DTakeOut w base g v P (Pl.takeD P now D)) := by
  have hgl := h.blk.lt
  have hv := fun i hi => (h.vlt i hi).2
  have hb0 : Below w.heap.size w (w.alloc (.cells #[.int .i64 0, .int .i64 0, .int .i64 0, .int .i64 0, .int .i64 0, .int .i64 0] 78)) := (Below.refl _ _).alloc (Nat.le_refl _) _
  have hpull := pulls_any base g v cs P D now _ (h.below hb0) hl.h hP hn hl.a hok.ab
  have hsame := pullD_same P now D
  have hok1 := hok.pull hP hn
  have hl1 := hl.pull (P := P) (now := now)
  have htk : Pl.takeD P now D = Pl.takeD P now D := rfl
  have HPULL := Lib.hid hpull; have HSAME := Lib.hid hsame; have HOK1 := Lib.hid hok1; have HL1 := Lib.hid hl1; have HV := Lib.hid hv; have HP := Lib.hid hP
  have HBAD := Lib.hid (Pl.pullD_bad (P := P) (now := now) (D := D))
  obtain ⟨hn0, hn1⟩ := hn
  have htk2 : ∀ R, R = Pl.takeD P now D → DTakeOut w base g v P R = DTakeOut w base g v P (Pl.takeD P now D) := fun R hR => by rw [hR]
  obtain ⟨R, hR⟩ : ∃ R, R = Pl.takeD P now D := ⟨_, rfl⟩
  rw [← hR]
  have HR := Lib.hid hR
  obtain ⟨pd, hpd⟩ : ∃ pd, pd = Pl.pullD P now D := ⟨_, rfl⟩
  rw [← hpd] at HPULL HSAME HOK1 HL1 HBAD
  have HPD := Lib.hid hpd
  clear h hpull hsame hok1 hl1 hv hP htk htk2 hR hpd hok hl hb0
  obtain ⟨xo, bad, D1⟩ := pd
  have n5 : g ≠ w.heap.size := by omega
  have n6 : w.heap.size ≠ g := by omega
  go_enter Tryz.func119, Tryz.ntmps119
  go_wp2_with fail
  (with_reducible refine HPULL.out.mono ?_)
  rintro e w1 ⟨ya, yl, yf, yb, ym, yn, v1, cs1, rfl, hy, hd1, ht1⟩
  have hl1 := Tl.start hgl HV.out hd1 ht1
  have hk0 : Blk w1 w.heap.size 78 #[.int .i64 0, .int .i64 0, .int .i64 0, .int .i64 0, .int .i64 0, .int .i64 0] := hl1.k
  obtain ⟨f0, f1, f2, f3, f4, f5, z0, z1, z2, z3, z4, z5⟩ := blk6 hk0
  clear hk0
  have HL := Lib.hid (hl1.six ⟨⟨ya, yl, yf, yb, ym⟩, yn⟩); have HY := Lib.hid hy
  clear hd1 ht1 hl1 hy
  dsimp only at HY HOK1 HL1 HSAME HBAD HL
  go_upto_if 15 with fail
  generalize (((((w1.setCell ⟨w.heap.size, 0, none⟩ (Value.int .i64 ya)).setCell ⟨w.heap.size, 1, none⟩ (.int .i64 yl)).setCell ⟨w.heap.size, 2, none⟩ (.int .i64 yf)).setCell ⟨w.heap.size, 3, none⟩ (.int .i64 yb)).setCell ⟨w.heap.size, 4, none⟩ (.int .i64 ym)).setCell ⟨w.heap.size, 5, none⟩ (.int .i64 yn) = w6 at *
  clear f0 f1 f2 f3 f4 f5 z0 z1 z2 z3 z4 z5
  have hk0 : Blk w6 w.heap.size 78 #[.int .i64 ya, .int .i64 yl, .int .i64 yf, .int .i64 yb, .int .i64 ym, .int .i64 yn] := HL.out.k
  obtain ⟨f0, f1, f2, f3, f4, f5, z0, z1, z2, z3, z4, z5⟩ := blk6 hk0
  clear hk0
  have y8 := HL.out.d.cell HL.out.d.c8; have x8 := HL.out.d.blk.frozen 8
  cases xo with
  | none =>
    have hR : R = (none, [], ⟨D1.s, D1.above, false, D1.next, D1.count⟩) := by
      rw [HR.out]
      unfold Pl.takeD
      rw [← HPD.out]
    have HR2 := Lib.hid hR
    clear hR
    go_wp2_with fail
    refine bodyPost_as fun Wf hWf => ?_
    obtain ⟨hkf, hout⟩ := Tl.out (wf := Wf) (HL.out.setDrop false) none HY.out R HR2.out hWf
    clear hWf
    obtain ⟨r0, r1, r2, r3, r4, r5, _, _, _, _, _, _⟩ := blk6 hkf
    exact bodyPost_ret (v := .tuple #[hdV ⟨⟨ya, yl, yf, yb, ym⟩, yn⟩, .slice none 0 0, .bool false]) (by simp [results, Tryz.results119, go_sem, hdV, r0, r1, r2, r3, r4, r5]) rfl hout
  | some x =>
    have hx : x = ⟨⟨ya, yl, yf, yb, ym⟩, yn⟩ := HY.out
    subst hx
    obtain ⟨s1, s2, s3⟩ := HSAME.out
    have HS1 := Lib.hid s1
    cases hdr : D.drop with
    | true =>
      rw [hdr] at s1
      rw [s1] at y8
      have HDR := Lib.hid hdr
      clear s1 s2 s3 hdr
      cases bad with
      | false =>
        have hR : R = (some ⟨⟨ya, yl, yf, yb, ym⟩, yn⟩, [], ⟨D1.s, D1.above, false, D1.next, D1.count⟩) := by
          rw [HR.out]
          unfold Pl.takeD
          rw [← HPD.out]
          dsimp only
          rw [if_pos HDR.out, if_pos rfl]
        have HR2 := Lib.hid hR
        clear hR
        go_wp2_with fail
        refine bodyPost_as fun Wf hWf => ?_
        obtain ⟨hkf, hout⟩ := Tl.out (wf := Wf) (HL.out.setDrop false) (some _) HY.out R HR2.out hWf
        clear hWf
        obtain ⟨r0, r1, r2, r3, r4, r5, _, _, _, _, _, _⟩ := blk6 hkf
        exact bodyPost_ret (v := .tuple #[hdV ⟨⟨ya, yl, yf, yb, ym⟩, yn⟩, .slice none 0 0, .bool true]) (by simp [results, Tryz.results119, go_sem, hdV, r0, r1, r2, r3, r4, r5]) rfl hout
      | true =>
        have hR : R = Pl.dropD P now D1.s ⟨⟨ya, yl, yf, yb, ym⟩, yn⟩ [] D1.above D1.next D1.count := by
          rw [HR.out]
          unfold Pl.takeD
          rw [← HPD.out]
          dsimp only
          rw [if_pos HDR.out, if_neg (by decide)]
        obtain ⟨g1, g2⟩ := HOK1.out
        have hrl : Rl w w6 base g v P now k (1 + D1.s.length) R (.slice none 0 0) (.bool true) [] (some ⟨⟨ya, yl, yf, yb, ym⟩, yn⟩) D1 v1 cs1 :=
          ⟨HL.out, rfl, HL1.out, g1, by simp, .inl ⟨HS1.out.trans HDR.out, _, rfl, hR, by simp, g2 rfl⟩⟩
        have HRL := Lib.hid hrl
        have hN : 1 + D1.s.length ≤ 1001 := by have := HL1.out.h.n; omega
        clear hR g1 g2 hrl f0 f1 f2 f3 f4 f5 z0 z1 z2 z3 z4 z5 x8 HL HPD HR HBAD HPULL HSAME HOK1 HL1 HY HDR HS1
        generalize 1 + D1.s.length = N at *
        go_wp2_with fail
        clear y8
        go_loopw [5, 6] (fun lo ok wr => ∃ lost xo D' v' cs', Rl w wr base g v P now k N R lo ok lost xo D' v' cs') (fun lo _ _ => N - sliceLen lo)
        case atStart => exact ⟨_, _, _, _, _, HRL.out⟩
        case round =>
          clear HRL
          obtain ⟨lost, xo, ⟨s', a', dr', nx', ct'⟩, v', cs', hrl⟩ := hrel
          obtain ⟨rfl⟩ := hrl.ok
          obtain ⟨Al, cl, hlo, _, _, _⟩ := hrl.tl.o.reads
          subst hlo
          obtain ⟨⟨⟨xa, xl, xf, xb, xm⟩, xn⟩, hxx⟩ : ∃ x, xo.getD Hd.zero = x := ⟨_, rfl⟩
          have ht := hrl.tl
          rw [hxx] at ht
          have hk0 : Blk wr w.heap.size 78 #[.int .i64 xa, .int .i64 xl, .int .i64 xf, .int .i64 xb, .int .i64 xm, .int .i64 xn] := ht.k
          obtain ⟨f0, f1, f2, f3, f4, f5, z0, z1, z2, z3, z4, z5⟩ := blk6 hk0
          have y8 := ht.d.cell ht.d.c8; have y9 := ht.d.cell ht.d.c9
          dsimp only at y8 y9
          have HRL := Lib.hid hrl; have HT := Lib.hid ht; have HY := Lib.hid hxx
          clear hk0 hrl ht hxx
          rcases HRL.out.st with ⟨hd, x, hx, hR, hln, hck⟩ | ⟨hd, hR⟩
          · dsimp only at hd hR hln hck
            subst hd hx
            have hx2 : x = ⟨⟨xa, xl, xf, xb, xm⟩, xn⟩ := HY.out
            subst hx2
            by_cases hnx : nx' ≤ now
            · have HRR := Lib.hid hR
              clear hR
              have d9 : decide (nx' ≤ now) = true := by simpa using hnx
              have hszr := HT.out.sz
              have hdk := HRL.out.dk
              have hct := hdk.ct
              have hln2 := HRL.out.ln
              have hhs := HRL.out.hs
              dsimp only at hct hhs
              have hsn := hhs.h.n
              have hdk1 : Pl.DOk P k ⟨s', a', true, nx', ct' + 1⟩ := ⟨hdk.ab, hdk.nx, by simp only []; omega, by simp only []; omega⟩
              have hok2 := hdk1.pull HP.out ⟨hn0, hn1⟩
              have hl2 := hhs.pull (P := P) (now := now) (D := ⟨s', a', true, nx', ct' + 1⟩)
              have hst := dropD_step P now s' ⟨⟨xa, xl, xf, xb, xm⟩, xn⟩ lost a' nx' ct' hnx _ rfl
              have hbad := Pl.pullD_bad (P := P) (now := now) (D := ⟨s', a', true, nx', ct' + 1⟩)
              have hsame := pullD_same P now ⟨s', a', true, nx', ct' + 1⟩
              have hall := Pl.pullD_all P now ⟨s', a', true, nx', ct' + 1⟩
              have hab := hdk.ab
              dsimp only at hab
              have hln3 : lost.length ≤ 1000 := by omega
              have HDK := Lib.hid hdk; have HOK2 := Lib.hid hok2; have HL2 := Lib.hid hl2; have HST := Lib.hid (HRR.out.trans hst); have HBAD2 := Lib.hid hbad; have HSAME2 := Lib.hid hsame; have HALL := Lib.hid hall; have HHS := Lib.hid hhs; have HAB := Lib.hid hab
              clear hdk hhs hdk1 hok2 hl2 hst hbad hsame hall hab
              go_upto_region 11 with (at_builtin; go_must (refine wpList_addW HdR rfl (.tmp 50) (.tmp 52) _ w.heap.size 78 _ 48 Tryz.underlying76 Tryz.heldInfo rfl rfl _ lost.length lost ⟨⟨xa, xl, xf, xb, xm⟩, xn⟩ _ HT.out.o rfl rfl (by show Value.slice (some ⟨wr.heap.size, 0, none⟩) 1 1 = _; simp) (hd_one _) (by omega) (by omega) hszr ?_); intro v8 w8 h1 h2 h3; have hl8 := Tl.push HT.out h1 h2 h3; have y10 := hl8.d.cell hl8.d.c10; have x10 := hl8.d.blk.frozen 10; dsimp only at y10; have HL8 := Lib.hid hl8; clear h1 h2 h3 hl8)
              have hl9 := HL8.out.setCount (ct' + 1)
              clear y10 x10
              generalize w8.setCell ⟨g, 10, none⟩ (.int .i64 (ct' + 1)) = w9 at *
              dsimp only at hl9
              have hpull2 := pulls_any base g v' _ P ⟨s', a', true, nx', ct' + 1⟩ now w9 hl9.d HHS.out.h HP.out ⟨hn0, hn1⟩ HHS.out.a HAB.out
              have HPULL2 := Lib.hid hpull2; have HL9 := Lib.hid hl9
              clear hpull2 hl9 f0 f1 f2 f3 f4 f5 z0 z1 z2 z3 z4 z5 y8 y9
              generalize Pl.pullD P now ⟨s', a', true, nx', ct' + 1⟩ = pd2 at *
              obtain ⟨xo2, bad2, D2⟩ := pd2
              go_wp2_with fail
              (with_reducible refine HPULL2.out.mono ?_)
              rintro e wq ⟨za, zl, zf, zb, zm, zn, v2, cs2, rfl, hy2, hd2, ht2⟩
              have hlq := HL9.out.pull hd2 ht2
              have hkq : Blk wq w.heap.size 78 #[.int .i64 xa, .int .i64 xl, .int .i64 xf, .int .i64 xb, .int .i64 xm, .int .i64 xn] := hlq.k
              obtain ⟨f0, f1, f2, f3, f4, f5, z0, z1, z2, z3, z4, z5⟩ := blk6 hkq
              have HL10 := Lib.hid (hlq.six ⟨⟨za, zl, zf, zb, zm⟩, zn⟩); have HY2 := Lib.hid hy2
              clear hkq hlq hd2 ht2 hy2
              dsimp only at HY2 HOK2 HST HL10 HBAD2 HSAME2 HALL
              go_upto_if 69 with fail
              generalize (((((wq.setCell ⟨w.heap.size, 0, none⟩ (Value.int .i64 za)).setCell ⟨w.heap.size, 1, none⟩ (.int .i64 zl)).setCell ⟨w.heap.size, 2, none⟩ (.int .i64 zf)).setCell ⟨w.heap.size, 3, none⟩ (.int .i64 zb)).setCell ⟨w.heap.size, 4, none⟩ (.int .i64 zm)).setCell ⟨w.heap.size, 5, none⟩ (.int .i64 zn) = w10 at *
              clear f0 f1 f2 f3 f4 f5 z0 z1 z2 z3 z4 z5
              have y8 := HL10.out.d.cell HL10.out.d.c8; have x8 := HL10.out.d.blk.frozen 8; have y9 := HL10.out.d.cell HL10.out.d.c9; have x9 := HL10.out.d.blk.frozen 9
              obtain ⟨s2, a2, dr2, nx2, ct2⟩ := D2
              dsimp only at y8 y9 HL10 HOK2 HST HBAD2 HSAME2 HALL HL2
              obtain ⟨Ar, cr, hv8, _, _, _⟩ := HL10.out.o.reads
              rw [List.length_append, List.length_singleton] at hv8
              cases bad2 with
              | false =>
                have hrl2 : Rl w (w10.setCell ⟨g, 8, none⟩ (.bool false)) base g v P now k N R v8 (.bool xo2.isSome) (lost ++ [⟨⟨xa, xl, xf, xb, xm⟩, xn⟩]) xo2 ⟨s2, a2, false, nx2, ct2⟩ v2 (cs2.setIfInBounds 8 (.bool false)) := by
                  have h1 := HL10.out.setDrop false
                  have h2 := HOK2.out.1
                  refine ⟨by rw [HY2.out]; exact h1, rfl, HL2.out, ⟨h2.ab, h2.nx, h2.ct, h2.ck⟩, by simp; omega, .inr ⟨rfl, ?_⟩⟩
                  rw [HST.out, if_pos rfl]
                have HRL2 := Lib.hid hrl2
                clear hrl2
                subst hv8
                go_wp2_with fail
                go_roundw
                case rel => exact ⟨_, _, _, _, _, HRL2.out⟩
                case measure => simp [sliceLen]; omega
              | true =>
                obtain ⟨x2, r2, hs', hx2, _, hD2, _⟩ := HBAD2.out rfl
                have hx3 : x2 = ⟨⟨za, zl, zf, zb, zm⟩, zn⟩ := by have := HY2.out; rw [hx2] at this; exact this
                subst hx2 hx3
                obtain ⟨sm1, sm2, sm3⟩ := HSAME2.out
                have hal : s2.length + 1 = s'.length := by
                  have := congrArg List.length HALL.out
                  simp at this
                  omega
                have hks := HOK2.out.2 rfl
                have hk1 := HOK2.out.1
                have hkn := hk1.nx; have hkc := hk1.ck
                dsimp only at hks hkn hkc
                have hsp := HP.out.sp
                have y6 := HL10.out.d.cell HL10.out.d.c6; have y10 := HL10.out.d.cell HL10.out.d.c10
                have hlaw := law_any g P ct2 nx2 w10 y6 y10 ⟨by omega, by omega⟩ ⟨by omega, by omega⟩ ⟨by omega, by omega⟩
                have hlb := Pl.lawD_bd (P := P) (c := ct2) (a := nx2) ⟨by omega, by omega⟩ (by omega)
                have hR3 : R = Pl.dropD P now s2 ⟨⟨za, zl, zf, zb, zm⟩, zn⟩ (lost ++ [⟨⟨xa, xl, xf, xb, xm⟩, xn⟩]) a2 (Pl.lawD P ct2 nx2) ct2 := by
                  rw [HST.out, if_neg (by decide)]
                  rfl
                have hrl2 : ∀ wz, Tl w wz base g v v2 (cs2.setIfInBounds 9 (.int .i64 (Pl.lawD P ct2 nx2))) P ⟨s2, a2, dr2, Pl.lawD P ct2 nx2, ct2⟩ ⟨⟨za, zl, zf, zb, zm⟩, zn⟩ v8 (lost ++ [⟨⟨xa, xl, xf, xb, xm⟩, xn⟩]) →
                    Rl w wz base g v P now k N R v8 (.bool true) (lost ++ [⟨⟨xa, xl, xf, xb, xm⟩, xn⟩]) (some ⟨⟨za, zl, zf, zb, zm⟩, zn⟩) ⟨s2, a2, dr2, Pl.lawD P ct2 nx2, ct2⟩ v2 (cs2.setIfInBounds 9 (.int .i64 (Pl.lawD P ct2 nx2))) := fun wz hz => by
                  refine ⟨hz, rfl, HL2.out, ⟨hk1.ab, ⟨by simp only []; omega, by simp only []; omega⟩, hk1.ct, hk1.ck⟩, by simp; omega, .inl ⟨sm1, _, rfl, hR3, by simp; omega, hks⟩⟩
                have HRL2 := Lib.hid hrl2; have HLAW := Lib.hid hlaw
                clear hrl2 hlaw hR3 hlb hk1 hal sm1 sm2 sm3 hD2 hs' y6 y10
                generalize Pl.lawD P ct2 nx2 = lw at *
                subst hv8
                go_wp2_with (go_at_call 121; (with_reducible refine HLAW.out.mono ?_); rintro e wu ⟨rfl, hbu⟩; have hlu := HL10.out.below hbu; have y9 := hlu.d.cell hlu.d.c9; have x9 := hlu.d.blk.frozen 9; have HLU := Lib.hid hlu; clear hlu hbu)
                go_roundw
                case rel =>
                  (repeat apply Exists.intro)
                  refine ⟨⟨_, _, _, _, _, HRL2.out _ (HLU.out.setNext lw)⟩, ?_⟩
                  rfl
                case measure => simp [sliceLen]; omega
            · have hR2 : R = (some ⟨⟨xa, xl, xf, xb, xm⟩, xn⟩, lost, ⟨s', a', true, nx', ct'⟩) := by rw [hR, dropD_end (by omega)]
              have HR2 := Lib.hid hR2
              clear hR hR2
              go_wp2_with fail
              refine bodyPost_as fun Wf hWf => ?_
              obtain ⟨hkf, hout⟩ := Tl.out (wf := Wf) HT.out (some (⟨⟨xa, xl, xf, xb, xm⟩, xn⟩ : Hd)) HY.out R HR2.out hWf
              clear hWf
              obtain ⟨r0, r1, r2, r3, r4, r5, _, _, _, _, _, _⟩ := blk6 hkf
              exact bodyPost_ret (v := .tuple #[hdV ⟨⟨xa, xl, xf, xb, xm⟩, xn⟩, .slice Al lost.length cl, .bool (some (⟨⟨xa, xl, xf, xb, xm⟩, xn⟩ : Hd)).isSome]) (by simp [results, Tryz.results119, go_sem, hdV, r0, r1, r2, r3, r4, r5]) rfl hout
          · dsimp only at hd hR
            subst hd
            have HR2 := Lib.hid hR
            clear hR
            go_wp2_with fail
            refine bodyPost_as fun Wf hWf => ?_
            obtain ⟨hkf, hout⟩ := Tl.out (wf := Wf) HT.out xo HY.out R HR2.out hWf
            clear hWf
            obtain ⟨r0, r1, r2, r3, r4, r5, _, _, _, _, _, _⟩ := blk6 hkf
            exact bodyPost_ret (v := .tuple #[hdV ⟨⟨xa, xl, xf, xb, xm⟩, xn⟩, .slice Al lost.length cl, .bool xo.isSome]) (by simp [results, Tryz.results119, go_sem, hdV, r0, r1, r2, r3, r4, r5]) rfl hout
    | false =>
      rw [hdr] at s1
      rw [s1] at y8
      have HDR := Lib.hid hdr
      clear s1 s2 s3 hdr
      cases bad with
      | false =>
        have hR : R = (some ⟨⟨ya, yl, yf, yb, ym⟩, yn⟩, [], D1) := by
          rw [HR.out]
          unfold Pl.takeD
          rw [← HPD.out]
          dsimp only
          rw [if_neg (by rw [HDR.out]; decide), if_neg (by decide)]
        have HR2 := Lib.hid hR
        clear hR
        go_wp2_with fail
        refine bodyPost_as fun Wf hWf => ?_
        obtain ⟨hkf, hout⟩ := Tl.out (wf := Wf) HL.out (some _) HY.out R HR2.out hWf
        clear hWf
        obtain ⟨r0, r1, r2, r3, r4, r5, _, _, _, _, _, _⟩ := blk6 hkf
        exact bodyPost_ret (v := .tuple #[hdV ⟨⟨ya, yl, yf, yb, ym⟩, yn⟩, .slice none 0 0, .bool true]) (by simp [results, Tryz.results119, go_sem, hdV, r0, r1, r2, r3, r4, r5]) rfl hout
      | true =>
        have hsz6 := HL.out.sz
        go_wp2_with (at_builtin; go_must (refine wpList_addW HdR rfl (.tmp 84) (.tmp 86) _ w.heap.size 78 _ 48 Tryz.underlying76 Tryz.heldInfo rfl rfl _ 0 [] ⟨⟨ya, yl, yf, yb, ym⟩, yn⟩ _ HL.out.o rfl rfl (by show Value.slice (some ⟨w6.heap.size, 0, none⟩) 1 1 = _; simp) (hd_one _) (by omega) (by omega) hsz6 ?_); intro v8 w8 h1 h2 h3; have hl8 := Tl.push HL.out h1 h2 h3; have HL8 := Lib.hid hl8; clear h1 h2 h3 hl8)
        obtain ⟨g1, g2⟩ := HOK1.out
        have hpull2 := pulls_any base g v1 cs1 P D1 now w8 HL8.out.d HL1.out.h HP.out ⟨hn0, hn1⟩ HL1.out.a g1.ab
        have hok2 := g1.pull HP.out ⟨hn0, hn1⟩
        have hl2 := HL1.out.pull (P := P) (now := now)
        have HPULL2 := Lib.hid hpull2; have HOK2 := Lib.hid hok2
        have HTD : Hid (R = ((Pl.pullD P now D1).1, [⟨⟨ya, yl, yf, yb, ym⟩, yn⟩], ⟨(Pl.pullD P now D1).2.2.s, (Pl.pullD P now D1).2.2.above, true, Pl.lawD P (Pl.cntD P now (Pl.pullD P now D1).2.2) now, Pl.cntD P now (Pl.pullD P now D1).2.2⟩)) := by
          apply Lib.hid
          rw [HR.out]
          unfold Pl.takeD
          rw [← HPD.out]
          dsimp only
          rw [if_neg (by rw [HDR.out]; decide), if_pos rfl]
        clear g1 g2 hpull2 hok2 hl2 f0 f1 f2 f3 f4 f5 z0 z1 z2 z3 z4 z5 y8 x8
        generalize Pl.pullD P now D1 = pd2 at *
        obtain ⟨xo2, bad2, D2⟩ := pd2
        have hk8 : Blk w8 w.heap.size 78 #[.int .i64 ya, .int .i64 yl, .int .i64 yf, .int .i64 yb, .int .i64 ym, .int .i64 yn] := HL8.out.k
        (with_reducible refine HPULL2.out.mono ?_)
        rintro e w9 ⟨za, zl, zf, zb, zm, zn, v2, cs2, rfl, hy2, hd2, ht2⟩
        have hl9 := HL8.out.pull hd2 ht2
        have hk9 : Blk w9 w.heap.size 78 #[.int .i64 ya, .int .i64 yl, .int .i64 yf, .int .i64 yb, .int .i64 ym, .int .i64 yn] := hl9.k
        obtain ⟨f0, f1, f2, f3, f4, f5, z0, z1, z2, z3, z4, z5⟩ := blk6 hk9
        have HL10 := Lib.hid (hl9.six ⟨⟨za, zl, zf, zb, zm⟩, zn⟩); have HY2 := Lib.hid hy2
        clear hk8 hk9 hl9 hd2 ht2 hy2
        dsimp only at HY2 HOK2 HTD HL10
        go_upto_region 18 with fail
        generalize (((((w9.setCell ⟨w.heap.size, 0, none⟩ (Value.int .i64 za)).setCell ⟨w.heap.size, 1, none⟩ (.int .i64 zl)).setCell ⟨w.heap.size, 2, none⟩ (.int .i64 zf)).setCell ⟨w.heap.size, 3, none⟩ (.int .i64 zb)).setCell ⟨w.heap.size, 4, none⟩ (.int .i64 zm)).setCell ⟨w.heap.size, 5, none⟩ (.int .i64 zn) = w10 at *
        clear f0 f1 f2 f3 f4 f5 z0 z1 z2 z3 z4 z5
        have y8 := HL10.out.d.cell HL10.out.d.c8; have x8 := HL10.out.d.blk.frozen 8
        go_upto_region 19 with fail
        have HL11 := Lib.hid (HL10.out.setDrop true)
        clear y8 x8
        generalize w10.setCell ⟨g, 8, none⟩ (.bool true) = w11 at *
        have y6 := HL11.out.d.cell HL11.out.d.c6; have y9 := HL11.out.d.cell HL11.out.d.c9; have y10 := HL11.out.d.cell HL11.out.d.c10; have x9 := HL11.out.d.blk.frozen 9; have x10 := HL11.out.d.blk.frozen 10
        have hsp := HP.out.sp
        have hnx := HOK2.out.1.nx
        have hct := HOK2.out.1.ct
        have hck := HOK2.out.1.ck
        dsimp only at y6 y9 y10
        obtain ⟨s2, ab2, dr2, nx2, ct2⟩ := D2
        dsimp only at hnx hct hck y6 y9 y10
        have hcnt : Pl.cntD P now ⟨s2, ab2, dr2, nx2, ct2⟩ = if 2 < ct2 ∧ now - nx2 < 16 * P.span then ct2 - 2 else 1 := rfl
        have HCNT := Lib.hid hcnt
        clear hcnt
        dsimp only at HL11 HTD
        have e1 : IntKind.i64.wrap (now - nx2) = now - nx2 := IntWalk.i64_in _ (by omega)
        have e2 : IntKind.i64.wrap (16 * P.span) = 16 * P.span := IntWalk.i64_in _ (by omega)
        by_cases c1 : 2 < ct2
        · have d1 : decide (2 < ct2) = true := by simpa using c1
          by_cases c2 : now - nx2 < 16 * P.span
          · have d2 : decide (now - nx2 < 16 * P.span) = true := by simpa using c2
            go_quiet (fail)
            go_upto_region 22 with fail
            have hl12 := (HL11.out.below (w' := w11.drewN nq) ⟨rfl, rfl, rfl, Nat.le_refl _, fun _ _ => rfl⟩).setCount (ct2 - 2)
            have HL12 := Lib.hid hl12
            clear hl12 y6 y9 y10 x9 x10
            generalize (w11.drewN nq).setCell ⟨g, 10, none⟩ (.int .i64 (ct2 - 2)) = w12 at *
            have y6 := HL12.out.d.cell HL12.out.d.c6; have y10 := HL12.out.d.cell HL12.out.d.c10
            have hlaw := law_any g P (ct2 - 2) now w12 y6 y10 ⟨by omega, by omega⟩ ⟨by omega, by omega⟩ ⟨hn0, by omega⟩
            have HLAW := Lib.hid hlaw
            clear hlaw y6 y10
            dsimp only at HL12
            have hR : R = (xo2, [⟨⟨ya, yl, yf, yb, ym⟩, yn⟩], ⟨s2, ab2, true, Pl.lawD P (ct2 - 2) now, ct2 - 2⟩) := by
              rw [HTD.out, HCNT.out, if_pos ⟨c1, c2⟩]
            have HR2 := Lib.hid hR
            clear hR
            generalize Pl.lawD P (ct2 - 2) now = lw at *
            go_wp2_with (go_at_call 121; (with_reducible refine HLAW.out.mono ?_); rintro e w13 ⟨rfl, hb13⟩; have hl13 := HL12.out.below hb13; have y9 := hl13.d.cell hl13.d.c9; have x9 := hl13.d.blk.frozen 9; (have hk13 : Blk w13 w.heap.size 78 #[.int .i64 za, .int .i64 zl, .int .i64 zf, .int .i64 zb, .int .i64 zm, .int .i64 zn] := hl13.k); obtain ⟨f0, f1, f2, f3, f4, f5, z0, z1, z2, z3, z4, z5⟩ := blk6 hk13; have HL13 := Lib.hid hl13; clear hl13 hk13 hb13)
            refine bodyPost_as fun Wf hWf => ?_
            obtain ⟨hkf, hout⟩ := Tl.out (wf := Wf) (HL13.out.setNext lw) xo2 HY2.out R HR2.out hWf
            clear hWf
            obtain ⟨r0, r1, r2, r3, r4, r5, _, _, _, _, _, _⟩ := blk6 hkf
            exact bodyPost_ret (v := .tuple #[hdV ⟨⟨za, zl, zf, zb, zm⟩, zn⟩, v8, .bool xo2.isSome]) (by simp [results, Tryz.results119, go_sem, hdV, r0, r1, r2, r3, r4, r5]) rfl hout
          · have d2 : decide (now - nx2 < 16 * P.span) = false := by simpa using c2
            go_quiet (fail)
            go_upto_region 22 with fail
            have hl12 := (HL11.out.below (w' := w11.drewN nq) ⟨rfl, rfl, rfl, Nat.le_refl _, fun _ _ => rfl⟩).setCount (1)
            have HL12 := Lib.hid hl12
            clear hl12 y6 y9 y10 x9 x10
            generalize (w11.drewN nq).setCell ⟨g, 10, none⟩ (.int .i64 (1)) = w12 at *
            have y6 := HL12.out.d.cell HL12.out.d.c6; have y10 := HL12.out.d.cell HL12.out.d.c10
            have hlaw := law_any g P (1) now w12 y6 y10 ⟨by omega, by omega⟩ ⟨by omega, by omega⟩ ⟨hn0, by omega⟩
            have HLAW := Lib.hid hlaw
            clear hlaw y6 y10
            dsimp only at HL12
            have hR : R = (xo2, [⟨⟨ya, yl, yf, yb, ym⟩, yn⟩], ⟨s2, ab2, true, Pl.lawD P (1) now, 1⟩) := by
              rw [HTD.out, HCNT.out, if_neg (by omega)]
            have HR2 := Lib.hid hR
            clear hR
            generalize Pl.lawD P (1) now = lw at *
            go_wp2_with (go_at_call 121; (with_reducible refine HLAW.out.mono ?_); rintro e w13 ⟨rfl, hb13⟩; have hl13 := HL12.out.below hb13; have y9 := hl13.d.cell hl13.d.c9; have x9 := hl13.d.blk.frozen 9; (have hk13 : Blk w13 w.heap.size 78 #[.int .i64 za, .int .i64 zl, .int .i64 zf, .int .i64 zb, .int .i64 zm, .int .i64 zn] := hl13.k); obtain ⟨f0, f1, f2, f3, f4, f5, z0, z1, z2, z3, z4, z5⟩ := blk6 hk13; have HL13 := Lib.hid hl13; clear hl13 hk13 hb13)
            refine bodyPost_as fun Wf hWf => ?_
            obtain ⟨hkf, hout⟩ := Tl.out (wf := Wf) (HL13.out.setNext lw) xo2 HY2.out R HR2.out hWf
            clear hWf
            obtain ⟨r0, r1, r2, r3, r4, r5, _, _, _, _, _, _⟩ := blk6 hkf
            exact bodyPost_ret (v := .tuple #[hdV ⟨⟨za, zl, zf, zb, zm⟩, zn⟩, v8, .bool xo2.isSome]) (by simp [results, Tryz.results119, go_sem, hdV, r0, r1, r2, r3, r4, r5]) rfl hout
        · have d1 : decide (2 < ct2) = false := by simpa using c1
          go_quiet (fail)
          go_upto_region 22 with fail
          have hl12 := (HL11.out.below (w' := w11.drewN nq) ⟨rfl, rfl, rfl, Nat.le_refl _, fun _ _ => rfl⟩).setCount (1)
          have HL12 := Lib.hid hl12
          clear hl12 y6 y9 y10 x9 x10
          generalize (w11.drewN nq).setCell ⟨g, 10, none⟩ (.int .i64 (1)) = w12 at *
          have y6 := HL12.out.d.cell HL12.out.d.c6; have y10 := HL12.out.d.cell HL12.out.d.c10
          have hlaw := law_any g P (1) now w12 y6 y10 ⟨by omega, by omega⟩ ⟨by omega, by omega⟩ ⟨hn0, by omega⟩
          have HLAW := Lib.hid hlaw
          clear hlaw y6 y10
          dsimp only at HL12
          have hR : R = (xo2, [⟨⟨ya, yl, yf, yb, ym⟩, yn⟩], ⟨s2, ab2, true, Pl.lawD P (1) now, 1⟩) := by
            rw [HTD.out, HCNT.out, if_neg (by omega)]
          have HR2 := Lib.hid hR
          clear hR
          generalize Pl.lawD P (1) now = lw at *
          go_wp2_with (go_at_call 121; (with_reducible refine HLAW.out.mono ?_); rintro e w13 ⟨rfl, hb13⟩; have hl13 := HL12.out.below hb13; have y9 := hl13.d.cell hl13.d.c9; have x9 := hl13.d.blk.frozen 9; (have hk13 : Blk w13 w.heap.size 78 #[.int .i64 za, .int .i64 zl, .int .i64 zf, .int .i64 zb, .int .i64 zm, .int .i64 zn] := hl13.k); obtain ⟨f0, f1, f2, f3, f4, f5, z0, z1, z2, z3, z4, z5⟩ := blk6 hk13; have HL13 := Lib.hid hl13; clear hl13 hk13 hb13)
          refine bodyPost_as fun Wf hWf => ?_
          obtain ⟨hkf, hout⟩ := Tl.out (wf := Wf) (HL13.out.setNext lw) xo2 HY2.out R HR2.out hWf
          clear hWf
          obtain ⟨r0, r1, r2, r3, r4, r5, _, _, _, _, _, _⟩ := blk6 hkf
          exact bodyPost_ret (v := .tuple #[hdV ⟨⟨za, zl, zf, zb, zm⟩, zn⟩, v8, .bool xo2.isSome]) (by simp [results, Tryz.results119, go_sem, hdV, r0, r1, r2, r3, r4, r5]) rfl hout
end Go.Proofs.YtgdijbaodfghjaaGreatDoor

/-
  Controlled delay is its machine; its making.
-/
namespace Go.Proofs.YtgdijbaodfghjaaGreatDoor
open Go.RowKit Bkt
set_option linter.unusedVariables false

theorem del_put_meth (g : Nat) : Meth (.iface 101 (.pointer (some ⟨g, 0, none⟩))) "Put" 109 (.pointer (some ⟨g, 0, none⟩)) := by
  intro args w; kernel_rfl
theorem del_take_meth (g : Nat) : Meth (.iface 101 (.pointer (some ⟨g, 0, none⟩))) "Take" 119 (.pointer (some ⟨g, 0, none⟩)) := by
  intro args w; kernel_rfl
theorem del_when_meth (g : Nat) : Meth (.iface 101 (.pointer (some ⟨g, 0, none⟩))) "When" 111 (.pointer (some ⟨g, 0, none⟩)) := by
  intro args w; kernel_rfl
theorem del_len_meth (g : Nat) : Meth (.iface 101 (.pointer (some ⟨g, 0, none⟩))) "Len" 108 (.pointer (some ⟨g, 0, none⟩)) := by
  intro args w; kernel_rfl
theorem del_bytes_meth (g : Nat) : Meth (.iface 101 (.pointer (some ⟨g, 0, none⟩))) "Bytes" 107 (.pointer (some ⟨g, 0, none⟩)) := by
  intro args w; kernel_rfl

structure DInvM (base g : Nat) (P : Pl.DP) (D : Pl.DS) (k : Nat) (F : Nat → Prop) (w : World) (v : Value) (cs : Array Value) : Prop where
  d : Dmm w base g v cs P D
  dk : Pl.DOk P k D
  hs : HsOk D.s
  bs : base ≤ w.heap.size
  k1 : k ≤ 1000
  bg : base ≤ g
  mF : ∀ i, F i ↔ (i = g ∨ v.ownBlock = some i)
def DInv1 (base g : Nat) (P : Pl.DP) (D : Pl.DS) (k : Nat) (F : Nat → Prop) (w : World) : Prop := ∃ v cs, DInvM base g P D k F w v cs
section
variable {w w' : World} {base g k : Nat} {P : Pl.DP} {D D' : Pl.DS} {F : Nat → Prop} {v v' : Value} {cs cs' : Array Value}
theorem DInvM.to (h : DInvM base g P D k F w v cs) (hd : Dmm w' base g v' cs' P D') (ht : Trn w w' g v v') {k' : Nat} (hk : k' ≤ 1000) (dk : Pl.DOk P k' D') (hs : HsOk D'.s) :
    ∃ F', DInv1 base g P D' k' F' w' ∧ Chg w w' F ∧ ∀ i, F' i → F i ∨ w.heap.size ≤ i := by
  refine ⟨fun i => i = g ∨ v'.ownBlock = some i, ⟨v', cs', hd, dk, hs, Nat.le_trans h.bs ht.chg.size, hk, h.bg, fun i => Iff.rfl⟩, ht.chg.mono (fun i _ hi => (h.mF i).2 hi), fun i hi => ?_⟩
  rcases hi with e | e
  · exact .inl ((h.mF i).2 (.inl e))
  · rcases ht.at_ with e2 | e2
    · exact .inl ((h.mF i).2 (.inr (e2 ▸ e)))
    · exact .inr (e2 i e)
theorem DInvM.chg {S : Nat → Prop} (h : DInvM base g P D k F w v cs) (hc : Chg w w' S) (hn : ∀ i, F i → ¬ S i) : DInvM base g P D k F w' v cs :=
  ⟨h.d.chg hc (hn _ ((h.mF _).2 (.inl rfl))) (fun i hi => hn _ ((h.mF _).2 (.inr hi))), h.dk, h.hs, Nat.le_trans h.bs hc.size, h.k1, h.bg, h.mF⟩
theorem DInvM.lt (h : DInvM base g P D k F w v cs) : ∀ i, F i → base ≤ i ∧ i < w.heap.size := fun i hi => by
  rcases (h.mF i).1 hi with e | e
  · subst e; exact ⟨h.bg, h.d.blk.lt⟩
  · exact h.d.vlt i e
theorem DInvM.sk (h : DInvM base g P D k F w v cs) : D.s.length ≤ k := by have := h.dk.ck; have := h.dk.ct; omega
end
theorem del_imp (base g : Nat) (P : Pl.DP) (hP : Pl.DPOk P) : QImp (Pl.delM P) (.iface 101 (.pointer (some ⟨g, 0, none⟩))) base (DInv1 base g P) where
  lt := fun s k F w ⟨v, cs, h⟩ => h.lt
  base := fun s k F w ⟨v, cs, h⟩ => h.bs
  chg := fun s k F w w' S ⟨v, cs, h⟩ hc hn => ⟨v, cs, h.chg hc hn⟩
  put := ⟨_, _, del_put_meth g, fun s k F w now x ⟨v, cs, h⟩ hk hx => by
    have hxl := okB_len hx.ok
    have hxa := (okB_fine.1 hx.ok).f0
    have hn := h.sk
    refine (fput_all base g 0 123 cs v s.s P.p now x w h.d.f h.hs.h hxl h.bs (by omega) hP.p).mono fun e w' ho => ?_
    obtain ⟨A, n, c, e1, hr, ha, hf⟩ := ho
    obtain ⟨v', cs', hd, ht⟩ := h.d.of_fifo hf
    have hl := fput_lens P.p x s.s
    have hm := fput_mem P.p x s.s
    obtain ⟨F', g1, g2, g3⟩ := h.to hd ht (k' := k + 1) (by omega) (h.dk.put x) ⟨⟨by simp only []; omega, fun y hy => by
      rcases hm y (.inr hy) with e | e
      · exact h.hs.h.b y e
      · subst e; exact hxl⟩, fun y hy => by
      rcases hm y (.inr hy) with e | e
      · exact h.hs.a y e
      · subst e; exact hxa⟩
    exact ⟨A, n, c, F', e1, by have := hr.len; omega, hr, fun ad e => .inr (ha ad e), g1, g2, g3⟩⟩
  take := ⟨_, _, del_take_meth g, fun s k F w now ⟨v, cs, h⟩ h0 h1 => by
    have hn := h.sk; have hk := h.k1
    refine (dtake_any base g v cs P s now k w h.d h.hs hP ⟨h0, h1⟩ h.dk hk h.bs).mono fun e w' ho => ?_
    obtain ⟨hh, A, c, v', cs', e1, e2, hr, ha, hd, ht⟩ := ho
    have hall := Pl.takeD_all P now s
    have hlen := congrArg List.length hall
    rw [List.length_append, List.length_append] at hlen
    obtain ⟨F', g1, g2, g3⟩ := h.to hd ht hk (h.dk.take hP ⟨h0, h1⟩) (h.hs.sub (by omega) (fun y hy => by rw [← hall]; exact List.mem_append_right _ (List.mem_append_right _ hy)))
    exact ⟨hh, A, _, c, F', e1, e2, by show (Pl.takeD P now s).2.1.length ≤ 100000; omega, hr, fun ad e => .inr (ha ad e), g1, g2, g3⟩⟩
  when_ := ⟨_, _, del_when_meth g, fun s k F w now ⟨v, cs, h⟩ _ _ => by
    refine (fwhen_any base g 0 123 cs v s.s P.p now w h.d.f h.hs.h.n).mono fun e w' ⟨e1, e2⟩ => ?_
    subst e2
    refine ⟨now, F, ?_, ?_, ⟨v, cs, h⟩, Chg.refl _ _, fun i hi => .inl hi⟩
    · rw [e1]
      show Ending.returned (.tuple #[.int .i64 now, .bool (decide (0 < s.s.length))]) = .returned (.tuple #[.int .i64 now, .bool (if 0 < s.s.length then some now else none).isSome])
      by_cases h0 : 0 < s.s.length
      · rw [if_pos h0, decide_eq_true h0]; rfl
      · rw [if_neg h0, decide_eq_false h0]; rfl
    · intro x hx
      have hx' : (if 0 < s.s.length then some now else none) = some x := hx
      by_cases h0 : 0 < s.s.length
      · rw [if_pos h0] at hx'; injection hx'
      · rw [if_neg h0] at hx'; cases hx'⟩
  len := ⟨_, _, del_len_meth g, fun s k F w ⟨v, cs, h⟩ => by
    obtain ⟨A, c, rfl, hnc, _, _⟩ := h.d.f.lst.own.reads
    exact (len_any g 0 s.s.length c A w ((h.d.f.lst.blk.cell 0).trans h.d.f.lst.c0)).mono fun e w' ⟨e1, e2⟩ => ⟨e1, by subst e2; exact Below.refl _ _⟩⟩
  bytes := ⟨_, _, del_bytes_meth g, fun s k F w ⟨v, cs, h⟩ =>
    (bytes_any g 0 (Pl.tot s.s) w ((h.d.f.lst.blk.cell 1).trans h.d.f.lst.c1)).mono fun e w' ⟨e1, e2⟩ => ⟨e1, by subst e2; exact Below.refl _ _⟩⟩

def NewDelOut (w : World) (P : Pl.DP) (e : Ending) (w' : World) : Prop :=
  ∃ g v cs, e = .returned (.tuple #[.pointer (some ⟨g, 0, none⟩), .nilIface]) ∧ w.heap.size ≤ g ∧ Below w.heap.size w w' ∧ Dmm w' w.heap.size g v cs P ⟨[], -1, false, 0, 0⟩ ∧ v = .slice none 0 0
set_option maxHeartbeats 1000000 in
set_option maxRecDepth 100000 in
theorem newDelay_yes (P : Pl.DP) (w : World) (hP : Pl.DPOk P) (h1 : P.p.room = 1000000) (h2 : P.p.head = false) :
    Calls Tryz.prog 35 #[.int .i64 P.target, .int .i64 P.span, .int .i64 P.p.packets] w (NewDelOut w P) := by
  have hnf := newFifo_yes P.p w hP.p
  rw [h1, h2] at hnf
  obtain ⟨ht0, ht1⟩ := hP.tg
  obtain ⟨hs0, hs1⟩ := hP.sp
  have HN := Lib.hid hnf
  have H1 := Lib.hid h1; have H2 := Lib.hid h2
  clear hnf hP h1 h2
  go_enter Tryz.func35, Tryz.ntmps35
  go_wp2_with fail
  (with_reducible refine HN.out.mono ?_)
  rintro e w1 ⟨g, rfl, hg, hb1, hf⟩
  rw [H1.out, H2.out] at hf
  have hk := hf.lst.blk
  have z0 := hk.cell 0; have z1 := hk.cell 1; have z2 := hk.cell 2; have z3 := hk.cell 3; have z4 := hk.cell 4
  simp at z0 z1 z2 z3 z4
  have HB1 := Lib.hid hb1; have HF := Lib.hid hf
  clear hb1 hf hk
  go_wp2_with fail
  go_ret2
  have hsz := HB1.out.size
  refine ⟨w1.heap.size, .slice none 0 0, _, rfl, hsz, HB1.out.alloc hsz _, ⟨⟨⟨Blk.new _ _ _, rfl, rfl, OwnW.nil _ _ _ _, by decide⟩, rfl, ?_, ?_⟩, rfl, rfl, rfl, rfl, rfl, rfl⟩, rfl⟩
  · rw [H1.out]; rfl
  · rw [H2.out]; rfl
end Go.Proofs.YtgdijbaodfghjaaGreatDoor

/-
  Controlled delay: what its making refuses.
-/
namespace Go.Proofs.YtgdijbaodfghjaaGreatDoor
open Go.RowKit Bkt
set_option linter.unusedVariables false

def NewDelNo (w : World) (e : Ending) (w' : World) : Prop := (∃ k : Int, e = .returned (.tuple #[.pointer none, .iface 69 (.int .i64 k)])) ∧ Below w.heap.size w w'
set_option maxHeartbeats 1000000 in
set_option maxRecDepth 100000 in
theorem newDelay_bad (tg sp pk : Int) (w : World) (hp : pk < 0 ∨ 1000000 < pk) :
    Calls Tryz.prog 35 #[.int .i64 tg, .int .i64 sp, .int .i64 pk] w (NewDelNo w) := by
  have hnf := newFifo_no pk 1000000 false w (by omega)
  have HN := Lib.hid hnf
  clear hnf hp
  go_enter Tryz.func35, Tryz.ntmps35
  go_wp2_with fail
  (with_reducible refine HN.out.mono ?_)
  rintro e w1 hno
  unfold NewFifoNo at hno
  obtain ⟨⟨k, rfl⟩, rfl⟩ := hno
  go_wp2_with fail
  go_ret2
  exact ⟨⟨_, rfl⟩, Below.refl _ _⟩
set_option maxHeartbeats 1000000 in
set_option maxRecDepth 100000 in
theorem newDelay_no (tg sp pk : Int) (w : World) (hp : 0 ≤ pk ∧ pk ≤ 1000000) (hno : tg < 0 ∨ (¬ tg < 0 ∧ 1000000 < tg) ∨ (¬ tg < 0 ∧ ¬ 1000000 < tg ∧ sp < 1) ∨ (¬ tg < 0 ∧ ¬ 1000000 < tg ∧ ¬ sp < 1 ∧ 1000000 < sp)) :
    Calls Tryz.prog 35 #[.int .i64 tg, .int .i64 sp, .int .i64 pk] w (NewDelNo w) := by
  have hnf := newFifo_yes ⟨pk, 1000000, false⟩ w ⟨hp, by simp only []; omega⟩
  have HN := Lib.hid hnf; have HNO := Lib.hid hno
  clear hnf hp hno
  go_enter Tryz.func35, Tryz.ntmps35
  go_wp2_with fail
  (with_reducible refine HN.out.mono ?_)
  rintro e w1 ⟨g, rfl, hg, hb1, hf⟩
  have HB1 := Lib.hid hb1
  clear hb1 hf
  have hno := HNO.out
  clear HNO HN
  rcases hno with c1 | ⟨c1, c2⟩ | ⟨c1, c2, c3⟩ | ⟨c1, c2, c3, c4⟩
  all_goals
    go_wp2_with fail
    go_ret2
    exact ⟨⟨_, rfl⟩, HB1.out⟩
end Go.Proofs.YtgdijbaodfghjaaGreatDoor

/-
  Flows that take turns, in memory: their block, and what a store, or a list's method, makes of it.
-/
namespace Go.Proofs.YtgdijbaodfghjaaGreatDoor
open Go.RowKit Bkt
set_option linter.unusedVariables false

def RF (V : Nat → Value) (tv : Value) (i : Nat) : Prop := tv.ownBlock = some i ∨ ∃ f, f < 16 ∧ (V f).ownBlock = some i
def tnL (T : List Nat) : List Int := T.map fun f : Nat => (f : Int)
theorem tnL_len (T : List Nat) : (tnL T).length = T.length := by simp [tnL]
theorem tnL_app (T : List Nat) (f : Nat) : tnL (T ++ [f]) = tnL T ++ [(f : Int)] := by simp [tnL]
structure Rds (w : World) (base g : Nat) (cs : Array Value) (V : Nat → Value) (tv : Value) (Q : Nat → Int) (room : Int) (s : Pl.RS) (b m : Int) : Prop where
  blk : Blk w g 148 cs
  sz : cs.size = 69
  l0 : ∀ f, f < 16 → cs[f * 2]? = some (V f)
  l1 : ∀ f, f < 16 → cs[f * 2 + 1]? = some (.int .i64 (Pl.tot (s.L f)))
  own : ∀ f, f < 16 → OwnW w base 78 HdR.sz (V f) (s.L f).length ((s.L f).flatMap HdR.cells)
  ne : ∀ i j, i < 16 → j < 16 → i ≠ j → ∀ k, (V i).ownBlock = some k → (V j).ownBlock ≠ some k
  q : ∀ f, f < 16 → cs[32 + f]? = some (.int .i64 (Q f))
  rm : cs[48]? = some (.int .i64 room)
  c : ∀ f, f < 16 → cs[49 + f]? = some (.int .i64 (s.C f))
  t : cs[65]? = some tv
  bg : cs[66]? = some (.bool s.beg)
  by_ : cs[67]? = some (.int .i64 b)
  mn : cs[68]? = some (.int .i64 m)
  tn : OwnW w base 3 1 tv s.T.length ((tnL s.T).flatMap IntR.cells)
structure RTrn (w w' : World) (g : Nat) (V : Nat → Value) (tv : Value) (V' : Nat → Value) (tv' : Value) : Prop where
  chg : Chg w w' (fun i => i = g ∨ RF V tv i)
  at_ : ∀ i, RF V' tv' i → RF V tv i ∨ w.heap.size ≤ i
theorem OwnW.ne_of {w : World} {base e1 e2 s1 s2 n1 n2 : Nat} {v1 v2 : Value} {x1 x2 : List Value} (h1 : OwnW w base e1 s1 v1 n1 x1) (h2 : OwnW w base e2 s2 v2 n2 x2) (hne : e2 ≠ e1) : ∀ k, v1.ownBlock = some k → v2.ownBlock ≠ some k := by
  intro k hk
  rcases h1.2 with ⟨rfl, _⟩ | ⟨g, o, c, cur, rfl, hb, hg, _⟩
  · simp [Value.ownBlock] at hk
  · have e : g = k := by simpa [Value.ownBlock] using hk
    subst e
    exact h2.blk_ne hg hne
section
variable {w w' w'' : World} {base g : Nat} {V V' V'' : Nat → Value} {tv tv' tv'' : Value} {cs : Array Value} {Q : Nat → Int} {room : Int} {s : Pl.RS} {b m : Int}
theorem RTrn.refl (w : World) (g : Nat) (V : Nat → Value) (tv : Value) : RTrn w w g V tv V tv := ⟨Chg.refl _ _, fun i hi => .inl hi⟩
theorem RTrn.trans (h : RTrn w w' g V tv V' tv') (h' : RTrn w' w'' g V' tv' V'' tv'') : RTrn w w'' g V tv V'' tv'' := by
  refine ⟨h.chg.trans h'.chg (fun i hi hs => ?_), fun i hi => ?_⟩
  · rcases hs with e | e
    · exact .inl e
    · rcases h.at_ i e with e2 | e2
      · exact .inr e2
      · omega
  · rcases h'.at_ i hi with e | e
    · exact h.at_ i e
    · exact .inr (Nat.le_trans h.chg.size e)
theorem RTrn.below (h : RTrn w w' g V tv V' tv') (hb : Below w'.heap.size w' w'') : RTrn w w'' g V tv V' tv' := ⟨h.chg.trans (Chg.of_below hb) (fun i _ hs => hs), h.at_⟩
theorem RTrn.behind (hb : Below w.heap.size w w') (h : RTrn w' w'' g V tv V' tv') : RTrn w w'' g V tv V' tv' := ⟨(Chg.of_below hb).trans h.chg (fun i _ hs => hs), fun i hi => (h.at_ i hi).imp id (fun h => Nat.le_trans hb.size h)⟩
theorem RTrn.set_ (h : RTrn w w' g V tv V' tv') (i : Nat) (u : Value) : RTrn w (w'.setCell ⟨g, i, none⟩ u) g V tv V' tv' := ⟨h.chg.setCell (p := ⟨g, i, none⟩) (fun _ => .inl rfl) u, h.at_⟩
theorem RTrn.setNew (h : RTrn w w' g V tv V' tv') {p : Addr} (hp : w.heap.size ≤ p.block) (u : Value) : RTrn w (w'.setCell p u) g V tv V' tv' := ⟨h.chg.setCell (p := p) (fun e => by omega) u, h.at_⟩
theorem RTrn.drew (h : RTrn w w' g V tv V' tv') : RTrn w w'.drew g V tv V' tv' := ⟨h.chg.drew, h.at_⟩
theorem RTrn.drewN (h : RTrn w w' g V tv V' tv') (n : Nat) : RTrn w (w'.drewN n) g V tv V' tv' := ⟨h.chg.drewN n, h.at_⟩
theorem RTrn.alloc (h : RTrn w w' g V tv V' tv') (o : Obj) : RTrn w (w'.alloc o) g V tv V' tv' := ⟨h.chg.alloc o, h.at_⟩

theorem Rds.cell {i : Nat} {u : Value} (h : Rds w base g cs V tv Q room s b m) (hi : cs[i]? = some u) : w.cell? ⟨g, i, none⟩ = some u := (h.blk.cell i).trans hi
theorem Rds.rlt (h : Rds w base g cs V tv Q room s b m) : ∀ i, RF V tv i → base ≤ i ∧ i < w.heap.size := by
  rintro i (hi | ⟨f, hf, hi⟩)
  · exact h.tn.lt i hi
  · exact (h.own f hf).lt i hi
theorem Rds.rne (h : Rds w base g cs V tv Q room s b m) : ∀ i, RF V tv i → i ≠ g := by
  rintro i (hi | ⟨f, hf, hi⟩) e
  · subst e; exact h.tn.blk_ne h.blk (by decide) hi
  · subst e; exact (h.own f hf).blk_ne h.blk (by decide) hi
theorem Rds.chg {S : Nat → Prop} (h : Rds w base g cs V tv Q room s b m) (hc : Chg w w' S) (h1 : ¬ S g) (h2 : ∀ i, RF V tv i → ¬ S i) : Rds w' base g cs V tv Q room s b m :=
  ⟨h.blk.chg hc h1, h.sz, h.l0, h.l1, fun f hf => (h.own f hf).chg hc (fun i hi => h2 i (.inr ⟨f, hf, hi⟩)), h.ne, h.q, h.rm, h.c, h.t, h.bg, h.by_, h.mn, h.tn.chg hc (fun i hi => h2 i (.inl hi))⟩
theorem Rds.below (h : Rds w base g cs V tv Q room s b m) (hb : Below w.heap.size w w') : Rds w' base g cs V tv Q room s b m := h.chg (Chg.of_below hb) (fun h => h) (fun _ _ h => h)
theorem Rds.drewN (h : Rds w base g cs V tv Q room s b m) (n : Nat) : Rds (w.drewN n) base g cs V tv Q room s b m := h.below ⟨rfl, rfl, rfl, Nat.le_refl _, fun _ _ => rfl⟩
theorem Rds.drew (h : Rds w base g cs V tv Q room s b m) : Rds w.drew base g cs V tv Q room s b m := h.below ⟨rfl, rfl, rfl, Nat.le_refl _, fun _ _ => rfl⟩
theorem Rds.setNew (h : Rds w base g cs V tv Q room s b m) {p : Addr} (hp : p.block ≠ g) (hv : ¬ RF V tv p.block) (u : Value) : Rds (w.setCell p u) base g cs V tv Q room s b m :=
  h.chg (Chg.setCell (S := fun i => i = p.block) (p := p) (Chg.refl w _) (fun _ => rfl) u) (fun e => hp e.symm) (fun i hi e => hv (e ▸ hi))
theorem Rds.lst (h : Rds w base g cs V tv Q room s b m) {f : Nat} (hf : f < 16) : Lst w base g (f * 2) 148 cs (V f) (s.L f) (Pl.tot (s.L f)) := ⟨h.blk, h.l0 f hf, h.l1 f hf, h.own f hf, by decide⟩
theorem Rds.of_lst (h : Rds w base g cs V tv Q room s b m) {f : Nat} (hf : f < 16) {v' : Value} {l' : List Hd} {b' : Int} (h' : LstTo w w' base g (f * 2) 148 cs (V f) v' l' b') (e : b' = Pl.tot l') :
    ∃ cs', Rds w' base g cs' (Pl.updf V f v') tv Q room ⟨Pl.updf s.L f l', s.C, s.T, s.beg⟩ b m ∧ RTrn w w' g V tv (Pl.updf V f v') tv := by
  subst e
  have hk : ∀ j, j ≠ f * 2 → j ≠ f * 2 + 1 → ((cs.setIfInBounds (f * 2) v').setIfInBounds (f * 2 + 1) (.int .i64 (Pl.tot l')))[j]? = cs[j]? := fun j h0 h1 => by rw [set_at h1, set_at h0]
  have hnew : ∀ i, v'.ownBlock = some i → (V f).ownBlock = some i ∨ w.heap.size ≤ i := fun i hi => by
    rcases h'.at_ with e | e
    · exact .inl (e ▸ hi)
    · exact .inr (e i hi)
  have hold : ∀ j, j < 16 → ∀ i, (V j).ownBlock = some i → i < w.heap.size := fun j hj i hi => ((h.own j hj).lt i hi).2
  refine ⟨_, ⟨h'.lst.blk, by simp [h.sz], fun i hi => ?_, fun i hi => ?_, fun i hi => ?_, fun i j hi hj hne k hkk => ?_, fun i hi => (hk _ (by omega) (by omega)).trans (h.q i hi), (hk _ (by omega) (by omega)).trans h.rm, fun i hi => (hk _ (by omega) (by omega)).trans (h.c i hi), (hk _ (by omega) (by omega)).trans h.t, (hk _ (by omega) (by omega)).trans h.bg, (hk _ (by omega) (by omega)).trans h.by_, (hk _ (by omega) (by omega)).trans h.mn, ?_⟩, ⟨h'.chg.mono (fun i _ hs => hs.imp id fun e => .inr ⟨f, hf, e⟩), ?_⟩⟩
  · by_cases e : i = f
    · subst e; rw [Pl.updf_same]; exact h'.lst.c0
    · rw [Pl.updf_ne _ _ e]; exact (hk _ (by omega) (by omega)).trans (h.l0 i hi)
  · show _ = some (Value.int .i64 (Pl.tot (Pl.updf s.L f l' i)))
    by_cases e : i = f
    · subst e; rw [Pl.updf_same]; exact h'.lst.c1
    · rw [Pl.updf_ne _ _ e]; exact (hk _ (by omega) (by omega)).trans (h.l1 i hi)
  · show OwnW w' base _ _ _ (Pl.updf s.L f l' i).length _
    by_cases e : i = f
    · subst e
      show OwnW w' base _ _ _ (Pl.updf s.L i l' i).length ((Pl.updf s.L i l' i).flatMap HdR.cells)
      rw [Pl.updf_same, Pl.updf_same]; exact h'.lst.own
    · show OwnW w' base _ _ _ (Pl.updf s.L f l' i).length ((Pl.updf s.L f l' i).flatMap HdR.cells)
      rw [Pl.updf_ne _ _ e, Pl.updf_ne _ _ e]
      refine (h.own i hi).chg h'.chg (fun k hk hs => ?_)
      rcases hs with e2 | e2
      · exact h.rne k (.inr ⟨i, hi, hk⟩) e2
      · exact h.ne i f hi hf e k hk e2
  · by_cases e : i = f
    · subst e
      rw [Pl.updf_same] at hkk
      rw [Pl.updf_ne _ _ (Ne.symm hne)]
      rcases hnew k hkk with e2 | e2
      · exact h.ne i j hi hj hne k e2
      · intro e3; have := hold j hj k e3; omega
    · rw [Pl.updf_ne _ _ e] at hkk
      by_cases e3 : j = f
      · subst e3
        rw [Pl.updf_same]
        intro e4
        rcases hnew k e4 with e2 | e2
        · exact h.ne i j hi hj hne k hkk e2
        · have := hold i hi k hkk; omega
      · rw [Pl.updf_ne _ _ e3]; exact h.ne i j hi hj hne k hkk
  · refine h.tn.chg h'.chg (fun k hk hs => ?_)
    rcases hs with e2 | e2
    · exact h.rne k (.inl hk) e2
    · exact (h.tn.ne_of (h.own f hf) (by decide)) k hk e2
  · rintro i (hi | ⟨j, hj, hi⟩)
    · exact .inl (.inl hi)
    · by_cases e : j = f
      · subst e
        rw [Pl.updf_same] at hi
        exact (hnew i hi).imp (fun e => .inr ⟨j, hj, e⟩) id
      · rw [Pl.updf_ne _ _ e] at hi
        exact .inl (.inr ⟨j, hj, hi⟩)
theorem Rds.setO (h : Rds w base g cs V tv Q room s b m) (i : Nat) (u : Value) : ∀ f, f < 16 → OwnW (w.setCell ⟨g, i, none⟩ u) base 78 HdR.sz (V f) (s.L f).length ((s.L f).flatMap HdR.cells) := fun f hf =>
  (h.own f hf).chg (S := fun i => i = g) (Chg.setCell (S := fun i => i = g) (p := ⟨g, i, none⟩) (Chg.refl w _) (fun _ => rfl) u) (fun j hj e => h.rne j (.inr ⟨f, hf, hj⟩) e)
theorem Rds.setN (h : Rds w base g cs V tv Q room s b m) (i : Nat) (u : Value) : OwnW (w.setCell ⟨g, i, none⟩ u) base 3 1 tv s.T.length ((tnL s.T).flatMap IntR.cells) :=
  h.tn.chg (S := fun i => i = g) (Chg.setCell (S := fun i => i = g) (p := ⟨g, i, none⟩) (Chg.refl w _) (fun _ => rfl) u) (fun j hj e => h.rne j (.inl hj) e)
theorem Rds.setC (h : Rds w base g cs V tv Q room s b m) {f : Nat} (hf : f < 16) (x : Int) : Rds (w.setCell ⟨g, 49 + f, none⟩ (.int .i64 x)) base g (cs.setIfInBounds (49 + f) (.int .i64 x)) V tv Q room ⟨s.L, Pl.updf s.C f x, s.T, s.beg⟩ b m :=
  ⟨h.blk.set_ _ _, by simp [h.sz], fun i hi => (set_at (by omega)).trans (h.l0 i hi), fun i hi => (set_at (by omega)).trans (h.l1 i hi), h.setO _ _, h.ne, fun i hi => (set_at (by omega)).trans (h.q i hi), (set_at (by omega)).trans h.rm, fun i hi => by
    show _ = some (Value.int .i64 (Pl.updf s.C f x i))
    by_cases e : i = f
    · subst e; rw [Pl.updf_same]; exact set_is (by rw [h.sz]; omega)
    · rw [Pl.updf_ne _ _ e]; exact (set_at (by omega)).trans (h.c i hi), (set_at (by omega)).trans h.t, (set_at (by omega)).trans h.bg, (set_at (by omega)).trans h.by_, (set_at (by omega)).trans h.mn, h.setN _ _⟩
theorem Rds.setBeg (h : Rds w base g cs V tv Q room s b m) (x : Bool) : Rds (w.setCell ⟨g, 66, none⟩ (.bool x)) base g (cs.setIfInBounds 66 (.bool x)) V tv Q room ⟨s.L, s.C, s.T, x⟩ b m :=
  ⟨h.blk.set_ _ _, by simp [h.sz], fun i hi => (set_at (by omega)).trans (h.l0 i hi), fun i hi => (set_at (by omega)).trans (h.l1 i hi), h.setO _ _, h.ne, fun i hi => (set_at (by omega)).trans (h.q i hi), (set_at (by omega)).trans h.rm, fun i hi => (set_at (by omega)).trans (h.c i hi), (set_at (by omega)).trans h.t, set_is (by rw [h.sz]; omega), (set_at (by omega)).trans h.by_, (set_at (by omega)).trans h.mn, h.setN _ _⟩
theorem Rds.setB (h : Rds w base g cs V tv Q room s b m) (x : Int) : Rds (w.setCell ⟨g, 67, none⟩ (.int .i64 x)) base g (cs.setIfInBounds 67 (.int .i64 x)) V tv Q room s x m :=
  ⟨h.blk.set_ _ _, by simp [h.sz], fun i hi => (set_at (by omega)).trans (h.l0 i hi), fun i hi => (set_at (by omega)).trans (h.l1 i hi), h.setO _ _, h.ne, fun i hi => (set_at (by omega)).trans (h.q i hi), (set_at (by omega)).trans h.rm, fun i hi => (set_at (by omega)).trans (h.c i hi), (set_at (by omega)).trans h.t, (set_at (by omega)).trans h.bg, set_is (by rw [h.sz]; omega), (set_at (by omega)).trans h.mn, h.setN _ _⟩
theorem Rds.setM (h : Rds w base g cs V tv Q room s b m) (x : Int) : Rds (w.setCell ⟨g, 68, none⟩ (.int .i64 x)) base g (cs.setIfInBounds 68 (.int .i64 x)) V tv Q room s b x :=
  ⟨h.blk.set_ _ _, by simp [h.sz], fun i hi => (set_at (by omega)).trans (h.l0 i hi), fun i hi => (set_at (by omega)).trans (h.l1 i hi), h.setO _ _, h.ne, fun i hi => (set_at (by omega)).trans (h.q i hi), (set_at (by omega)).trans h.rm, fun i hi => (set_at (by omega)).trans (h.c i hi), (set_at (by omega)).trans h.t, (set_at (by omega)).trans h.bg, (set_at (by omega)).trans h.by_, set_is (by rw [h.sz]; omega), h.setN _ _⟩
theorem Rds.setT (h : Rds w base g cs V tv Q room s b m) {w1 : World} {T' : List Nat} (hg : w.grownBy w1 tv.ownBlock) (ho : OwnW w1 base 3 1 tv' T'.length ((tnL T').flatMap IntR.cells)) (hat : tv'.ownBlock = tv.ownBlock ∨ ∀ k, tv'.ownBlock = some k → w.heap.size ≤ k) :
    Rds (w1.setCell ⟨g, 65, none⟩ tv') base g (cs.setIfInBounds 65 tv') V tv' Q room ⟨s.L, s.C, T', s.beg⟩ b m ∧ RTrn w (w1.setCell ⟨g, 65, none⟩ tv') g V tv V tv' := by
  have hc : Chg w w1 (fun i => tv.ownBlock = some i) := Chg.of_grown hg (fun i e => e.symm)
  have hblk := h.blk.chg hc (fun e => h.rne g (.inl e) rfl)
  have hv : ∀ f, f < 16 → OwnW w1 base 78 HdR.sz (V f) (s.L f).length ((s.L f).flatMap HdR.cells) := fun f hf => (h.own f hf).chg hc (fun i hi e => (h.tn.ne_of (h.own f hf) (by decide)) i e hi)
  have hs : Chg w1 (w1.setCell ⟨g, 65, none⟩ tv') (fun i => i = g) := Chg.setCell (S := fun i => i = g) (p := ⟨g, 65, none⟩) (Chg.refl w1 _) (fun _ => rfl) tv'
  refine ⟨⟨hblk.set_ _ _, by simp [h.sz], fun i hi => (set_at (by omega)).trans (h.l0 i hi), fun i hi => (set_at (by omega)).trans (h.l1 i hi), fun f hf => (hv f hf).chg hs (fun j hj e => h.rne j (.inr ⟨f, hf, hj⟩) e), h.ne, fun i hi => (set_at (by omega)).trans (h.q i hi), (set_at (by omega)).trans h.rm, fun i hi => (set_at (by omega)).trans (h.c i hi), set_is (by rw [h.sz]; omega), (set_at (by omega)).trans h.bg, (set_at (by omega)).trans h.by_, (set_at (by omega)).trans h.mn, ho.chg hs (fun j hj e => ?_)⟩, ⟨?_, ?_⟩⟩
  · subst e; exact ho.blk_ne hblk (by decide) hj
  · exact (hc.mono (S' := fun i => i = g ∨ RF V tv i) (fun i _ e => .inr (.inl e))).trans (hs.mono (S' := fun i => i = g ∨ RF V tv i) (fun i _ e => .inl e)) (fun i _ h => h)
  · rintro i (hi | ⟨f, hf, hi⟩)
    · rcases hat with e | e
      · exact .inl (.inl (e ▸ hi))
      · exact .inr (e i hi)
    · exact .inl (.inr ⟨f, hf, hi⟩)
end

theorem rndLen_any (base g : Nat) (cs : Array Value) (V : Nat → Value) (tv : Value) (Q : Nat → Int) (room : Int) (s : Pl.RS) (b m : Int) (w : World) (h : Rds w base g cs V tv Q room s b m) :
    Calls Tryz.prog 144 #[.pointer (some ⟨g, 0, none⟩)] w fun e w' => e = .returned (.int .i64 m) ∧ w = w' := by
  have z := h.cell h.mn
  clear h
  go_enter Tryz.func144, Tryz.ntmps144
  go_wp2_with fail
  go_ret
  exact ⟨rfl, rfl⟩
theorem rndBytes_any (base g : Nat) (cs : Array Value) (V : Nat → Value) (tv : Value) (Q : Nat → Int) (room : Int) (s : Pl.RS) (b m : Int) (w : World) (h : Rds w base g cs V tv Q room s b m) :
    Calls Tryz.prog 143 #[.pointer (some ⟨g, 0, none⟩)] w fun e w' => e = .returned (.int .i64 b) ∧ w = w' := by
  have z := h.cell h.by_
  clear h
  go_enter Tryz.func143, Tryz.ntmps143
  go_wp2_with fail
  go_ret
  exact ⟨rfl, rfl⟩
theorem rndWhen_any (base g : Nat) (cs : Array Value) (V : Nat → Value) (tv : Value) (Q : Nat → Int) (room : Int) (s : Pl.RS) (b m now : Int) (w : World) (h : Rds w base g cs V tv Q room s b m) :
    Calls Tryz.prog 147 #[.pointer (some ⟨g, 0, none⟩), .int .i64 now] w fun e w' => e = .returned (.tuple #[.int .i64 now, .bool (decide (0 < m))]) ∧ ∃ q, w' = w.drewN q := by
  have z := h.cell h.mn
  clear h
  go_enter Tryz.func147, Tryz.ntmps147
  go_wp2_with fail
  go_quiet (fail)
  go_wp2_with fail
  go_ret2
  exact ⟨rfl, _, rfl⟩
end Go.Proofs.YtgdijbaodfghjaaGreatDoor
