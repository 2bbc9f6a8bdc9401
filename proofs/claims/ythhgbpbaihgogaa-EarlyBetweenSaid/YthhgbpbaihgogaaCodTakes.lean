/-
  Controlled delay in memory: Take, walked.
-/
import Derived.Test.YthhgbpbaihgogaaCodTake
namespace Go.Proofs.Ythhgbpbaihgogaa
open Go.RowKit Bkt
set_option linter.unusedVariables false

/-- the beginning: the first pull is done -/
theorem Tl.start {w w1 : World} {base g : Nat} {v v1 : Value} {cs1 : Array Value} {P : Pl.DP} {D1 : Pl.DS} (hgl : g < w.heap.size) (hv : ∀ i, v.ownBlock = some i → i < w.heap.size)
    (hd : Dmm w1 base g v1 cs1 P D1) (ht : Trn (w.alloc (.cells #[.int .i64 0, .int .i64 0, .int .i64 0, .int .i64 0, .int .i64 0, .int .i64 0] 54)) w1 g v v1) : Tl w w1 base g v v1 cs1 P D1 Hd.zero (.slice none 0 0) [] := by
  have hb0 : Below w.heap.size w (w.alloc (.cells #[.int .i64 0, .int .i64 0, .int .i64 0, .int .i64 0, .int .i64 0, .int .i64 0] 54)) := (Below.refl _ _).alloc (Nat.le_refl _) _
  refine ⟨hd, ht.behind hb0, (Blk.new w _ _).chg ht.chg ?_, OwnW.nil _ _ _ _, by simp [Value.ownBlock], fun i hi => by simp [Value.ownBlock] at hi, fun e => ?_, hgl⟩
  · rintro (e | e)
    · omega
    · have := hv _ e; omega
  · rcases ht.at_ with e2 | e2
    · have := hv _ (e2 ▸ e); omega
    · have := e2 _ e; simp at this; omega

theorem dropD_step (P : Pl.DP) (now : Int) (s : List Hd) (x : Hd) (lost : List Hd) (a nx c : Int) (h : nx ≤ now) (q : Option Hd × Bool × Pl.DS) (hq : q = Pl.pullD P now ⟨s, a, true, nx, c + 1⟩) :
    Pl.dropD P now s x lost a nx c = if q.2.1 = false then (q.1, lost ++ [x], ⟨q.2.2.s, q.2.2.above, false, q.2.2.next, q.2.2.count⟩) else Pl.dropD P now q.2.2.s (q.1.getD Hd.zero) (lost ++ [x]) q.2.2.above (Pl.lawD P q.2.2.count q.2.2.next) q.2.2.count := by
  subst hq
  cases s with
  | nil =>
    unfold Pl.dropD Pl.pullD
    rw [if_pos h]
    rfl
  | cons y r =>
    have hp : Pl.pullD P now ⟨y :: r, a, true, nx, c + 1⟩ = if now - y.it.at_ < P.target ∨ r.length = 0 then (some y, false, ⟨r, -1, true, nx, c + 1⟩) else if a < 0 then (some y, false, ⟨r, now + P.span, true, nx, c + 1⟩) else (some y, decide (a ≤ now), ⟨r, a, true, nx, c + 1⟩) := rfl
    rw [Pl.dropD, if_pos h]
    by_cases c1 : now - y.it.at_ < P.target ∨ r.length = 0
    · rw [if_pos c1] at hp
      rw [if_pos c1, hp]
      rfl
    · rw [if_neg c1] at hp
      rw [if_neg c1]
      by_cases c2 : a < 0
      · rw [if_pos c2] at hp
        rw [if_pos c2, hp]
        rfl
      · rw [if_neg c2] at hp
        rw [if_neg c2, hp]
        by_cases c3 : a ≤ now
        · rw [if_pos c3, decide_eq_true c3]
          rfl
        · rw [if_neg c3, decide_eq_false c3]
          rfl
/-- at the head of the loop -/
structure Rl (w wr : World) (base g : Nat) (v : Value) (P : Pl.DP) (now : Int) (k N : Nat) (R : Option Hd × List Hd × Pl.DS) (lo ok : Value) (lost : List Hd) (xo : Option Hd) (D : Pl.DS) (v' : Value) (cs' : Array Value) : Prop where
  tl : Tl w wr base g v v' cs' P D (xo.getD Hd.zero) lo lost
  ok : ok = .bool xo.isSome
  hs : HsOk D.s
  dk : Pl.DOk P k D
  ln : lost.length ≤ N
  st : (D.drop = true ∧ ∃ x, xo = some x ∧ R = Pl.dropD P now D.s x lost D.above D.next D.count ∧ lost.length + 1 + D.s.length = N ∧ D.count + D.s.length + 1 ≤ k) ∨ (D.drop = false ∧ R = (xo, lost, D))
theorem dropD_end {P : Pl.DP} {now : Int} {s : List Hd} {x : Hd} {lost : List Hd} {a nx c : Int} (h : now < nx) : Pl.dropD P now s x lost a nx c = (some x, lost, ⟨s, a, true, nx, c⟩) := by
  cases s with
  | nil => unfold Pl.dropD; rw [if_neg (by omega)]
  | cons y r => unfold Pl.dropD; rw [if_neg (by omega)]

set_option maxHeartbeats 4000000 in
set_option maxRecDepth 100000 in
theorem dtake_any (base g : Nat) (v : Value) (cs : Array Value) (P : Pl.DP) (D : Pl.DS) (now : Int) (k : Nat) (w : World) (h : Dmm w base g v cs P D) (hl : HsOk D.s) (hP : Pl.DPOk P) (hn : 0 ≤ now ∧ now ≤ 1000000000) (hok : Pl.DOk P k D) (hk : k ≤ 1000) (hbase : base ≤ w.heap.size) :
    Calls Try.prog 65 #[.pointer (some ⟨g, 0, none⟩), .int .i64 now] w (DTakeOut w base g v P (Pl.takeD P now D)) := by
  have hgl := h.blk.lt
  have hv := fun i hi => (h.vlt i hi).2
  have hb0 : Below w.heap.size w (w.alloc (.cells #[.int .i64 0, .int .i64 0, .int .i64 0, .int .i64 0, .int .i64 0, .int .i64 0] 54)) := (Below.refl _ _).alloc (Nat.le_refl _) _
  have hpull := pulls_any base g v cs P D now _ (h.below hb0) hl.h hP hn hl.a hok.ab
  have hsame := pullD_same P now D
  have hok1 := hok.pull hP hn
  have hl1 := hl.pull (P := P) (now := now)
  have htk : Pl.takeD P now D = Pl.takeD P now D := rfl
  have HPULL := Lib.hid hpull; have HSAME := Lib.hid hsame; have HOK1 := Lib.hid hok1; have HL1 := Lib.hid hl1; have HV := Lib.hid hv; have HP := Lib.hid hP
  have HBAD := Lib.hid (Pl.pullD_bad (P := P) (now := now) (D := D))
  obtain ⟨hn0, hn1⟩ := hn
  have htk2 : ∀ R, R = Pl.takeD P now D → DTakeOut w base g v P R = DTakeOut w base g v P (Pl.takeD P now D) := fun R hR => by rw [hR]
  obtain ⟨R, hR⟩ : ∃ R, R = Pl.takeD P now D := ⟨_, rfl⟩
  rw [← hR]
  have HR := Lib.hid hR
  obtain ⟨pd, hpd⟩ : ∃ pd, pd = Pl.pullD P now D := ⟨_, rfl⟩
  rw [← hpd] at HPULL HSAME HOK1 HL1 HBAD
  have HPD := Lib.hid hpd
  clear h hpull hsame hok1 hl1 hv hP htk htk2 hR hpd hok hl hb0
  obtain ⟨xo, bad, D1⟩ := pd
  have n5 : g ≠ w.heap.size := by omega
  have n6 : w.heap.size ≠ g := by omega
  go_enter Try.func65, Try.ntmps65
  go_wp2_with fail
  (with_reducible refine HPULL.out.mono ?_)
  rintro e w1 ⟨ya, yl, yf, yb, ym, yn, v1, cs1, rfl, hy, hd1, ht1⟩
  have hl1 := Tl.start hgl HV.out hd1 ht1
  have hk0 : Blk w1 w.heap.size 54 #[.int .i64 0, .int .i64 0, .int .i64 0, .int .i64 0, .int .i64 0, .int .i64 0] := hl1.k
  obtain ⟨f0, f1, f2, f3, f4, f5, z0, z1, z2, z3, z4, z5⟩ := blk6 hk0
  clear hk0
  have HL := Lib.hid (hl1.six ⟨⟨ya, yl, yf, yb, ym⟩, yn⟩); have HY := Lib.hid hy
  clear hd1 ht1 hl1 hy
  dsimp only at HY HOK1 HL1 HSAME HBAD HL
  go_upto_if 15 with fail
  generalize (((((w1.setCell ⟨w.heap.size, 0, none⟩ (Value.int .i64 ya)).setCell ⟨w.heap.size, 1, none⟩ (.int .i64 yl)).setCell ⟨w.heap.size, 2, none⟩ (.int .i64 yf)).setCell ⟨w.heap.size, 3, none⟩ (.int .i64 yb)).setCell ⟨w.heap.size, 4, none⟩ (.int .i64 ym)).setCell ⟨w.heap.size, 5, none⟩ (.int .i64 yn) = w6 at *
  clear f0 f1 f2 f3 f4 f5 z0 z1 z2 z3 z4 z5
  have hk0 : Blk w6 w.heap.size 54 #[.int .i64 ya, .int .i64 yl, .int .i64 yf, .int .i64 yb, .int .i64 ym, .int .i64 yn] := HL.out.k
  obtain ⟨f0, f1, f2, f3, f4, f5, z0, z1, z2, z3, z4, z5⟩ := blk6 hk0
  clear hk0
  have y8 := HL.out.d.cell HL.out.d.c8; have x8 := HL.out.d.blk.frozen 8
  cases xo with
  | none =>
    have hR : R = (none, [], ⟨D1.s, D1.above, false, D1.next, D1.count⟩) := by
      rw [HR.out]
      unfold Pl.takeD
      rw [← HPD.out]
    have HR2 := Lib.hid hR
    clear hR
    go_wp2_with fail
    refine bodyPost_as fun Wf hWf => ?_
    obtain ⟨hkf, hout⟩ := Tl.out (wf := Wf) (HL.out.setDrop false) none HY.out R HR2.out hWf
    clear hWf
    obtain ⟨r0, r1, r2, r3, r4, r5, _, _, _, _, _, _⟩ := blk6 hkf
    exact bodyPost_ret (v := .tuple #[hdV ⟨⟨ya, yl, yf, yb, ym⟩, yn⟩, .slice none 0 0, .bool false]) (by simp [results, Try.results65, go_sem, hdV, r0, r1, r2, r3, r4, r5]) rfl hout
  | some x =>
    have hx : x = ⟨⟨ya, yl, yf, yb, ym⟩, yn⟩ := HY.out
    subst hx
    obtain ⟨s1, s2, s3⟩ := HSAME.out
    have HS1 := Lib.hid s1
    cases hdr : D.drop with
    | true =>
      rw [hdr] at s1
      rw [s1] at y8
      have HDR := Lib.hid hdr
      clear s1 s2 s3 hdr
      cases bad with
      | false =>
        have hR : R = (some ⟨⟨ya, yl, yf, yb, ym⟩, yn⟩, [], ⟨D1.s, D1.above, false, D1.next, D1.count⟩) := by
          rw [HR.out]
          unfold Pl.takeD
          rw [← HPD.out]
          dsimp only
          rw [if_pos HDR.out, if_pos rfl]
        have HR2 := Lib.hid hR
        clear hR
        go_wp2_with fail
        refine bodyPost_as fun Wf hWf => ?_
        obtain ⟨hkf, hout⟩ := Tl.out (wf := Wf) (HL.out.setDrop false) (some _) HY.out R HR2.out hWf
        clear hWf
        obtain ⟨r0, r1, r2, r3, r4, r5, _, _, _, _, _, _⟩ := blk6 hkf
        exact bodyPost_ret (v := .tuple #[hdV ⟨⟨ya, yl, yf, yb, ym⟩, yn⟩, .slice none 0 0, .bool true]) (by simp [results, Try.results65, go_sem, hdV, r0, r1, r2, r3, r4, r5]) rfl hout
      | true =>
        have hR : R = Pl.dropD P now D1.s ⟨⟨ya, yl, yf, yb, ym⟩, yn⟩ [] D1.above D1.next D1.count := by
          rw [HR.out]
          unfold Pl.takeD
          rw [← HPD.out]
          dsimp only
          rw [if_pos HDR.out, if_neg (by decide)]
        obtain ⟨g1, g2⟩ := HOK1.out
        have hrl : Rl w w6 base g v P now k (1 + D1.s.length) R (.slice none 0 0) (.bool true) [] (some ⟨⟨ya, yl, yf, yb, ym⟩, yn⟩) D1 v1 cs1 :=
          ⟨HL.out, rfl, HL1.out, g1, by simp, .inl ⟨HS1.out.trans HDR.out, _, rfl, hR, by simp, g2 rfl⟩⟩
        have HRL := Lib.hid hrl
        have hN : 1 + D1.s.length ≤ 1001 := by have := HL1.out.h.n; omega
        clear hR g1 g2 hrl f0 f1 f2 f3 f4 f5 z0 z1 z2 z3 z4 z5 x8 HL HPD HR HBAD HPULL HSAME HOK1 HL1 HY HDR HS1
        generalize 1 + D1.s.length = N at *
        go_wp2_with fail
        clear y8
        go_loopw [5, 6] (fun lo ok wr => ∃ lost xo D' v' cs', Rl w wr base g v P now k N R lo ok lost xo D' v' cs') (fun lo _ _ => N - sliceLen lo)
        case atStart => exact ⟨_, _, _, _, _, HRL.out⟩
        case round =>
          clear HRL
          obtain ⟨lost, xo, ⟨s', a', dr', nx', ct'⟩, v', cs', hrl⟩ := hrel
          obtain ⟨rfl⟩ := hrl.ok
          obtain ⟨Al, cl, hlo, _, _, _⟩ := hrl.tl.o.reads
          subst hlo
          obtain ⟨⟨⟨xa, xl, xf, xb, xm⟩, xn⟩, hxx⟩ : ∃ x, xo.getD Hd.zero = x := ⟨_, rfl⟩
          have ht := hrl.tl
          rw [hxx] at ht
          have hk0 : Blk wr w.heap.size 54 #[.int .i64 xa, .int .i64 xl, .int .i64 xf, .int .i64 xb, .int .i64 xm, .int .i64 xn] := ht.k
          obtain ⟨f0, f1, f2, f3, f4, f5, z0, z1, z2, z3, z4, z5⟩ := blk6 hk0
          have y8 := ht.d.cell ht.d.c8; have y9 := ht.d.cell ht.d.c9
          dsimp only at y8 y9
          have HRL := Lib.hid hrl; have HT := Lib.hid ht; have HY := Lib.hid hxx
          clear hk0 hrl ht hxx
          rcases HRL.out.st with ⟨hd, x, hx, hR, hln, hck⟩ | ⟨hd, hR⟩
          · dsimp only at hd hR hln hck
            subst hd hx
            have hx2 : x = ⟨⟨xa, xl, xf, xb, xm⟩, xn⟩ := HY.out
            subst hx2
            by_cases hnx : nx' ≤ now
            · have HRR := Lib.hid hR
              clear hR
              have d9 : decide (nx' ≤ now) = true := by simpa using hnx
              have hszr := HT.out.sz
              have hdk := HRL.out.dk
              have hct := hdk.ct
              have hln2 := HRL.out.ln
              have hhs := HRL.out.hs
              dsimp only at hct hhs
              have hsn := hhs.h.n
              have hdk1 : Pl.DOk P k ⟨s', a', true, nx', ct' + 1⟩ := ⟨hdk.ab, hdk.nx, by simp only []; omega, by simp only []; omega⟩
              have hok2 := hdk1.pull HP.out ⟨hn0, hn1⟩
              have hl2 := hhs.pull (P := P) (now := now) (D := ⟨s', a', true, nx', ct' + 1⟩)
              have hst := dropD_step P now s' ⟨⟨xa, xl, xf, xb, xm⟩, xn⟩ lost a' nx' ct' hnx _ rfl
              have hbad := Pl.pullD_bad (P := P) (now := now) (D := ⟨s', a', true, nx', ct' + 1⟩)
              have hsame := pullD_same P now ⟨s', a', true, nx', ct' + 1⟩
              have hall := Pl.pullD_all P now ⟨s', a', true, nx', ct' + 1⟩
              have hab := hdk.ab
              dsimp only at hab
              have hln3 : lost.length ≤ 1000 := by omega
              have HDK := Lib.hid hdk; have HOK2 := Lib.hid hok2; have HL2 := Lib.hid hl2; have HST := Lib.hid (HRR.out.trans hst); have HBAD2 := Lib.hid hbad; have HSAME2 := Lib.hid hsame; have HALL := Lib.hid hall; have HHS := Lib.hid hhs; have HAB := Lib.hid hab
              clear hdk hhs hdk1 hok2 hl2 hst hbad hsame hall hab
              go_upto_region 11 with (at_builtin; go_must (refine wpList_addW HdR rfl (.tmp 50) (.tmp 52) _ w.heap.size 54 _ 48 Try.underlying51 Try.heldInfo rfl rfl _ lost.length lost ⟨⟨xa, xl, xf, xb, xm⟩, xn⟩ _ HT.out.o rfl rfl (by show Value.slice (some ⟨wr.heap.size, 0, none⟩) 1 1 = _; simp) (hd_one _) (by omega) (by omega) hszr ?_); intro v8 w8 h1 h2 h3; have hl8 := Tl.push HT.out h1 h2 h3; have y10 := hl8.d.cell hl8.d.c10; have x10 := hl8.d.blk.frozen 10; dsimp only at y10; have HL8 := Lib.hid hl8; clear h1 h2 h3 hl8)
              have hl9 := HL8.out.setCount (ct' + 1)
              clear y10 x10
              generalize w8.setCell ⟨g, 10, none⟩ (.int .i64 (ct' + 1)) = w9 at *
              dsimp only at hl9
              have hpull2 := pulls_any base g v' _ P ⟨s', a', true, nx', ct' + 1⟩ now w9 hl9.d HHS.out.h HP.out ⟨hn0, hn1⟩ HHS.out.a HAB.out
              have HPULL2 := Lib.hid hpull2; have HL9 := Lib.hid hl9
              clear hpull2 hl9 f0 f1 f2 f3 f4 f5 z0 z1 z2 z3 z4 z5 y8 y9
              generalize Pl.pullD P now ⟨s', a', true, nx', ct' + 1⟩ = pd2 at *
              obtain ⟨xo2, bad2, D2⟩ := pd2
              go_wp2_with fail
              (with_reducible refine HPULL2.out.mono ?_)
              rintro e wq ⟨za, zl, zf, zb, zm, zn, v2, cs2, rfl, hy2, hd2, ht2⟩
              have hlq := HL9.out.pull hd2 ht2
              have hkq : Blk wq w.heap.size 54 #[.int .i64 xa, .int .i64 xl, .int .i64 xf, .int .i64 xb, .int .i64 xm, .int .i64 xn] := hlq.k
              obtain ⟨f0, f1, f2, f3, f4, f5, z0, z1, z2, z3, z4, z5⟩ := blk6 hkq
              have HL10 := Lib.hid (hlq.six ⟨⟨za, zl, zf, zb, zm⟩, zn⟩); have HY2 := Lib.hid hy2
              clear hkq hlq hd2 ht2 hy2
              dsimp only at HY2 HOK2 HST HL10 HBAD2 HSAME2 HALL
              go_upto_if 69 with fail
              generalize (((((wq.setCell ⟨w.heap.size, 0, none⟩ (Value.int .i64 za)).setCell ⟨w.heap.size, 1, none⟩ (.int .i64 zl)).setCell ⟨w.heap.size, 2, none⟩ (.int .i64 zf)).setCell ⟨w.heap.size, 3, none⟩ (.int .i64 zb)).setCell ⟨w.heap.size, 4, none⟩ (.int .i64 zm)).setCell ⟨w.heap.size, 5, none⟩ (.int .i64 zn) = w10 at *
              clear f0 f1 f2 f3 f4 f5 z0 z1 z2 z3 z4 z5
              have y8 := HL10.out.d.cell HL10.out.d.c8; have x8 := HL10.out.d.blk.frozen 8; have y9 := HL10.out.d.cell HL10.out.d.c9; have x9 := HL10.out.d.blk.frozen 9
              obtain ⟨s2, a2, dr2, nx2, ct2⟩ := D2
              dsimp only at y8 y9 HL10 HOK2 HST HBAD2 HSAME2 HALL HL2
              obtain ⟨Ar, cr, hv8, _, _, _⟩ := HL10.out.o.reads
              rw [List.length_append, List.length_singleton] at hv8
              cases bad2 with
              | false =>
                have hrl2 : Rl w (w10.setCell ⟨g, 8, none⟩ (.bool false)) base g v P now k N R v8 (.bool xo2.isSome) (lost ++ [⟨⟨xa, xl, xf, xb, xm⟩, xn⟩]) xo2 ⟨s2, a2, false, nx2, ct2⟩ v2 (cs2.setIfInBounds 8 (.bool false)) := by
                  have h1 := HL10.out.setDrop false
                  have h2 := HOK2.out.1
                  refine ⟨by rw [HY2.out]; exact h1, rfl, HL2.out, ⟨h2.ab, h2.nx, h2.ct, h2.ck⟩, by simp; omega, .inr ⟨rfl, ?_⟩⟩
                  rw [HST.out, if_pos rfl]
                have HRL2 := Lib.hid hrl2
                clear hrl2
                subst hv8
                go_wp2_with fail
                go_roundw
                case rel => exact ⟨_, _, _, _, _, HRL2.out⟩
                case measure => simp [sliceLen]; omega
              | true =>
                obtain ⟨x2, r2, hs', hx2, _, hD2, _⟩ := HBAD2.out rfl
                have hx3 : x2 = ⟨⟨za, zl, zf, zb, zm⟩, zn⟩ := by have := HY2.out; rw [hx2] at this; exact this
                subst hx2 hx3
                obtain ⟨sm1, sm2, sm3⟩ := HSAME2.out
                have hal : s2.length + 1 = s'.length := by
                  have := congrArg List.length HALL.out
                  simp at this
                  omega
                have hks := HOK2.out.2 rfl
                have hk1 := HOK2.out.1
                have hkn := hk1.nx; have hkc := hk1.ck
                dsimp only at hks hkn hkc
                have hsp := HP.out.sp
                have y6 := HL10.out.d.cell HL10.out.d.c6; have y10 := HL10.out.d.cell HL10.out.d.c10
                have hlaw := law_any g P ct2 nx2 w10 y6 y10 ⟨by omega, by omega⟩ ⟨by omega, by omega⟩ ⟨by omega, by omega⟩
                have hlb := Pl.lawD_bd (P := P) (c := ct2) (a := nx2) ⟨by omega, by omega⟩ (by omega)
                have hR3 : R = Pl.dropD P now s2 ⟨⟨za, zl, zf, zb, zm⟩, zn⟩ (lost ++ [⟨⟨xa, xl, xf, xb, xm⟩, xn⟩]) a2 (Pl.lawD P ct2 nx2) ct2 := by
                  rw [HST.out, if_neg (by decide)]
                  rfl
                have hrl2 : ∀ wz, Tl w wz base g v v2 (cs2.setIfInBounds 9 (.int .i64 (Pl.lawD P ct2 nx2))) P ⟨s2, a2, dr2, Pl.lawD P ct2 nx2, ct2⟩ ⟨⟨za, zl, zf, zb, zm⟩, zn⟩ v8 (lost ++ [⟨⟨xa, xl, xf, xb, xm⟩, xn⟩]) →
                    Rl w wz base g v P now k N R v8 (.bool true) (lost ++ [⟨⟨xa, xl, xf, xb, xm⟩, xn⟩]) (some ⟨⟨za, zl, zf, zb, zm⟩, zn⟩) ⟨s2, a2, dr2, Pl.lawD P ct2 nx2, ct2⟩ v2 (cs2.setIfInBounds 9 (.int .i64 (Pl.lawD P ct2 nx2))) := fun wz hz => by
                  refine ⟨hz, rfl, HL2.out, ⟨hk1.ab, ⟨by simp only []; omega, by simp only []; omega⟩, hk1.ct, hk1.ck⟩, by simp; omega, .inl ⟨sm1, _, rfl, hR3, by simp; omega, hks⟩⟩
                have HRL2 := Lib.hid hrl2; have HLAW := Lib.hid hlaw
                clear hrl2 hlaw hR3 hlb hk1 hal sm1 sm2 sm3 hD2 hs' y6 y10
                generalize Pl.lawD P ct2 nx2 = lw at *
                subst hv8
                go_wp2_with (go_at_call 67; (with_reducible refine HLAW.out.mono ?_); rintro e wu ⟨rfl, hbu⟩; have hlu := HL10.out.below hbu; have y9 := hlu.d.cell hlu.d.c9; have x9 := hlu.d.blk.frozen 9; have HLU := Lib.hid hlu; clear hlu hbu)
                go_roundw
                case rel =>
                  (repeat apply Exists.intro)
                  refine ⟨⟨_, _, _, _, _, HRL2.out _ (HLU.out.setNext lw)⟩, ?_⟩
                  rfl
                case measure => simp [sliceLen]; omega
            · have hR2 : R = (some ⟨⟨xa, xl, xf, xb, xm⟩, xn⟩, lost, ⟨s', a', true, nx', ct'⟩) := by rw [hR, dropD_end (by omega)]
              have HR2 := Lib.hid hR2
              clear hR hR2
              go_wp2_with fail
              refine bodyPost_as fun Wf hWf => ?_
              obtain ⟨hkf, hout⟩ := Tl.out (wf := Wf) HT.out (some (⟨⟨xa, xl, xf, xb, xm⟩, xn⟩ : Hd)) HY.out R HR2.out hWf
              clear hWf
              obtain ⟨r0, r1, r2, r3, r4, r5, _, _, _, _, _, _⟩ := blk6 hkf
              exact bodyPost_ret (v := .tuple #[hdV ⟨⟨xa, xl, xf, xb, xm⟩, xn⟩, .slice Al lost.length cl, .bool (some (⟨⟨xa, xl, xf, xb, xm⟩, xn⟩ : Hd)).isSome]) (by simp [results, Try.results65, go_sem, hdV, r0, r1, r2, r3, r4, r5]) rfl hout
          · dsimp only at hd hR
            subst hd
            have HR2 := Lib.hid hR
            clear hR
            go_wp2_with fail
            refine bodyPost_as fun Wf hWf => ?_
            obtain ⟨hkf, hout⟩ := Tl.out (wf := Wf) HT.out xo HY.out R HR2.out hWf
            clear hWf
            obtain ⟨r0, r1, r2, r3, r4, r5, _, _, _, _, _, _⟩ := blk6 hkf
            exact bodyPost_ret (v := .tuple #[hdV ⟨⟨xa, xl, xf, xb, xm⟩, xn⟩, .slice Al lost.length cl, .bool xo.isSome]) (by simp [results, Try.results65, go_sem, hdV, r0, r1, r2, r3, r4, r5]) rfl hout
    | false =>
      rw [hdr] at s1
      rw [s1] at y8
      have HDR := Lib.hid hdr
      clear s1 s2 s3 hdr
      cases bad with
      | false =>
        have hR : R = (some ⟨⟨ya, yl, yf, yb, ym⟩, yn⟩, [], D1) := by
          rw [HR.out]
          unfold Pl.takeD
          rw [← HPD.out]
          dsimp only
          rw [if_neg (by rw [HDR.out]; decide), if_neg (by decide)]
        have HR2 := Lib.hid hR
        clear hR
        go_wp2_with fail
        refine bodyPost_as fun Wf hWf => ?_
        obtain ⟨hkf, hout⟩ := Tl.out (wf := Wf) HL.out (some _) HY.out R HR2.out hWf
        clear hWf
        obtain ⟨r0, r1, r2, r3, r4, r5, _, _, _, _, _, _⟩ := blk6 hkf
        exact bodyPost_ret (v := .tuple #[hdV ⟨⟨ya, yl, yf, yb, ym⟩, yn⟩, .slice none 0 0, .bool true]) (by simp [results, Try.results65, go_sem, hdV, r0, r1, r2, r3, r4, r5]) rfl hout
      | true =>
        have hsz6 := HL.out.sz
        go_wp2_with (at_builtin; go_must (refine wpList_addW HdR rfl (.tmp 84) (.tmp 86) _ w.heap.size 54 _ 48 Try.underlying51 Try.heldInfo rfl rfl _ 0 [] ⟨⟨ya, yl, yf, yb, ym⟩, yn⟩ _ HL.out.o rfl rfl (by show Value.slice (some ⟨w6.heap.size, 0, none⟩) 1 1 = _; simp) (hd_one _) (by omega) (by omega) hsz6 ?_); intro v8 w8 h1 h2 h3; have hl8 := Tl.push HL.out h1 h2 h3; have HL8 := Lib.hid hl8; clear h1 h2 h3 hl8)
        obtain ⟨g1, g2⟩ := HOK1.out
        have hpull2 := pulls_any base g v1 cs1 P D1 now w8 HL8.out.d HL1.out.h HP.out ⟨hn0, hn1⟩ HL1.out.a g1.ab
        have hok2 := g1.pull HP.out ⟨hn0, hn1⟩
        have hl2 := HL1.out.pull (P := P) (now := now)
        have HPULL2 := Lib.hid hpull2; have HOK2 := Lib.hid hok2
        have HTD : Hid (R = ((Pl.pullD P now D1).1, [⟨⟨ya, yl, yf, yb, ym⟩, yn⟩], ⟨(Pl.pullD P now D1).2.2.s, (Pl.pullD P now D1).2.2.above, true, Pl.lawD P (Pl.cntD P now (Pl.pullD P now D1).2.2) now, Pl.cntD P now (Pl.pullD P now D1).2.2⟩)) := by
          apply Lib.hid
          rw [HR.out]
          unfold Pl.takeD
          rw [← HPD.out]
          dsimp only
          rw [if_neg (by rw [HDR.out]; decide), if_pos rfl]
        clear g1 g2 hpull2 hok2 hl2 f0 f1 f2 f3 f4 f5 z0 z1 z2 z3 z4 z5 y8 x8
        generalize Pl.pullD P now D1 = pd2 at *
        obtain ⟨xo2, bad2, D2⟩ := pd2
        have hk8 : Blk w8 w.heap.size 54 #[.int .i64 ya, .int .i64 yl, .int .i64 yf, .int .i64 yb, .int .i64 ym, .int .i64 yn] := HL8.out.k
        (with_reducible refine HPULL2.out.mono ?_)
        rintro e w9 ⟨za, zl, zf, zb, zm, zn, v2, cs2, rfl, hy2, hd2, ht2⟩
        have hl9 := HL8.out.pull hd2 ht2
        have hk9 : Blk w9 w.heap.size 54 #[.int .i64 ya, .int .i64 yl, .int .i64 yf, .int .i64 yb, .int .i64 ym, .int .i64 yn] := hl9.k
        obtain ⟨f0, f1, f2, f3, f4, f5, z0, z1, z2, z3, z4, z5⟩ := blk6 hk9
        have HL10 := Lib.hid (hl9.six ⟨⟨za, zl, zf, zb, zm⟩, zn⟩); have HY2 := Lib.hid hy2
        clear hk8 hk9 hl9 hd2 ht2 hy2
        dsimp only at HY2 HOK2 HTD HL10
        go_upto_region 18 with fail
        generalize (((((w9.setCell ⟨w.heap.size, 0, none⟩ (Value.int .i64 za)).setCell ⟨w.heap.size, 1, none⟩ (.int .i64 zl)).setCell ⟨w.heap.size, 2, none⟩ (.int .i64 zf)).setCell ⟨w.heap.size, 3, none⟩ (.int .i64 zb)).setCell ⟨w.heap.size, 4, none⟩ (.int .i64 zm)).setCell ⟨w.heap.size, 5, none⟩ (.int .i64 zn) = w10 at *
        clear f0 f1 f2 f3 f4 f5 z0 z1 z2 z3 z4 z5
        have y8 := HL10.out.d.cell HL10.out.d.c8; have x8 := HL10.out.d.blk.frozen 8
        go_upto_region 19 with fail
        have HL11 := Lib.hid (HL10.out.setDrop true)
        clear y8 x8
        generalize w10.setCell ⟨g, 8, none⟩ (.bool true) = w11 at *
        have y6 := HL11.out.d.cell HL11.out.d.c6; have y9 := HL11.out.d.cell HL11.out.d.c9; have y10 := HL11.out.d.cell HL11.out.d.c10; have x9 := HL11.out.d.blk.frozen 9; have x10 := HL11.out.d.blk.frozen 10
        have hsp := HP.out.sp
        have hnx := HOK2.out.1.nx
        have hct := HOK2.out.1.ct
        have hck := HOK2.out.1.ck
        dsimp only at y6 y9 y10
        obtain ⟨s2, ab2, dr2, nx2, ct2⟩ := D2
        dsimp only at hnx hct hck y6 y9 y10
        have hcnt : Pl.cntD P now ⟨s2, ab2, dr2, nx2, ct2⟩ = if 2 < ct2 ∧ now - nx2 < 16 * P.span then ct2 - 2 else 1 := rfl
        have HCNT := Lib.hid hcnt
        clear hcnt
        dsimp only at HL11 HTD
        have e1 : IntKind.i64.wrap (now - nx2) = now - nx2 := IntWalk.i64_in _ (by omega)
        have e2 : IntKind.i64.wrap (16 * P.span) = 16 * P.span := IntWalk.i64_in _ (by omega)
        by_cases c1 : 2 < ct2
        · have d1 : decide (2 < ct2) = true := by simpa using c1
          by_cases c2 : now - nx2 < 16 * P.span
          · have d2 : decide (now - nx2 < 16 * P.span) = true := by simpa using c2
            go_quiet (fail)
            go_upto_region 22 with fail
            have hl12 := (HL11.out.below (w' := w11.drewN nq) ⟨rfl, rfl, rfl, Nat.le_refl _, fun _ _ => rfl⟩).setCount (ct2 - 2)
            have HL12 := Lib.hid hl12
            clear hl12 y6 y9 y10 x9 x10
            generalize (w11.drewN nq).setCell ⟨g, 10, none⟩ (.int .i64 (ct2 - 2)) = w12 at *
            have y6 := HL12.out.d.cell HL12.out.d.c6; have y10 := HL12.out.d.cell HL12.out.d.c10
            have hlaw := law_any g P (ct2 - 2) now w12 y6 y10 ⟨by omega, by omega⟩ ⟨by omega, by omega⟩ ⟨hn0, by omega⟩
            have HLAW := Lib.hid hlaw
            clear hlaw y6 y10
            dsimp only at HL12
            have hR : R = (xo2, [⟨⟨ya, yl, yf, yb, ym⟩, yn⟩], ⟨s2, ab2, true, Pl.lawD P (ct2 - 2) now, ct2 - 2⟩) := by
              rw [HTD.out, HCNT.out, if_pos ⟨c1, c2⟩]
            have HR2 := Lib.hid hR
            clear hR
            generalize Pl.lawD P (ct2 - 2) now = lw at *
            go_wp2_with (go_at_call 67; (with_reducible refine HLAW.out.mono ?_); rintro e w13 ⟨rfl, hb13⟩; have hl13 := HL12.out.below hb13; have y9 := hl13.d.cell hl13.d.c9; have x9 := hl13.d.blk.frozen 9; (have hk13 : Blk w13 w.heap.size 54 #[.int .i64 za, .int .i64 zl, .int .i64 zf, .int .i64 zb, .int .i64 zm, .int .i64 zn] := hl13.k); obtain ⟨f0, f1, f2, f3, f4, f5, z0, z1, z2, z3, z4, z5⟩ := blk6 hk13; have HL13 := Lib.hid hl13; clear hl13 hk13 hb13)
            refine bodyPost_as fun Wf hWf => ?_
            obtain ⟨hkf, hout⟩ := Tl.out (wf := Wf) (HL13.out.setNext lw) xo2 HY2.out R HR2.out hWf
            clear hWf
            obtain ⟨r0, r1, r2, r3, r4, r5, _, _, _, _, _, _⟩ := blk6 hkf
            exact bodyPost_ret (v := .tuple #[hdV ⟨⟨za, zl, zf, zb, zm⟩, zn⟩, v8, .bool xo2.isSome]) (by simp [results, Try.results65, go_sem, hdV, r0, r1, r2, r3, r4, r5]) rfl hout
          · have d2 : decide (now - nx2 < 16 * P.span) = false := by simpa using c2
            go_quiet (fail)
            go_upto_region 22 with fail
            have hl12 := (HL11.out.below (w' := w11.drewN nq) ⟨rfl, rfl, rfl, Nat.le_refl _, fun _ _ => rfl⟩).setCount (1)
            have HL12 := Lib.hid hl12
            clear hl12 y6 y9 y10 x9 x10
            generalize (w11.drewN nq).setCell ⟨g, 10, none⟩ (.int .i64 (1)) = w12 at *
            have y6 := HL12.out.d.cell HL12.out.d.c6; have y10 := HL12.out.d.cell HL12.out.d.c10
            have hlaw := law_any g P (1) now w12 y6 y10 ⟨by omega, by omega⟩ ⟨by omega, by omega⟩ ⟨hn0, by omega⟩
            have HLAW := Lib.hid hlaw
            clear hlaw y6 y10
            dsimp only at HL12
            have hR : R = (xo2, [⟨⟨ya, yl, yf, yb, ym⟩, yn⟩], ⟨s2, ab2, true, Pl.lawD P (1) now, 1⟩) := by
              rw [HTD.out, HCNT.out, if_neg (by omega)]
            have HR2 := Lib.hid hR
            clear hR
            generalize Pl.lawD P (1) now = lw at *
            go_wp2_with (go_at_call 67; (with_reducible refine HLAW.out.mono ?_); rintro e w13 ⟨rfl, hb13⟩; have hl13 := HL12.out.below hb13; have y9 := hl13.d.cell hl13.d.c9; have x9 := hl13.d.blk.frozen 9; (have hk13 : Blk w13 w.heap.size 54 #[.int .i64 za, .int .i64 zl, .int .i64 zf, .int .i64 zb, .int .i64 zm, .int .i64 zn] := hl13.k); obtain ⟨f0, f1, f2, f3, f4, f5, z0, z1, z2, z3, z4, z5⟩ := blk6 hk13; have HL13 := Lib.hid hl13; clear hl13 hk13 hb13)
            refine bodyPost_as fun Wf hWf => ?_
            obtain ⟨hkf, hout⟩ := Tl.out (wf := Wf) (HL13.out.setNext lw) xo2 HY2.out R HR2.out hWf
            clear hWf
            obtain ⟨r0, r1, r2, r3, r4, r5, _, _, _, _, _, _⟩ := blk6 hkf
            exact bodyPost_ret (v := .tuple #[hdV ⟨⟨za, zl, zf, zb, zm⟩, zn⟩, v8, .bool xo2.isSome]) (by simp [results, Try.results65, go_sem, hdV, r0, r1, r2, r3, r4, r5]) rfl hout
        · have d1 : decide (2 < ct2) = false := by simpa using c1
          go_quiet (fail)
          go_upto_region 22 with fail
          have hl12 := (HL11.out.below (w' := w11.drewN nq) ⟨rfl, rfl, rfl, Nat.le_refl _, fun _ _ => rfl⟩).setCount (1)
          have HL12 := Lib.hid hl12
          clear hl12 y6 y9 y10 x9 x10
          generalize (w11.drewN nq).setCell ⟨g, 10, none⟩ (.int .i64 (1)) = w12 at *
          have y6 := HL12.out.d.cell HL12.out.d.c6; have y10 := HL12.out.d.cell HL12.out.d.c10
          have hlaw := law_any g P (1) now w12 y6 y10 ⟨by omega, by omega⟩ ⟨by omega, by omega⟩ ⟨hn0, by omega⟩
          have HLAW := Lib.hid hlaw
          clear hlaw y6 y10
          dsimp only at HL12
          have hR : R = (xo2, [⟨⟨ya, yl, yf, yb, ym⟩, yn⟩], ⟨s2, ab2, true, Pl.lawD P (1) now, 1⟩) := by
            rw [HTD.out, HCNT.out, if_neg (by omega)]
          have HR2 := Lib.hid hR
          clear hR
          generalize Pl.lawD P (1) now = lw at *
          go_wp2_with (go_at_call 67; (with_reducible refine HLAW.out.mono ?_); rintro e w13 ⟨rfl, hb13⟩; have hl13 := HL12.out.below hb13; have y9 := hl13.d.cell hl13.d.c9; have x9 := hl13.d.blk.frozen 9; (have hk13 : Blk w13 w.heap.size 54 #[.int .i64 za, .int .i64 zl, .int .i64 zf, .int .i64 zb, .int .i64 zm, .int .i64 zn] := hl13.k); obtain ⟨f0, f1, f2, f3, f4, f5, z0, z1, z2, z3, z4, z5⟩ := blk6 hk13; have HL13 := Lib.hid hl13; clear hl13 hk13 hb13)
          refine bodyPost_as fun Wf hWf => ?_
          obtain ⟨hkf, hout⟩ := Tl.out (wf := Wf) (HL13.out.setNext lw) xo2 HY2.out R HR2.out hWf
          clear hWf
          obtain ⟨r0, r1, r2, r3, r4, r5, _, _, _, _, _, _⟩ := blk6 hkf
          exact bodyPost_ret (v := .tuple #[hdV ⟨⟨za, zl, zf, zb, zm⟩, zn⟩, v8, .bool xo2.isSome]) (by simp [results, Try.results65, go_sem, hdV, r0, r1, r2, r3, r4, r5]) rfl hout
end Go.Proofs.Ythhgbpbaihgogaa
