/-
  Flows that are put together by a hash, in memory: Take.
-/
import Derived.Test.YthhgbpbaihgogaaHshPut
namespace Go.Proofs.Ythhgbpbaihgogaa
open Go.RowKit Bkt
set_option linter.unusedVariables false

/-- the box is filled -/
theorem HMid.fill {w wr : World} {base g gl kx : Nat} {V V' : Nat → Value} {tv tv' : Value} {P : Pl.HP} {x : Hd} {s : Pl.HS} {n : Int} {cs ls : Array Value} (h : HMid w wr base g gl kx V tv P x s n cs ls V' tv') (hw : w.heap.size ≤ kx) (y : Hd) :
    HMid w ((((((wr.setCell ⟨kx, 0, none⟩ (.int .i64 y.it.at_)).setCell ⟨kx, 1, none⟩ (.int .i64 y.it.len)).setCell ⟨kx, 2, none⟩ (.int .i64 y.it.flow)).setCell ⟨kx, 3, none⟩ (.int .i64 y.it.band)).setCell ⟨kx, 4, none⟩ (.int .i64 y.it.mark)).setCell ⟨kx, 5, none⟩ (.int .i64 y.num)) base g gl kx V tv P y s n cs ls V' tv' := by
  have hset := fun (W : World) (c : Nat) (u : Value) (hd : Hsh W base g gl cs ls V' tv' P s n) => hd.setNew (p := ⟨kx, c, none⟩) h.kg.1 h.kg.2 h.kn u
  have hst := fun (W : World) (c : Nat) (u : Value) (ht : HTrn w W g gl P.m V tv V' tv') => ht.setNew (p := ⟨kx, c, none⟩) hw u
  exact ⟨hset _ 5 _ (hset _ 4 _ (hset _ 3 _ (hset _ 2 _ (hset _ 1 _ (hset _ 0 _ h.h))))), hst _ 5 _ (hst _ 4 _ (hst _ 3 _ (hst _ 2 _ (hst _ 1 _ (hst _ 0 _ h.t))))), blk_six h.k _ _ _ _ _ _, h.kn⟩
/-- behind a Take -/
def HshTakeOut (w : World) (base g gl : Nat) (V : Nat → Value) (tv : Value) (P : Pl.HP) (R : Option Hd × Pl.HS) (e : Ending) (w' : World) : Prop :=
  ∃ (h : Hd) (cs' ls' : Array Value) (V' : Nat → Value) (tv' : Value),
    e = .returned (.tuple #[hdV h, .slice none 0 0, .bool R.1.isSome]) ∧ (∀ x, R.1 = some x → h = x) ∧
    Hsh w' base g gl cs' ls' V' tv' P R.2 (Pl.waitH P.m R.2).length ∧ HTrn w w' g gl P.m V tv V' tv'
set_option maxHeartbeats 4000000 in
set_option maxRecDepth 100000 in
theorem hshTake_none (base g gl : Nat) (cs ls : Array Value) (V : Nat → Value) (tv : Value) (P : Pl.HP) (s : Pl.HS) (now : Int) (w : World) (h : Hsh w base g gl cs ls V tv P s (Pl.waitH P.m s).length) (hT : s.T = []) :
    Calls Try.prog 80 #[.pointer (some ⟨g, 0, none⟩), .int .i64 now] w (HshTakeOut w base g gl V tv P (Pl.takeH s)) := by
  have hb0 : Below w.heap.size w (w.alloc (.cells #[.int .i64 0, .int .i64 0, .int .i64 0, .int .i64 0, .int .i64 0, .int .i64 0] 54)) := (Below.refl _ _).alloc (Nat.le_refl _) _
  have hR : Pl.takeH s = (none, s) := by unfold Pl.takeH; rw [hT]
  rw [hR]
  have hgl := h.blk.lt
  have hgll := h.lk.lt
  have n1 : w.heap.size ≠ g := by omega
  have n3 : w.heap.size ≠ gl := by omega
  have n2 : g ≠ w.heap.size := by omega
  have hrw : ¬ HF P.m V tv w.heap.size := fun e => by have := (h.rlt _ e).2; omega
  have y3 := (h.below hb0).cell h.c3
  obtain ⟨At, ct, hvt, _, _, _⟩ := h.tn.reads
  rw [hvt, hT] at y3
  simp only [List.length_nil] at y3
  have hk := Blk.new w 54 #[.int .i64 0, .int .i64 0, .int .i64 0, .int .i64 0, .int .i64 0, .int .i64 0]
  have H := Lib.hid (h.below hb0); have HT := Lib.hid ((HTrn.refl w g gl P.m V tv).below hb0); have HK := Lib.hid hk; have HRW := Lib.hid hrw
  clear h hb0 hR hrw hvt hk hT
  go_enter Try.func80, Try.ntmps80
  go_upto_region 1 with fail
  generalize w.alloc (.cells #[.int .i64 0, .int .i64 0, .int .i64 0, .int .i64 0, .int .i64 0, .int .i64 0] 54) = W at *
  obtain ⟨t0, t1, t2, t3, t4, t5, s0, s1, s2, s3, s4, s5⟩ := blk6 HK.out
  have hkf := blk_six HK.out (.int .i64 0) (.int .i64 0) (.int .i64 0) (.int .i64 0) (.int .i64 0) (.int .i64 0)
  have HKF := Lib.hid hkf
  clear hkf HK
  go_wp2_with fail
  have r0 := HKF.out.cell 0; have r1 := HKF.out.cell 1; have r2 := HKF.out.cell 2; have r3 := HKF.out.cell 3; have r4 := HKF.out.cell 4; have r5 := HKF.out.cell 5
  simp at r0 r1 r2 r3 r4 r5
  have hset := fun (W : World) (c : Nat) (u : Value) (hd : Hsh W base g gl cs ls V tv P s (Pl.waitH P.m s).length) => hd.setNew (p := ⟨w.heap.size, c, none⟩) n1 n3 HRW.out u
  have hst := fun (W : World) (c : Nat) (u : Value) (ht : HTrn w W g gl P.m V tv V tv) => ht.setNew (p := ⟨w.heap.size, c, none⟩) (Nat.le_refl _) u
  exact bodyPost_ret (v := .tuple #[hdV Hd.zero, .slice none 0 0, .bool false]) (by simp [results, Try.results80, go_sem, hdV, Hd.zero, It.zero, r0, r1, r2, r3, r4, r5]) rfl
    ⟨Hd.zero, cs, ls, V, tv, rfl, fun x e => (by cases e), hset _ 5 _ (hset _ 4 _ (hset _ 3 _ (hset _ 2 _ (hset _ 1 _ (hset _ 0 _ H.out))))), hst _ 5 _ (hst _ 4 _ (hst _ 3 _ (hst _ 2 _ (hst _ 1 _ (hst _ 0 _ HT.out)))))⟩

set_option maxHeartbeats 8000000 in
set_option maxRecDepth 100000 in
theorem hshTake_some (base g gl : Nat) (cs ls : Array Value) (V : Nat → Value) (tv : Value) (P : Pl.HP) (s : Pl.HS) (now : Int) (w : World) (h : Hsh w base g gl cs ls V tv P s (Pl.waitH P.m s).length) (hi : Pl.HI P s)
    (hbase : base ≤ w.heap.size) (hl : ∀ f, f < P.m → HdsOk (s.L f)) (hn : (Pl.waitH P.m s).length ≤ 1000) (hTl : s.T.length ≤ 1000) {k : Nat} {T' : List Nat} (hT : s.T = k :: T') :
    Calls Try.prog 80 #[.pointer (some ⟨g, 0, none⟩), .int .i64 now] w (HshTakeOut w base g gl V tv P (Pl.takeH s)) := by
  have hb0 : Below w.heap.size w (w.alloc (.cells #[.int .i64 0, .int .i64 0, .int .i64 0, .int .i64 0, .int .i64 0, .int .i64 0] 54)) := (Below.refl _ _).alloc (Nat.le_refl _) _
  have hkm := (hi.h.ne k (by rw [hT]; simp)).1
  have hLne := (hi.h.ne k (by rw [hT]; simp)).2
  obtain ⟨x, r, hLk⟩ : ∃ x r, s.L k = x :: r := by
    cases hq : s.L k with
    | nil => exact absurd hq hLne
    | cons x r => exact ⟨x, r, rfl⟩
  have hR : Pl.takeH s = (some x, ⟨Pl.updf s.L k r, if 0 < r.length then T' ++ [k] else T'⟩) := by unfold Pl.takeH; rw [hT]; dsimp only; rw [hLk]
  rw [hR]
  obtain ⟨S', hS'⟩ : ∃ S', S' = (⟨Pl.updf s.L k r, if 0 < r.length then T' ++ [k] else T'⟩ : Pl.HS) := ⟨_, rfl⟩
  have HSS := Lib.hid hS'
  rw [← hS']
  have hwn := (Pl.wait_next hkm (s' := ⟨Pl.updf s.L k r, if 0 < r.length then T' ++ [k] else T'⟩) hLk rfl).length_eq
  rw [List.length_cons] at hwn
  have hgl := h.blk.lt
  have hgll := h.lk.lt
  have n1 : w.heap.size ≠ g := by omega
  have n3 : w.heap.size ≠ gl := by omega
  have hrw : ¬ HF P.m V tv w.heap.size := fun e => by have := (h.rlt _ e).2; omega
  have hm0 : HMid w (w.alloc (.cells #[.int .i64 0, .int .i64 0, .int .i64 0, .int .i64 0, .int .i64 0, .int .i64 0] 54)) base g gl w.heap.size V tv P Hd.zero s (Pl.waitH P.m s).length cs ls V tv :=
    ⟨h.below hb0, (HTrn.refl _ _ _ _ _ _).below hb0, Blk.new _ _ _, hrw⟩
  have hxb := (hl k hkm).b x (by rw [hLk]; simp)
  obtain ⟨hx0, hx1⟩ := hxb
  have htot := (hl k hkm).tot
  rw [hLk] at htot
  obtain ⟨htot0, htot1⟩ := htot
  have hrn : r.length ≤ 1000 := by have := (hl k hkm).n; rw [hLk] at this; simp at this; omega
  obtain ⟨n, hnn⟩ : ∃ n, n = (Pl.waitH P.m s).length := ⟨_, rfl⟩
  rw [← hnn] at hn hwn hm0
  have HM0 := Lib.hid hm0; have HLK := Lib.hid hLk; have HTT := Lib.hid hT; have HWN := Lib.hid hwn
  obtain ⟨TN, hTN⟩ : ∃ q, q = T'.length := ⟨_, rfl⟩
  have hTl' : TN + 1 ≤ 1000 := by rw [hTN]; rw [hT] at hTl; simpa using hTl
  have HTN := Lib.hid hTN
  have hn1 : 1 ≤ n := by omega
  clear h hb0 hR hS' hrw hm0 hwn hnn hl hi hLne hTN hTl hLk hT
  go_enter Try.func80, Try.ntmps80
  go_upto_region 1 with fail
  generalize w.alloc (.cells #[.int .i64 0, .int .i64 0, .int .i64 0, .int .i64 0, .int .i64 0, .int .i64 0] 54) = W at *
  have hrow := HM0.out.h.tn
  rw [HTT.out] at hrow
  have hrow' : OwnW W base 3 1 tv (TN + 1) ((tnL (k :: T')).flatMap IntR.cells) := by rw [HTN.out]; exact hrow
  obtain ⟨At, ct, hvt, _, _, _⟩ := hrow'.reads
  have hrow2 := hrow'
  rw [hvt] at hrow2
  obtain ⟨gt, ot, hAt, hct, _, hgt, _⟩ := intR_at (l := tnL (k :: T')) hrow2 (k := 0) (by omega)
  subst hAt
  have hct' : W.cell? ⟨gt, ot, none⟩ = some (.int .i64 (k : Int)) := hct
  obtain ⟨A', hA', hown', hsl⟩ := turn_tail hrow2 (by omega)
  have hob : Value.ownBlock (.slice (some A') TN (ct - 1)) = tv.ownBlock := by rw [hvt]; simp [Value.ownBlock, hA']
  have y3 := HM0.out.h.cell HM0.out.h.c3
  rw [hvt] at y3
  have x3 := HM0.out.h.blk.frozen 3
  have hm1 := HM0.out.setT (T' := T') (World.grownBy.refl W _) (by rw [← HTN.out]; exact hown') (.inl hob)
  have e0 : (((TN : Int) + 1) == 0) = false := by rw [beq_eq_false_iff_ne]; omega
  have HM1 := Lib.hid hm1
  clear hrow hrow' hrow2 hct hown' hob hm1 hA' HM0
  go_upto_region 5 with fail
  clear y3 x3 hct' e0 hsl hvt
  generalize W.setCell ⟨g, 3, none⟩ (.slice (some A') TN (ct - 1)) = w1 at *
  have y0 := HM1.out.h.cell HM1.out.h.c0
  have ikm : (k : Int) < (P.m : Int) := by omega
  have hlst := HM1.out.h.lst hkm
  rw [show (⟨s.L, T'⟩ : Pl.HS).L k = x :: r from HLK.out] at hlst
  have hnx := next_some base gl (k * 2) 59 ls (V k) x r _ w1 hlst hrn htot0 (by omega) (by omega) (by omega)
  have HNX := Lib.hid hnx
  obtain ⟨⟨xa, xl, xf, xb, xm⟩, xn⟩ := x
  unfold NextOut hdV at HNX
  dsimp only at HNX hx0 hx1
  clear hlst hnx
  have HK1 := Lib.hid HM1.out.k
  go_upto_region 6 with (go_at_call 37; (with_reducible refine HNX.out.mono ?_); rintro e w5 ⟨rfl, v5, h5⟩; have htc : Pl.tot (⟨⟨xa, xl, xf, xb, xm⟩, xn⟩ :: r) - xl = Pl.tot r := (by rw [Pl.tot_cons]; simp only []; omega); have h6 := HM1.out.of_lst hkm h5 htc; obtain ⟨ls5, hm5⟩ := h6; have hk5 := hm5.k; obtain ⟨t0, t1, t2, t3, t4, t5, s0, s1, s2, s3, s4, s5⟩ := blk6 hk5; have HM5 := Lib.hid hm5; clear h5 hm5 hk5 htc)
  have hm6 := HM5.out.fill (Nat.le_refl _) ⟨⟨xa, xl, xf, xb, xm⟩, xn⟩
  dsimp only at hm6
  have HM6 := Lib.hid hm6
  clear hm6 t0 t1 t2 t3 t4 t5 s0 s1 s2 s3 s4 s5 HM5 y0 HNX HM1 HK1
  generalize (((((w5.setCell ⟨w.heap.size, 0, none⟩ (.int .i64 xa)).setCell ⟨w.heap.size, 1, none⟩ (.int .i64 xl)).setCell ⟨w.heap.size, 2, none⟩ (.int .i64 xf)).setCell ⟨w.heap.size, 3, none⟩ (.int .i64 xb)).setCell ⟨w.heap.size, 4, none⟩ (.int .i64 xm)).setCell ⟨w.heap.size, 5, none⟩ (.int .i64 xn) = w6 at *
  have y4 := HM6.out.h.cell HM6.out.h.c4
  have x4 := HM6.out.h.blk.frozen 4
  have e4 : IntKind.i64.wrap ((n : Int) - 1) = (n : Int) - 1 := IntWalk.i64_in _ (by omega)
  have hm7 := HM6.out.setM ((n : Int) - 1)
  have HM7 := Lib.hid hm7
  clear hm7 HM6
  go_upto_region 7 with fail
  clear y4 x4 e4
  generalize w6.setCell ⟨g, 4, none⟩ (.int .i64 ((n : Int) - 1)) = w7 at *
  have y0 := HM7.out.h.cell HM7.out.h.c0
  obtain ⟨Ak, ck, hvk, _, _, _⟩ := (HM7.out.h.own k hkm).reads
  have yk := HM7.out.h.lcell (HM7.out.h.l0 k hkm)
  rw [hvk, show (⟨Pl.updf s.L k r, T'⟩ : Pl.HS).L k = r from Pl.updf_same _ _ _] at yk
  obtain ⟨rl, hrl⟩ : ∃ q, q = r.length := ⟨_, rfl⟩
  rw [← hrl] at yk
  have hlq := len_q gl (k * 2) rl ck Ak w7 yk
  have HLQ := Lib.hid hlq; have HRL := Lib.hid hrl
  clear hlq hvk yk hrl
  have hrow7 := HM7.out.h.tn
  have hrow8 : OwnW w7 base 3 1 (.slice (some A') TN (ct - 1)) TN ((tnL T').flatMap IntR.cells) := by rw [HTN.out]; rw [HTN.out] at hrow7; exact hrow7
  have HROW := Lib.hid hrow8
  have hszb : base ≤ w7.heap.size := by have := HM7.out.t.chg.size; omega
  have hgN : g ≠ w7.heap.size := by have := HM7.out.h.blk.lt; omega
  have hwN : w.heap.size ≠ w7.heap.size := by have := HM7.out.k.lt; omega
  have hg7 := HM7.out.h.blk.lt
  clear hrow7 hrow8
  go_upto_if 53 with (go_at_call 21; (with_reducible refine HLQ.out.mono ?_); rintro e w8 ⟨rfl, rfl⟩)
  go_cut [] from 46 to 63 (fun wx => ∃ (cs1 : Array Value) (tv1 : Value), HMid w wx base g gl w.heap.size V tv P ⟨⟨xa, xl, xf, xb, xm⟩, xn⟩ ⟨Pl.updf s.L k r, if 0 < r.length then T' ++ [k] else T'⟩ ((n : Int) - 1) cs1 ls5 (Pl.updf V k v5) tv1)
  case first =>
    by_cases h0 : 0 < rl
    · have hT1 : (if 0 < r.length then T' ++ [k] else T') = T' ++ [k] := if_pos (by rw [← HRL.out]; exact h0)
      have HT1 := Lib.hid hT1
      have y3 := HM7.out.h.cell HM7.out.h.c3
      clear hT1
      go_wp2_with (at_builtin; go_must (refine wpList_addW IntR rfl (.tmp 58) (.tmp 60) _ base 3 _ 8 Try.underlying32 Try.intRInfo rfl rfl _ TN (tnL T') (k : Int) _ HROW.out rfl rfl (by show Value.slice (some ⟨w8.heap.size, 0, none⟩) 1 1 = _; simp) (int_one _) (by omega) (by omega) (by omega) ?_); intro v9 w9 h1 h2 h3; have hc9 : Chg w8 w9 (fun i => Value.ownBlock (.slice (some A') TN (ct - 1)) = some i) := Chg.of_grown h2 (fun i e => e.symm); have hb9 := HM7.out.h.blk.chg hc9 (fun e => (HM7.out.h.rne g (.inl e)).1 rfl); have z3 := (hb9.cell 3).trans HM7.out.h.c3; have x3' := hb9.frozen 3; obtain ⟨A9, c9, hv9, _, _, _⟩ := h1.reads; subst hv9; have H91 := Lib.hid h1; have H92 := Lib.hid h2; have H93 := Lib.hid h3; clear h1 h2 h3 hb9)
      go_meet
      case rel =>
        rw [HT1.out]
        exact ⟨_, _, HM7.out.setT (T' := T' ++ [k]) H92.out (by rw [tnL_app, List.length_append, ← HTN.out]; exact H91.out) (H93.out.imp id fun h k hk => Nat.le_of_lt (h k hk))⟩
    · have hT1 : (if 0 < r.length then T' ++ [k] else T') = T' := if_neg (by rw [← HRL.out]; exact h0)
      have HT1 := Lib.hid hT1
      clear hT1
      go_wp2_with fail
      go_meet
      case rel =>
        rw [HT1.out]
        exact ⟨_, _, HM7.out⟩
  case rest =>
    obtain ⟨cs1, tv1, hm9⟩ := hcut
    have HM9 := Lib.hid hm9
    obtain ⟨t0, t1, t2, t3, t4, t5, s0, s1, s2, s3, s4, s5⟩ := blk6 hm9.k
    have hfin := hm9.fill (Nat.le_refl _) ⟨⟨xa, xl, xf, xb, xm⟩, xn⟩
    dsimp only at hfin
    have HFIN := Lib.hid hfin
    have hnf : ((n : Int) - 1) = ((Pl.waitH P.m ⟨Pl.updf s.L k r, if 0 < r.length then T' ++ [k] else T'⟩).length : Int) := by have := HWN.out; omega
    have HNF := Lib.hid hnf
    clear hm9 hfin hnf y0 HLQ
    go_wp2_with fail
    have r0 := HFIN.out.k.cell 0; have r1 := HFIN.out.k.cell 1; have r2 := HFIN.out.k.cell 2; have r3 := HFIN.out.k.cell 3; have r4 := HFIN.out.k.cell 4; have r5 := HFIN.out.k.cell 5
    simp at r0 r1 r2 r3 r4 r5
    refine bodyPost_ret (v := .tuple #[hdV ⟨⟨xa, xl, xf, xb, xm⟩, xn⟩, .slice none 0 0, .bool true]) (by simp [results, Try.results80, go_sem, hdV, r0, r1, r2, r3, r4, r5]) rfl
      ⟨⟨⟨xa, xl, xf, xb, xm⟩, xn⟩, cs1, ls5, Pl.updf V k v5, tv1, rfl, fun x e => ?_, ?_, HFIN.out.t⟩
    · injection e
    · have := HFIN.out.h
      rw [HNF.out, ← HSS.out] at this
      exact this
theorem hshTake_any (base g gl : Nat) (cs ls : Array Value) (V : Nat → Value) (tv : Value) (P : Pl.HP) (s : Pl.HS) (now : Int) (w : World) (h : Hsh w base g gl cs ls V tv P s (Pl.waitH P.m s).length) (hi : Pl.HI P s)
    (hbase : base ≤ w.heap.size) (hl : ∀ f, f < P.m → HdsOk (s.L f)) (hn : (Pl.waitH P.m s).length ≤ 1000) (hTl : s.T.length ≤ 1000) :
    Calls Try.prog 80 #[.pointer (some ⟨g, 0, none⟩), .int .i64 now] w (HshTakeOut w base g gl V tv P (Pl.takeH s)) := by
  cases hT : s.T with
  | nil => exact hshTake_none base g gl cs ls V tv P s now w h hT
  | cons k T => exact hshTake_some base g gl cs ls V tv P s now w h hi hbase hl hn hTl hT
end Go.Proofs.Ythhgbpbaihgogaa
