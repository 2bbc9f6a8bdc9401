/-
  Flows that are put together by a hash, in memory: Put.
-/
import Derived.Test.YthhgbpbaihgogaaDel
import Derived.Test.YthhgbpbaihgogaaLast
namespace Go.Proofs.Ythhgbpbaihgogaa
open Go.RowKit Bkt
set_option linter.unusedVariables false

/-- behind a Put -/
def HshPutOut (w : World) (base g gl : Nat) (V : Nat → Value) (tv : Value) (P : Pl.HP) (R : List Hd × Pl.HS) (e : Ending) (w' : World) : Prop :=
  ∃ (A : Option Addr) (c : Nat) (cs' ls' : Array Value) (V' : Nat → Value) (tv' : Value),
    e = .returned (.slice A R.1.length c) ∧ RdR HdR w' w'.heap.size A R.1.length R.1 ∧ (∀ ad, A = some ad → w.heap.size ≤ ad.block) ∧
    Hsh w' base g gl cs' ls' V' tv' P R.2 (Pl.waitH P.m R.2).length ∧ HTrn w w' g gl P.m V tv V' tv'
/-- the state on the way: the box, the lists, what has turned -/
structure HMid (w wr : World) (base g gl kx : Nat) (V : Nat → Value) (tv : Value) (P : Pl.HP) (x : Hd) (s : Pl.HS) (n : Int) (cs ls : Array Value) (V' : Nat → Value) (tv' : Value) : Prop where
  h : Hsh wr base g gl cs ls V' tv' P s n
  t : HTrn w wr g gl P.m V tv V' tv'
  k : Blk wr kx 54 #[.int .i64 x.it.at_, .int .i64 x.it.len, .int .i64 x.it.flow, .int .i64 x.it.band, .int .i64 x.it.mark, .int .i64 x.num]
  kn : ¬ HF P.m V' tv' kx
section
variable {w wr w' : World} {base g gl kx : Nat} {V V' : Nat → Value} {tv tv' tv'' : Value} {P : Pl.HP} {x : Hd} {s : Pl.HS} {n : Int} {cs ls : Array Value}
theorem HMid.below (h : HMid w wr base g gl kx V tv P x s n cs ls V' tv') (hb : Below wr.heap.size wr w') : HMid w w' base g gl kx V tv P x s n cs ls V' tv' := ⟨h.h.below hb, h.t.below hb, h.k.below hb h.k.lt, h.kn⟩
theorem HMid.drew (h : HMid w wr base g gl kx V tv P x s n cs ls V' tv') : HMid w wr.drew base g gl kx V tv P x s n cs ls V' tv' := h.below (bl_drew (Below.refl _ _))
theorem HMid.kg (h : HMid w wr base g gl kx V tv P x s n cs ls V' tv') : kx ≠ g ∧ kx ≠ gl := ⟨fun e => Blk.ne_ (e ▸ h.k) h.h.blk (by decide) rfl, fun e => Blk.ne_ (e ▸ h.k) h.h.lk (by decide) rfl⟩
theorem HMid.setM (h : HMid w wr base g gl kx V tv P x s n cs ls V' tv') (y : Int) : HMid w (wr.setCell ⟨g, 4, none⟩ (.int .i64 y)) base g gl kx V tv P x s y (cs.setIfInBounds 4 (.int .i64 y)) ls V' tv' :=
  ⟨h.h.setM y, h.t.set_ 4 _, h.k.far (p := ⟨g, 4, none⟩) h.kg.1 _, h.kn⟩
theorem HMid.setT (h : HMid w wr base g gl kx V tv P x s n cs ls V' tv') {w1 : World} {T' : List Nat} (hg : wr.grownBy w1 tv'.ownBlock) (ho : OwnW w1 base 3 1 tv'' T'.length ((tnL T').flatMap IntR.cells)) (hat : tv''.ownBlock = tv'.ownBlock ∨ ∀ k, tv''.ownBlock = some k → wr.heap.size ≤ k) :
    HMid w (w1.setCell ⟨g, 3, none⟩ tv'') base g gl kx V tv P x ⟨s.L, T'⟩ n (cs.setIfInBounds 3 tv'') ls V' tv'' := by
  obtain ⟨h1, h2⟩ := h.h.setT hg ho hat
  have hc : Chg wr w1 (fun i => tv'.ownBlock = some i) := Chg.of_grown hg (fun i e => e.symm)
  exact ⟨h1, h.t.trans h2, (h.k.chg hc (fun e => h.kn (.inl e))).far (p := ⟨g, 3, none⟩) h.kg.1 _, fun e => (h2.at_ _ e).elim h.kn (fun e => by have := h.k.lt; omega)⟩
theorem HMid.setKb (h : HMid w wr base g gl kx V tv P x s n cs ls V' tv') {p : Addr} (hp : p.block ≠ g) (hp2 : p.block ≠ gl) (hv : ¬ HF P.m V' tv' p.block) (hk : kx ≠ p.block) (hw : w.heap.size ≤ p.block) (u : Value) : HMid w (wr.setCell p u) base g gl kx V tv P x s n cs ls V' tv' :=
  ⟨h.h.setNew hp hp2 hv u, h.t.setNew hw u, h.k.far hk u, h.kn⟩
theorem HMid.six (h : HMid w wr base g gl kx V tv P x s n cs ls V' tv') {b : Nat} (hp : b ≠ g) (hp2 : b ≠ gl) (hv : ¬ HF P.m V' tv' b) (hk : kx ≠ b) (hw : w.heap.size ≤ b) (u0 u1 u2 u3 u4 u5 : Value) :
    HMid w ((((((wr.setCell ⟨b, 0, none⟩ u0).setCell ⟨b, 1, none⟩ u1).setCell ⟨b, 2, none⟩ u2).setCell ⟨b, 3, none⟩ u3).setCell ⟨b, 4, none⟩ u4).setCell ⟨b, 5, none⟩ u5) base g gl kx V tv P x s n cs ls V' tv' :=
  (((((h.setKb (p := ⟨b, 0, none⟩) hp hp2 hv hk hw u0).setKb (p := ⟨b, 1, none⟩) hp hp2 hv hk hw u1).setKb (p := ⟨b, 2, none⟩) hp hp2 hv hk hw u2).setKb (p := ⟨b, 3, none⟩) hp hp2 hv hk hw u3).setKb (p := ⟨b, 4, none⟩) hp hp2 hv hk hw u4).setKb (p := ⟨b, 5, none⟩) hp hp2 hv hk hw u5
theorem HMid.of_lst (h : HMid w wr base g gl kx V tv P x s n cs ls V' tv') {f : Nat} (hf : f < P.m) {v' : Value} {l' : List Hd} {b' : Int} (h' : LstTo wr w' base gl (f * 2) 59 ls (V' f) v' l' b') (e : b' = Pl.tot l') :
    ∃ ls', HMid w w' base g gl kx V tv P x ⟨Pl.updf s.L f l', s.T⟩ n cs ls' (Pl.updf V' f v') tv' := by
  obtain ⟨ls', h1, h2⟩ := h.h.of_lst hf h' e
  refine ⟨ls', h1, h.t.trans h2, h.k.chg h2.chg ?_, fun e => (h2.at_ _ e).elim h.kn (fun e => by have := h.k.lt; omega)⟩
  rintro (e | e | e)
  · exact h.kg.1 e
  · exact h.kg.2 e
  · exact h.kn e
end

set_option maxHeartbeats 8000000 in
set_option maxRecDepth 100000 in
theorem hshPut_any (base g gl : Nat) (cs ls : Array Value) (V : Nat → Value) (tv : Value) (P : Pl.HP) (s : Pl.HS) (now : Int) (x : Hd) (w : World) (h : Hsh w base g gl cs ls V tv P s (Pl.waitH P.m s).length) (hi : Pl.HI P s) (hP : Pl.HPOk P) (hx : Pl.okB x.it = true)
    (hbase : base ≤ w.heap.size) (hl : ∀ f, f < P.m → HdsOk (s.L f)) (hn : (Pl.waitH P.m s).length ≤ 900) (hT : s.T.length ≤ 900) :
    Calls Try.prog 79 #[.pointer (some ⟨g, 0, none⟩), .int .i64 now, hdV x] w (HshPutOut w base g gl V tv P (Pl.putH P x s)) := by
  have hb0 : Below w.heap.size w (w.alloc (.cells #[.int .i64 x.it.at_, .int .i64 x.it.len, .int .i64 x.it.flow, .int .i64 x.it.band, .int .i64 x.it.mark, .int .i64 x.num] 54)) := (Below.refl _ _).alloc (Nat.le_refl _) _
  have hfi := okB_fine.1 hx
  have hfl := hfi.f2
  have hm64 := hP.m.2
  have hxl := okB_len hx
  obtain ⟨k, hk⟩ : ∃ k, k = Pl.whr P x.it.flow := ⟨_, rfl⟩
  have hkm : k < P.m := by rw [hk]; exact Pl.whr_lt hP _
  have hm0 : HMid w (w.alloc (.cells #[.int .i64 x.it.at_, .int .i64 x.it.len, .int .i64 x.it.flow, .int .i64 x.it.band, .int .i64 x.it.mark, .int .i64 x.num] 54)) base g gl w.heap.size V tv P x s (Pl.waitH P.m s).length cs ls V tv :=
    ⟨h.below hb0, (HTrn.refl _ _ _ _ _ _).below hb0, Blk.new _ _ _, fun e => by have := (h.rlt _ e).2; omega⟩
  have hwa := (Pl.wait_add hkm x s).length_eq
  rw [List.length_append, List.length_singleton] at hwa
  have hpo := (Pl.putH_ok hP hi hx).ways
  have hadd := hi.h.add hP hx
  rw [← hk] at hpo hadd
  have HM0 := Lib.hid hm0; have HL := Lib.hid hl; have HPO := Lib.hid hpo; have HAD := Lib.hid hadd; have HK := Lib.hid hk
  have hwhere := fun W nn cs' (hh : Hsh W base g gl cs' ls V tv P s nn) => hshWhere_any base g gl cs' ls V tv P s nn x.it.flow W hh hP (by omega)
  rw [← hk] at hwhere
  have HWH := Lib.hid hwhere
  obtain ⟨n, hnn⟩ : ∃ n, n = (Pl.waitH P.m s).length := ⟨_, rfl⟩
  rw [← hnn] at hn hwa HM0
  obtain ⟨hxl0, hxl1⟩ := hxl
  clear h hi hx hfi hfl hwhere hpo hm0 hk hl hb0 hnn hP hadd
  obtain ⟨s1, hs1⟩ : ∃ s1, s1 = Pl.addH k x s := ⟨_, rfl⟩
  have HS1 := Lib.hid hs1
  clear hs1
  obtain ⟨⟨xa, xl, xf, xb, xm⟩, xn⟩ := x
  unfold hdV
  dsimp only at HM0 HWH hxl0 hxl1 ⊢
  go_enter Try.func79, Try.ntmps79
  go_upto_region 1 with fail
  generalize w.alloc (.cells #[.int .i64 xa, .int .i64 xl, .int .i64 xf, .int .i64 xb, .int .i64 xm, .int .i64 xn] 54) = W at *
  obtain ⟨t0, t1, t2, t3, t4, t5, _, _, _, _, _, _⟩ := blk6 HM0.out.k
  have hwc := HWH.out _ _ _ HM0.out.h
  have HWC := Lib.hid hwc
  clear hwc
  go_upto_region 2 with (go_at_call 29; (with_reducible refine HWC.out.mono ?_); rintro e w1 ⟨rfl, q, rfl⟩)
  have hm1 := HM0.out.below (bl_drewN (n := q) (Below.refl _ _))
  have HM1 := Lib.hid hm1
  have hkl := HM0.out.k.lt
  clear hm1 t0 t1 t2 t3 t4 t5 HM0 HWC HWH
  have hkl : w.heap.size < (W.drewN q).heap.size := hkl
  generalize W.drewN q = W1 at *
  have ikm : (k : Int) < (P.m : Int) := by omega
  have y0 := HM1.out.h.cell HM1.out.h.c0
  have y3 := HM1.out.h.cell HM1.out.h.c3
  have x3 := HM1.out.h.blk.frozen 3
  obtain ⟨Ak, ck, hvk, _, _, _⟩ := (HM1.out.h.own k hkm).reads
  have yk := HM1.out.h.lcell (HM1.out.h.l0 k hkm)
  rw [hvk] at yk
  have hlq := len_q gl (k * 2) (s.L k).length ck Ak W1 yk
  have HLQ := Lib.hid hlq
  obtain ⟨At, ct, hvt, _, _, _⟩ := HM1.out.h.tn.reads
  rw [hvt] at y3
  have HVT := Lib.hid hvt
  have hszW : base ≤ W1.heap.size := by omega
  have hglt := HM1.out.h.blk.lt
  clear hlq hvk hvt yk
  obtain ⟨len, hlen⟩ : ∃ len, len = (s.L k).length := ⟨_, rfl⟩
  rw [← hlen] at HLQ
  have HLEN := Lib.hid hlen
  clear hlen
  go_upto_if 24 with (go_at_call 21; (with_reducible refine HLQ.out.mono ?_); rintro e w2 ⟨rfl, rfl⟩)
  go_cut [] from 12 to 34 (fun wx => ∃ (cs1 : Array Value) (tv1 : Value), HMid w wx base g gl w.heap.size V tv P ⟨⟨xa, xl, xf, xb, xm⟩, xn⟩ ⟨s.L, if (s.L k).length = 0 then s.T ++ [k] else s.T⟩ n cs1 ls V tv1)
  case first =>
    by_cases h0 : len = 0
    · have t0 : ((len : Int) == 0) = true := by rw [h0]; rfl
      have hT1 : (if (s.L k).length = 0 then s.T ++ [k] else s.T) = s.T ++ [k] := if_pos (by have := HLEN.out; omega)
      have HT1 := Lib.hid hT1
      have hown2 : OwnW w2 base 3 IntR.sz (.slice At s.T.length ct) s.T.length ((tnL s.T).flatMap IntR.cells) := by rw [← HVT.out]; exact HM1.out.h.tn
      have HOWN := Lib.hid hown2
      have hgN : g ≠ w2.heap.size := by omega
      clear hT1 hown2
      go_wp2_with (at_builtin; go_must (refine wpList_addW IntR rfl (.tmp 29) (.tmp 31) _ base 3 _ 8 Try.underlying32 Try.intRInfo rfl rfl _ s.T.length (tnL s.T) (k : Int) _ HOWN.out rfl rfl (by show Value.slice (some ⟨w2.heap.size, 0, none⟩) 1 1 = _; simp) (int_one _) (by omega) (by omega) (by omega) ?_); intro v8 w8 h1 h2 h3; rw [← HVT.out] at h2 h3; have hc8 : Chg w2 w8 (fun i => tv.ownBlock = some i) := Chg.of_grown h2 (fun i e => e.symm); have hb8 := HM1.out.h.blk.chg hc8 (fun e => (HM1.out.h.rne g (.inl e)).1 rfl); have z3 := (hb8.cell 3).trans HM1.out.h.c3; have x3' := hb8.frozen 3; obtain ⟨A8, c8, hv8, _, _, _⟩ := h1.reads; subst hv8; have H81 := Lib.hid h1; have H82 := Lib.hid h2; have H83 := Lib.hid h3; clear h1 h2 h3 hb8)
      go_meet
      case rel =>
        rw [HT1.out]
        exact ⟨_, _, HM1.out.setT (T' := s.T ++ [k]) H82.out (by rw [tnL_app, List.length_append]; exact H81.out) (H83.out.imp id fun h k hk => Nat.le_of_lt (h k hk))⟩
    · have t0 : ((len : Int) == 0) = false := by simp; omega
      have hT1 : (if (s.L k).length = 0 then s.T ++ [k] else s.T) = s.T := if_neg (by have := HLEN.out; omega)
      have HT1 := Lib.hid hT1
      clear hT1
      go_wp2_with fail
      go_meet
      case rel =>
        rw [HT1.out]
        exact ⟨cs, tv, HM1.out⟩
  case rest =>
    obtain ⟨cs1, tv1, hm2⟩ := hcut
    have HM2 := Lib.hid hm2
    clear hm2 y0 y3 x3 HM1 HLQ HVT
    go_upto_region 4 with fail
    have y0 := HM2.out.h.cell HM2.out.h.c0
    obtain ⟨t0, t1, t2, t3, t4, t5, _, _, _, _, _, _⟩ := blk6 HM2.out.k
    have hlst := HM2.out.drew.h.lst hkm
    have hlk := HL.out k hkm
    obtain ⟨htot0, htot1⟩ := hlk.tot
    have hszc := HM2.out.t.chg.size
    have hadd := add_any base gl (k * 2) 59 ls (V k) (s.L k) (Pl.tot (s.L k)) ⟨⟨xa, xl, xf, xb, xm⟩, xn⟩ wc.drew hlst (by show base ≤ wc.heap.size; omega) hlk.n htot0 (by omega) hxl0 (by simp only []; omega)
    unfold hdV at hadd
    dsimp only at hadd
    have HADD := Lib.hid hadd
    clear hadd hlst hlk
    go_still_tail 7, (by kernel_rfl)
    change wpList _ _ _ _ _ wc.drew
    go_upto_region 5 with (go_at_call 43; (with_reducible refine HADD.out.mono ?_); rintro e w5 ⟨rfl, v5, h5⟩; have H5 := Lib.hid h5; clear h5)
    obtain ⟨ls5, hm5⟩ := HM2.out.drew.of_lst hkm H5.out (Pl.tot_snoc (s.L k) ⟨⟨xa, xl, xf, xb, xm⟩, xn⟩).symm
    have hs1 : (⟨Pl.updf s.L k (s.L k ++ [⟨⟨xa, xl, xf, xb, xm⟩, xn⟩]), if (s.L k).length = 0 then s.T ++ [k] else s.T⟩ : Pl.HS) = s1 := HS1.out.symm
    have hm5' : HMid w w5 base g gl w.heap.size V tv P ⟨⟨xa, xl, xf, xb, xm⟩, xn⟩ s1 n cs1 ls5 (Pl.updf V k v5) tv1 := by rw [← hs1]; exact hm5
    have HM5 := Lib.hid hm5'
    clear hm5 hm5' hs1 HM2 H5 HADD y0 t0 t1 t2 t3 t4 t5
    generalize Pl.updf V k v5 = V5 at *
    have y4 := HM5.out.h.cell HM5.out.h.c4
    have x4 := HM5.out.h.blk.frozen 4
    have e4 : IntKind.i64.wrap ((n : Int) + 1) = (n : Int) + 1 := IntWalk.i64_in _ (by omega)
    have hm6 := HM5.out.setM ((n : Int) + 1)
    have HM6 := Lib.hid hm6
    clear hm6 HM5
    go_upto_region 6 with fail
    clear y4 x4 e4
    generalize w5.setCell ⟨g, 4, none⟩ (.int .i64 ((n : Int) + 1)) = w6 at *
    have y4 := HM6.out.h.cell HM6.out.h.c4
    have y2 := HM6.out.h.cell HM6.out.h.c2
    go_quiet (fail)
    have HM7 := Lib.hid (HM6.out.below (bl_drewN (n := nq) (Below.refl _ _)))
    clear y4 y2 HM6
    generalize w6.drewN nq = w7 at *
    have hwn : (Pl.waitH P.m s1).length = n + 1 := by rw [HS1.out]; exact hwa.symm
    by_cases hrm : (n : Int) + 1 ≤ P.room
    · have tr : decide ((n : Int) + 1 ≤ P.room) = true := by simpa using hrm
      have hR : Pl.putH P ⟨⟨xa, xl, xf, xb, xm⟩, xn⟩ s = ([], s1) := by
        rcases HPO.out with ⟨_, e⟩ | ⟨c, _⟩
        · rw [e, HS1.out]
        · exact absurd c (by rw [← hwa]; omega)
      have HR := Lib.hid hR; have HWN := Lib.hid hwn
      clear hR hwn
      go_wp2_with fail
      go_ret
      refine ⟨none, 0, cs1.setIfInBounds 4 (.int .i64 ((n : Int) + 1)), ls5, V5, tv1, ?_⟩
      rw [HR.out]
      refine ⟨rfl, Reads.none_, fun ad e => (by cases e), ?_, HM7.out.t⟩
      have := HM7.out.h
      rw [HWN.out]
      exact this
    · have tr : decide ((n : Int) + 1 ≤ P.room) = false := by simpa using hrm
      have hw' : (∃ l y, Pl.lngTo s1.L P.m < P.m ∧ s1.L (Pl.lngTo s1.L P.m) = l ++ [y] ∧ Pl.putH P ⟨⟨xa, xl, xf, xb, xm⟩, xn⟩ s = ([y], Pl.cutH (Pl.lngTo s1.L P.m) s1)) := by
        rcases HPO.out with ⟨c, _⟩ | ⟨_, hj, l, y, h1, h2⟩
        · exact absurd c (by rw [← hwa]; omega)
        · rw [HS1.out]; exact ⟨l, y, hj, h1, h2⟩
      obtain ⟨l, y, hjm, hLj, hR⟩ := hw'
      have HLJ := Lib.hid hLj; have HR := Lib.hid hR; have HWN := Lib.hid hwn; have HJM := Lib.hid hjm
      clear hLj hR hwn hjm
      have hb8 : Below w7.heap.size w7 (w7.alloc (.cells #[.int .i64 0] 3)) := (Below.refl _ _).alloc (Nat.le_refl _) _
      have hm8 := HM7.out.below hb8
      have hkb : ¬ HF P.m V5 tv1 w7.heap.size := fun e => by have := (HM7.out.h.rlt _ e).2; omega
      have hk8 := Blk.new w7 3 #[.int .i64 0]
      have hkg : w7.heap.size ≠ g := by have := HM7.out.h.blk.lt; omega
      have hkgl : w7.heap.size ≠ gl := by have := HM7.out.h.lk.lt; omega
      have hkw : w7.heap.size ≠ w.heap.size := by have := HM7.out.k.lt; omega
      have hwk0 : w.heap.size ≤ w7.heap.size := HM7.out.t.chg.size
      have HM8 := Lib.hid hm8; have HKB := Lib.hid hkb; have HK8 := Lib.hid hk8
      clear hb8 hm8 hkb hk8 HM7
      go_upto_region 9 with fail
      generalize w7.alloc (.cells #[.int .i64 0] 3) = w8 at *
      generalize w7.heap.size = kb at *
      have y0 := HM8.out.h.cell HM8.out.h.c0
      generalize cs1.setIfInBounds 4 (.int .i64 ((n : Int) + 1)) = cs2 at *
      go_upto_region 10 with fail
      clear y0
      go_loopw [64] (fun i wr => ∃ u : Nat, u ≤ P.m ∧ i = .int .i64 u ∧ HMid w wr base g gl w.heap.size V tv P ⟨⟨xa, xl, xf, xb, xm⟩, xn⟩ s1 ((n : Int) + 1) cs2 ls5 V5 tv1 ∧ Blk wr kb 3 #[.int .i64 (Pl.lngTo s1.L u : Nat)]) (fun i _ => P.m - (intOf i).toNat)
      case atStart => exact ⟨0, Nat.zero_le _, rfl, HM8.out, HK8.out⟩
      case round =>
        clear HM8 HK8
        obtain ⟨u, hu, rfl, hm8, hk8⟩ := hrel
        have HM8 := Lib.hid hm8; have HK8 := Lib.hid hk8
        clear hm8 hk8
        by_cases hlt : u < P.m
        · have iu : (u : Int) < (P.m : Int) := by omega
          obtain ⟨j, hj⟩ : ∃ j, j = Pl.lngTo s1.L u := ⟨_, rfl⟩
          have hjm : j < P.m := by
            rw [hj]
            rcases Nat.eq_zero_or_pos u with e | e
            · subst e; unfold Pl.lngTo; omega
            · have := Pl.lngTo_lt s1.L u e; omega
          have hnx : Pl.lngTo s1.L (u + 1) = if (s1.L j).length < (s1.L u).length then u else j := by rw [hj]; rfl
          have z8 := HK8.out.cell 0
          simp at z8
          rw [← hj] at z8
          have ij : (j : Int) < (P.m : Int) := by omega
          have y0 := HM8.out.h.cell HM8.out.h.c0
          obtain ⟨Au, cu, hvu, _, _, _⟩ := (HM8.out.h.own u hlt).reads
          obtain ⟨Aj, cj, hvj, _, _, _⟩ := (HM8.out.h.own j hjm).reads
          have yu := HM8.out.h.lcell (HM8.out.h.l0 u hlt)
          have yj := HM8.out.h.lcell (HM8.out.h.l0 j hjm)
          rw [hvu] at yu
          rw [hvj] at yj
          have HNX := Lib.hid hnx; have HJ := Lib.hid hj
          have xk := HK8.out.frozen 0
          clear hvu hvj hj hnx
          generalize (s1.L u).length = lu at *
          generalize (s1.L j).length = lj at *
          go_upto_region 12 with fail
          go_quiet (first | (go_at_call 21; exact Calls.quiet_of_same (len_q _ _ _ _ _ _ (by assumption))))
          have HM9 := Lib.hid (HM8.out.below (bl_drewN (n := nq) (Below.refl _ _))); have HK9 := Lib.hid (HK8.out.drewN nq)
          have xk' : (wr.drewN nq).frozen? ⟨kb, 0, none⟩ = false := xk
          have z8' : (wr.drewN nq).cell? ⟨kb, 0, none⟩ = some (.int .i64 (j : Int)) := z8
          clear HM8 HK8 y0 yu yj z8 xk
          generalize wr.drewN nq = w9 at *
          have hwk : w.heap.size ≤ kb := by omega
          by_cases hc : lj < lu
          · have hnx : Pl.lngTo s1.L (u + 1) = u := by rw [HNX.out, if_pos hc]
            have hm10 := HM9.out.setKb (p := ⟨kb, 0, none⟩) hkg hkgl HKB.out (Ne.symm hkw) hwk (.int .i64 (u : Int))
            have hk10 : Blk _ kb 3 #[.int .i64 (u : Int)] := HK9.out.set_ 0 (.int .i64 (u : Int))
            have HM10 := Lib.hid hm10; have HK10 := Lib.hid hk10; have HNX2 := Lib.hid hnx
            clear hm10 hk10 hnx
            go_wp2_with fail
            exact ⟨⟨u + 1, by omega, by go_num, HM10.out, by rw [HNX2.out]; exact HK10.out⟩, by simp [intOf]; omega⟩
          · have hnx : Pl.lngTo s1.L (u + 1) = j := by rw [HNX.out, if_neg hc]
            have HNX2 := Lib.hid hnx
            clear hnx
            go_wp2_with fail
            exact ⟨⟨u + 1, by omega, by go_num, HM9.out, by rw [HNX2.out, HJ.out]; exact HK9.out⟩, by simp [intOf]; omega⟩
        · obtain rfl : u = P.m := by omega
          obtain ⟨j, hj⟩ : ∃ j, j = Pl.lngTo s1.L P.m := ⟨_, rfl⟩
          have hjm := HJM.out
          have hlj := HLJ.out
          have hrr := HR.out
          have hk8 := HK8.out
          rw [← hj] at hjm hlj hrr hk8
          have hkt : kb < wr.heap.size := HK8.out.lt
          have HLJ2 := Lib.hid hlj; have HRR := Lib.hid hrr; have HK9 := Lib.hid hk8
          clear hj hlj hrr hk8 HLJ HR HK8 HJM
          have hs1l : HdsOk (s1.L j) := by
            refine ⟨?_, fun z hz => ?_⟩
            · have h1 := flat_len (G := fun f => (s1.L f).map Pl.key) (List.mem_range.2 hjm)
              have h2 : (s1.L j).length ≤ (Pl.waitH P.m s1).length := by simpa [Pl.waitH] using h1
              rw [HWN.out] at h2
              omega
            · have := HAD.out.b j hjm z (by rw [← HS1.out]; exact hz)
              omega
          rw [HLJ2.out] at hs1l
          have hyl := hs1l.b y (by simp)
          obtain ⟨htot0, htot1⟩ := hs1l.tot
          have hln := hs1l.n
          simp only [List.length_append, List.length_singleton] at hln
          have hlast : ∀ W, Below wr.heap.size wr W → Calls Try.prog 82 #[.pointer (some ⟨gl, j * 2, none⟩)] W (fun e w' => e = .returned (.tuple #[hdV y, .bool true]) ∧
              Hid (∃ v2 ls2, HMid w w' base g gl w.heap.size V tv P ⟨⟨xa, xl, xf, xb, xm⟩, xn⟩ ⟨Pl.updf s1.L j l, s1.T⟩ ((n : Int) + 1) cs2 ls2 (Pl.updf V5 j v2) tv1 ∧ Blk w' kb 3 #[.int .i64 (j : Nat)] ∧ HTrn W w' g gl P.m V5 tv1 (Pl.updf V5 j v2) tv1)) := fun W hb => by
            have hmw := HM8.out.below hb
            have hkw := HK9.out.below hb HK9.out.lt
            have hlst := hmw.h.lst hjm
            rw [HLJ2.out] at hlst
            refine (last_some base gl (j * 2) 59 ls5 (V5 j) y l _ W hlst (by omega) htot0 (by omega) (by omega) (by omega)).mono ?_
            rintro e w' ⟨rfl, v2, h2⟩
            have htc : Pl.tot (l ++ [y]) - y.it.len = Pl.tot l := by rw [Pl.tot_snoc]; omega
            obtain ⟨ls2, hm2⟩ := hmw.of_lst hjm h2 htc
            obtain ⟨_, _, ht2⟩ := hmw.h.of_lst hjm h2 htc
            refine ⟨rfl, Lib.hid ⟨v2, ls2, hm2, hkw.chg ht2.chg ?_, ht2⟩⟩
            rintro (e | e | e)
            · exact hkg e
            · exact hkgl e
            · exact HKB.out e
          have HLS := Lib.hid hlast
          clear hlast hs1l htot0 htot1
          have z8 := HK9.out.cell 0
          simp at z8
          have y0 := HM8.out.h.cell HM8.out.h.c0
          have ij : (j : Int) < (P.m : Int) := by omega
          have hgr := HM8.out.h.blk.lt
          have hglr := HM8.out.h.lk.lt
          have hkwr := HM8.out.k.lt
          have hrl : ¬ HF P.m V5 tv1 wr.heap.size := fun e => by have := (HM8.out.h.rlt _ e).2; omega
          have HRL := Lib.hid hrl
          have hwwr := HM8.out.t.chg.size
          clear hrl
          obtain ⟨⟨ya, yl, yf, yb, ym⟩, yn⟩ := y
          unfold hdV at HLS
          dsimp only at HLS hyl
          go_upto_region 15 with fail
          go_cut [10, 11] from 84 to 93 (fun xv ov wx => ov = .bool true ∧ ∃ kx2 ls2 v2, xv = .pointer (some ⟨kx2, 0, none⟩) ∧ HMid w wx base g gl w.heap.size V tv P ⟨⟨xa, xl, xf, xb, xm⟩, xn⟩ ⟨Pl.updf s1.L j l, s1.T⟩ ((n : Int) + 1) cs2 ls2 (Pl.updf V5 j v2) tv1 ∧ Blk wx kb 3 #[.int .i64 (j : Nat)] ∧
            Blk wx kx2 54 #[.int .i64 ya, .int .i64 yl, .int .i64 yf, .int .i64 yb, .int .i64 ym, .int .i64 yn] ∧ ¬ HF P.m (Pl.updf V5 j v2) tv1 kb)
          case first =>
            go_region_law ((go_simp; go_at_call 82; (with_reducible refine (HLS.out _ ?_).mono ?_); (repeat (first | assumption | exact Below.refl _ _ | apply bl_drew | apply bl_alloc)); rintro e w6 ⟨rfl, hb6⟩; obtain ⟨v2, ls2, h6, hk6, ht6⟩ := hb6.out; have hsz6 := ht6.chg.size; have H6 := Lib.hid h6; have HK6 := Lib.hid hk6; have HT6 := Lib.hid ht6; (try (have hkx := Blk.chg (Blk.drew (Blk.new wr 54 #[.int .i64 0, .int .i64 0, .int .i64 0, .int .i64 0, .int .i64 0, .int .i64 0])) ht6.chg (by rintro (e | e | e); exact absurd e (by omega); exact absurd e (by omega); exact HRL.out e); obtain ⟨k0, k1, k2, k3, k4, k5, k6, k7, k8, k9, k10, k11⟩ := blk6 hkx; have HKX := Lib.hid hkx; clear hkx)); clear h6 hk6 ht6 hb6))
            all_goals
              have hnk := fun (e : HF P.m (Pl.updf V5 j v2) tv1 kb) => (HT6.out.at_ _ e).elim HKB.out (fun e => by first | omega | (simp at e; omega))
              have HNK := Lib.hid hnk
              clear hnk
              go_wp2_with fail
              go_meet
              case rel =>
                first
                  | (have hkz := HKX
                     have hn9 : ¬ HF P.m (Pl.updf V5 j v2) tv1 wr.heap.size := fun e => (HT6.out.at_ _ e).elim HRL.out (fun e => by first | omega | (simp at e; omega) | simp at e)
                     exact ⟨rfl, wr.heap.size, ls2, v2, rfl, H6.out.six (b := wr.heap.size) (by omega) (by omega) hn9 (by omega) hwwr (.int .i64 ya) (.int .i64 yl) (.int .i64 yf) (.int .i64 yb) (.int .i64 ym) (.int .i64 yn), ((((((HK6.out.far (p := ⟨wr.heap.size, 0, none⟩) (by simp only []; omega) _).far (p := ⟨wr.heap.size, 1, none⟩) (by simp only []; omega) _).far (p := ⟨wr.heap.size, 2, none⟩) (by simp only []; omega) _).far (p := ⟨wr.heap.size, 3, none⟩) (by simp only []; omega) _).far (p := ⟨wr.heap.size, 4, none⟩) (by simp only []; omega) _).far (p := ⟨wr.heap.size, 5, none⟩) (by simp only []; omega) _), blk_six hkz.out (.int .i64 ya) (.int .i64 yl) (.int .i64 yf) (.int .i64 yb) (.int .i64 ym) (.int .i64 yn), HNK.out⟩)
                  | exact ⟨rfl, w6.heap.size, ls2, v2, rfl, H6.out.below ((Below.refl _ _).alloc (Nat.le_refl _) _), HK6.out.alloc _, Blk.new w6 54 #[.int .i64 ya, .int .i64 yl, .int .i64 yf, .int .i64 yb, .int .i64 ym, .int .i64 yn], HNK.out⟩
          case rest =>
            obtain ⟨rfl, kx2, ls2, v2, rfl, hm9, hk9, hy9, hkb9⟩ := hcut
            have HM9 := Lib.hid hm9; have HK9' := Lib.hid hk9; have HY9 := Lib.hid hy9; have HKB9 := Lib.hid hkb9
            have hk2g : kx2 ≠ g := fun e => Blk.ne_ (e ▸ hy9) hm9.h.blk (by decide) rfl
            clear hm9 hk9 hy9 hkb9 HLS y0 z8 HM8 HK9
            have y4 := HM9.out.h.cell HM9.out.h.c4
            have x4 := HM9.out.h.blk.frozen 4
            have e4 : IntKind.i64.wrap ((n : Int)) = (n : Int) := IntWalk.i64_in _ (by omega)
            have hm10 := HM9.out.setM (n : Int)
            have hy10 := HY9.out.far (p := ⟨g, 4, none⟩) hk2g (.int .i64 (n : Int))
            have hk10 := HK9'.out.far (p := ⟨g, 4, none⟩) hkg (.int .i64 (n : Int))
            have HM10 := Lib.hid hm10; have HY10 := Lib.hid hy10; have HK10 := Lib.hid hk10
            clear hm10 hy10 hk10 HM9 HY9 HK9'
            go_upto_region 17 with fail
            clear y4 x4 e4
            generalize wc.setCell ⟨g, 4, none⟩ (.int .i64 (n : Int)) = w10 at *
            have y0 := HM10.out.h.cell HM10.out.h.c0
            have z8 := HK10.out.cell 0
            simp at z8
            obtain ⟨Aj, cj, hvj, _, _, _⟩ := (HM10.out.h.own j hjm).reads
            have yj := HM10.out.h.lcell (HM10.out.h.l0 j hjm)
            rw [hvj, show (⟨Pl.updf s1.L j l, s1.T⟩ : Pl.HS).L j = l from Pl.updf_same _ _ _] at yj
            clear hvj
            obtain ⟨ll, hll⟩ : ∃ ll, ll = l.length := ⟨_, rfl⟩
            rw [← hll] at yj
            have HLLn := Lib.hid hll
            clear hll
            go_quiet (first | (go_at_call 21; exact Calls.quiet_of_same (len_q _ _ _ _ _ _ (by assumption))))
            have HM11 := Lib.hid (HM10.out.below (bl_drewN (n := nq) (Below.refl _ _))); have HY11 := Lib.hid (HY10.out.drewN nq); have HK11 := Lib.hid (HK10.out.drewN nq)
            clear HM10 HY10 HK10 y0 z8 yj
            generalize w10.drewN nq = w11 at *
            have hcutS : Pl.cutH j s1 = ⟨Pl.updf s1.L j l, if ll = 0 then s1.T.erase j else s1.T⟩ := by
              unfold Pl.cutH
              rw [HLJ2.out, List.dropLast_concat, List.length_append, List.length_singleton, HLLn.out]
              congr 1
              by_cases e : l.length = 0
              · rw [if_pos (by omega), if_pos e]
              · rw [if_neg (by omega), if_neg e]
            have HCS := Lib.hid hcutS
            clear hcutS
            go_upto_if 108 with fail
            go_cut [] from 94 to 117 (fun wx => ∃ cs3 tv3, HMid w wx base g gl w.heap.size V tv P ⟨⟨xa, xl, xf, xb, xm⟩, xn⟩ (Pl.cutH j s1) (n : Int) cs3 ls2 (Pl.updf V5 j v2) tv3 ∧ Blk wx kx2 54 #[.int .i64 ya, .int .i64 yl, .int .i64 yf, .int .i64 yb, .int .i64 ym, .int .i64 yn])
            case first =>
              by_cases hz : ll = 0
              · have tz : ((ll : Int) == 0) = true := by rw [hz]; rfl
                have hjT : j ∈ s1.T := by
                  have h1 := HAD.out.im j hjm (by rw [← HS1.out, HLJ2.out]; simp)
                  rw [← HS1.out] at h1
                  exact h1
                have hnd : s1.T.Nodup := by rw [HS1.out]; exact HAD.out.nd
                obtain ⟨T1, T2, hT12⟩ := List.append_of_mem hjT
                rw [hT12] at hnd
                have hnd2 := List.nodup_append.1 hnd
                have hj1 : j ∉ T1 := fun e => hnd2.2.2 j e j (by simp) rfl
                have hj2 : j ∉ T2 := (List.nodup_cons.1 hnd2.2.1).1
                have her : s1.T.erase j = T1 ++ T2 := by rw [hT12, List.erase_append_right _ hj1, List.erase_cons_head]
                have hrow := HM11.out.h.tn
                have hrow' : OwnW w11 base 3 1 tv1 (T1 ++ j :: T2).length ((tnL (T1 ++ j :: T2)).flatMap IntR.cells) := by rw [← hT12]; exact hrow
                obtain ⟨At, ct, hvt, _, _, _⟩ := hrow'.reads
                have hrow2 := hrow'
                rw [hvt] at hrow2
                obtain ⟨gt, ot, hAt, _, _, _, _⟩ := intR_at (l := tnL (T1 ++ j :: T2)) hrow2 (k := 0) (by simp; omega)
                subst hAt
                have hTl : (T1 ++ j :: T2).length ≤ 1000 := by
                  rw [← hT12, HS1.out]
                  unfold Pl.addH
                  dsimp only
                  split
                  · simp; omega
                  · omega
                have hkb9 : kb ≠ gt := fun e => HKB9.out (.inl (by rw [hvt, e]; rfl))
                have hdel := hdelete_any base gt ot ct (T1 ++ j :: T2).length T1 T2 j kb w11 rfl hrow2 hTl hj1 hj2 (HK11.out.cell 0) HK11.out.lt hkb9
                have y3 := HM11.out.h.cell HM11.out.h.c3
                rw [hvt] at y3
                obtain ⟨tq, htq⟩ : ∃ q, q = (T1 ++ T2).length := ⟨_, rfl⟩
                rw [← htq] at hdel
                have HTQ := Lib.hid htq
                clear htq
                have HDEL := Lib.hid hdel; have HVT := Lib.hid hvt; have HER := Lib.hid her
                have hmf : ∀ (fn : Fn) (first cap : Array Value) (w : World), (Instr.makeFunc fn first cap).run Try.prog w = .ok (.func fn first cap) w := fun _ _ _ _ => rfl
                clear hdel hrow hrow' hrow2 hvt hnd hnd2 hj1 hj2 her hT12 hjT
                generalize (T1 ++ j :: T2).length = tl at *
                go_wp2_with (go_at_call 83; (with_reducible refine HDEL.out.mono ?_); rintro e w12 ⟨rfl, hown12, hgr12⟩; have hgr13 : w11.grownBy w12 tv1.ownBlock := (by rw [HVT.out]; exact hgr12); have hc12 : Chg w11 w12 (fun i => tv1.ownBlock = some i) := Chg.of_grown hgr13 (fun i e => e.symm); have hb12 := HM11.out.h.blk.chg hc12 (fun e => (HM11.out.h.rne g (.inl e)).1 rfl); have z3 := (hb12.cell 3).trans HM11.out.h.c3; have x3' := hb12.frozen 3; have hy12 := HY11.out.chg hc12 (fun e => HM11.out.h.tn.blk_ne HY11.out (by decide) e); have HO12 := Lib.hid hown12; have HG12 := Lib.hid hgr13; have HY12 := Lib.hid hy12; clear hown12 hgr12 hgr13 hb12 hy12 hc12)
                go_meet
                case rel =>
                  rw [HCS.out, if_pos hz, HER.out]
                  exact ⟨_, _, HM11.out.setT (T' := T1 ++ T2) HG12.out (by rw [← HTQ.out]; exact HO12.out) (.inl (by rw [HVT.out]; rfl)), HY12.out.far (p := ⟨g, 3, none⟩) hk2g _⟩
              · have tz : ((ll : Int) == 0) = false := by simp; omega
                go_wp2_with fail
                go_meet
                case rel =>
                  rw [HCS.out, if_neg hz]
                  exact ⟨_, tv1, HM11.out, HY11.out⟩
            case rest =>
              obtain ⟨cs3, tv3, hm13, hy13⟩ := hcut
              have HM13 := Lib.hid hm13; have HY13 := Lib.hid hy13
              obtain ⟨t0, t1, t2, t3, t4, t5, _, _, _, _, _, _⟩ := blk6 hy13
              have hszf := hm13.t.chg.size
              have hwf : (Pl.waitH P.m (Pl.cutH j s1)).length = n := by
                have h1 := (Pl.wait_cut hjm HLJ2.out).length_eq
                rw [HWN.out, List.length_cons] at h1
                omega
              have HWF := Lib.hid hwf
              clear hm13 hy13 hwf
              go_wp2_with fail
              go_ret
              refine ⟨some ⟨wc.heap.size, 0, none⟩, 1, cs3, ls2, Pl.updf V5 j v2, tv3, ?_⟩
              rw [HRR.out]
              refine ⟨rfl, rdHd_one (Blk.new wc _ _) rfl, fun ad e => by injection e with e; subst e; exact hszf, ?_, HM13.out.t.below ((Below.refl _ _).alloc (Nat.le_refl _) _)⟩
              have := HM13.out.h.below ((Below.refl _ _).alloc (Nat.le_refl _) (.cells #[.int .i64 ya, .int .i64 yl, .int .i64 yf, .int .i64 yb, .int .i64 ym, .int .i64 yn] 54))
              rw [HWF.out]
              exact this
end Go.Proofs.Ythhgbpbaihgogaa
