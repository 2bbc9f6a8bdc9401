/-
  What a shaper's Take does.
-/
import Derived.Test.YtdhojhgmaodifaaDoorShpLook
namespace Go.Proofs.YtdhojhgmaodifaaDoor
open Go.RowKit Bkt
set_option linter.unusedVariables false

theorem bodyPost_is6 {P : Program} {f : Func} {Q : Ending → World → Prop} {x : Exit} {a : Act} {W : World} (h : ∀ Wf, Wf = W → bodyPost P f Q x a Wf) : bodyPost P f Q x a W := h W rfl
theorem chg_six (w : World) (g : Nat) (u0 u1 u2 u3 u4 u5 : Value) : Chg w ((((((w.setCell ⟨g, 0, none⟩ u0).setCell ⟨g, 1, none⟩ u1).setCell ⟨g, 2, none⟩ u2).setCell ⟨g, 3, none⟩ u3).setCell ⟨g, 4, none⟩ u4).setCell ⟨g, 5, none⟩ u5) (fun i => i = g) :=
  Chg.setCell (p := ⟨g, 5, none⟩) (Chg.setCell (p := ⟨g, 4, none⟩) (Chg.setCell (p := ⟨g, 3, none⟩) (Chg.setCell (p := ⟨g, 2, none⟩) (Chg.setCell (p := ⟨g, 1, none⟩) (Chg.setCell (p := ⟨g, 0, none⟩) (Chg.refl w (fun i => i = g)) (fun _ => rfl) _) (fun _ => rfl) _) (fun _ => rfl) _) (fun _ => rfl) _) (fun _ => rfl) _) (fun _ => rfl) _
def heldZ : Array Value := #[.int .i64 0, .int .i64 0, .int .i64 0, .int .i64 0, .int .i64 0, .int .i64 0]
/-- what a Take leaves -/
def STakeOut (base : Nat) (b : Bk) (p : Pl.FP) (g gt gq : Nat) (r : Option Hd × List Hd × Pl.Shp (List Hd)) (k : Nat) (F : Nat → Prop) (w : World) (e : Ending) (w' : World) : Prop :=
  ∃ h0, e = .returned (.tuple #[hdV h0, .slice none 0 0, .bool r.1.isSome]) ∧ (∀ x, r.1 = some x → h0 = x) ∧ Hid (∃ F' Fq vn, ShI base b p g gt gq r.2.2 k F' Fq w' vn ∧ Chg w w' F ∧ ∀ i, F' i → F i ∨ w.heap.size ≤ i)
/-- behind the look: what a frame is good for -/
structure Mid (base : Nat) (b : Bk) (p : Pl.FP) (g gt gq : Nat) (s : Pl.Shp (List Hd)) (k : Nat) (F F' Fq : Nat → Prop) (w w1 : World) (vn : Value) : Prop where
  s : ShI base b p g gt gq s k F' Fq w1 vn
  c : Chg w w1 F
  f : ∀ i, F' i → F i ∨ w.heap.size < i
  z : Blk w1 w.heap.size 127 heldZ
section
variable {base : Nat} {b : Bk} {p : Pl.FP} {g gt gq : Nat} {s : Pl.Shp (List Hd)} {k : Nat} {F F' Fq : Nat → Prop} {w w1 w' : World} {vn : Value}
theorem Mid.out (h : Mid base b p g gt gq s k F F' Fq w w1 vn) : ∃ F' Fq vn, ShI base b p g gt gq s k F' Fq w1 vn ∧ Chg w w1 F ∧ ∀ i, F' i → F i ∨ w.heap.size ≤ i :=
  ⟨F', Fq, vn, h.s, h.c, fun i hi => by rcases h.f i hi with e | e; exact .inl e; exact .inr (by omega)⟩
/-- the bucket has turned -/
theorem Mid.bucket (h : Mid base b p g gt gq s k F F' Fq w w1 vn) (hp : Pl.FOk p) (hg : w1.drew.grownBy w' (some gt)) {st' : St} (hst : StB w' gt b st') (hs : SOk b st') (hl : st'.last ≤ 1000000000) : Mid base b p g gt gq ⟨s.q, st', s.next⟩ k F F' Fq w w' vn := by
  have h1 : ShI base b p g gt gq s k F' Fq w1.drew vn := h.s.over hp (bl_drew (Below.refl _ _))
  refine ⟨h1.bucket hp hg hst hs hl, (h.c.drew).trans (S' := fun i => i = gt) (Chg.of_grown hg (fun i e => by injection e)) (fun i hi e => ?_), h.f, (h.z.drew).grown hg (fun e => ?_)⟩
  · subst e
    rcases h.f _ h.s.mF.2.1 with e | e
    · exact e
    · omega
  · injection e with e
    exact Blk.ne_ h.z h.s.st (by decide) e
/-- the result's cells have turned -/
theorem Mid.res (h : Mid base b p g gt gq s k F F' Fq w w1 vn) (hp : Pl.FOk p) (hF : ∀ i, F i → i < w.heap.size) (hc : Chg w1 w' (fun i => i = w.heap.size)) : ∃ F' Fq vn, ShI base b p g gt gq s k F' Fq w' vn ∧ Chg w w' F ∧ ∀ i, F' i → F i ∨ w.heap.size ≤ i := by
  refine ⟨F', Fq, vn, h.s.chg hp hc (fun i hi e => ?_), h.c.trans hc (fun i hi e => by omega), fun i hi => by rcases h.f i hi with e | e; exact .inl e; exact .inr (by omega)⟩
  rcases h.f i hi with e2 | e2
  · have := hF i e2; omega
  · omega
end

set_option maxHeartbeats 4000000 in
set_option maxRecDepth 100000 in
theorem stake_any (base : Nat) (b : Bk) (hk : BkOk b) (p : Pl.FP) (hp : Pl.FOk p) (g gt gq : Nat) (s : Pl.Shp (List Hd)) (k : Nat) (F Fq : Nat → Prop) (w : World) (vn : Value) (now : Int) (h : ShI base b p g gt gq s k F Fq w vn) (h0 : 0 ≤ now) (h1 : now ≤ 1000000000) (hB : base ≤ w.heap.size) :
    Calls Tryd.prog 95 #[.pointer (some ⟨g, 0, none⟩), .int .i64 now] w (STakeOut base b p g gt gq (Pl.shTake b now (Pl.lookF s)) k F w) := by
  have hF : ∀ i, F i → i < w.heap.size := fun i hi => (h.lt i hi).2
  have hov := h.over hp (w' := w.alloc (.cells heldZ 127)) (bl_alloc (Below.refl _ _))
  have hlk := look_any base b p hp g gt gq s k F Fq (w.alloc (.cells heldZ 127)) vn now hov h0 h1 (by simp; omega)
  have HLK := Lib.hid hlk; have HF := Lib.hid hF; have HP := Lib.hid hp; have HK := Lib.hid hk
  clear h hov hlk hp hF
  unfold heldZ at HLK
  go_enter Tryd.func95, Tryd.ntmps95
  go_wp2_with fail
  (with_reducible refine HLK.out.mono ?_)
  rintro e w1 ⟨rfl, hl⟩
  obtain ⟨F1, Fq1, vn1, hs1, hc1, hf1⟩ := hl.out
  have hmid : Mid base b p g gt gq (Pl.lookF s) k F F1 Fq1 w w1 vn1 := by
    refine ⟨hs1, ?_, fun i hi => ?_, (Blk.new w 127 heldZ).chg hc1 (fun e => by have := HF.out _ e; omega)⟩
    · exact (Chg.of_below (bl_alloc (o := .cells heldZ 127) (Below.refl _ w))).trans hc1 (fun i _ h => h)
    · rcases hf1 i hi with e | e
      · exact .inl e
      · exact .inr (by simp at e; omega)
  clear hl hs1 hc1 hf1
  generalize Pl.lookF s = s1 at *
  obtain ⟨q1, st1, nx1⟩ := s1
  have hb1 := hmid.s.blk
  have c2 : w1.cell? ⟨g, 2, none⟩ = some vn1 := hb1.cell 2
  have c3 : w1.cell? ⟨g, 3, none⟩ = some (.slice none 0 0) := hb1.cell 3
  have fz3 : w1.frozen? ⟨g, 3, none⟩ = false := hb1.frozen 3
  have hgR : g ≠ w.heap.size := fun e => by
    rcases hmid.f g hmid.s.mF.1 with h | h
    · have := HF.out g h; omega
    · omega
  have hmid2 : Mid base b p g gt gq ⟨q1, st1, nx1⟩ k F F1 Fq1 w (w1.setCell ⟨g, 3, none⟩ (.slice none 0 0)) vn1 :=
    ⟨hmid.s.same HP.out 3 _ rfl, hmid.c.setCell (p := ⟨g, 3, none⟩) (fun hlt => by
      rcases hmid.f g hmid.s.mF.1 with h | h
      · exact h
      · have : g < w.heap.size := hlt
        omega) _, hmid.f, hmid.z.far (p := ⟨g, 3, none⟩) (fun e => hgR e.symm) _⟩
  have HM := Lib.hid hmid2
  clear hmid hmid2 hb1
  cases nx1 with
  | none =>
    obtain rfl : vn1 = .pointer none := by
      rcases HM.out.s.nx with ⟨_, e⟩ | ⟨x, gn, e1, _⟩
      · exact e
      · cases e1
    have hr : Pl.shTake b now ⟨q1, st1, none⟩ = (none, [], ⟨q1, st1, none⟩) := rfl
    rw [hr]
    go_upto_region 3 with fail
    have c2 := HM.out.s.blk.cell 2
    have z0 := HM.out.z.cell 0; have z1 := HM.out.z.cell 1; have z2 := HM.out.z.cell 2; have z3 := HM.out.z.cell 3; have z4 := HM.out.z.cell 4; have z5 := HM.out.z.cell 5
    have f0 := HM.out.z.frozen 0; have f1 := HM.out.z.frozen 1; have f2 := HM.out.z.frozen 2; have f3 := HM.out.z.frozen 3; have f4 := HM.out.z.frozen 4; have f5 := HM.out.z.frozen 5
    clear c3 fz3
    generalize w1.setCell ⟨g, 3, none⟩ (.slice none 0 0) = W2 at *
    simp [heldZ] at c2 z0 z1 z2 z3 z4 z5
    go_quiet (fail)
    go_wp2_with fail
    refine bodyPost_is6 fun Wf hWf => ?_
    have hch : Chg W2 Wf (fun i => i = w.heap.size) := by
      rw [hWf]
      exact ((Chg.refl W2 (fun i => i = w.heap.size)).drewN nq).trans (chg_six _ _ _ _ _ _ _ _) (fun _ _ h => h)
    have hkf : Blk Wf w.heap.size 127 #[.int .i64 0, .int .i64 0, .int .i64 0, .int .i64 0, .int .i64 0, .int .i64 0] := by rw [hWf]; exact blk_six (HM.out.z.drewN nq) _ _ _ _ _ _
    clear hWf
    have r0 := hkf.cell 0; have r1 := hkf.cell 1; have r2 := hkf.cell 2; have r3 := hkf.cell 3; have r4 := hkf.cell 4; have r5 := hkf.cell 5
    simp at r0 r1 r2 r3 r4 r5
    refine bodyPost_ret (v := .tuple #[hdV Hd.zero, .slice none 0 0, .bool false]) (by simp [results, Tryd.results95, go_sem, hdV, Hd.zero, It.zero, r0, r1, r2, r3, r4, r5]) rfl ?_
    exact ⟨Hd.zero, rfl, fun x e => (by cases e), Lib.hid (HM.out.res HP.out HF.out hch)⟩
  | some x =>
    obtain ⟨gn, hvn, hbn, hgn, hxl⟩ : ∃ gn, vn1 = .pointer (some ⟨gn, 0, none⟩) ∧ Blk (w1.setCell ⟨g, 3, none⟩ (.slice none 0 0)) gn 127 (hdArr x) ∧ (F1 gn ∧ ¬ Fq1 gn) ∧ 0 ≤ x.it.len ∧ x.it.len ≤ 10000 := by
      rcases HM.out.s.nx with ⟨e, _⟩ | ⟨y, gn, e1, e2, e3, e4, e5⟩
      · cases e
      · injection e1 with e1
        subst e1
        exact ⟨gn, e2, e3, e4, e5⟩
    subst hvn
    obtain ⟨⟨xa, xl, xf, xb, xm⟩, xn⟩ := x
    have htk : ∀ W, StB W gt b st1 → Calls Tryd.prog 45 #[.pointer (some ⟨gt, 0, none⟩), .int .i64 now, .int .i64 xl] W (BTakeOut W gt (Bkt.take b st1 now xl) b (Bkt.okB b st1 now xl)) := fun W hW => take_any b st1 gt now xl W hk hW HM.out.s.sok.last HM.out.s.sl h1 HM.out.s.sok.has0 HM.out.s.sok.has1 hxl.1 (Int.le_trans hxl.2 (by decide))
    have hso : SOk b (Bkt.take b st1 now xl) := sok_take (now := now) HK.out HM.out.s.sok hxl.1
    have hsl : (Bkt.take b st1 now xl).last ≤ 1000000000 := by rw [last_take]; have := HM.out.s.sl; dsimp only at this; omega
    have hrt : Bkt.okB b st1 now xl = true → Pl.shTake b now ⟨q1, st1, some ⟨⟨xa, xl, xf, xb, xm⟩, xn⟩⟩ = (some ⟨⟨xa, xl, xf, xb, xm⟩, xn⟩, [], ⟨q1, Bkt.take b st1 now xl, none⟩) := fun e => if_pos e
    have hrf : Bkt.okB b st1 now xl = false → Pl.shTake b now ⟨q1, st1, some ⟨⟨xa, xl, xf, xb, xm⟩, xn⟩⟩ = (none, [], ⟨q1, Bkt.take b st1 now xl, some ⟨⟨xa, xl, xf, xb, xm⟩, xn⟩⟩) := fun e => if_neg (by rw [e]; decide)
    generalize Pl.shTake b now ⟨q1, st1, some ⟨⟨xa, xl, xf, xb, xm⟩, xn⟩⟩ = res at *
    generalize Bkt.take b st1 now xl = st2 at *
    generalize Bkt.okB b st1 now xl = ok at *
    have HRT := Lib.hid hrt; have HRF := Lib.hid hrf
    clear hrt hrf
    have hst := HM.out.s.st
    have HTK := Lib.hid htk; have HSO := Lib.hid hso; have HSL := Lib.hid hsl; have HXL := Lib.hid hxl; have HGN := Lib.hid hgn; have HST := Lib.hid hst
    clear htk hso hsl hxl hgn hst
    go_upto_region 3 with fail
    have c2 := HM.out.s.blk.cell 2
    have c1 := HM.out.s.blk.cell 1
    have n1 := hbn.cell 1
    clear c3 fz3
    have HBN := Lib.hid hbn
    clear hbn
    generalize w1.setCell ⟨g, 3, none⟩ (.slice none 0 0) = W2 at *
    simp [hdArr] at c2 c1 n1
    go_still_tail 19, (by kernel_rfl)
    change wpList _ _ _ _ _ (World.drew _)
    go_wp2_with fail
    (with_reducible refine (HTK.out _ ?_).mono ?_)
    · exact Blk.drew HST.out
    rintro e w3 ⟨rfl, hg3, hst3⟩
    have hm3 := HM.out.bucket HP.out hg3 hst3 HSO.out HSL.out
    have hbn3 := (HBN.out.drew).grown hg3 (fun e => by injection e with e; exact Blk.ne_ HBN.out HST.out (by decide) e)
    have hgl3 := hm3.s.blk.lt
    have hnR : gn ≠ w.heap.size := fun e => by
      rcases HM.out.f gn HGN.out.1 with h | h
      · have := HF.out gn h; omega
      · omega
    have z0 := hm3.z.cell 0; have z1 := hm3.z.cell 1; have z2 := hm3.z.cell 2; have z3 := hm3.z.cell 3; have z4 := hm3.z.cell 4; have z5 := hm3.z.cell 5
    have f0 := hm3.z.frozen 0; have f1 := hm3.z.frozen 1; have f2 := hm3.z.frozen 2; have f3 := hm3.z.frozen 3; have f4 := hm3.z.frozen 4; have f5 := hm3.z.frozen 5
    have g2 := hm3.s.blk.cell 2
    have gf2 := hm3.s.blk.frozen 2
    have m0 := hbn3.cell 0; have m1 := hbn3.cell 1; have m2 := hbn3.cell 2; have m3 := hbn3.cell 3; have m4 := hbn3.cell 4; have m5 := hbn3.cell 5
    simp [heldZ, hdArr] at z0 z1 z2 z3 z4 z5 g2 m0 m1 m2 m3 m4 m5
    have HM3 := Lib.hid hm3; have HBN3 := Lib.hid hbn3
    clear hm3 hbn3 hst3 hg3 c1 c2 n1
    have hRg : w.heap.size ≠ g := fun e => hgR e.symm
    have hRn : w.heap.size ≠ gn := fun e => hnR e.symm
    cases ok
    · go_wp2_with fail
      refine bodyPost_is6 fun Wf hWf => ?_
      have hch : Chg w3 Wf (fun i => i = w.heap.size) := by
        rw [hWf]
        exact chg_six _ _ _ _ _ _ _ _
      have hkf : Blk Wf w.heap.size 127 #[.int .i64 0, .int .i64 0, .int .i64 0, .int .i64 0, .int .i64 0, .int .i64 0] := by rw [hWf]; exact blk_six HM3.out.z _ _ _ _ _ _
      clear hWf
      have r0 := hkf.cell 0; have r1 := hkf.cell 1; have r2 := hkf.cell 2; have r3 := hkf.cell 3; have r4 := hkf.cell 4; have r5 := hkf.cell 5
      simp at r0 r1 r2 r3 r4 r5
      refine bodyPost_ret (v := .tuple #[hdV Hd.zero, .slice none 0 0, .bool false]) (by simp [results, Tryd.results95, go_sem, hdV, Hd.zero, It.zero, r0, r1, r2, r3, r4, r5]) rfl ?_
      rw [HRF.out trivial]
      exact ⟨Hd.zero, rfl, fun x e => (by cases e), Lib.hid (HM3.out.res HP.out HF.out hch)⟩
    · go_upto_region 6 with fail
      have hz4 := blk_six HM3.out.z (.int .i64 xa) (.int .i64 xl) (.int .i64 xf) (.int .i64 xb) (.int .i64 xm) (.int .i64 xn)
      have hc4 := chg_six w3 w.heap.size (.int .i64 xa) (.int .i64 xl) (.int .i64 xf) (.int .i64 xb) (.int .i64 xm) (.int .i64 xn)
      have hs4 := HM3.out.s.chg HP.out hc4 (fun i hi e => by
        rcases HM.out.f i hi with e2 | e2
        · have := HF.out i e2; omega
        · omega)
      have hcw4 : Chg w ((((((w3.setCell ⟨w.heap.size, 0, none⟩ (.int .i64 xa)).setCell ⟨w.heap.size, 1, none⟩ (.int .i64 xl)).setCell ⟨w.heap.size, 2, none⟩ (.int .i64 xf)).setCell ⟨w.heap.size, 3, none⟩ (.int .i64 xb)).setCell ⟨w.heap.size, 4, none⟩ (.int .i64 xm)).setCell ⟨w.heap.size, 5, none⟩ (.int .i64 xn)) F := HM3.out.c.trans hc4 (fun i hi e => by omega)
      clear z0 z1 z2 z3 z4 z5 f0 f1 f2 f3 f4 f5 g2 gf2 m0 m1 m2 m3 m4 m5 hc4
      generalize (((((w3.setCell ⟨w.heap.size, 0, none⟩ (.int .i64 xa)).setCell ⟨w.heap.size, 1, none⟩ (.int .i64 xl)).setCell ⟨w.heap.size, 2, none⟩ (.int .i64 xf)).setCell ⟨w.heap.size, 3, none⟩ (.int .i64 xb)).setCell ⟨w.heap.size, 4, none⟩ (.int .i64 xm)).setCell ⟨w.heap.size, 5, none⟩ (.int .i64 xn) = W4 at *
      have g2 := hs4.blk.cell 2
      have gf2 := hs4.blk.frozen 2
      simp at g2
      have HS4 := Lib.hid hs4; have HC4 := Lib.hid hcw4; have HZ4 := Lib.hid hz4
      clear hs4 hcw4 hz4
      go_upto_region 7 with fail
      have hs5 := HS4.out.gone HP.out
      have hz5 := HZ4.out.far (p := ⟨g, 2, none⟩) hRg (.pointer none)
      have hc5 := HC4.out.setCell (p := ⟨g, 2, none⟩) (fun hlt => by
        rcases HM.out.f g HM.out.s.mF.1 with h | h
        · exact h
        · have : g < w.heap.size := hlt
          omega) (.pointer none)
      clear g2 gf2
      generalize W4.setCell ⟨g, 2, none⟩ (.pointer none) = W5 at *
      have z0 := hz5.cell 0; have z1 := hz5.cell 1; have z2 := hz5.cell 2; have z3 := hz5.cell 3; have z4 := hz5.cell 4; have z5 := hz5.cell 5
      have f0 := hz5.frozen 0; have f1 := hz5.frozen 1; have f2 := hz5.frozen 2; have f3 := hz5.frozen 3; have f4 := hz5.frozen 4; have f5 := hz5.frozen 5
      simp at z0 z1 z2 z3 z4 z5
      have HS5 := Lib.hid hs5; have HC5 := Lib.hid hc5; have HZ5 := Lib.hid hz5
      clear hs5 hc5 hz5
      go_wp2_with fail
      refine bodyPost_is6 fun Wf hWf => ?_
      have hch : Chg W5 Wf (fun i => i = w.heap.size) := by
        rw [hWf]
        exact chg_six _ _ _ _ _ _ _ _
      have hkf : Blk Wf w.heap.size 127 #[.int .i64 xa, .int .i64 xl, .int .i64 xf, .int .i64 xb, .int .i64 xm, .int .i64 xn] := by rw [hWf]; exact blk_six HZ5.out _ _ _ _ _ _
      clear hWf
      have r0 := hkf.cell 0; have r1 := hkf.cell 1; have r2 := hkf.cell 2; have r3 := hkf.cell 3; have r4 := hkf.cell 4; have r5 := hkf.cell 5
      simp at r0 r1 r2 r3 r4 r5
      refine bodyPost_ret (v := .tuple #[hdV ⟨⟨xa, xl, xf, xb, xm⟩, xn⟩, .slice none 0 0, .bool true]) (by simp [results, Tryd.results95, go_sem, hdV, r0, r1, r2, r3, r4, r5]) rfl ?_
      rw [HRT.out trivial]
      refine ⟨⟨⟨xa, xl, xf, xb, xm⟩, xn⟩, rfl, fun x e => (by injection e), Lib.hid ⟨F1, Fq1, _, HS5.out.chg HP.out hch (fun i hi e => ?_), HC5.out.trans hch (fun i hi e => by omega), fun i hi => by rcases HM.out.f i hi with e | e; exact .inl e; exact .inr (by omega)⟩⟩
      rcases HM.out.f i hi with e2 | e2
      · have := HF.out i e2; omega
      · omega
end Go.Proofs.YtdhojhgmaodifaaDoor
