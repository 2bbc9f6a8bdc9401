/-
  What a shaper's When, Put, Len, Bytes do.
-/
import Derived.Test.YtdhojhgmaodifaaDoorShpTake
import Derived.Deep.RegionLaw
namespace Go.Proofs.YtdhojhgmaodifaaDoor
open Go.RowKit Bkt
set_option linter.unusedVariables false

theorem stB_drew {w : World} {g : Nat} {k : Bk} {s : St} (h : StB w g k s) : StB w.drew g k s := Blk.drew h
/-- what is seen of the next one -/
theorem ShI.none_ {base : Nat} {b : Bk} {p : Pl.FP} {g gt gq : Nat} {s : Pl.Shp (List Hd)} {k : Nat} {F Fq : Nat → Prop} {w : World} {vn : Value} (h : ShI base b p g gt gq s k F Fq w vn) (hn : s.next = none) : vn = .pointer none := by
  rcases h.nx with ⟨_, e⟩ | ⟨x, gn, e1, _⟩
  · exact e
  · rw [hn] at e1; cases e1
theorem ShI.some_ {base : Nat} {b : Bk} {p : Pl.FP} {g gt gq : Nat} {s : Pl.Shp (List Hd)} {k : Nat} {F Fq : Nat → Prop} {w : World} {vn : Value} {x : Hd} (h : ShI base b p g gt gq s k F Fq w vn) (hn : s.next = some x) : ∃ gn, vn = .pointer (some ⟨gn, 0, none⟩) ∧ Blk w gn 127 (hdArr x) ∧ (F gn ∧ ¬ Fq gn) ∧ 0 ≤ x.it.len ∧ x.it.len ≤ 10000 := by
  rcases h.nx with ⟨e, _⟩ | ⟨y, gn, e1, e2, e3, e4, e5⟩
  · rw [hn] at e; cases e
  · rw [hn] at e1
    injection e1 with e1
    subst e1
    exact ⟨gn, e2, e3, e4, e5⟩
def Pl.shWhenF (b : Bk) (p : Pl.FP) (now : Int) (s : Pl.Shp (List Hd)) : Option Int × Pl.Shp (List Hd) :=
  match s.next with
  | none => (((Pl.fifoM p).when_ now s.q).1, ⟨((Pl.fifoM p).when_ now s.q).2, s.st, none⟩)
  | some x => if b.r < x.it.len then (none, s) else (some (whenAt b s.st now x.it.len), ⟨s.q, fill b s.st now, some x⟩)
theorem Pl.shWhen_is (b : Bk) (p : Pl.FP) (now : Int) (s : Pl.Shp (List Hd)) : Pl.shWhen b (Pl.fifoM p) now s = Pl.shWhenF b p now s := by
  obtain ⟨q, st, nx⟩ := s
  cases nx <;> rfl
def SWhenOut (base : Nat) (b : Bk) (p : Pl.FP) (g gt gq : Nat) (r : Option Int × Pl.Shp (List Hd)) (k : Nat) (F : Nat → Prop) (w : World) (e : Ending) (w' : World) : Prop :=
  ∃ a, e = .returned (.tuple #[.int .i64 a, .bool r.1.isSome]) ∧ (∀ x, r.1 = some x → a = x) ∧ Hid (∃ F' Fq vn, ShI base b p g gt gq r.2 k F' Fq w' vn ∧ Chg w w' F ∧ ∀ i, F' i → F i ∨ w.heap.size ≤ i)
set_option maxHeartbeats 4000000 in
set_option maxRecDepth 100000 in
theorem swhen_any (base : Nat) (b : Bk) (hk : BkOk b) (p : Pl.FP) (hp : Pl.FOk p) (g gt gq : Nat) (s : Pl.Shp (List Hd)) (k : Nat) (F Fq : Nat → Prop) (w : World) (vn : Value) (now : Int) (h : ShI base b p g gt gq s k F Fq w vn) (h0 : 0 ≤ now) (h1 : now ≤ 1000000000) (hB : base ≤ w.heap.size) :
    Calls Tryd.prog 96 #[.pointer (some ⟨g, 0, none⟩), .int .i64 now] w (SWhenOut base b p g gt gq (Pl.shWhenF b p now (Pl.lookF s)) k F w) := by
  have hlk := look_any base b p hp g gt gq s k F Fq w vn now h h0 h1 hB
  have HLK := Lib.hid hlk; have HP := Lib.hid hp; have HK := Lib.hid hk
  clear h hlk hp
  go_enter Tryd.func96, Tryd.ntmps96
  go_wp2_with fail
  (with_reducible refine HLK.out.mono ?_)
  rintro e w1 ⟨rfl, hl⟩
  obtain ⟨F1, Fq1, vn1, hs1, hc1, hf1⟩ := hl.out
  clear hl
  generalize Pl.lookF s = s1 at *
  obtain ⟨q1, st1, nx1⟩ := s1
  have c0 := hs1.blk.cell 0
  have c1 := hs1.blk.cell 1
  have c2 := hs1.blk.cell 2
  simp at c0 c1 c2
  cases nx1 with
  | none =>
    obtain rfl := hs1.none_ rfl
    obtain ⟨fw, rw_, hmw, hcw⟩ := (fifo_imp base gq p HP.out).when_
    have hwh := hcw _ k Fq1 w1 now hs1.q h0 h1
    have HT : Hid (Calls Tryd.prog fw #[rw_, .int .i64 now] w1 (WhenOut (FInv1 base gq p) w1 Fq1 k (Pl.fifoM p |>.when_ now q1))) := Lib.hid hwh
    have HM := Lib.hid hmw; have HS1 := Lib.hid hs1; have HC1 := Lib.hid hc1; have HF1 := Lib.hid hf1
    clear hwh hcw hmw hs1 hc1 hf1 c1
    unfold fifV at c0
    go_wp2_with (refine wpList_invoke1 (vx := .int .i64 now) rfl (.tmp 33) (.tmp 34) #[3] rfl HM.out rfl rfl HT.out (fun e w' ⟨_, _, h, _⟩ => ⟨_, h⟩) ?_; rintro v3 w3 ⟨a, F', e3, h3⟩; injection e3 with e3; subst e3; have H3 := Lib.hid h3; clear h3)
    go_ret2
    obtain ⟨e1, e2, e3, e4⟩ := H3.out
    have hs3 := HS1.out.queue e2 e3 e4
    refine ⟨a, rfl, e1, Lib.hid ⟨_, _, _, hs3, HC1.out.trans (S' := Fq1) e3 (fun i hi e => ?_), fun i hi => ?_⟩⟩
    · rcases HF1.out i (HS1.out.mF.2.2 i e) with e | e
      · exact e
      · omega
    · rcases hi with hi | hi
      · exact HF1.out i hi
      · rcases e4 i hi with e | e
        · exact HF1.out i (HS1.out.mF.2.2 i e)
        · exact .inr (Nat.le_trans HC1.out.size e)
  | some x =>
    obtain ⟨gn, rfl, hbn, hgn, hxl⟩ := hs1.some_ rfl
    have hst := hs1.st
    have hso := hs1.sok
    have hsl := hs1.sl
    have n1 := hbn.cell 1
    obtain ⟨⟨xa, xl, xf, xb, xm⟩, xn⟩ := x
    simp [hdArr] at n1
    dsimp only at hst hso hsl hxl
    have HS1 := Lib.hid hs1; have HC1 := Lib.hid hc1; have HF1 := Lib.hid hf1
    by_cases hr : b.r < xl
    · have hres : Pl.shWhenF b p now ⟨q1, st1, some ⟨⟨xa, xl, xf, xb, xm⟩, xn⟩⟩ = (none, ⟨q1, st1, some ⟨⟨xa, xl, xf, xb, xm⟩, xn⟩⟩) := if_pos hr
      have HRES := Lib.hid hres
      have hwn : ∀ W, StB W gt b st1 → Calls Tryd.prog 46 #[.pointer (some ⟨gt, 0, none⟩), .int .i64 now, .int .i64 xl] W fun e w' => e = .returned (.tuple #[.int .i64 0, .bool false]) ∧ W = w' := fun W hW => when_no b st1 gt now xl W hW h1 hxl.1 hr
      have HWN := Lib.hid hwn; have HST := Lib.hid hst
      clear hwn hst hso hsl hs1 hc1 hf1 hbn hgn hres c0
      go_upto_region 3 with fail
      go_region_law ((go_simp; go_at_call 46; (with_reducible refine (HWN.out _ (stB_drew HST.out)).mono ?_); rintro e w3 ⟨rfl, rfl⟩))
      all_goals
        go_wp2_with fail
        go_ret2
        rw [HRES.out]
        exact ⟨0, rfl, fun x e => (by cases e), Lib.hid ⟨F1, Fq1, _, HS1.out.over HP.out (bl_drew (Below.refl _ _)), HC1.out.drew, HF1.out⟩⟩
    · have hres : Pl.shWhenF b p now ⟨q1, st1, some ⟨⟨xa, xl, xf, xb, xm⟩, xn⟩⟩ = (some (whenAt b st1 now xl), ⟨q1, fill b st1 now, some ⟨⟨xa, xl, xf, xb, xm⟩, xn⟩⟩) := if_neg hr
      have HRES := Lib.hid hres
      have hwn : ∀ W, StB W gt b st1 → Calls Tryd.prog 46 #[.pointer (some ⟨gt, 0, none⟩), .int .i64 now, .int .i64 xl] W (BWhenOut W gt b (fill b st1 now) (whenAt b st1 now xl)) := fun W hW => when_any b st1 gt now xl W hk hW hso hsl h0 h1 hxl.1 (by omega)
      have hso2 := sok_fill (now := now) hk hso
      have hsl2 : (fill b st1 now).last ≤ 1000000000 := by rw [last_fill]; omega
      have HWN := Lib.hid hwn; have HST := Lib.hid hst; have HSO := Lib.hid hso2; have HSL := Lib.hid hsl2
      clear hwn hst hso hsl hs1 hc1 hf1 hbn hgn hres c0 hso2 hsl2
      go_upto_region 3 with fail
      go_region_law ((go_simp; go_at_call 46; (with_reducible refine (HWN.out _ (stB_drew HST.out)).mono ?_); rintro e w3 ⟨rfl, hg3, hst3⟩; have HG3 := Lib.hid hg3; have HST3 := Lib.hid hst3; clear hg3 hst3))
      all_goals
       go_wp2_with fail
       go_ret2
       rw [HRES.out]
       have hs2 := (HS1.out.over HP.out (bl_drew (Below.refl _ _))).bucket HP.out HG3.out HST3.out HSO.out HSL.out
       refine ⟨_, rfl, fun x e => (by injection e), Lib.hid ⟨F1, Fq1, _, hs2, (HC1.out.drew).trans (S' := fun i => i = gt) (Chg.of_grown HG3.out (fun i e => by injection e)) (fun i hi e => ?_), HF1.out⟩⟩
       subst e
       rcases HF1.out _ HS1.out.mF.2.1 with e | e
       · exact e
       · omega
end Go.Proofs.YtdhojhgmaodifaaDoor
