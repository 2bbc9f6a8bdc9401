/-
  A filter's text.
-/
import Derived.Test.YtdipehgijjkfdaaDoorFlMeant
import Derived.Test.YtdipehgijjkfdaaDoorJoShelf
import Derived.Lib.QuietBelow
namespace Go.Proofs.YtdipehgijjkfdaaDoor
open Go.RowKit
set_option linter.unusedVariables false
theorem app_is (a b : List UInt8) : (⟨a.toArray⟩ : ByteArray) ++ ⟨b.toArray⟩ = ⟨(a ++ b).toArray⟩ := by
  apply ByteArray.ext
  simp
theorem cat_run (a b c : List UInt8) (hc : a ++ b = c) (h : c.length ≤ 9223372036854775807) : ∀ w, (Op.stringOp .add ⟨a.toArray⟩ ⟨b.toArray⟩).run Tryd.prog w = .ok (.string ⟨c.toArray⟩) w := by
  intro w
  subst hc
  rw [run_string_add_sum w _ _ (by rw [List.length_append] at h; show a.toArray.size + b.toArray.size ≤ _; simp; omega), app_is]
theorem Tryd.strInfo2 : (Tryd.prog.info? 9).map (fun i => (i.zero, i.size, i.bytes)) = some (some (.string ⟨#[]⟩), 1, 16) := by kernel_rfl
/-- a filter's Text, whatever lies about -/
def TextOk (B E : Nat) (v : Value) (t : Fl.Ft) : Prop := ∀ T r, v = .iface T r → ∀ W, FtV B E W v t → E ≤ W.heap.size → Pv W →
  Calls Tryd.prog (textOf t) #[r] W fun e w' => e = .returned (.string ⟨(Fl.textF t).toArray⟩) ∧ Below W.heap.size W w'
set_option maxHeartbeats 2000000 in
set_option maxRecDepth 100000 in
theorem tst_text (f : Nat) (lo hi : Int) (b : Bool) (ok : Fl.okF (.tst f lo hi b)) (w : World) (hv : Pv w) :
    Calls Tryd.prog 113 #[.agg #[.int .i64 (f : Nat), .int .i64 lo, .int .i64 hi, .bool b]] w fun e w' => e = .returned (.string ⟨(Fl.textF (.tst f lo hi b)).toArray⟩) ∧ Below w.heap.size w w' := by
  obtain ⟨hf, h0, h1, h2, h3⟩ := ok
  have hlo := Fl.itoa_len2 h0 (by omega : lo ≤ 1000000000)
  have hhi := Fl.itoa_len2 (by omega : 0 ≤ hi) h2
  have hnm := Fl.nm_len f
  have hitl := fun W (hb : Below w.heap.size w W) => itoa_any lo (by omega) (by omega) W (hv.over hb)
  have hith := fun W (hb : Below w.heap.size w W) => itoa_any hi (by omega) (by omega) W (hv.over hb)
  have hfl := hv.fld f hf
  have hs0 : 0 < w.heap.size := by have := hv.sz; omega
  have ff : (f : Int) < 5 := by omega
  rw [Fl.textF]
  obtain ⟨p, hp⟩ : ∃ p, Fl.nm f ++ [32] = p := ⟨_, rfl⟩
  rw [hp]
  have hpl : p.length ≤ 5 := by rw [← hp, List.length_append]; show (Fl.nm f).length + 1 ≤ 5; omega
  have c0 := cat_run (Fl.nm f) [32] p hp (by omega)
  have HL := Lib.hid hitl; have HH := Lib.hid hith
  generalize Fl.nm f = nmf at *
  generalize Lib.itoa lo = sl at *
  generalize Lib.itoa hi = sh at *
  obtain ⟨res, hres⟩ : ∃ res, (p ++ if b = true then [104, 97, 115, 32] ++ sl else if lo = hi then sl else sl ++ Fl.sDots ++ sh) = res := ⟨_, rfl⟩
  rw [hres]
  have HRES := Lib.hid hres
  clear hitl hith hp hv h3 hres
  have hk0 := Blk.new w 101 #[.int .i64 (f : Nat), .int .i64 lo, .int .i64 hi, .bool b]
  have hb0 : Below w.heap.size w (w.alloc (.cells #[.int .i64 (f : Nat), .int .i64 lo, .int .i64 hi, .bool b] 101)) := (Below.refl _ _).alloc (Nat.le_refl _) _
  have hfl2 : (w.alloc (.cells #[.int .i64 (f : Nat), .int .i64 lo, .int .i64 hi, .bool b] 101)).cell? ⟨0, f, none⟩ = some (.string ⟨nmf.toArray⟩) := (hb0.cell (p := ⟨0, f, none⟩) hs0).trans hfl
  have HK := Lib.hid hk0; have HB := Lib.hid hb0
  clear hk0 hb0 hfl
  go_enter Tryd.func113, Tryd.ntmps113
  go_upto_region 1 with fail
  generalize w.alloc (.cells #[.int .i64 (f : Nat), .int .i64 lo, .int .i64 hi, .bool b] 101) = w1 at *
  have k0 := HK.out.cell 0; have k1 := HK.out.cell 1; have k2 := HK.out.cell 2; have k3 := HK.out.cell 3
  simp at k0 k1 k2 k3
  cases b with
  | true =>
    obtain ⟨p1, hp1⟩ : ∃ q, p ++ [104, 97, 115, 32] = q := ⟨_, rfl⟩
    obtain ⟨p2, hp2⟩ : ∃ q, p1 ++ sl = q := ⟨_, rfl⟩
    have z1 : p1.length = p.length + 4 := by rw [← hp1]; simp
    have z2 : p2.length = p1.length + sl.length := by rw [← hp2]; simp
    have c1 := cat_run p [104, 97, 115, 32] p1 hp1 (by omega)
    have c2 := cat_run p1 sl p2 hp2 (by omega)
    have hfin : res = p2 := by rw [← HRES.out, ← hp2, ← hp1]; simp
    have HF := Lib.hid hfin
    clear hp1 hp2 hfin
    go_wp2_with fail
    (with_reducible refine (HL.out _ HB.out).mono ?_)
    rintro e w2 ⟨hb2, rfl⟩
    go_wp2_with fail
    go_ret
    exact ⟨by rw [HF.out]; rfl, HB.out.trans (hb2.mono HB.out.size)⟩
  | false =>
    by_cases hlh : lo = hi
    · obtain ⟨p2, hp2⟩ : ∃ q, p ++ sl = q := ⟨_, rfl⟩
      have z2 : p2.length = p.length + sl.length := by rw [← hp2]; simp
      have c2 := cat_run p sl p2 hp2 (by omega)
      have q1 : decide (lo = hi) = true := decide_eq_true hlh
      have q2 : (lo == hi) = true := beq_iff_eq.2 hlh
      have hfin : res = p2 := by rw [← HRES.out, ← hp2]; simp [hlh]
      have HF := Lib.hid hfin
      clear hp2 hfin hlh
      go_wp2_with fail
      (with_reducible refine (HL.out _ HB.out).mono ?_)
      rintro e w2 ⟨hb2, rfl⟩
      go_wp2_with fail
      go_ret
      exact ⟨by rw [HF.out]; rfl, HB.out.trans (hb2.mono HB.out.size)⟩
    · obtain ⟨p1, hp1⟩ : ∃ q, p ++ sl = q := ⟨_, rfl⟩
      obtain ⟨p2, hp2⟩ : ∃ q, p1 ++ [46, 46] = q := ⟨_, rfl⟩
      obtain ⟨p3, hp3⟩ : ∃ q, p2 ++ sh = q := ⟨_, rfl⟩
      have z1 : p1.length = p.length + sl.length := by rw [← hp1]; simp
      have z2 : p2.length = p1.length + 2 := by rw [← hp2]; simp
      have z3 : p3.length = p2.length + sh.length := by rw [← hp3]; simp
      have c1 := cat_run p sl p1 hp1 (by omega)
      have c2 := cat_run p1 [46, 46] p2 hp2 (by omega)
      have c3 := cat_run p2 sh p3 hp3 (by omega)
      have q1 : decide (lo = hi) = false := decide_eq_false hlh
      have q2 : (lo == hi) = false := beq_eq_false_iff_ne.mpr hlh
      have hfin : res = p3 := by rw [← HRES.out, ← hp3, ← hp2, ← hp1]; simp [Fl.sDots, hlh]
      have HF := Lib.hid hfin
      have cL : ∀ d os, Calls Tryd.prog 20 #[.int .i64 lo] (Sort.grow (redrawn w1 d) os) fun e w'' => e = .returned (.string ⟨sl.toArray⟩) ∧ ∃ p : Regrown, w'' = Sort.grow (redrawn w1 p.d) p.os := fun d os =>
        Calls.regrown_of ((HL.out _ (HB.out.trans ((below_regrown w1 d os).mono HB.out.size))).mono fun e w'' h => ⟨h.2, h.1⟩)
      have cH : ∀ d os, Calls Tryd.prog 20 #[.int .i64 hi] (Sort.grow (redrawn w1 d) os) fun e w'' => e = .returned (.string ⟨sh.toArray⟩) ∧ ∃ p : Regrown, w'' = Sort.grow (redrawn w1 p.d) p.os := fun d os =>
        Calls.regrown_of ((HH.out _ (HB.out.trans ((below_regrown w1 d os).mono HB.out.size))).mono fun e w'' h => ⟨h.2, h.1⟩)
      have r1 := cell_regrown k1
      have r2 := cell_regrown k2
      clear hp1 hp2 hp3 hfin
      go_upto_region 6 with fail
      refine wp_region_quiet_below (by kernel_rfl) (by kernel_rfl) ?_
      iterate 6 (quiet_step (exact cL _ _))
      repeat (quiet_step (exact cH _ _))
      refine wpQuiet_nil ?_
      intro _ hw'
      obtain ⟨⟨dq, osq⟩, hw''⟩ := hw'
      subst hw''
      go_wp2_with fail
      go_ret
      exact ⟨by rw [HF.out]; rfl, HB.out.trans ((below_regrown w1 dq osq).mono HB.out.size)⟩
theorem any_text (w : World) : Calls Tryd.prog 108 #[.agg #[]] w fun e w' => e = .returned (.string ⟨Fl.sAny.toArray⟩) ∧ Below w.heap.size w w' := by
  go_enter Tryd.func108, Tryd.ntmps108
  go_wp2_with fail
  go_ret
  exact ⟨rfl, (Below.refl w.heap.size w).alloc (Nat.le_refl _) _⟩
set_option maxHeartbeats 1000000 in
set_option maxRecDepth 100000 in
theorem not_text (B E : Nat) (t : Fl.Ft) (v : Value) (hl : (Fl.textF t).length ≤ 100000000) (ih : TextOk B E v t) (w : World) (h : FtV B E w v t) (hE : E ≤ w.heap.size) (hv : Pv w) :
    Calls Tryd.prog 100 #[.agg #[v]] w fun e w' => e = .returned (.string ⟨(Fl.textF (.not t)).toArray⟩) ∧ Below w.heap.size w w' := by
  obtain ⟨T, r, rfl, _, hm⟩ := h.meth
  have HC := Lib.hid (fun W (hb : Below w.heap.size w W) => ih T r rfl W (h.over hE hb) (Nat.le_trans hE hb.size) (hv.over hb))
  have HM := Lib.hid hm
  rw [Fl.textF]
  generalize Fl.textF t = s at *
  obtain ⟨p, hp⟩ : ∃ p, [110, 111, 116, 32] ++ s = p := ⟨_, rfl⟩
  rw [hp]
  have z : p.length = s.length + 4 := by rw [← hp]; simp
  have c0 := cat_run [110, 111, 116, 32] s p hp (by omega)
  clear ih h hm hp hv
  go_enter Tryd.func100, Tryd.ntmps100
  have hb2 : Below w.heap.size w (w.alloc (.cells #[.iface T r] 71)) := (Below.refl w.heap.size w).alloc (Nat.le_refl _) _
  have HC2 := Lib.hid (HC.out _ hb2)
  go_wp2_with (refine wpList_invoke0 rfl (.tmp 4) #[] rfl HM.out rfl HC2.out (fun e w' h => ⟨_, h.1⟩) ?_; rintro v3 w3 ⟨e3, hb3⟩; injection e3 with e3; subst e3)
  go_ret
  exact ⟨rfl, hb2.trans (hb3.mono hb2.size)⟩
end Go.Proofs.YtdipehgijjkfdaaDoor
