/-
  What (*bucket.State).When tells.
-/
import Derived.Test.YtdhojhgmaodifaaDoorConform
import Derived.Test.YtdhojhgmaodifaaDoorColLaw
import Derived.Test.YtdhojhgmaodifaaDoorHeld
namespace Go.Proofs.YtdhojhgmaodifaaDoor
open Go.RowKit Bkt
set_option linter.unusedVariables false

def BWhenOut (w : World) (g : Nat) (k : Bk) (s : St) (t : Int) (e : Ending) (w' : World) : Prop := e = .returned (.tuple #[.int .i64 t, .bool true]) ∧ w.grownBy w' (some g) ∧ StB w' g k s
theorem ret_w {a b : Int} (h : a = b) : Ending.returned (.tuple #[.int .i64 a, .bool true]) = .returned (.tuple #[.int .i64 b, .bool true]) := by rw [h]
theorem only_drewN' {a w : World} {row : Option Nat} (h : a.grownBy w row) (n : Nat) : a.grownBy (w.drewN n) row := only_drewN h n

set_option maxHeartbeats 2000000 in
set_option maxRecDepth 100000 in
theorem when_any (k : Bk) (s : St) (g : Nat) (now n : Int) (w : World) (hk : BkOk k) (hs : StB w g k s) (hso : SOk k s) (hl : s.last ≤ 1000000000) (h0 : 0 ≤ now) (h1 : now ≤ 1000000000) (hn0 : 0 ≤ n) (hn : n ≤ k.r) :
    Calls Tryd.prog 46 #[.pointer (some ⟨g, 0, none⟩), .int .i64 now, .int .i64 n] w (BWhenOut w g k (fill k s now) (whenAt k s now n)) := by
  have hfill := fill_any k s g now w hk hs hso.last h1 hso.has0 hso.has1
  have hF := Lib.hid hfill; clear hfill
  have hfl : 0 ≤ (fill k s now).has ∧ (fill k s now).has ≤ k.r * k.t ∧ 0 ≤ (fill k s now).last ∧ (fill k s now).last ≤ 1000000000 := by
    have := hso.last; have := hso.has0; have := hso.has1
    unfold fill
    split
    · have := mul_bd (a := now - s.last) (b := k.b) (by omega) (by have := hk.b.1; omega) (Int.le_refl _) (Int.le_refl _)
      dsimp only
      omega
    · omega
  obtain ⟨p0, p1⟩ := mul_bd hn0 (show (0 : Int) ≤ k.t by have := hk.t.1; omega) (show n ≤ 1000000 by have := hk.r.2; omega) hk.t.2
  obtain ⟨q0, q1⟩ := mul_bd hk.r.1 (show (0 : Int) ≤ k.t by have := hk.t.1; omega) hk.r.2 hk.t.2
  have p2 : n * k.t ≤ 1000000000000 := p1
  have q2 : k.r * k.t ≤ 1000000000000 := q1
  have HW : Hid (whenAt k s now n = if 0 < n * k.t - (fill k s now).has then (fill k s now).last + (n * k.t - (fill k s now).has + k.b - 1) / k.b else max now (fill k s now).last) := rfl
  have hb1 := hk.b.1; have hb2 := hk.b.2
  have c0 : w.cell? ⟨g, 2, none⟩ = some (.int .i64 k.r) := hs.cell 2
  generalize fill k s now = f at *
  obtain ⟨fl, fh⟩ := f
  obtain ⟨b, t, r⟩ := k
  dsimp only at hfl p0 p2 q0 q2 hb1 hb2 hn c0
  obtain ⟨f0, f1, f2, f3⟩ := hfl
  have f1' : fh ≤ 1000000000000 := Int.le_trans f1 q2
  have HS := Lib.hid hs
  have hnr : ¬ r < n := by omega
  clear p1 q1 f1 hs hso hl hk q0 q2
  by_cases hlk : 0 < n * t - fh
  · have hq : 0 ≤ (n * t - fh + b - 1) / b ∧ (n * t - fh + b - 1) / b ≤ 1000001000000 := by
      refine ⟨Int.ediv_nonneg (by omega) (by omega), ?_⟩
      have := Int.ediv_le_self (a := n * t - fh + b - 1) b (by omega)
      omega
    obtain ⟨hq0, hq1⟩ := hq
    have hw : whenAt ⟨b, t, r⟩ s now n = fl + (n * t - fh + b - 1) / b := by rw [HW.out, if_pos hlk]
    have HWW := Lib.hid hw; clear hw HW
    have e1 : IntKind.i64.wrap (n * t) = n * t := IntWalk.i64_in _ (by omega)
    have e2 : IntKind.i64.wrap (n * t - fh) = n * t - fh := IntWalk.i64_in _ (by omega)
    have e3 : IntKind.i64.wrap (n * t - fh + b) = n * t - fh + b := IntWalk.i64_in _ (by omega)
    have e4 : IntKind.i64.wrap (n * t - fh + b - 1) = n * t - fh + b - 1 := IntWalk.i64_in _ (by omega)
    have e5 : (n * t - fh + b - 1).tdiv b = (n * t - fh + b - 1) / b := Int.tdiv_eq_ediv_of_nonneg (by omega)
    have e6 : IntKind.i64.wrap ((n * t - fh + b - 1) / b) = (n * t - fh + b - 1) / b := IntWalk.i64_in _ (by omega)
    have e7 : IntKind.i64.wrap (fl + (n * t - fh + b - 1) / b) = fl + (n * t - fh + b - 1) / b := IntWalk.i64_in _ (by omega)
    go_enter Tryd.func46, Tryd.ntmps46
    go_wp2_with fail
    refine (hF.out).mono ?_
    rintro e w1 ⟨rfl, hg, hst⟩
    have c1 : w1.cell? ⟨g, 0, none⟩ = some (.int .i64 b) := hst.cell 0
    have c2 : w1.cell? ⟨g, 1, none⟩ = some (.int .i64 t) := hst.cell 1
    have c3 : w1.cell? ⟨g, 3, none⟩ = some (.int .i64 fl) := hst.cell 3
    have c4 : w1.cell? ⟨g, 4, none⟩ = some (.int .i64 fh) := hst.cell 4
    have HST := Lib.hid hst; have HG := Lib.hid hg; clear hst hg c0
    go_wp2_with fail
    all_goals
      go_quiet (fail)
      go_wp2_with fail
      go_quiet (fail)
      go_wp2_with fail
      go_ret2
      exact ⟨ret_w (by rw [HWW.out]), only_drewN (only_drewN HG.out _) _, Blk.drewN (Blk.drewN HST.out _) _⟩
  · have e1 : IntKind.i64.wrap (n * t) = n * t := IntWalk.i64_in _ (by omega)
    have e2 : IntKind.i64.wrap (n * t - fh) = n * t - fh := IntWalk.i64_in _ (by omega)
    have hw : whenAt ⟨b, t, r⟩ s now n = max now fl := by rw [HW.out, if_neg hlk]
    have HWW := Lib.hid hw; clear hw HW
    go_enter Tryd.func46, Tryd.ntmps46
    go_wp2_with fail
    refine (hF.out).mono ?_
    rintro e w1 ⟨rfl, hg, hst⟩
    have c2 : w1.cell? ⟨g, 1, none⟩ = some (.int .i64 t) := hst.cell 1
    have c3 : w1.cell? ⟨g, 3, none⟩ = some (.int .i64 fl) := hst.cell 3
    have c4 : w1.cell? ⟨g, 4, none⟩ = some (.int .i64 fh) := hst.cell 4
    have HST := Lib.hid hst; have HG := Lib.hid hg; clear hst hg c0
    go_wp2_with fail
    all_goals
      go_quiet (fail)
      go_wp2_with fail
      go_ret2
      exact ⟨ret_w (by rw [HWW.out]; omega), only_drewN HG.out _, Blk.drewN HST.out _⟩

theorem when_no (k : Bk) (s : St) (g : Nat) (now n : Int) (w : World) (hs : StB w g k s) (h1 : now ≤ 1000000000) (hn0 : 0 ≤ n) (hn : k.r < n) :
    Calls Tryd.prog 46 #[.pointer (some ⟨g, 0, none⟩), .int .i64 now, .int .i64 n] w fun e w' => e = .returned (.tuple #[.int .i64 0, .bool false]) ∧ w = w' := by
  have c0 : w.cell? ⟨g, 2, none⟩ = some (.int .i64 k.r) := hs.cell 2
  obtain ⟨b, t, r⟩ := k
  dsimp only at c0 hn
  clear hs
  go_enter Tryd.func46, Tryd.ntmps46
  go_wp2_with fail
  go_ret2
  exact ⟨rfl, rfl⟩
theorem take_fill {k : Bk} {s : St} {a t n : Int} (hk : BkOk k) (hso : SOk k s) (h1 : s.last ≤ a) (h2 : a ≤ t) : Bkt.take k (fill k s a) t n = Bkt.take k s t n := by
  have := fill_fill (k := k) (s := s) (a := a) (b := t) (by have := hk.b.1; omega) h1 h2 hso.has1
  unfold Bkt.take okB
  rw [this]
end Go.Proofs.YtdhojhgmaodifaaDoor
