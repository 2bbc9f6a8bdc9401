/-
  What curve.Burst tells.
-/
import Derived.Test.YtdhojhgmaodifaaDoorItem
import Derived.Test.YtdhojhgmaodifaaDoorThen
import Derived.Test.YtdhojhgmaodifaaDoorState
import Derived.Test.YtdhojhgmaodifaaDoorConfLaw
namespace Go.Proofs.YtdhojhgmaodifaaDoor
open Go.RowKit Bkt Crv
set_option linter.unusedVariables false

theorem shape120 (k : Bk) (w : World) (hk : BkOk k) : Calls Tryd.prog 48 #[.agg #[.int .i64 k.b, .int .i64 k.t], .int .i64 k.r, .int .i64 120] w fun e w' => e = .returned .nilIface ∧ Below w.heap.size w w' := by
  obtain ⟨⟨a0, a1⟩, ⟨b0, b1⟩, ⟨c0, c1⟩⟩ := hk
  obtain ⟨b, t, r⟩ := k
  dsimp only at a0 a1 b0 b1 c0 c1 ⊢
  go_enter Tryd.func48, Tryd.ntmps48
  go_wp2_with fail
  go_ret
  exact ⟨rfl, (Below.refl _ _).alloc (Nat.le_refl _) _⟩

set_option maxHeartbeats 1000000 in
set_option maxRecDepth 100000 in
theorem burst_yes (k : Bk) (w : World) (hk : BkOk k) : Calls Tryd.prog 25 #[.agg #[.int .i64 k.b, .int .i64 k.t], .int .i64 k.r, .int .i64 120] w (CurveOut w (tab 121 (burst k))) := by
  have hsh := fun W => shape120 k W hk
  have hq : ∀ m : Nat, m ≤ 120 → 1 ≤ m → 0 ≤ (m : Int) * k.b ∧ (m : Int) * k.b ≤ 120000000 ∧ 0 ≤ ((m : Int) * k.b) / k.t ∧ ((m : Int) * k.b) / k.t ≤ 120000000 := fun m hm hm1 => by
    have h1 := hk.b; have h2 := hk.t
    have p0 : 0 ≤ (m : Int) * k.b := Int.mul_nonneg (by omega) (by omega)
    have p1 : (m : Int) * k.b ≤ 120 * 1000000 := Int.mul_le_mul (by omega) h1.2 (by omega) (by omega)
    refine ⟨p0, by omega, Int.ediv_nonneg p0 (by omega), ?_⟩
    have := Int.ediv_le_self (a := (m : Int) * k.b) k.t p0
    omega
  have hb := hk.b; have ht := hk.t; have hr := hk.r
  have hbu : ∀ m : Nat, 1 ≤ m → burst k m = k.r + ((m : Int) * k.b) / k.t := fun m hm => by unfold burst; rw [if_neg (by omega)]
  have HBU := Lib.hid hbu; have HQ := Lib.hid hq
  have hb0 : burst k 0 = 0 := rfl
  have HB0 := Lib.hid hb0
  clear hk hq hbu hb0
  generalize hbf : burst k = bf at *
  have HBF := Lib.hid hbf; clear hbf
  obtain ⟨b, t, r⟩ := k
  dsimp only at hsh hb ht hr HBU HQ ⊢
  have HSH := Lib.hid hsh; clear hsh
  go_enter Tryd.func25, Tryd.ntmps25
  go_wp2_with fail
  refine (HSH.out _).mono ?_
  rintro e w1 ⟨rfl, hb1⟩
  have s0 : w1.cell? ⟨w.heap.size, 0, none⟩ = some (.int .i64 b) := (hb1.cell (p := ⟨w.heap.size, 0, none⟩) (by simp)).trans (by simp)
  have s1 : w1.cell? ⟨w.heap.size, 1, none⟩ = some (.int .i64 t) := (hb1.cell (p := ⟨w.heap.size, 1, none⟩) (by simp)).trans (by simp)
  have hbw : Below w.heap.size w w1 := ((Below.refl _ w).alloc (Nat.le_refl _) _).trans (hb1.mono (by simp))
  have hlt1 : w.heap.size < w1.heap.size := lt_of_cell s0
  have hown0 := World.ownsRow_lit (base := w1.heap.size) (e := 3) (size := 1) w1 #[.int .i64 0] 1 (Nat.le_refl _) (by simp only [maxLen]; omega) rfl
  have hown1 : (w1.alloc (.cells #[.int .i64 0] 3)).ownsRow w1.heap.size 3 1 (.slice (some ⟨w1.heap.size, 0, none⟩) 1 1) 1 ((tab 1 bf).map (Value.int .i64)) := by
    have e : (tab 1 bf).map (Value.int .i64) = [.int .i64 0] := by simp [tab, HB0.out]
    rw [e]; exact hown0
  have HOW := Lib.hid hown1; have HBW := Lib.hid hbw
  clear hb1 hown0 hown1 hbw
  go_wp2_with fail
  go_loopw [9, 10] (fun v i wr => ∃ m : Nat, 1 ≤ m ∧ m ≤ 121 ∧ i = .int .i64 m ∧ wr.ownsRow w1.heap.size 3 1 v m ((tab m bf).map (Value.int .i64)) ∧ Below w1.heap.size w1 wr) (fun _ i _ => 121 - (intOf i).toNat)
  case atStart => exact ⟨1, Nat.le_refl _, by omega, rfl, HOW.out, (Below.refl _ w1).alloc (Nat.le_refl _) _⟩
  case round =>
    obtain ⟨m, hm1, hm, rfl, hown, hbr⟩ := hrel
    by_cases hlt : m ≤ 120
    · obtain ⟨q0, q1, q2, q3⟩ := HQ.out m hlt hm1
      have c0 : wr.cell? ⟨w.heap.size, 0, none⟩ = some (.int .i64 b) := (hbr.cell (p := ⟨w.heap.size, 0, none⟩) hlt1).trans s0
      have c1 : wr.cell? ⟨w.heap.size, 1, none⟩ = some (.int .i64 t) := (hbr.cell (p := ⟨w.heap.size, 1, none⟩) hlt1).trans s1
      have HE := Lib.hid (HBU.out m hm1)
      go_wp2_with (at_builtin; refine wpList_pushI rfl _ _ _ Tryd.underlying49 rfl w1.heap.size _ m _ (r + (m : Int) * b / t) hown rfl rfl (by omega) hbr.size ?_; intro v' w4 hown' hg' hb')
      go_roundw
      case rel =>
        refine ⟨m + 1, by omega, by omega, by go_num, ?_, hbr.trans hb'⟩
        rw [tab_succ, HE.out]; exact hown'
      case measure => simp [intOf]; omega
    · obtain rfl : m = 121 := by omega
      obtain ⟨A2, c2, rfl, hrd⟩ := own_reads hown
      go_wp2_with fail
      go_ret2
      exact curveOut_mk rfl (tab_length _ _) (HBW.out.trans (hbr.mono HBW.out.size)) hrd
end Go.Proofs.YtdhojhgmaodifaaDoor
