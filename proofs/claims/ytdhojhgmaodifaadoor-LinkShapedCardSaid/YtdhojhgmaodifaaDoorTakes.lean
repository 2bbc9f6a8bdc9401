/-
  What item.Takes computes: ticks that bytes take, rounded up.
-/
import Derived.Test.YtdhojhgmaodifaaDoorList
import Derived.Test.YtdhojhgmaodifaaDoorTakeLaw
namespace Go.Proofs.YtdhojhgmaodifaaDoor
open Go.RowKit Bkt
set_option linter.unusedVariables false

set_option maxHeartbeats 1000000 in
theorem takes_any (b t n : Int) (w : World) (hs : SpeedOk b t) (h0 : 0 ≤ n) (h1 : n ≤ 20000) :
    Calls Tryd.prog 16 #[.agg #[.int .i64 b, .int .i64 t], .int .i64 n] w fun e w' => e = .returned (.int .i64 (takes b t n)) ∧ Below w.heap.size w w' := by
  obtain ⟨⟨b0, b1⟩, ⟨t0, t1⟩⟩ := hs
  have m := mul_bd (a := n) (b := t) (A := 20000) (B := 1000000) h0 (by omega) h1 t1
  obtain ⟨m0, m1⟩ := m
  have m1' : n * t ≤ 20000000000 := m1
  clear m1
  have HT : Hid (takes b t n = (n * t + b - 1) / b) := rfl
  go_enter Tryd.func16, Tryd.ntmps16
  go_wp2_with fail
  go_ret
  exact ⟨by rw [HT.out]; rfl, (Below.refl _ _).alloc (Nat.le_refl _) _⟩
end Go.Proofs.YtdhojhgmaodifaaDoor
