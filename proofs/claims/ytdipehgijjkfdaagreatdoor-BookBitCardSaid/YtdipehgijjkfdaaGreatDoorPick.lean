/-
  What pick answers: a number from 0 to below n.
-/
import Derived.Test.YtdipehgijjkfdaaGreatDoorMem
namespace Go.Proofs.YtdipehgijjkfdaaGreatDoor
open Go.RowKit
set_option linter.unusedVariables false

def PickPost (n : Int) (w : World) (e : Ending) (w' : World) : Prop := ∃ r : Int, 0 ≤ r ∧ r < n ∧ e = .returned (.int .i64 r) ∧ w = w'
theorem pick_bd (a n : Int) (h1 : 1 ≤ n) (h2 : n ≤ 1000000) : 0 ≤ wrap64 ((IntKind.u64.wrap a).tmod n) ∧ wrap64 ((IntKind.u64.wrap a).tmod n) < n := by
  have h0 : 0 ≤ IntKind.u64.wrap a := by rw [IntKind.wrap_u64]; omega
  have e : (IntKind.u64.wrap a).tmod n = IntKind.u64.wrap a % n := Int.tmod_eq_emod_of_nonneg h0
  have b1 := Int.emod_nonneg (IntKind.u64.wrap a) (show n ≠ 0 by omega)
  have b2 := Int.emod_lt_of_pos (IntKind.u64.wrap a) (show 0 < n by omega)
  rw [e, IntWalk.wrap64_in _ ⟨by omega, by omega⟩]
  exact ⟨b1, b2⟩
set_option maxRecDepth 100000 in
theorem pick_any (a n : Int) (w : World) (h1 : 1 ≤ n) (h2 : n ≤ 1000000) (ha : -9223372036854775808 ≤ a) (ha' : a ≤ 9223372036854775807) :
    Calls Tryz.prog 7 #[.int .i64 a, .int .i64 n] w (PickPost n w) := by
  go_enter Tryz.func7, Tryz.ntmps7
  go_wp2_with fail
  go_ret
  exact ⟨_, (pick_bd a n h1 h2).1, (pick_bd a n h1 h2).2, rfl, rfl⟩
set_option maxRecDepth 100000 in
theorem pick_all (a n : Int) (w : World) (h1 : 1 ≤ n) (h2 : n ≤ 1000000) :
    Calls Tryz.prog 7 #[.int .i64 a, .int .i64 n] w (PickPost n w) := by
  go_enter Tryz.func7, Tryz.ntmps7
  go_wp2_with fail
  go_ret
  exact ⟨_, (pick_bd a n h1 h2).1, (pick_bd a n h1 h2).2, rfl, rfl⟩
end Go.Proofs.YtdipehgijjkfdaaGreatDoor
