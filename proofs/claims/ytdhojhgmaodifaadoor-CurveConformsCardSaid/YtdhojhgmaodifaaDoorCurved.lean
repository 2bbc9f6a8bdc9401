/-
  The fact curved: a line and itself.
-/
import Derived.Test.YtdhojhgmaodifaaDoorThen
namespace Go.Proofs.YtdhojhgmaodifaaDoor
open Go.RowKit Crv
set_option linter.unusedVariables false

/-- three cells of a new block read as a list -/
theorem rd3 (w : World) (x y z : Int) (t : TypeId) : RdI (w.alloc (.cells #[.int .i64 x, .int .i64 y, .int .i64 z] t)) (w.alloc (.cells #[.int .i64 x, .int .i64 y, .int .i64 z] t)).heap.size (some ⟨w.heap.size, 0, none⟩) 3 [x, y, z] := by
  refine ⟨rfl, fun _ => ⟨_, rfl, by simp, fun j u hj => ?_⟩⟩
  match j, hj with
  | 0, hj => simp at hj; subst hj; simp [Addr.add]
  | 1, hj => simp at hj; subst hj; simp [Addr.add]
  | 2, hj => simp at hj; subst hj; simp [Addr.add]
theorem okay3 (x y z : Int) (h0 : 0 ≤ x) (h1 : x ≤ y) (h2 : y ≤ z) (h3 : z ≤ 1000) : Okay [x, y, z] := by
  refine Okay.of (by simp) (by simp) (fun i hi => ?_) (fun i hi => ?_)
  · have hi' : i < 3 := hi
    obtain rfl | rfl | rfl : i = 0 ∨ i = 1 ∨ i = 2 := by omega
    · simp; omega
    · simp; omega
    · simp; omega
  · have hi' : i + 1 < 3 := hi
    obtain rfl | rfl : i = 0 ∨ i = 1 := by omega
    · simpa using h1
    · simpa using h2
set_option maxHeartbeats 400000 in
theorem curved_any (w : World) : Calls Tryd.prog 24 #[] w fun e w' => e = .returned (.bool true) ∧ Below w.heap.size w w' := by
  go_enter Tryd.func24, Tryd.ntmps24
  go_wp2_with fail
  refine (then_yes _ _ 3 3 3 3 [0, 2, 3] [0, 1, 5] _ ?_ ?_ (okay3 0 2 3 (by omega) (by omega) (by omega) (by omega)) (okay3 0 1 5 (by omega) (by omega) (by omega) (by omega))).mono ?_
  · exact Reads.more (Reads.alloc (rd3 w 0 2 3 _) (Nat.le_refl _) _) (by simp)
  · have h := rd3 (w.alloc (.cells #[.int .i64 0, .int .i64 2, .int .i64 3] 3)) 0 1 5 3
    simpa using h
  · rintro e w' ⟨A, c, rfl, hb, hr⟩
    have e3 : thenL [0, 2, 3] [0, 1, 5] = [0, 1, 3] := by decide
    rw [e3] at hr ⊢
    obtain ⟨b, off, rfl, _⟩ := hr.addr (show 1 < 3 by omega)
    have c1 : w'.cell? ⟨b, off + 1, none⟩ = some (.int .i64 1) := hr.all rfl 1 (by decide)
    have c2 : w'.cell? ⟨b, off + 2, none⟩ = some (.int .i64 3) := hr.all rfl 2 (by decide)
    go_wp2_with fail
    go_ret
    exact ⟨rfl, (((Below.refl _ w).alloc (Nat.le_refl _) _).alloc (by simp) _).trans (hb.mono (by simp; omega))⟩
end Go.Proofs.YtdhojhgmaodifaaDoor
