/-
  What api.Tell, item.Check, item.Speed, bucket.Check tell.
-/
import Derived.Test.YtdhojhgmaodifaaDoorTell
import Derived.Test.YtdhojhgmaodifaaDoorItemC
import Derived.Test.YtdhojhgmaodifaaDoorBktLaw
namespace Go.Proofs.YtdhojhgmaodifaaDoor
open Go.RowKit Bkt
set_option linter.unusedVariables false

set_option maxHeartbeats 1000000 in
theorem tell_errno (k : Int) (w : World) (hg : Handle w) : Calls Tryd.prog 30 #[.iface 61 (.int .i64 k)] w fun e w' => e = .returned (.int .i64 k) ∧ Below w.heap.size w w' := by
  have hlt : 0 < w.heap.size := lt_of_cell hg
  have hg1 : Handle (w.alloc (.cells #[.int .i64 0] 61)) := hg.below ((Below.refl _ w).alloc (Nat.le_refl _) _)
  have HG := Lib.hid hg1; clear hg hg1
  go_enter Tryd.func30, Tryd.ntmps30
  go_wp2_with fail
  refine (as_hit k ⟨w.heap.size, 0, none⟩ (.int .i64 0) _ HG.out (by simp) (by simp)).mono ?_
  rintro e w' ⟨rfl, rfl⟩
  go_wp2_with fail
  go_ret
  exact ⟨rfl, (((((Below.refl _ w).alloc (Nat.le_refl _) _).alloc (by simp) _).alloc (by simp; omega) _).alloc (by simp; omega) _).alloc (by simp; omega) _⟩

def bkV (k : Bk) : Value := .agg #[.int .i64 k.b, .int .i64 k.t, .int .i64 k.r]
def SpeedOk (b t : Int) : Prop := (1 ≤ b ∧ b ≤ 1000000) ∧ (1 ≤ t ∧ t ≤ 1000000)
theorem speed_yes (b t : Int) (w : World) (h : SpeedOk b t) : Calls Tryd.prog 14 #[.agg #[.int .i64 b, .int .i64 t]] w fun e w' => e = .returned .nilIface ∧ Below w.heap.size w w' := by
  obtain ⟨⟨a0, a1⟩, ⟨b0, b1⟩⟩ := h
  go_enter Tryd.func14, Tryd.ntmps14
  go_wp2_with fail
  go_ret
  exact ⟨rfl, (Below.refl _ _).alloc (Nat.le_refl _) _⟩
theorem speed_no (b t : Int) (w : World) (h : ¬ SpeedOk b t) : Calls Tryd.prog 14 #[.agg #[.int .i64 b, .int .i64 t]] w (ErrnoErr w) := by
  by_cases h0 : 1 ≤ b
  · by_cases h1 : b ≤ 1000000
    · by_cases h2 : 1 ≤ t
      · have h3 : 1000000 < t := by
          have : ¬ t ≤ 1000000 := fun h3 => h ⟨⟨h0, h1⟩, ⟨h2, h3⟩⟩
          omega
        clear h
        go_enter Tryd.func14, Tryd.ntmps14
        go_wp2_with fail
        go_ret
        exact ⟨_, rfl, (Below.refl _ _).alloc (Nat.le_refl _) _⟩
      · have h3 : t < 1 := by omega
        clear h
        go_enter Tryd.func14, Tryd.ntmps14
        go_wp2_with fail
        go_ret
        exact ⟨_, rfl, (Below.refl _ _).alloc (Nat.le_refl _) _⟩
    · have h3 : 1000000 < b := by omega
      clear h
      go_enter Tryd.func14, Tryd.ntmps14
      go_wp2_with fail
      go_ret
      exact ⟨_, rfl, (Below.refl _ _).alloc (Nat.le_refl _) _⟩
  · have h3 : b < 1 := by omega
    clear h
    go_enter Tryd.func14, Tryd.ntmps14
    go_wp2_with fail
    go_ret
    exact ⟨_, rfl, (Below.refl _ _).alloc (Nat.le_refl _) _⟩
theorem bkOk_iff (k : Bk) : BkOk k ↔ SpeedOk k.b k.t ∧ 0 ≤ k.r ∧ k.r ≤ 1000000 := ⟨fun h => ⟨⟨h.b, h.t⟩, h.r⟩, fun h => ⟨h.1.1, h.1.2, h.2⟩⟩
end Go.Proofs.YtdhojhgmaodifaaDoor
