/-
  What bucket.Check tells.
-/
import Derived.Test.YtdhojhgmaodifaaDoorItem
namespace Go.Proofs.YtdhojhgmaodifaaDoor
open Go.RowKit Bkt
set_option linter.unusedVariables false

theorem bcheck_yes (k : Bk) (w : World) (h : BkOk k) : Calls Tryd.prog 40 #[bkV k] w fun e w' => e = .returned .nilIface ∧ Below w.heap.size w w' := by
  obtain ⟨b, t, r⟩ := k
  have hs := ((bkOk_iff _).1 h).1
  obtain ⟨r0, r1⟩ := h.r
  dsimp only at r0 r1 hs
  unfold bkV
  dsimp only
  clear h
  go_enter Tryd.func40, Tryd.ntmps40
  go_wp2_with fail
  refine (speed_yes b t _ hs).mono ?_
  rintro e w1 ⟨rfl, hb⟩
  have hc : w1.cell? ⟨w.heap.size, 2, none⟩ = some (.int .i64 r) := (hb.cell (p := ⟨w.heap.size, 2, none⟩) (by simp)).trans (by simp)
  go_wp2_with fail
  go_ret
  exact ⟨rfl, ((Below.refl _ w).alloc (Nat.le_refl _) _).trans (hb.mono (by simp))⟩
theorem bcheck_no (k : Bk) (w : World) (h : ¬ BkOk k) : Calls Tryd.prog 40 #[bkV k] w (ErrnoErr w) := by
  obtain ⟨b, t, r⟩ := k
  by_cases hs : SpeedOk b t
  · have hr : r < 0 ∨ 1000000 < r := by
      rcases Int.lt_or_le r 0 with h0 | h0
      · exact .inl h0
      · rcases Int.lt_or_le 1000000 r with h1 | h1
        · exact .inr h1
        · exact absurd ((bkOk_iff _).2 ⟨hs, h0, h1⟩) h
    clear h
    unfold bkV
    dsimp only
    rcases hr with hr | hr
    · go_enter Tryd.func40, Tryd.ntmps40
      go_wp2_with fail
      refine (speed_yes b t _ hs).mono ?_
      rintro e w1 ⟨rfl, hb⟩
      have hc : w1.cell? ⟨w.heap.size, 2, none⟩ = some (.int .i64 r) := (hb.cell (p := ⟨w.heap.size, 2, none⟩) (by simp)).trans (by simp)
      go_wp2_with fail
      go_ret
      exact ⟨_, rfl, ((Below.refl _ w).alloc (Nat.le_refl _) _).trans (hb.mono (by simp))⟩
    · have hr0 : ¬ r < 0 := by omega
      go_enter Tryd.func40, Tryd.ntmps40
      go_wp2_with fail
      refine (speed_yes b t _ hs).mono ?_
      rintro e w1 ⟨rfl, hb⟩
      have hc : w1.cell? ⟨w.heap.size, 2, none⟩ = some (.int .i64 r) := (hb.cell (p := ⟨w.heap.size, 2, none⟩) (by simp)).trans (by simp)
      go_wp2_with fail
      go_ret
      exact ⟨_, rfl, ((Below.refl _ w).alloc (Nat.le_refl _) _).trans (hb.mono (by simp))⟩
  · clear h
    unfold bkV
    dsimp only
    go_enter Tryd.func40, Tryd.ntmps40
    go_wp2_with fail
    refine (speed_no b t _ hs).mono ?_
    rintro e w1 ⟨kk, rfl, hb⟩
    go_wp2_with fail
    go_ret
    exact ⟨_, rfl, ((Below.refl _ w).alloc (Nat.le_refl _) _).trans (hb.mono (by simp))⟩
end Go.Proofs.YtdhojhgmaodifaaDoor
