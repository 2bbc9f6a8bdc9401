/-
  Texts of this claim, one behind the other: PlBusy.
-/
import Derived.Test.YtgdijbaodfghjaaGreatDoorZ38
/-
  The check of a text, where it only hands out a truth value (busy).
-/
namespace Go.Proofs.YtgdijbaodfghjaaGreatDoor
open Go.RowKit Bkt
set_option linter.unusedVariables false
def BusyOut (w : World) (e : Ending) (w' : World) : Prop := (∃ b : Bool, e = .returned (.bool b)) ∧ Below w.heap.size w w'
set_option maxHeartbeats 1000000 in
set_option maxRecDepth 100000 in
theorem busy_any (text : List UInt8) (hl : text.length ≤ 1000000) (w : World) : Calls Tryz.prog 15 #[.string ⟨text.toArray⟩] w (BusyOut w) := by
  go_enter Tryz.func15, Tryz.ntmps15
  go_wp2_with fail
  go_loopw [3] (fun iv wr => ∃ i : Nat, iv = .int .i64 i ∧ i ≤ text.length ∧ Hid (Below w.heap.size w wr)) (fun iv _ => text.length + 1 - (intOf iv).toNat)
  case atStart => exact ⟨0, rfl, Nat.zero_le _, Lib.hid (Below.refl _ _)⟩
  case round =>
    obtain ⟨i, rfl, hi, hb⟩ := hrel
    have e6 : IntKind.i64.wrap ((i : Int) + 6) = (i : Int) + 6 := IntWalk.i64_in _ (by omega)
    by_cases hlt : i + 6 ≤ text.length
    · have ii : (i : Int) + 6 ≤ (text.length : Int) := by omega
      have hex := ba_ext text i (i + 6)
      have e6' : ((i + 6 : Nat) : Int) = (i : Int) + 6 := by omega
      have i0 : (i : Int) ≤ (i : Int) + 6 := by omega
      generalize hp : (⟨((text.drop i).take (i + 6 - i)).toArray⟩ : ByteArray) = piece at *
      have hbb : ∃ bb : Bool, (piece.toList == [114, 111, 117, 110, 100, 115]) = bb := ⟨_, rfl⟩
      obtain ⟨bb, hbb⟩ := hbb
      cases bb with
      | true =>
        go_wp2_with fail
        go_ret
        exact ⟨⟨_, rfl⟩, hb.out⟩
      | false =>
        go_wp2_with fail
        exact ⟨⟨i + 1, by go_num, by omega, hb⟩, by simp [intOf]; omega⟩
    · have ii : ¬ (i : Int) + 6 ≤ (text.length : Int) := by omega
      go_wp2_with fail
      go_ret
      exact ⟨⟨_, rfl⟩, hb.out⟩
end Go.Proofs.YtgdijbaodfghjaaGreatDoor
