/-
  Texts of this claim, one behind the other: Gl.
-/
import Derived.Test.YtgdijbaodfghjaaGreatDoorChecked
/-
  Numbers of the laid variables.
-/
namespace Go.Proofs.YtgdijbaodfghjaaGreatDoor
theorem gl_syn : Tryz.prog.globalNamed "strconv.ErrSyntax" = some 1 := by kernel_rfl
theorem gl_rng : Tryz.prog.globalNamed "strconv.ErrRange" = some 2 := by kernel_rfl
theorem gl_tab : Tryz.prog.globalNamed "internal/strconv.uint64pow10" = some 3 := by kernel_rfl
end Go.Proofs.YtgdijbaodfghjaaGreatDoor
