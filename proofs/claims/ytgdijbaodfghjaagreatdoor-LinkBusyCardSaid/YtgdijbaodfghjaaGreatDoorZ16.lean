/-
  Texts of this claim, one behind the other: OpenT.
-/
import Derived.Test.YtgdijbaodfghjaaGreatDoorZ14
import Derived.Test.YtgdijbaodfghjaaGreatDoorZ15
/-
  Slices of steps as arguments: what came in reads as a list of steps.
-/
namespace Go.Proofs.YtgdijbaodfghjaaGreatDoor
open Go.ChangeShapes Go.WideShapes Go.Deep Go.RowKit Bkt
set_option linter.unusedVariables false

section
variable {H : Type} {enc : TypeId × Value → H} {w : World} {base : Nat} {spare : Nat → Bool} {held : Bool}
end
end Go.Proofs.YtgdijbaodfghjaaGreatDoor
