/-
  Texts of this claim, one behind the other: ItRow.
-/
import Derived.Test.YtgdijbaodfghjaaGreatDoorZ18
import Derived.Test.YtgdijbaodfghjaaGreatDoorZ02
import Derived.Test.YtgdijbaodfghjaaGreatDoorZ14
import Derived.Deep.RegionLaw
/-
  Packets in a row; the append of a struct as a step of a region that draws its order.
-/
namespace Go.Proofs.YtgdijbaodfghjaaGreatDoor
open Go.RowKit Bkt
set_option linter.unusedVariables false

def ItR : Rec It := ⟨5, itCells, fun _ => rfl, by decide, It.zero⟩
end Go.Proofs.YtgdijbaodfghjaaGreatDoor
