/-
  A packet with its number, as plain data.
-/
import Derived.Test.YtdhojhgmaodifaaDoorBktLaw
namespace Go.Proofs.YtdhojhgmaodifaaDoor
open Bkt
structure Hd where
  it : It
  num : Int
def Hd.zero : Hd := ⟨It.zero, 0⟩
end Go.Proofs.YtdhojhgmaodifaaDoor
