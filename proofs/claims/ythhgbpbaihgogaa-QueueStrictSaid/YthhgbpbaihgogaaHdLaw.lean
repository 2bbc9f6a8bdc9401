/-
  A packet with its number, as plain data.
-/
import Derived.Test.YthhgbpbaihgogaaBktLaw
namespace Go.Proofs.Ythhgbpbaihgogaa
open Bkt
structure Hd where
  it : It
  num : Int
def Hd.zero : Hd := ⟨It.zero, 0⟩
end Go.Proofs.Ythhgbpbaihgogaa
