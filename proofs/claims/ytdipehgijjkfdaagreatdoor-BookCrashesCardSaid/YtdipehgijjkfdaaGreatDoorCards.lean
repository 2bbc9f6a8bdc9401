/-
  DERIVED. GIVEN WITH THE SEED: THE CARDS: each row of YtdipehgijjkfdaaGreatDoorRows.lean that lists a variable, with what it lists TIED to the program's text (the seventh form; the later family's looks); each row that meets fmt, with fmt's text TOLD by the authors' own Lean function (tested against real Go, not proved from fmt's source: count such statements apart). THE CARD IS WHAT COUNTS. Prove the row's statement (the work); the ties are given (YtdipehgijjkfdaaGreatDoorTie.lean); close each card by the builder's one call (the guide's Derived/Test/ToyasCard.lean, 'card_holds'). Laid BY PROGRAM, IN A SANDBOX (cutbox-door.mjs). By AI agents, Wed Nov 11 2026. No macro, syntax, notation, axiom, sorry.
-/
import Derived.Test.YtdipehgijjkfdaaGreatDoorRows
import GoSem.ClaimSeven
namespace Go.Proofs.YtdipehgijjkfdaaGreatDoor
namespace Rows

/-- THE TIED CARD OF 'millracekeep.BookCrashes'. -/
def bookCrashesCard : Claim7 := { stood := { row := bookCrashesRow, standIns := [], harness := (true, "61c5749b44f7f72e1da2da3afb9acdbbb86a744ffba43c9767c4804d99f8439a"), looks := true }, kinds := [], alts := [], laidByText := true, laidKinds := [.data, .data, .data, .data, .sentinel, .sentinel, .pinned], laidTests := true, laidLooks := .later }
def BookCrashesCardSaid : Prop := Claim7.holds Tryz.pinned (.plain (OpenSpec.ofChange bookCrashesSpec)) bookCrashesCard

/-- THE TIED CARD OF 'millracekeep.BookBit'. -/
def bookBitCard : Claim7 := { stood := { row := bookBitRow, standIns := [], harness := (true, "61c5749b44f7f72e1da2da3afb9acdbbb86a744ffba43c9767c4804d99f8439a"), looks := true }, kinds := [], alts := [], laidByText := true, laidKinds := [.data, .data, .data, .data, .sentinel, .sentinel, .pinned], laidTests := true, laidLooks := .later }
def BookBitCardSaid : Prop := Claim7.holds Tryz.pinned (.plain (OpenSpec.ofChange bookBitSpec)) bookBitCard

/-- THE SECOND FORM's CARD OF 'millracekeep.BookCrashes'. -/
def bookCrashesUptoCard : Claim7 := { stood := { row := bookCrashesUptoRow, standIns := [], harness := (true, "61c5749b44f7f72e1da2da3afb9acdbbb86a744ffba43c9767c4804d99f8439a"), looks := true }, kinds := [], alts := [], laidByText := true, laidKinds := [.data, .data, .data, .data, .sentinel, .sentinel, .pinned], laidTests := true, laidLooks := .later }
def BookCrashesUptoCardSaid : Prop := Claim7.holds Tryz.pinned (.plain (OpenSpec.upto bookCrashesSpec)) bookCrashesUptoCard

/-- THE SECOND FORM's CARD OF 'millracekeep.BookBit'. -/
def bookBitUptoCard : Claim7 := { stood := { row := bookBitUptoRow, standIns := [], harness := (true, "61c5749b44f7f72e1da2da3afb9acdbbb86a744ffba43c9767c4804d99f8439a"), looks := true }, kinds := [], alts := [], laidByText := true, laidKinds := [.data, .data, .data, .data, .sentinel, .sentinel, .pinned], laidTests := true, laidLooks := .later }
def BookBitUptoCardSaid : Prop := Claim7.holds Tryz.pinned (.plain (OpenSpec.upto bookBitSpec)) bookBitUptoCard
end Rows
end Go.Proofs.YtdipehgijjkfdaaGreatDoor
