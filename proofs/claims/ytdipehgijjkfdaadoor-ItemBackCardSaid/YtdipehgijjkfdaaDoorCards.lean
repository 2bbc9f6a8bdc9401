/-
  DERIVED. GIVEN WITH THE SEED: THE CARDS: each row of YtdipehgijjkfdaaDoorRows.lean that lists a variable, with what it lists TIED to the program's text (the seventh form; the later family's looks); each row that meets fmt, with fmt's text TOLD by the authors' own Lean function (tested against real Go, not proved from fmt's source: count such statements apart). THE CARD IS WHAT COUNTS. Prove the row's statement (the work); the ties are given (YtdipehgijjkfdaaDoorTie.lean); close each card by the builder's one call (the guide's Derived/Test/ToyasCard.lean, 'card_holds'). Laid BY PROGRAM, IN A SANDBOX (cutbox-door.mjs). By AI agents, Wed Nov 11 2026. No macro, syntax, notation, axiom, sorry.
-/
import Derived.Test.YtdipehgijjkfdaaDoorRows
import GoSem.ClaimSeven
namespace Go.Proofs.YtdipehgijjkfdaaDoor
namespace Rows

/-- THE TIED CARD OF 'millracekeep.ItemBack'. -/
def itemBackCard : Claim7 := { stood := { row := itemBackRow, standIns := [], harness := (true, "e083de336fbcd31b4ab7afefc85f01c46b00abfe43b7144a71086acc530e6b03"), looks := true }, kinds := [], alts := [], laidByText := true, laidKinds := [.data, .data, .data, .data, .handle, .sentinel, .sentinel, .pinned], laidTests := true, laidLooks := .later }
def ItemBackCardSaid : Prop := Claim7.holds Tryd.pinned (.plain (OpenSpec.ofChange itemBackSpec)) itemBackCard

/-- THE TIED CARD OF 'millracekeep.FilterMorgan'. -/
def filterMorganCard : Claim7 := { stood := { row := filterMorganRow, standIns := [], harness := (true, "e083de336fbcd31b4ab7afefc85f01c46b00abfe43b7144a71086acc530e6b03"), looks := true }, kinds := [], alts := [], laidByText := true, laidKinds := [.data, .data, .data, .sentinel, .sentinel, .data], laidTests := true, laidLooks := .later }
def FilterMorganCardSaid : Prop := Claim7.holds Tryd.pinned (.plain (OpenSpec.ofChange filterMorganSpec)) filterMorganCard

/-- THE TIED CARD OF 'millracekeep.FilterBack'. -/
def filterBackCard : Claim7 := { stood := { row := filterBackRow, standIns := [], harness := (true, "e083de336fbcd31b4ab7afefc85f01c46b00abfe43b7144a71086acc530e6b03"), looks := true }, kinds := [], alts := [], laidByText := true, laidKinds := [.data, .data, .data, .handle, .sentinel, .sentinel, .data], laidTests := true, laidLooks := .later }
def FilterBackCardSaid : Prop := Claim7.holds Tryd.pinned (.plain (OpenSpec.ofChange filterBackSpec)) filterBackCard

/-- THE SECOND FORM's CARD OF 'millracekeep.ItemBack'. -/
def itemBackUptoCard : Claim7 := { stood := { row := itemBackUptoRow, standIns := [], harness := (true, "e083de336fbcd31b4ab7afefc85f01c46b00abfe43b7144a71086acc530e6b03"), looks := true }, kinds := [], alts := [], laidByText := true, laidKinds := [.data, .data, .data, .data, .handle, .sentinel, .sentinel, .pinned], laidTests := true, laidLooks := .later }
def ItemBackUptoCardSaid : Prop := Claim7.holds Tryd.pinned (.plain (OpenSpec.upto itemBackSpec)) itemBackUptoCard

/-- THE SECOND FORM's CARD OF 'millracekeep.FilterMorgan'. -/
def filterMorganUptoCard : Claim7 := { stood := { row := filterMorganUptoRow, standIns := [], harness := (true, "e083de336fbcd31b4ab7afefc85f01c46b00abfe43b7144a71086acc530e6b03"), looks := true }, kinds := [], alts := [], laidByText := true, laidKinds := [.data, .data, .data, .sentinel, .sentinel, .data], laidTests := true, laidLooks := .later }
def FilterMorganUptoCardSaid : Prop := Claim7.holds Tryd.pinned (.plain (OpenSpec.upto filterMorganSpec)) filterMorganUptoCard

/-- THE SECOND FORM's CARD OF 'millracekeep.FilterBack'. -/
def filterBackUptoCard : Claim7 := { stood := { row := filterBackUptoRow, standIns := [], harness := (true, "e083de336fbcd31b4ab7afefc85f01c46b00abfe43b7144a71086acc530e6b03"), looks := true }, kinds := [], alts := [], laidByText := true, laidKinds := [.data, .data, .data, .handle, .sentinel, .sentinel, .data], laidTests := true, laidLooks := .later }
def FilterBackUptoCardSaid : Prop := Claim7.holds Tryd.pinned (.plain (OpenSpec.upto filterBackSpec)) filterBackUptoCard
end Rows
end Go.Proofs.YtdipehgijjkfdaaDoor
