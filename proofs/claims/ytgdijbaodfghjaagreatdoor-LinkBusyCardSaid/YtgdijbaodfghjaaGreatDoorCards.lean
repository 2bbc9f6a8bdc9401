/-
  DERIVED. GIVEN WITH THE SEED: THE CARDS: each row of YtgdijbaodfghjaaGreatDoorRows.lean that lists a variable, with what it lists TIED to the program's text (the seventh form; the later family's looks); each row that meets fmt, with fmt's text TOLD by the authors' own Lean function (tested against real Go, not proved from fmt's source: count such statements apart). THE CARD IS WHAT COUNTS. Prove the row's statement (the work); the ties are given (YtgdijbaodfghjaaGreatDoorTie.lean); close each card by the builder's one call (the guide's Derived/Test/ToyasCard.lean, 'card_holds'). Laid BY PROGRAM, IN A SANDBOX (cutbox-door.mjs). By AI agents, Wed Nov 11 2026. No macro, syntax, notation, axiom, sorry.
-/
import Derived.Test.YtgdijbaodfghjaaGreatDoorRows
import GoSem.ClaimSeven
namespace Go.Proofs.YtgdijbaodfghjaaGreatDoor
namespace Rows

/-- THE TIED CARD OF 'millracekeep.LinkWaits'. -/
def linkWaitsCard : Claim7 := { stood := { row := linkWaitsRow, standIns := [], harness := (true, "6e6a69bab9ee500a3da78f5e6fb1fc51b96d3f2853180e185a78b1f2d46b3eeb"), looks := true }, kinds := [], alts := [], laidByText := true, laidKinds := [.data, .data, .data, .handle, .sentinel, .sentinel], laidTests := true, laidLooks := .later }
def LinkWaitsCardSaid : Prop := Claim7.holds Tryz.pinned (.plain (OpenSpec.ofChange linkWaitsSpec)) linkWaitsCard

/-- THE TIED CARD OF 'millracekeep.LinkBusy'. -/
def linkBusyCard : Claim7 := { stood := { row := linkBusyRow, standIns := [], harness := (true, "6e6a69bab9ee500a3da78f5e6fb1fc51b96d3f2853180e185a78b1f2d46b3eeb"), looks := true }, kinds := [], alts := [], laidByText := true, laidKinds := [.data, .data, .data, .handle, .sentinel, .sentinel], laidTests := true, laidLooks := .later }
def LinkBusyCardSaid : Prop := Claim7.holds Tryz.pinned (.plain (OpenSpec.ofChange linkBusySpec)) linkBusyCard

/-- THE TIED CARD OF 'millracekeep.LinkKeeps'. -/
def linkKeepsCard : Claim7 := { stood := { row := linkKeepsRow, standIns := [], harness := (true, "6e6a69bab9ee500a3da78f5e6fb1fc51b96d3f2853180e185a78b1f2d46b3eeb"), looks := true }, kinds := [], alts := [], laidByText := true, laidKinds := [.data, .data, .data, .handle, .sentinel, .sentinel], laidTests := true, laidLooks := .later }
def LinkKeepsCardSaid : Prop := Claim7.holds Tryz.pinned (.plain (OpenSpec.ofChange linkKeepsSpec)) linkKeepsCard

/-- THE TIED CARD OF 'millracekeep.PlantKeeps'. -/
def plantKeepsCard : Claim7 := { stood := { row := plantKeepsRow, standIns := [], harness := (true, "6e6a69bab9ee500a3da78f5e6fb1fc51b96d3f2853180e185a78b1f2d46b3eeb"), looks := true }, kinds := [], alts := [], laidByText := true, laidKinds := [.data, .data, .data, .handle, .sentinel, .sentinel], laidTests := true, laidLooks := .later }
def PlantKeepsCardSaid : Prop := Claim7.holds Tryz.pinned (.plain (OpenSpec.ofChange plantKeepsSpec)) plantKeepsCard

/-- THE SECOND FORM's CARD OF 'millracekeep.LinkWaits'. -/
def linkWaitsUptoCard : Claim7 := { stood := { row := linkWaitsUptoRow, standIns := [], harness := (true, "6e6a69bab9ee500a3da78f5e6fb1fc51b96d3f2853180e185a78b1f2d46b3eeb"), looks := true }, kinds := [], alts := [], laidByText := true, laidKinds := [.data, .data, .data, .handle, .sentinel, .sentinel], laidTests := true, laidLooks := .later }
def LinkWaitsUptoCardSaid : Prop := Claim7.holds Tryz.pinned (.plain (OpenSpec.upto linkWaitsSpec)) linkWaitsUptoCard

/-- THE SECOND FORM's CARD OF 'millracekeep.LinkBusy'. -/
def linkBusyUptoCard : Claim7 := { stood := { row := linkBusyUptoRow, standIns := [], harness := (true, "6e6a69bab9ee500a3da78f5e6fb1fc51b96d3f2853180e185a78b1f2d46b3eeb"), looks := true }, kinds := [], alts := [], laidByText := true, laidKinds := [.data, .data, .data, .handle, .sentinel, .sentinel], laidTests := true, laidLooks := .later }
def LinkBusyUptoCardSaid : Prop := Claim7.holds Tryz.pinned (.plain (OpenSpec.upto linkBusySpec)) linkBusyUptoCard

/-- THE SECOND FORM's CARD OF 'millracekeep.LinkKeeps'. -/
def linkKeepsUptoCard : Claim7 := { stood := { row := linkKeepsUptoRow, standIns := [], harness := (true, "6e6a69bab9ee500a3da78f5e6fb1fc51b96d3f2853180e185a78b1f2d46b3eeb"), looks := true }, kinds := [], alts := [], laidByText := true, laidKinds := [.data, .data, .data, .handle, .sentinel, .sentinel], laidTests := true, laidLooks := .later }
def LinkKeepsUptoCardSaid : Prop := Claim7.holds Tryz.pinned (.plain (OpenSpec.upto linkKeepsSpec)) linkKeepsUptoCard

/-- THE SECOND FORM's CARD OF 'millracekeep.PlantKeeps'. -/
def plantKeepsUptoCard : Claim7 := { stood := { row := plantKeepsUptoRow, standIns := [], harness := (true, "6e6a69bab9ee500a3da78f5e6fb1fc51b96d3f2853180e185a78b1f2d46b3eeb"), looks := true }, kinds := [], alts := [], laidByText := true, laidKinds := [.data, .data, .data, .handle, .sentinel, .sentinel], laidTests := true, laidLooks := .later }
def PlantKeepsUptoCardSaid : Prop := Claim7.holds Tryz.pinned (.plain (OpenSpec.upto plantKeepsSpec)) plantKeepsUptoCard
end Rows
end Go.Proofs.YtgdijbaodfghjaaGreatDoor
