/-
  DERIVED. GIVEN WITH THE SEED: THE CARDS: each row of YtdhojhgmaodifaaDoorRows.lean that lists a variable, with what it lists TIED to the program's text (the seventh form; the later family's looks); each row that meets fmt, with fmt's text TOLD by the authors' own Lean function (tested against real Go, not proved from fmt's source: count such statements apart). THE CARD IS WHAT COUNTS. Prove the row's statement (the work); the ties are given (YtdhojhgmaodifaaDoorTie.lean); close each card by the builder's one call (the guide's Derived/Test/ToyasCard.lean, 'card_holds'). Laid BY PROGRAM, IN A SANDBOX (cutbox-door.mjs). By AI agents, Wed Nov 11 2026. No macro, syntax, notation, axiom, sorry.
-/
import Derived.Test.YtdhojhgmaodifaaDoorRows
import GoSem.ClaimSeven
namespace Go.Proofs.YtdhojhgmaodifaaDoor
namespace Rows

/-- THE TIED CARD OF 'millracekeep.ItemTakesMore'. -/
def itemTakesMoreCard : Claim7 := { stood := { row := itemTakesMoreRow, standIns := [], harness := (true, "7d911aa19b2285bcaf3d16d2f10f0d5f8b0c6677bc30a71c2fbed65ccf4d4d17"), looks := true }, kinds := [], alts := [], laidByText := true, laidKinds := [.handle], laidTests := true, laidLooks := .later }
def ItemTakesMoreCardSaid : Prop := Claim7.holds Tryd.pinned (.plain (OpenSpec.ofChange itemTakesMoreSpec)) itemTakesMoreCard

/-- THE TIED CARD OF 'millracekeep.BucketBounds'. -/
def bucketBoundsCard : Claim7 := { stood := { row := bucketBoundsRow, standIns := [], harness := (true, "7d911aa19b2285bcaf3d16d2f10f0d5f8b0c6677bc30a71c2fbed65ccf4d4d17"), looks := true }, kinds := [], alts := [], laidByText := true, laidKinds := [.handle], laidTests := true, laidLooks := .later }
def BucketBoundsCardSaid : Prop := Claim7.holds Tryd.pinned (.plain (OpenSpec.ofChange bucketBoundsSpec)) bucketBoundsCard

/-- THE TIED CARD OF 'millracekeep.BucketGcra'. -/
def bucketGcraCard : Claim7 := { stood := { row := bucketGcraRow, standIns := [], harness := (true, "7d911aa19b2285bcaf3d16d2f10f0d5f8b0c6677bc30a71c2fbed65ccf4d4d17"), looks := true }, kinds := [], alts := [], laidByText := true, laidKinds := [.handle], laidTests := true, laidLooks := .later }
def BucketGcraCardSaid : Prop := Claim7.holds Tryd.pinned (.plain (OpenSpec.ofChange bucketGcraSpec)) bucketGcraCard

/-- THE TIED CARD OF 'millracekeep.BucketShaped'. -/
def bucketShapedCard : Claim7 := { stood := { row := bucketShapedRow, standIns := [], harness := (true, "7d911aa19b2285bcaf3d16d2f10f0d5f8b0c6677bc30a71c2fbed65ccf4d4d17"), looks := true }, kinds := [], alts := [], laidByText := true, laidKinds := [.handle], laidTests := true, laidLooks := .later }
def BucketShapedCardSaid : Prop := Claim7.holds Tryd.pinned (.plain (OpenSpec.ofChange bucketShapedSpec)) bucketShapedCard

/-- THE TIED CARD OF 'millracekeep.BucketColors'. -/
def bucketColorsCard : Claim7 := { stood := { row := bucketColorsRow, standIns := [], harness := (true, "7d911aa19b2285bcaf3d16d2f10f0d5f8b0c6677bc30a71c2fbed65ccf4d4d17"), looks := true }, kinds := [], alts := [], laidByText := true, laidKinds := [.handle], laidTests := true, laidLooks := .later }
def BucketColorsCardSaid : Prop := Claim7.holds Tryd.pinned (.plain (OpenSpec.ofChange bucketColorsSpec)) bucketColorsCard

/-- THE TIED CARD OF 'millracekeep.CurveConforms'. -/
def curveConformsCard : Claim7 := { stood := { row := curveConformsRow, standIns := [], harness := (true, "7d911aa19b2285bcaf3d16d2f10f0d5f8b0c6677bc30a71c2fbed65ccf4d4d17"), looks := true }, kinds := [], alts := [], laidByText := true, laidKinds := [.handle], laidTests := true, laidLooks := .later }
def CurveConformsCardSaid : Prop := Claim7.holds Tryd.pinned (.plain (OpenSpec.ofChange curveConformsSpec)) curveConformsCard

/-- THE TIED CARD OF 'millracekeep.ActionFields'. -/
def actionFieldsCard : Claim7 := { stood := { row := actionFieldsRow, standIns := [], harness := (true, "7d911aa19b2285bcaf3d16d2f10f0d5f8b0c6677bc30a71c2fbed65ccf4d4d17"), looks := true }, kinds := [], alts := [], laidByText := true, laidKinds := [.handle], laidTests := true, laidLooks := .later }
def ActionFieldsCardSaid : Prop := Claim7.holds Tryd.pinned (.plain (OpenSpec.ofChange actionFieldsSpec)) actionFieldsCard

/-- THE TIED CARD OF 'millracekeep.ActionOnce'. -/
def actionOnceCard : Claim7 := { stood := { row := actionOnceRow, standIns := [], harness := (true, "7d911aa19b2285bcaf3d16d2f10f0d5f8b0c6677bc30a71c2fbed65ccf4d4d17"), looks := true }, kinds := [], alts := [], laidByText := true, laidKinds := [.handle], laidTests := true, laidLooks := .later }
def ActionOnceCardSaid : Prop := Claim7.holds Tryd.pinned (.plain (OpenSpec.ofChange actionOnceSpec)) actionOnceCard

/-- THE TIED CARD OF 'millracekeep.ShaperConforms'. -/
def shaperConformsCard : Claim7 := { stood := { row := shaperConformsRow, standIns := [], harness := (true, "7d911aa19b2285bcaf3d16d2f10f0d5f8b0c6677bc30a71c2fbed65ccf4d4d17"), looks := true }, kinds := [], alts := [], laidByText := true, laidKinds := [.handle], laidTests := true, laidLooks := .later }
def ShaperConformsCardSaid : Prop := Claim7.holds Tryd.pinned (.plain (OpenSpec.ofChange shaperConformsSpec)) shaperConformsCard

/-- THE TIED CARD OF 'millracekeep.LinkShaped'. -/
def linkShapedCard : Claim7 := { stood := { row := linkShapedRow, standIns := [], harness := (true, "7d911aa19b2285bcaf3d16d2f10f0d5f8b0c6677bc30a71c2fbed65ccf4d4d17"), looks := true }, kinds := [], alts := [], laidByText := true, laidKinds := [.handle], laidTests := true, laidLooks := .later }
def LinkShapedCardSaid : Prop := Claim7.holds Tryd.pinned (.plain (OpenSpec.ofChange linkShapedSpec)) linkShapedCard

/-- THE SECOND FORM's CARD OF 'millracekeep.ItemTakesMore'. -/
def itemTakesMoreUptoCard : Claim7 := { stood := { row := itemTakesMoreUptoRow, standIns := [], harness := (true, "7d911aa19b2285bcaf3d16d2f10f0d5f8b0c6677bc30a71c2fbed65ccf4d4d17"), looks := true }, kinds := [], alts := [], laidByText := true, laidKinds := [.handle], laidTests := true, laidLooks := .later }
def ItemTakesMoreUptoCardSaid : Prop := Claim7.holds Tryd.pinned (.plain (OpenSpec.upto itemTakesMoreSpec)) itemTakesMoreUptoCard

/-- THE SECOND FORM's CARD OF 'millracekeep.BucketBounds'. -/
def bucketBoundsUptoCard : Claim7 := { stood := { row := bucketBoundsUptoRow, standIns := [], harness := (true, "7d911aa19b2285bcaf3d16d2f10f0d5f8b0c6677bc30a71c2fbed65ccf4d4d17"), looks := true }, kinds := [], alts := [], laidByText := true, laidKinds := [.handle], laidTests := true, laidLooks := .later }
def BucketBoundsUptoCardSaid : Prop := Claim7.holds Tryd.pinned (.plain (OpenSpec.upto bucketBoundsSpec)) bucketBoundsUptoCard

/-- THE SECOND FORM's CARD OF 'millracekeep.BucketGcra'. -/
def bucketGcraUptoCard : Claim7 := { stood := { row := bucketGcraUptoRow, standIns := [], harness := (true, "7d911aa19b2285bcaf3d16d2f10f0d5f8b0c6677bc30a71c2fbed65ccf4d4d17"), looks := true }, kinds := [], alts := [], laidByText := true, laidKinds := [.handle], laidTests := true, laidLooks := .later }
def BucketGcraUptoCardSaid : Prop := Claim7.holds Tryd.pinned (.plain (OpenSpec.upto bucketGcraSpec)) bucketGcraUptoCard

/-- THE SECOND FORM's CARD OF 'millracekeep.BucketShaped'. -/
def bucketShapedUptoCard : Claim7 := { stood := { row := bucketShapedUptoRow, standIns := [], harness := (true, "7d911aa19b2285bcaf3d16d2f10f0d5f8b0c6677bc30a71c2fbed65ccf4d4d17"), looks := true }, kinds := [], alts := [], laidByText := true, laidKinds := [.handle], laidTests := true, laidLooks := .later }
def BucketShapedUptoCardSaid : Prop := Claim7.holds Tryd.pinned (.plain (OpenSpec.upto bucketShapedSpec)) bucketShapedUptoCard

/-- THE SECOND FORM's CARD OF 'millracekeep.BucketColors'. -/
def bucketColorsUptoCard : Claim7 := { stood := { row := bucketColorsUptoRow, standIns := [], harness := (true, "7d911aa19b2285bcaf3d16d2f10f0d5f8b0c6677bc30a71c2fbed65ccf4d4d17"), looks := true }, kinds := [], alts := [], laidByText := true, laidKinds := [.handle], laidTests := true, laidLooks := .later }
def BucketColorsUptoCardSaid : Prop := Claim7.holds Tryd.pinned (.plain (OpenSpec.upto bucketColorsSpec)) bucketColorsUptoCard

/-- THE SECOND FORM's CARD OF 'millracekeep.CurveConforms'. -/
def curveConformsUptoCard : Claim7 := { stood := { row := curveConformsUptoRow, standIns := [], harness := (true, "7d911aa19b2285bcaf3d16d2f10f0d5f8b0c6677bc30a71c2fbed65ccf4d4d17"), looks := true }, kinds := [], alts := [], laidByText := true, laidKinds := [.handle], laidTests := true, laidLooks := .later }
def CurveConformsUptoCardSaid : Prop := Claim7.holds Tryd.pinned (.plain (OpenSpec.upto curveConformsSpec)) curveConformsUptoCard

/-- THE SECOND FORM's CARD OF 'millracekeep.ActionFields'. -/
def actionFieldsUptoCard : Claim7 := { stood := { row := actionFieldsUptoRow, standIns := [], harness := (true, "7d911aa19b2285bcaf3d16d2f10f0d5f8b0c6677bc30a71c2fbed65ccf4d4d17"), looks := true }, kinds := [], alts := [], laidByText := true, laidKinds := [.handle], laidTests := true, laidLooks := .later }
def ActionFieldsUptoCardSaid : Prop := Claim7.holds Tryd.pinned (.plain (OpenSpec.upto actionFieldsSpec)) actionFieldsUptoCard

/-- THE SECOND FORM's CARD OF 'millracekeep.ActionOnce'. -/
def actionOnceUptoCard : Claim7 := { stood := { row := actionOnceUptoRow, standIns := [], harness := (true, "7d911aa19b2285bcaf3d16d2f10f0d5f8b0c6677bc30a71c2fbed65ccf4d4d17"), looks := true }, kinds := [], alts := [], laidByText := true, laidKinds := [.handle], laidTests := true, laidLooks := .later }
def ActionOnceUptoCardSaid : Prop := Claim7.holds Tryd.pinned (.plain (OpenSpec.upto actionOnceSpec)) actionOnceUptoCard

/-- THE SECOND FORM's CARD OF 'millracekeep.ShaperConforms'. -/
def shaperConformsUptoCard : Claim7 := { stood := { row := shaperConformsUptoRow, standIns := [], harness := (true, "7d911aa19b2285bcaf3d16d2f10f0d5f8b0c6677bc30a71c2fbed65ccf4d4d17"), looks := true }, kinds := [], alts := [], laidByText := true, laidKinds := [.handle], laidTests := true, laidLooks := .later }
def ShaperConformsUptoCardSaid : Prop := Claim7.holds Tryd.pinned (.plain (OpenSpec.upto shaperConformsSpec)) shaperConformsUptoCard

/-- THE SECOND FORM's CARD OF 'millracekeep.LinkShaped'. -/
def linkShapedUptoCard : Claim7 := { stood := { row := linkShapedUptoRow, standIns := [], harness := (true, "7d911aa19b2285bcaf3d16d2f10f0d5f8b0c6677bc30a71c2fbed65ccf4d4d17"), looks := true }, kinds := [], alts := [], laidByText := true, laidKinds := [.handle], laidTests := true, laidLooks := .later }
def LinkShapedUptoCardSaid : Prop := Claim7.holds Tryd.pinned (.plain (OpenSpec.upto linkShapedSpec)) linkShapedUptoCard
end Rows
end Go.Proofs.YtdhojhgmaodifaaDoor
