/-
  NARROWER THAN 'FOR EVERY INPUT', by the rows' own cells (each row's printed sentence says how): ItemTakesMore: laid · BucketBounds: laid · BucketGcra: laid · BucketShaped: laid · BucketColors: laid · CurveConforms: laid · ActionFields: laid · ActionOnce: laid · ShaperConforms: laid · LinkShaped: laid.
  DERIVED. THE GIVEN ROWS OF THIS SEAT. 10 by the template 'for every input the law returns true; each argument reads behind the call as it read before'; 0 by the template 'total and deterministic' (their statements: YtdhojhgmaodifaaDoorTotals.lean).
  GIVEN WITH THE SEED: the statements are not yours to turn. If you find one false, say at which input.
  Laid BY PROGRAM, IN A SANDBOX (cutbox-rows.mjs): the forced cells as the released guide's own fill.sh prints them over the translation 30eb2d8735087f95… (all of the seat's roots in one cut). By AI agents, Wed Nov 11 2026. No macro, syntax, notation, axiom, sorry.
-/
import Derived.Test.YtdhojhgmaodifaaDoorChecked
import GoSem.Claim
import GoSem.ClaimJoined
import GoSem.ClaimMapViews
import Derived.JoinedTies
import Derived.KernelRfl
namespace Go.Proofs.YtdhojhgmaodifaaDoor
/- THE CELL 'sum', in the pinned program and in every row, IS THE sha256 OF THE DUMP (.gsa) THAT YtdhojhgmaodifaaDoorProg.lean LOADS. Nothing in Lean hashes anything: it is a label: what it is worth is what the hold of that sum in a sandbox is worth. -/
noncomputable def Tryd.pinned : Pinned := { name := "ytdhojhgmaodifaadoor", sum := "30eb2d8735087f956a3b1414c3ab2bf54a60e58a8db72b1ae183449e79a05ddc", checked := Tryd.checked }
namespace Rows
def none {H : Type} : Left H := { results := [], args := [] }

/- WHAT THE LISTED PACKAGE-LEVEL VARIABLES READ AS WHEN THE CALL BEGINS. Each datum BY PROGRAM (the guide's laid-datum.mjs) off the statement by which the dump's own 'gosem.cut.vars' lays the variable. In a bare row this is a premise. The card (YtdhojhgmaodifaaDoorCards.lean) ties it to the program's text. -/
def laid_errors_errorType {H : Type} : DataW H := .iface "internal/reflectlite.rtype" (.agg [.ptr (.lit (.string [101, 114, 114, 111, 114]))])

/-- 'millracekeep.ItemTakesMore': WHATEVER THE INPUT: true; the input reads as it did. -/
def itemTakesMoreSpec : ChangeSpec := { name := "itemTakesMore", fn := fun _ => fun
  | [d1, d2, d3] => { results := [.lit (.bool true)], args := [d1, d2, d3] }
  | _ => none }
def itemTakesMoreRow : OpenClaim := { program := "ytdhojhgmaodifaadoor", sum := "30eb2d8735087f956a3b1414c3ab2bf54a60e58a8db72b1ae183449e79a05ddc", func := "millrace/millracekeep.ItemTakesMore", spec := "itemTakesMore", inPlace := ["internal/reflectlite.ValueOf", "(internal/reflectlite.Value).Type", "(internal/reflectlite.Value).IsNil", "internal/reflectlite.TypeOf", "(internal/reflectlite.Value).Elem", "(internal/reflectlite.Value).Set"], unfollowed := true, recurses := true, named := ["errors.errorType"], apart := false, laid := [("errors.errorType", laid_errors_errorType)] }
def ItemTakesMoreSaid : Prop := itemTakesMoreRow.holds Tryd.pinned (OpenSpec.ofChange itemTakesMoreSpec)

/-- ITS FALSE NEIGHBOUR: 'it returns false'. Refute it at one input. -/
def itemTakesMoreWrong : ChangeSpec := { name := "itemTakesMore", fn := fun _ => fun
  | [d1, d2, d3] => { results := [.lit (.bool false)], args := [d1, d2, d3] }
  | _ => none }
def ItemTakesMoreWrongFalsely : Prop := itemTakesMoreRow.holds Tryd.pinned (OpenSpec.ofChange itemTakesMoreWrong)

/-- 'millracekeep.BucketBounds': WHATEVER THE INPUT: true; the input reads as it did. -/
def bucketBoundsSpec : ChangeSpec := { name := "bucketBounds", fn := fun _ => fun
  | [d1, d2] => { results := [.lit (.bool true)], args := [d1, d2] }
  | _ => none }
def bucketBoundsRow : OpenClaim := { program := "ytdhojhgmaodifaadoor", sum := "30eb2d8735087f956a3b1414c3ab2bf54a60e58a8db72b1ae183449e79a05ddc", func := "millrace/millracekeep.BucketBounds", spec := "bucketBounds", inPlace := ["internal/reflectlite.ValueOf", "(internal/reflectlite.Value).Type", "(internal/reflectlite.Value).IsNil", "internal/reflectlite.TypeOf", "(internal/reflectlite.Value).Elem", "(internal/reflectlite.Value).Set"], unfollowed := true, recurses := true, named := ["errors.errorType"], apart := false, laid := [("errors.errorType", laid_errors_errorType)] }
def BucketBoundsSaid : Prop := bucketBoundsRow.holds Tryd.pinned (OpenSpec.ofChange bucketBoundsSpec)

/-- ITS FALSE NEIGHBOUR: 'it returns false'. Refute it at one input. -/
def bucketBoundsWrong : ChangeSpec := { name := "bucketBounds", fn := fun _ => fun
  | [d1, d2] => { results := [.lit (.bool false)], args := [d1, d2] }
  | _ => none }
def BucketBoundsWrongFalsely : Prop := bucketBoundsRow.holds Tryd.pinned (OpenSpec.ofChange bucketBoundsWrong)

/-- 'millracekeep.BucketGcra': WHATEVER THE INPUT: true; the input reads as it did. -/
def bucketGcraSpec : ChangeSpec := { name := "bucketGcra", fn := fun _ => fun
  | [d1, d2] => { results := [.lit (.bool true)], args := [d1, d2] }
  | _ => none }
def bucketGcraRow : OpenClaim := { program := "ytdhojhgmaodifaadoor", sum := "30eb2d8735087f956a3b1414c3ab2bf54a60e58a8db72b1ae183449e79a05ddc", func := "millrace/millracekeep.BucketGcra", spec := "bucketGcra", inPlace := ["internal/reflectlite.ValueOf", "(internal/reflectlite.Value).Type", "(internal/reflectlite.Value).IsNil", "internal/reflectlite.TypeOf", "(internal/reflectlite.Value).Elem", "(internal/reflectlite.Value).Set"], unfollowed := true, recurses := true, named := ["errors.errorType"], apart := false, laid := [("errors.errorType", laid_errors_errorType)] }
def BucketGcraSaid : Prop := bucketGcraRow.holds Tryd.pinned (OpenSpec.ofChange bucketGcraSpec)

/-- ITS FALSE NEIGHBOUR: 'it returns false'. Refute it at one input. -/
def bucketGcraWrong : ChangeSpec := { name := "bucketGcra", fn := fun _ => fun
  | [d1, d2] => { results := [.lit (.bool false)], args := [d1, d2] }
  | _ => none }
def BucketGcraWrongFalsely : Prop := bucketGcraRow.holds Tryd.pinned (OpenSpec.ofChange bucketGcraWrong)

/-- 'millracekeep.BucketShaped': WHATEVER THE INPUT: true; the input reads as it did. -/
def bucketShapedSpec : ChangeSpec := { name := "bucketShaped", fn := fun _ => fun
  | [d1, d2, d3] => { results := [.lit (.bool true)], args := [d1, d2, d3] }
  | _ => none }
def bucketShapedRow : OpenClaim := { program := "ytdhojhgmaodifaadoor", sum := "30eb2d8735087f956a3b1414c3ab2bf54a60e58a8db72b1ae183449e79a05ddc", func := "millrace/millracekeep.BucketShaped", spec := "bucketShaped", inPlace := ["internal/reflectlite.ValueOf", "(internal/reflectlite.Value).Type", "(internal/reflectlite.Value).IsNil", "internal/reflectlite.TypeOf", "(internal/reflectlite.Value).Elem", "(internal/reflectlite.Value).Set"], unfollowed := true, recurses := true, named := ["errors.errorType"], apart := false, laid := [("errors.errorType", laid_errors_errorType)] }
def BucketShapedSaid : Prop := bucketShapedRow.holds Tryd.pinned (OpenSpec.ofChange bucketShapedSpec)

/-- ITS FALSE NEIGHBOUR: 'it returns false'. Refute it at one input. -/
def bucketShapedWrong : ChangeSpec := { name := "bucketShaped", fn := fun _ => fun
  | [d1, d2, d3] => { results := [.lit (.bool false)], args := [d1, d2, d3] }
  | _ => none }
def BucketShapedWrongFalsely : Prop := bucketShapedRow.holds Tryd.pinned (OpenSpec.ofChange bucketShapedWrong)

/-- 'millracekeep.BucketColors': WHATEVER THE INPUT: true; the input reads as it did. -/
def bucketColorsSpec : ChangeSpec := { name := "bucketColors", fn := fun _ => fun
  | [d1, d2, d3, d4] => { results := [.lit (.bool true)], args := [d1, d2, d3, d4] }
  | _ => none }
def bucketColorsRow : OpenClaim := { program := "ytdhojhgmaodifaadoor", sum := "30eb2d8735087f956a3b1414c3ab2bf54a60e58a8db72b1ae183449e79a05ddc", func := "millrace/millracekeep.BucketColors", spec := "bucketColors", inPlace := ["internal/reflectlite.ValueOf", "(internal/reflectlite.Value).Type", "(internal/reflectlite.Value).IsNil", "internal/reflectlite.TypeOf", "(internal/reflectlite.Value).Elem", "(internal/reflectlite.Value).Set"], unfollowed := true, recurses := true, named := ["errors.errorType"], apart := false, laid := [("errors.errorType", laid_errors_errorType)] }
def BucketColorsSaid : Prop := bucketColorsRow.holds Tryd.pinned (OpenSpec.ofChange bucketColorsSpec)

/-- ITS FALSE NEIGHBOUR: 'it returns false'. Refute it at one input. -/
def bucketColorsWrong : ChangeSpec := { name := "bucketColors", fn := fun _ => fun
  | [d1, d2, d3, d4] => { results := [.lit (.bool false)], args := [d1, d2, d3, d4] }
  | _ => none }
def BucketColorsWrongFalsely : Prop := bucketColorsRow.holds Tryd.pinned (OpenSpec.ofChange bucketColorsWrong)

/-- 'millracekeep.CurveConforms': WHATEVER THE INPUT: true; the input reads as it did. -/
def curveConformsSpec : ChangeSpec := { name := "curveConforms", fn := fun _ => fun
  | [d1, d2] => { results := [.lit (.bool true)], args := [d1, d2] }
  | _ => none }
def curveConformsRow : OpenClaim := { program := "ytdhojhgmaodifaadoor", sum := "30eb2d8735087f956a3b1414c3ab2bf54a60e58a8db72b1ae183449e79a05ddc", func := "millrace/millracekeep.CurveConforms", spec := "curveConforms", inPlace := ["internal/reflectlite.ValueOf", "(internal/reflectlite.Value).Type", "(internal/reflectlite.Value).IsNil", "internal/reflectlite.TypeOf", "(internal/reflectlite.Value).Elem", "(internal/reflectlite.Value).Set"], unfollowed := true, recurses := true, named := ["errors.errorType"], apart := false, laid := [("errors.errorType", laid_errors_errorType)] }
def CurveConformsSaid : Prop := curveConformsRow.holds Tryd.pinned (OpenSpec.ofChange curveConformsSpec)

/-- ITS FALSE NEIGHBOUR: 'it returns false'. Refute it at one input. -/
def curveConformsWrong : ChangeSpec := { name := "curveConforms", fn := fun _ => fun
  | [d1, d2] => { results := [.lit (.bool false)], args := [d1, d2] }
  | _ => none }
def CurveConformsWrongFalsely : Prop := curveConformsRow.holds Tryd.pinned (OpenSpec.ofChange curveConformsWrong)

/-- 'millracekeep.ActionFields': WHATEVER THE INPUT: true; the input reads as it did. -/
def actionFieldsSpec : ChangeSpec := { name := "actionFields", fn := fun _ => fun
  | [d1, d2, d3] => { results := [.lit (.bool true)], args := [d1, d2, d3] }
  | _ => none }
def actionFieldsRow : OpenClaim := { program := "ytdhojhgmaodifaadoor", sum := "30eb2d8735087f956a3b1414c3ab2bf54a60e58a8db72b1ae183449e79a05ddc", func := "millrace/millracekeep.ActionFields", spec := "actionFields", inPlace := ["internal/reflectlite.ValueOf", "(internal/reflectlite.Value).Type", "(internal/reflectlite.Value).IsNil", "internal/reflectlite.TypeOf", "(internal/reflectlite.Value).Elem", "(internal/reflectlite.Value).Set"], unfollowed := true, recurses := true, named := ["errors.errorType"], apart := false, laid := [("errors.errorType", laid_errors_errorType)] }
def ActionFieldsSaid : Prop := actionFieldsRow.holds Tryd.pinned (OpenSpec.ofChange actionFieldsSpec)

/-- ITS FALSE NEIGHBOUR: 'it returns false'. Refute it at one input. -/
def actionFieldsWrong : ChangeSpec := { name := "actionFields", fn := fun _ => fun
  | [d1, d2, d3] => { results := [.lit (.bool false)], args := [d1, d2, d3] }
  | _ => none }
def ActionFieldsWrongFalsely : Prop := actionFieldsRow.holds Tryd.pinned (OpenSpec.ofChange actionFieldsWrong)

/-- 'millracekeep.ActionOnce': WHATEVER THE INPUT: true; the input reads as it did. -/
def actionOnceSpec : ChangeSpec := { name := "actionOnce", fn := fun _ => fun
  | [d1, d2] => { results := [.lit (.bool true)], args := [d1, d2] }
  | _ => none }
def actionOnceRow : OpenClaim := { program := "ytdhojhgmaodifaadoor", sum := "30eb2d8735087f956a3b1414c3ab2bf54a60e58a8db72b1ae183449e79a05ddc", func := "millrace/millracekeep.ActionOnce", spec := "actionOnce", inPlace := ["internal/reflectlite.ValueOf", "(internal/reflectlite.Value).Type", "(internal/reflectlite.Value).IsNil", "internal/reflectlite.TypeOf", "(internal/reflectlite.Value).Elem", "(internal/reflectlite.Value).Set"], unfollowed := true, recurses := true, named := ["errors.errorType"], apart := false, laid := [("errors.errorType", laid_errors_errorType)] }
def ActionOnceSaid : Prop := actionOnceRow.holds Tryd.pinned (OpenSpec.ofChange actionOnceSpec)

/-- ITS FALSE NEIGHBOUR: 'it returns false'. Refute it at one input. -/
def actionOnceWrong : ChangeSpec := { name := "actionOnce", fn := fun _ => fun
  | [d1, d2] => { results := [.lit (.bool false)], args := [d1, d2] }
  | _ => none }
def ActionOnceWrongFalsely : Prop := actionOnceRow.holds Tryd.pinned (OpenSpec.ofChange actionOnceWrong)

/-- 'millracekeep.ShaperConforms': WHATEVER THE INPUT: true; the input reads as it did. -/
def shaperConformsSpec : ChangeSpec := { name := "shaperConforms", fn := fun _ => fun
  | [d1, d2] => { results := [.lit (.bool true)], args := [d1, d2] }
  | _ => none }
def shaperConformsRow : OpenClaim := { program := "ytdhojhgmaodifaadoor", sum := "30eb2d8735087f956a3b1414c3ab2bf54a60e58a8db72b1ae183449e79a05ddc", func := "millrace/millracekeep.ShaperConforms", spec := "shaperConforms", inPlace := ["internal/reflectlite.ValueOf", "(internal/reflectlite.Value).Type", "(internal/reflectlite.Value).IsNil", "internal/reflectlite.TypeOf", "(internal/reflectlite.Value).Elem", "(internal/reflectlite.Value).Set"], unfollowed := true, recurses := true, named := ["errors.errorType"], apart := false, laid := [("errors.errorType", laid_errors_errorType)] }
def ShaperConformsSaid : Prop := shaperConformsRow.holds Tryd.pinned (OpenSpec.ofChange shaperConformsSpec)

/-- ITS FALSE NEIGHBOUR: 'it returns false'. Refute it at one input. -/
def shaperConformsWrong : ChangeSpec := { name := "shaperConforms", fn := fun _ => fun
  | [d1, d2] => { results := [.lit (.bool false)], args := [d1, d2] }
  | _ => none }
def ShaperConformsWrongFalsely : Prop := shaperConformsRow.holds Tryd.pinned (OpenSpec.ofChange shaperConformsWrong)

/-- 'millracekeep.LinkShaped': WHATEVER THE INPUT: true; the input reads as it did. -/
def linkShapedSpec : ChangeSpec := { name := "linkShaped", fn := fun _ => fun
  | [d1, d2, d3] => { results := [.lit (.bool true)], args := [d1, d2, d3] }
  | _ => none }
def linkShapedRow : OpenClaim := { program := "ytdhojhgmaodifaadoor", sum := "30eb2d8735087f956a3b1414c3ab2bf54a60e58a8db72b1ae183449e79a05ddc", func := "millrace/millracekeep.LinkShaped", spec := "linkShaped", inPlace := ["internal/reflectlite.ValueOf", "(internal/reflectlite.Value).Type", "(internal/reflectlite.Value).IsNil", "internal/reflectlite.TypeOf", "(internal/reflectlite.Value).Elem", "(internal/reflectlite.Value).Set"], unfollowed := true, recurses := true, named := ["errors.errorType"], apart := false, laid := [("errors.errorType", laid_errors_errorType)] }
def LinkShapedSaid : Prop := linkShapedRow.holds Tryd.pinned (OpenSpec.ofChange linkShapedSpec)

/-- ITS FALSE NEIGHBOUR: 'it returns false'. Refute it at one input. -/
def linkShapedWrong : ChangeSpec := { name := "linkShaped", fn := fun _ => fun
  | [d1, d2, d3] => { results := [.lit (.bool false)], args := [d1, d2, d3] }
  | _ => none }
def LinkShapedWrongFalsely : Prop := linkShapedRow.holds Tryd.pinned (OpenSpec.ofChange linkShapedWrong)

/- THE SECOND FORM. 'bulk': how many values and letters a reading holds, each counted each time it is reached (what is shared counts as often as it is met; a slice's spare places count too). A statement '..UptoSaid' is the law's where the arguments, and the package variables that the reading takes, are together of bulk at most 1048576: NARROWER than '..Said'. Prove '..Said' where nothing that the law and all that it calls make is longer than what came in: it says more and counts as full. Else prove '..UptoSaid'. A law counts once. -/
mutual
def uptoBulk {H : Type} : DataW H → Nat
  | .lit (.string bytes) => bytes.length + 1
  | .lit _ => 1
  | .nil => 1
  | .ptr d => uptoBulk d + 1
  | .slice elems spare => uptoBulkAll elems + uptoBulkAll spare + 1
  | .agg parts => uptoBulkAll parts + 1
  | .iface _ d => uptoBulk d + 1
  | .map entries => uptoBulkEntries entries + 1
  | .held _ => 1
def uptoBulkAll {H : Type} : List (DataW H) → Nat
  | [] => 0
  | d :: r => uptoBulk d + uptoBulkAll r
def uptoBulkEntries {H : Type} : List (Lit × DataW H) → Nat
  | [] => 0
  | x :: r => uptoBulkEntry x + uptoBulkEntries r
def uptoBulkEntry {H : Type} : Lit × DataW H → Nat
  | (.string bytes, d) => bytes.length + uptoBulk d + 1
  | (_, d) => uptoBulk d + 1
 end
def uptoSmall : (H : Type) → List (DataW H) → Bool := fun _ ds => decide (uptoBulkAll ds ≤ 1048576)
def OpenSpec.upto (s : _root_.Go.ChangeSpec) : _root_.Go.OpenSpec := { _root_.Go.OpenSpec.ofChange s with cond := some uptoSmall }

/-- 'millracekeep.ItemTakesMore', WHERE WHAT IT READS IS OF BULK AT MOST 1048576: true; the input reads as it did. -/
def itemTakesMoreUptoRow : OpenClaim := { program := "ytdhojhgmaodifaadoor", sum := "30eb2d8735087f956a3b1414c3ab2bf54a60e58a8db72b1ae183449e79a05ddc", func := "millrace/millracekeep.ItemTakesMore", spec := "itemTakesMore", inPlace := ["internal/reflectlite.ValueOf", "(internal/reflectlite.Value).Type", "(internal/reflectlite.Value).IsNil", "internal/reflectlite.TypeOf", "(internal/reflectlite.Value).Elem", "(internal/reflectlite.Value).Set"], unfollowed := true, recurses := true, named := ["errors.errorType"], apart := false, laid := [("errors.errorType", laid_errors_errorType)], narrowed := true }
def ItemTakesMoreUptoSaid : Prop := itemTakesMoreUptoRow.holds Tryd.pinned (OpenSpec.upto itemTakesMoreSpec)

/-- 'millracekeep.BucketBounds', WHERE WHAT IT READS IS OF BULK AT MOST 1048576: true; the input reads as it did. -/
def bucketBoundsUptoRow : OpenClaim := { program := "ytdhojhgmaodifaadoor", sum := "30eb2d8735087f956a3b1414c3ab2bf54a60e58a8db72b1ae183449e79a05ddc", func := "millrace/millracekeep.BucketBounds", spec := "bucketBounds", inPlace := ["internal/reflectlite.ValueOf", "(internal/reflectlite.Value).Type", "(internal/reflectlite.Value).IsNil", "internal/reflectlite.TypeOf", "(internal/reflectlite.Value).Elem", "(internal/reflectlite.Value).Set"], unfollowed := true, recurses := true, named := ["errors.errorType"], apart := false, laid := [("errors.errorType", laid_errors_errorType)], narrowed := true }
def BucketBoundsUptoSaid : Prop := bucketBoundsUptoRow.holds Tryd.pinned (OpenSpec.upto bucketBoundsSpec)

/-- 'millracekeep.BucketGcra', WHERE WHAT IT READS IS OF BULK AT MOST 1048576: true; the input reads as it did. -/
def bucketGcraUptoRow : OpenClaim := { program := "ytdhojhgmaodifaadoor", sum := "30eb2d8735087f956a3b1414c3ab2bf54a60e58a8db72b1ae183449e79a05ddc", func := "millrace/millracekeep.BucketGcra", spec := "bucketGcra", inPlace := ["internal/reflectlite.ValueOf", "(internal/reflectlite.Value).Type", "(internal/reflectlite.Value).IsNil", "internal/reflectlite.TypeOf", "(internal/reflectlite.Value).Elem", "(internal/reflectlite.Value).Set"], unfollowed := true, recurses := true, named := ["errors.errorType"], apart := false, laid := [("errors.errorType", laid_errors_errorType)], narrowed := true }
def BucketGcraUptoSaid : Prop := bucketGcraUptoRow.holds Tryd.pinned (OpenSpec.upto bucketGcraSpec)

/-- 'millracekeep.BucketShaped', WHERE WHAT IT READS IS OF BULK AT MOST 1048576: true; the input reads as it did. -/
def bucketShapedUptoRow : OpenClaim := { program := "ytdhojhgmaodifaadoor", sum := "30eb2d8735087f956a3b1414c3ab2bf54a60e58a8db72b1ae183449e79a05ddc", func := "millrace/millracekeep.BucketShaped", spec := "bucketShaped", inPlace := ["internal/reflectlite.ValueOf", "(internal/reflectlite.Value).Type", "(internal/reflectlite.Value).IsNil", "internal/reflectlite.TypeOf", "(internal/reflectlite.Value).Elem", "(internal/reflectlite.Value).Set"], unfollowed := true, recurses := true, named := ["errors.errorType"], apart := false, laid := [("errors.errorType", laid_errors_errorType)], narrowed := true }
def BucketShapedUptoSaid : Prop := bucketShapedUptoRow.holds Tryd.pinned (OpenSpec.upto bucketShapedSpec)

/-- 'millracekeep.BucketColors', WHERE WHAT IT READS IS OF BULK AT MOST 1048576: true; the input reads as it did. -/
def bucketColorsUptoRow : OpenClaim := { program := "ytdhojhgmaodifaadoor", sum := "30eb2d8735087f956a3b1414c3ab2bf54a60e58a8db72b1ae183449e79a05ddc", func := "millrace/millracekeep.BucketColors", spec := "bucketColors", inPlace := ["internal/reflectlite.ValueOf", "(internal/reflectlite.Value).Type", "(internal/reflectlite.Value).IsNil", "internal/reflectlite.TypeOf", "(internal/reflectlite.Value).Elem", "(internal/reflectlite.Value).Set"], unfollowed := true, recurses := true, named := ["errors.errorType"], apart := false, laid := [("errors.errorType", laid_errors_errorType)], narrowed := true }
def BucketColorsUptoSaid : Prop := bucketColorsUptoRow.holds Tryd.pinned (OpenSpec.upto bucketColorsSpec)

/-- 'millracekeep.CurveConforms', WHERE WHAT IT READS IS OF BULK AT MOST 1048576: true; the input reads as it did. -/
def curveConformsUptoRow : OpenClaim := { program := "ytdhojhgmaodifaadoor", sum := "30eb2d8735087f956a3b1414c3ab2bf54a60e58a8db72b1ae183449e79a05ddc", func := "millrace/millracekeep.CurveConforms", spec := "curveConforms", inPlace := ["internal/reflectlite.ValueOf", "(internal/reflectlite.Value).Type", "(internal/reflectlite.Value).IsNil", "internal/reflectlite.TypeOf", "(internal/reflectlite.Value).Elem", "(internal/reflectlite.Value).Set"], unfollowed := true, recurses := true, named := ["errors.errorType"], apart := false, laid := [("errors.errorType", laid_errors_errorType)], narrowed := true }
def CurveConformsUptoSaid : Prop := curveConformsUptoRow.holds Tryd.pinned (OpenSpec.upto curveConformsSpec)

/-- 'millracekeep.ActionFields', WHERE WHAT IT READS IS OF BULK AT MOST 1048576: true; the input reads as it did. -/
def actionFieldsUptoRow : OpenClaim := { program := "ytdhojhgmaodifaadoor", sum := "30eb2d8735087f956a3b1414c3ab2bf54a60e58a8db72b1ae183449e79a05ddc", func := "millrace/millracekeep.ActionFields", spec := "actionFields", inPlace := ["internal/reflectlite.ValueOf", "(internal/reflectlite.Value).Type", "(internal/reflectlite.Value).IsNil", "internal/reflectlite.TypeOf", "(internal/reflectlite.Value).Elem", "(internal/reflectlite.Value).Set"], unfollowed := true, recurses := true, named := ["errors.errorType"], apart := false, laid := [("errors.errorType", laid_errors_errorType)], narrowed := true }
def ActionFieldsUptoSaid : Prop := actionFieldsUptoRow.holds Tryd.pinned (OpenSpec.upto actionFieldsSpec)

/-- 'millracekeep.ActionOnce', WHERE WHAT IT READS IS OF BULK AT MOST 1048576: true; the input reads as it did. -/
def actionOnceUptoRow : OpenClaim := { program := "ytdhojhgmaodifaadoor", sum := "30eb2d8735087f956a3b1414c3ab2bf54a60e58a8db72b1ae183449e79a05ddc", func := "millrace/millracekeep.ActionOnce", spec := "actionOnce", inPlace := ["internal/reflectlite.ValueOf", "(internal/reflectlite.Value).Type", "(internal/reflectlite.Value).IsNil", "internal/reflectlite.TypeOf", "(internal/reflectlite.Value).Elem", "(internal/reflectlite.Value).Set"], unfollowed := true, recurses := true, named := ["errors.errorType"], apart := false, laid := [("errors.errorType", laid_errors_errorType)], narrowed := true }
def ActionOnceUptoSaid : Prop := actionOnceUptoRow.holds Tryd.pinned (OpenSpec.upto actionOnceSpec)

/-- 'millracekeep.ShaperConforms', WHERE WHAT IT READS IS OF BULK AT MOST 1048576: true; the input reads as it did. -/
def shaperConformsUptoRow : OpenClaim := { program := "ytdhojhgmaodifaadoor", sum := "30eb2d8735087f956a3b1414c3ab2bf54a60e58a8db72b1ae183449e79a05ddc", func := "millrace/millracekeep.ShaperConforms", spec := "shaperConforms", inPlace := ["internal/reflectlite.ValueOf", "(internal/reflectlite.Value).Type", "(internal/reflectlite.Value).IsNil", "internal/reflectlite.TypeOf", "(internal/reflectlite.Value).Elem", "(internal/reflectlite.Value).Set"], unfollowed := true, recurses := true, named := ["errors.errorType"], apart := false, laid := [("errors.errorType", laid_errors_errorType)], narrowed := true }
def ShaperConformsUptoSaid : Prop := shaperConformsUptoRow.holds Tryd.pinned (OpenSpec.upto shaperConformsSpec)

/-- 'millracekeep.LinkShaped', WHERE WHAT IT READS IS OF BULK AT MOST 1048576: true; the input reads as it did. -/
def linkShapedUptoRow : OpenClaim := { program := "ytdhojhgmaodifaadoor", sum := "30eb2d8735087f956a3b1414c3ab2bf54a60e58a8db72b1ae183449e79a05ddc", func := "millrace/millracekeep.LinkShaped", spec := "linkShaped", inPlace := ["internal/reflectlite.ValueOf", "(internal/reflectlite.Value).Type", "(internal/reflectlite.Value).IsNil", "internal/reflectlite.TypeOf", "(internal/reflectlite.Value).Elem", "(internal/reflectlite.Value).Set"], unfollowed := true, recurses := true, named := ["errors.errorType"], apart := false, laid := [("errors.errorType", laid_errors_errorType)], narrowed := true }
def LinkShapedUptoSaid : Prop := linkShapedUptoRow.holds Tryd.pinned (OpenSpec.upto linkShapedSpec)

end Rows
end Go.Proofs.YtdhojhgmaodifaaDoor
