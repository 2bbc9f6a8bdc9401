/-
  No cell of these rows narrows 'for every input' (looked for: loops, veiled, ifaces, maps, wideKeys, modest, calm, conditions, laid).
  DERIVED. THE GIVEN ROWS OF THIS SEAT. 10 by the template 'for every input the law returns true; each argument reads behind the call as it read before'; 0 by the template 'total and deterministic' (their statements: YtjjmfgoeabmfdaaTotals.lean).
  GIVEN WITH THE SEED: the statements are not yours to turn. If you find one false, say at which input.
  Laid BY PROGRAM, IN A SANDBOX (cutbox-rows.mjs): the forced cells as the released guide's own fill.sh prints them over the translation 7fc77bba51c1d6b1… (all of the seat's roots in one cut). By AI agents, Wed Nov 11 2026. No macro, syntax, notation, axiom, sorry.
-/
import Derived.Test.YtjjmfgoeabmfdaaChecked
import GoSem.Claim
import GoSem.ClaimJoined
import GoSem.ClaimMapViews
import Derived.JoinedTies
import Derived.KernelRfl
namespace Go.Proofs.Ytjjmfgoeabmfdaa
/- THE CELL 'sum', in the pinned program and in every row, IS THE sha256 OF THE DUMP (.gsa) THAT YtjjmfgoeabmfdaaProg.lean LOADS. Nothing in Lean hashes anything: it is a label: what it is worth is what the hold of that sum in a sandbox is worth. -/
noncomputable def Try.pinned : Pinned := { name := "ytjjmfgoeabmfdaa", sum := "7fc77bba51c1d6b1998be57cbe7b6701e8bfbb47a08bfa2579c99e4106bdfdf1", checked := Try.checked }
namespace Rows
def none {H : Type} : Left H := { results := [], args := [] }

/-- 'millracekeep.SketchFollows': WHATEVER THE INPUT: true; the input reads as it did. -/
def sketchFollowsSpec : ChangeSpec := { name := "sketchFollows", fn := fun _ => fun
  | [d1, d2] => { results := [.lit (.bool true)], args := [d1, d2] }
  | _ => none }
def sketchFollowsRow : OpenClaim := { program := "ytjjmfgoeabmfdaa", sum := "7fc77bba51c1d6b1998be57cbe7b6701e8bfbb47a08bfa2579c99e4106bdfdf1", func := "millrace/millracekeep.SketchFollows", spec := "sketchFollows", apart := false }
def SketchFollowsSaid : Prop := sketchFollowsRow.holds Try.pinned (OpenSpec.ofChange sketchFollowsSpec)

/-- ITS FALSE NEIGHBOUR: 'it returns false'. Refute it at one input. -/
def sketchFollowsWrong : ChangeSpec := { name := "sketchFollows", fn := fun _ => fun
  | [d1, d2] => { results := [.lit (.bool false)], args := [d1, d2] }
  | _ => none }
def SketchFollowsWrongFalsely : Prop := sketchFollowsRow.holds Try.pinned (OpenSpec.ofChange sketchFollowsWrong)

/-- 'millracekeep.CurveSemiring': WHATEVER THE INPUT: true; the input reads as it did. -/
def curveSemiringSpec : ChangeSpec := { name := "curveSemiring", fn := fun _ => fun
  | [d1, d2, d3] => { results := [.lit (.bool true)], args := [d1, d2, d3] }
  | _ => none }
def curveSemiringRow : OpenClaim := { program := "ytjjmfgoeabmfdaa", sum := "7fc77bba51c1d6b1998be57cbe7b6701e8bfbb47a08bfa2579c99e4106bdfdf1", func := "millrace/millracekeep.CurveSemiring", spec := "curveSemiring", unfollowed := true, recurses := true, apart := false }
def CurveSemiringSaid : Prop := curveSemiringRow.holds Try.pinned (OpenSpec.ofChange curveSemiringSpec)

/-- ITS FALSE NEIGHBOUR: 'it returns false'. Refute it at one input. -/
def curveSemiringWrong : ChangeSpec := { name := "curveSemiring", fn := fun _ => fun
  | [d1, d2, d3] => { results := [.lit (.bool false)], args := [d1, d2, d3] }
  | _ => none }
def CurveSemiringWrongFalsely : Prop := curveSemiringRow.holds Try.pinned (OpenSpec.ofChange curveSemiringWrong)

/-- 'millracekeep.CurveTwice': WHATEVER THE INPUT: true; the input reads as it did. -/
def curveTwiceSpec : ChangeSpec := { name := "curveTwice", fn := fun _ => fun
  | [d1, d2, d3] => { results := [.lit (.bool true)], args := [d1, d2, d3] }
  | _ => none }
def curveTwiceRow : OpenClaim := { program := "ytjjmfgoeabmfdaa", sum := "7fc77bba51c1d6b1998be57cbe7b6701e8bfbb47a08bfa2579c99e4106bdfdf1", func := "millrace/millracekeep.CurveTwice", spec := "curveTwice", apart := false }
def CurveTwiceSaid : Prop := curveTwiceRow.holds Try.pinned (OpenSpec.ofChange curveTwiceSpec)

/-- ITS FALSE NEIGHBOUR: 'it returns false'. Refute it at one input. -/
def curveTwiceWrong : ChangeSpec := { name := "curveTwice", fn := fun _ => fun
  | [d1, d2, d3] => { results := [.lit (.bool false)], args := [d1, d2, d3] }
  | _ => none }
def CurveTwiceWrongFalsely : Prop := curveTwiceRow.holds Try.pinned (OpenSpec.ofChange curveTwiceWrong)

/-- 'millracekeep.CurveOnce': WHATEVER THE INPUT: true; the input reads as it did. -/
def curveOnceSpec : ChangeSpec := { name := "curveOnce", fn := fun _ => fun
  | [d1, d2, d3] => { results := [.lit (.bool true)], args := [d1, d2, d3] }
  | _ => none }
def curveOnceRow : OpenClaim := { program := "ytjjmfgoeabmfdaa", sum := "7fc77bba51c1d6b1998be57cbe7b6701e8bfbb47a08bfa2579c99e4106bdfdf1", func := "millrace/millracekeep.CurveOnce", spec := "curveOnce", apart := false }
def CurveOnceSaid : Prop := curveOnceRow.holds Try.pinned (OpenSpec.ofChange curveOnceSpec)

/-- ITS FALSE NEIGHBOUR: 'it returns false'. Refute it at one input. -/
def curveOnceWrong : ChangeSpec := { name := "curveOnce", fn := fun _ => fun
  | [d1, d2, d3] => { results := [.lit (.bool false)], args := [d1, d2, d3] }
  | _ => none }
def CurveOnceWrongFalsely : Prop := curveOnceRow.holds Try.pinned (OpenSpec.ofChange curveOnceWrong)

/-- 'millracekeep.CurveCruz': WHATEVER THE INPUT: true; the input reads as it did. -/
def curveCruzSpec : ChangeSpec := { name := "curveCruz", fn := fun _ => fun
  | [d1, d2, d3] => { results := [.lit (.bool true)], args := [d1, d2, d3] }
  | _ => none }
def curveCruzRow : OpenClaim := { program := "ytjjmfgoeabmfdaa", sum := "7fc77bba51c1d6b1998be57cbe7b6701e8bfbb47a08bfa2579c99e4106bdfdf1", func := "millrace/millracekeep.CurveCruz", spec := "curveCruz", apart := false }
def CurveCruzSaid : Prop := curveCruzRow.holds Try.pinned (OpenSpec.ofChange curveCruzSpec)

/-- ITS FALSE NEIGHBOUR: 'it returns false'. Refute it at one input. -/
def curveCruzWrong : ChangeSpec := { name := "curveCruz", fn := fun _ => fun
  | [d1, d2, d3] => { results := [.lit (.bool false)], args := [d1, d2, d3] }
  | _ => none }
def CurveCruzWrongFalsely : Prop := curveCruzRow.holds Try.pinned (OpenSpec.ofChange curveCruzWrong)

/-- 'millracekeep.ScedMeets': WHATEVER THE INPUT: true; the input reads as it did. -/
def scedMeetsSpec : ChangeSpec := { name := "scedMeets", fn := fun _ => fun
  | [d1, d2] => { results := [.lit (.bool true)], args := [d1, d2] }
  | _ => none }
def scedMeetsRow : OpenClaim := { program := "ytjjmfgoeabmfdaa", sum := "7fc77bba51c1d6b1998be57cbe7b6701e8bfbb47a08bfa2579c99e4106bdfdf1", func := "millrace/millracekeep.ScedMeets", spec := "scedMeets", apart := false }
def ScedMeetsSaid : Prop := scedMeetsRow.holds Try.pinned (OpenSpec.ofChange scedMeetsSpec)

/-- ITS FALSE NEIGHBOUR: 'it returns false'. Refute it at one input. -/
def scedMeetsWrong : ChangeSpec := { name := "scedMeets", fn := fun _ => fun
  | [d1, d2] => { results := [.lit (.bool false)], args := [d1, d2] }
  | _ => none }
def ScedMeetsWrongFalsely : Prop := scedMeetsRow.holds Try.pinned (OpenSpec.ofChange scedMeetsWrong)

/-- 'millracekeep.ScedServes': WHATEVER THE INPUT: true; the input reads as it did. -/
def scedServesSpec : ChangeSpec := { name := "scedServes", fn := fun _ => fun
  | [d1, d2] => { results := [.lit (.bool true)], args := [d1, d2] }
  | _ => none }
def scedServesRow : OpenClaim := { program := "ytjjmfgoeabmfdaa", sum := "7fc77bba51c1d6b1998be57cbe7b6701e8bfbb47a08bfa2579c99e4106bdfdf1", func := "millrace/millracekeep.ScedServes", spec := "scedServes", apart := false }
def ScedServesSaid : Prop := scedServesRow.holds Try.pinned (OpenSpec.ofChange scedServesSpec)

/-- ITS FALSE NEIGHBOUR: 'it returns false'. Refute it at one input. -/
def scedServesWrong : ChangeSpec := { name := "scedServes", fn := fun _ => fun
  | [d1, d2] => { results := [.lit (.bool false)], args := [d1, d2] }
  | _ => none }
def ScedServesWrongFalsely : Prop := scedServesRow.holds Try.pinned (OpenSpec.ofChange scedServesWrong)

/-- 'millracekeep.FairVarghese': WHATEVER THE INPUT: true; the input reads as it did. -/
def fairVargheseSpec : ChangeSpec := { name := "fairVarghese", fn := fun _ => fun
  | [d1, d2, d3] => { results := [.lit (.bool true)], args := [d1, d2, d3] }
  | _ => none }
def fairVargheseRow : OpenClaim := { program := "ytjjmfgoeabmfdaa", sum := "7fc77bba51c1d6b1998be57cbe7b6701e8bfbb47a08bfa2579c99e4106bdfdf1", func := "millrace/millracekeep.FairVarghese", spec := "fairVarghese", unfollowed := true, recurses := true, apart := false }
def FairVargheseSaid : Prop := fairVargheseRow.holds Try.pinned (OpenSpec.ofChange fairVargheseSpec)

/-- ITS FALSE NEIGHBOUR: 'it returns false'. Refute it at one input. -/
def fairVargheseWrong : ChangeSpec := { name := "fairVarghese", fn := fun _ => fun
  | [d1, d2, d3] => { results := [.lit (.bool false)], args := [d1, d2, d3] }
  | _ => none }
def FairVargheseWrongFalsely : Prop := fairVargheseRow.holds Try.pinned (OpenSpec.ofChange fairVargheseWrong)

/-- 'millracekeep.SketchGries': WHATEVER THE INPUT: true; the input reads as it did. -/
def sketchGriesSpec : ChangeSpec := { name := "sketchGries", fn := fun _ => fun
  | [d1, d2] => { results := [.lit (.bool true)], args := [d1, d2] }
  | _ => none }
def sketchGriesRow : OpenClaim := { program := "ytjjmfgoeabmfdaa", sum := "7fc77bba51c1d6b1998be57cbe7b6701e8bfbb47a08bfa2579c99e4106bdfdf1", func := "millrace/millracekeep.SketchGries", spec := "sketchGries", unfollowed := true, recurses := true, apart := false }
def SketchGriesSaid : Prop := sketchGriesRow.holds Try.pinned (OpenSpec.ofChange sketchGriesSpec)

/-- ITS FALSE NEIGHBOUR: 'it returns false'. Refute it at one input. -/
def sketchGriesWrong : ChangeSpec := { name := "sketchGries", fn := fun _ => fun
  | [d1, d2] => { results := [.lit (.bool false)], args := [d1, d2] }
  | _ => none }
def SketchGriesWrongFalsely : Prop := sketchGriesRow.holds Try.pinned (OpenSpec.ofChange sketchGriesWrong)

/-- 'millracekeep.SketchNever': WHATEVER THE INPUT: true; the input reads as it did. -/
def sketchNeverSpec : ChangeSpec := { name := "sketchNever", fn := fun _ => fun
  | [d1, d2, d3, d4, d5] => { results := [.lit (.bool true)], args := [d1, d2, d3, d4, d5] }
  | _ => none }
def sketchNeverRow : OpenClaim := { program := "ytjjmfgoeabmfdaa", sum := "7fc77bba51c1d6b1998be57cbe7b6701e8bfbb47a08bfa2579c99e4106bdfdf1", func := "millrace/millracekeep.SketchNever", spec := "sketchNever", unfollowed := true, recurses := true, apart := false }
def SketchNeverSaid : Prop := sketchNeverRow.holds Try.pinned (OpenSpec.ofChange sketchNeverSpec)

/-- ITS FALSE NEIGHBOUR: 'it returns false'. Refute it at one input. -/
def sketchNeverWrong : ChangeSpec := { name := "sketchNever", fn := fun _ => fun
  | [d1, d2, d3, d4, d5] => { results := [.lit (.bool false)], args := [d1, d2, d3, d4, d5] }
  | _ => none }
def SketchNeverWrongFalsely : Prop := sketchNeverRow.holds Try.pinned (OpenSpec.ofChange sketchNeverWrong)

/- THE SECOND FORM. 'bulk': how many values and letters a reading holds, each counted each time it is reached (what is shared counts as often as it is met; a slice's spare places count too). A statement '..UptoSaid' is the law's where the arguments, and the package variables that the reading takes, are together of bulk at most 1048576: NARROWER than '..Said'. Prove '..Said' where nothing that the law and all that it calls make is longer than what came in: it says more and counts as full. Else prove '..UptoSaid'. A law counts once. -/
mutual
def uptoBulk {H : Type} : DataW H → Nat
  | .lit (.string bytes) => bytes.length + 1
  | .lit _ => 1
  | .nil => 1
  | .ptr d => uptoBulk d + 1
  | .slice elems spare => uptoBulkAll elems + uptoBulkAll spare + 1
  | .agg parts => uptoBulkAll parts + 1
  | .iface _ d => uptoBulk d + 1
  | .map entries => uptoBulkEntries entries + 1
  | .held _ => 1
def uptoBulkAll {H : Type} : List (DataW H) → Nat
  | [] => 0
  | d :: r => uptoBulk d + uptoBulkAll r
def uptoBulkEntries {H : Type} : List (Lit × DataW H) → Nat
  | [] => 0
  | x :: r => uptoBulkEntry x + uptoBulkEntries r
def uptoBulkEntry {H : Type} : Lit × DataW H → Nat
  | (.string bytes, d) => bytes.length + uptoBulk d + 1
  | (_, d) => uptoBulk d + 1
 end
def uptoSmall : (H : Type) → List (DataW H) → Bool := fun _ ds => decide (uptoBulkAll ds ≤ 1048576)
def OpenSpec.upto (s : _root_.Go.ChangeSpec) : _root_.Go.OpenSpec := { _root_.Go.OpenSpec.ofChange s with cond := some uptoSmall }

/-- 'millracekeep.SketchFollows', WHERE WHAT IT READS IS OF BULK AT MOST 1048576: true; the input reads as it did. -/
def sketchFollowsUptoRow : OpenClaim := { program := "ytjjmfgoeabmfdaa", sum := "7fc77bba51c1d6b1998be57cbe7b6701e8bfbb47a08bfa2579c99e4106bdfdf1", func := "millrace/millracekeep.SketchFollows", spec := "sketchFollows", apart := false, narrowed := true }
def SketchFollowsUptoSaid : Prop := sketchFollowsUptoRow.holds Try.pinned (OpenSpec.upto sketchFollowsSpec)

/-- 'millracekeep.CurveSemiring', WHERE WHAT IT READS IS OF BULK AT MOST 1048576: true; the input reads as it did. -/
def curveSemiringUptoRow : OpenClaim := { program := "ytjjmfgoeabmfdaa", sum := "7fc77bba51c1d6b1998be57cbe7b6701e8bfbb47a08bfa2579c99e4106bdfdf1", func := "millrace/millracekeep.CurveSemiring", spec := "curveSemiring", unfollowed := true, recurses := true, apart := false, narrowed := true }
def CurveSemiringUptoSaid : Prop := curveSemiringUptoRow.holds Try.pinned (OpenSpec.upto curveSemiringSpec)

/-- 'millracekeep.CurveTwice', WHERE WHAT IT READS IS OF BULK AT MOST 1048576: true; the input reads as it did. -/
def curveTwiceUptoRow : OpenClaim := { program := "ytjjmfgoeabmfdaa", sum := "7fc77bba51c1d6b1998be57cbe7b6701e8bfbb47a08bfa2579c99e4106bdfdf1", func := "millrace/millracekeep.CurveTwice", spec := "curveTwice", apart := false, narrowed := true }
def CurveTwiceUptoSaid : Prop := curveTwiceUptoRow.holds Try.pinned (OpenSpec.upto curveTwiceSpec)

/-- 'millracekeep.CurveOnce', WHERE WHAT IT READS IS OF BULK AT MOST 1048576: true; the input reads as it did. -/
def curveOnceUptoRow : OpenClaim := { program := "ytjjmfgoeabmfdaa", sum := "7fc77bba51c1d6b1998be57cbe7b6701e8bfbb47a08bfa2579c99e4106bdfdf1", func := "millrace/millracekeep.CurveOnce", spec := "curveOnce", apart := false, narrowed := true }
def CurveOnceUptoSaid : Prop := curveOnceUptoRow.holds Try.pinned (OpenSpec.upto curveOnceSpec)

/-- 'millracekeep.CurveCruz', WHERE WHAT IT READS IS OF BULK AT MOST 1048576: true; the input reads as it did. -/
def curveCruzUptoRow : OpenClaim := { program := "ytjjmfgoeabmfdaa", sum := "7fc77bba51c1d6b1998be57cbe7b6701e8bfbb47a08bfa2579c99e4106bdfdf1", func := "millrace/millracekeep.CurveCruz", spec := "curveCruz", apart := false, narrowed := true }
def CurveCruzUptoSaid : Prop := curveCruzUptoRow.holds Try.pinned (OpenSpec.upto curveCruzSpec)

/-- 'millracekeep.ScedMeets', WHERE WHAT IT READS IS OF BULK AT MOST 1048576: true; the input reads as it did. -/
def scedMeetsUptoRow : OpenClaim := { program := "ytjjmfgoeabmfdaa", sum := "7fc77bba51c1d6b1998be57cbe7b6701e8bfbb47a08bfa2579c99e4106bdfdf1", func := "millrace/millracekeep.ScedMeets", spec := "scedMeets", apart := false, narrowed := true }
def ScedMeetsUptoSaid : Prop := scedMeetsUptoRow.holds Try.pinned (OpenSpec.upto scedMeetsSpec)

/-- 'millracekeep.ScedServes', WHERE WHAT IT READS IS OF BULK AT MOST 1048576: true; the input reads as it did. -/
def scedServesUptoRow : OpenClaim := { program := "ytjjmfgoeabmfdaa", sum := "7fc77bba51c1d6b1998be57cbe7b6701e8bfbb47a08bfa2579c99e4106bdfdf1", func := "millrace/millracekeep.ScedServes", spec := "scedServes", apart := false, narrowed := true }
def ScedServesUptoSaid : Prop := scedServesUptoRow.holds Try.pinned (OpenSpec.upto scedServesSpec)

/-- 'millracekeep.FairVarghese', WHERE WHAT IT READS IS OF BULK AT MOST 1048576: true; the input reads as it did. -/
def fairVargheseUptoRow : OpenClaim := { program := "ytjjmfgoeabmfdaa", sum := "7fc77bba51c1d6b1998be57cbe7b6701e8bfbb47a08bfa2579c99e4106bdfdf1", func := "millrace/millracekeep.FairVarghese", spec := "fairVarghese", unfollowed := true, recurses := true, apart := false, narrowed := true }
def FairVargheseUptoSaid : Prop := fairVargheseUptoRow.holds Try.pinned (OpenSpec.upto fairVargheseSpec)

/-- 'millracekeep.SketchGries', WHERE WHAT IT READS IS OF BULK AT MOST 1048576: true; the input reads as it did. -/
def sketchGriesUptoRow : OpenClaim := { program := "ytjjmfgoeabmfdaa", sum := "7fc77bba51c1d6b1998be57cbe7b6701e8bfbb47a08bfa2579c99e4106bdfdf1", func := "millrace/millracekeep.SketchGries", spec := "sketchGries", unfollowed := true, recurses := true, apart := false, narrowed := true }
def SketchGriesUptoSaid : Prop := sketchGriesUptoRow.holds Try.pinned (OpenSpec.upto sketchGriesSpec)

/-- 'millracekeep.SketchNever', WHERE WHAT IT READS IS OF BULK AT MOST 1048576: true; the input reads as it did. -/
def sketchNeverUptoRow : OpenClaim := { program := "ytjjmfgoeabmfdaa", sum := "7fc77bba51c1d6b1998be57cbe7b6701e8bfbb47a08bfa2579c99e4106bdfdf1", func := "millrace/millracekeep.SketchNever", spec := "sketchNever", unfollowed := true, recurses := true, apart := false, narrowed := true }
def SketchNeverUptoSaid : Prop := sketchNeverUptoRow.holds Try.pinned (OpenSpec.upto sketchNeverSpec)

end Rows
end Go.Proofs.Ytjjmfgoeabmfdaa
