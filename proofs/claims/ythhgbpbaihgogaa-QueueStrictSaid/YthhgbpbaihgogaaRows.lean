/-
  No cell of these rows narrows 'for every input' (looked for: loops, veiled, ifaces, maps, wideKeys, modest, calm, conditions, laid).
  DERIVED. THE GIVEN ROWS OF THIS SEAT. 7 by the template 'for every input the law returns true; each argument reads behind the call as it read before'; 0 by the template 'total and deterministic' (their statements: YthhgbpbaihgogaaTotals.lean).
  GIVEN WITH THE SEED: the statements are not yours to turn. If you find one false, say at which input.
  Laid BY PROGRAM, IN A SANDBOX (cutbox-rows.mjs): the forced cells as the released guide's own fill.sh prints them over the translation 6af47f847c0d19fa… (all of the seat's roots in one cut). By AI agents, Wed Nov 11 2026. No macro, syntax, notation, axiom, sorry.
-/
import Derived.Test.YthhgbpbaihgogaaChecked
import GoSem.Claim
import GoSem.ClaimJoined
import GoSem.ClaimMapViews
import Derived.JoinedTies
import Derived.KernelRfl
namespace Go.Proofs.Ythhgbpbaihgogaa
/- THE CELL 'sum', in the pinned program and in every row, IS THE sha256 OF THE DUMP (.gsa) THAT YthhgbpbaihgogaaProg.lean LOADS. Nothing in Lean hashes anything: it is a label: what it is worth is what the hold of that sum in a sandbox is worth. -/
noncomputable def Try.pinned : Pinned := { name := "ythhgbpbaihgogaa", sum := "6af47f847c0d19fa9dbd611dfac7274abbc3948eb077eb1ab7229c6f902aead8", checked := Try.checked }
namespace Rows
def none {H : Type} : Left H := { results := [], args := [] }

/-- 'millracekeep.QueueKeeps': WHATEVER THE INPUT: true; the input reads as it did. -/
def queueKeepsSpec : ChangeSpec := { name := "queueKeeps", fn := fun _ => fun
  | [d1, d2, d3, d4] => { results := [.lit (.bool true)], args := [d1, d2, d3, d4] }
  | _ => none }
def queueKeepsRow : OpenClaim := { program := "ythhgbpbaihgogaa", sum := "6af47f847c0d19fa9dbd611dfac7274abbc3948eb077eb1ab7229c6f902aead8", func := "millrace/millracekeep.QueueKeeps", spec := "queueKeeps", unfollowed := true, recurses := true, apart := false }
def QueueKeepsSaid : Prop := queueKeepsRow.holds Try.pinned (OpenSpec.ofChange queueKeepsSpec)

/-- ITS FALSE NEIGHBOUR: 'it returns false'. Refute it at one input. -/
def queueKeepsWrong : ChangeSpec := { name := "queueKeeps", fn := fun _ => fun
  | [d1, d2, d3, d4] => { results := [.lit (.bool false)], args := [d1, d2, d3, d4] }
  | _ => none }
def QueueKeepsWrongFalsely : Prop := queueKeepsRow.holds Try.pinned (OpenSpec.ofChange queueKeepsWrong)

/-- 'millracekeep.EarlyGood': WHATEVER THE INPUT: true; the input reads as it did. -/
def earlyGoodSpec : ChangeSpec := { name := "earlyGood", fn := fun _ => fun
  | [d1, d2, d3] => { results := [.lit (.bool true)], args := [d1, d2, d3] }
  | _ => none }
def earlyGoodRow : OpenClaim := { program := "ythhgbpbaihgogaa", sum := "6af47f847c0d19fa9dbd611dfac7274abbc3948eb077eb1ab7229c6f902aead8", func := "millrace/millracekeep.EarlyGood", spec := "earlyGood", unfollowed := true, recurses := true, apart := false }
def EarlyGoodSaid : Prop := earlyGoodRow.holds Try.pinned (OpenSpec.ofChange earlyGoodSpec)

/-- ITS FALSE NEIGHBOUR: 'it returns false'. Refute it at one input. -/
def earlyGoodWrong : ChangeSpec := { name := "earlyGood", fn := fun _ => fun
  | [d1, d2, d3] => { results := [.lit (.bool false)], args := [d1, d2, d3] }
  | _ => none }
def EarlyGoodWrongFalsely : Prop := earlyGoodRow.holds Try.pinned (OpenSpec.ofChange earlyGoodWrong)

/-- 'millracekeep.EarlyBetween': WHATEVER THE INPUT: true; the input reads as it did. -/
def earlyBetweenSpec : ChangeSpec := { name := "earlyBetween", fn := fun _ => fun
  | [d1, d2, d3, d4] => { results := [.lit (.bool true)], args := [d1, d2, d3, d4] }
  | _ => none }
def earlyBetweenRow : OpenClaim := { program := "ythhgbpbaihgogaa", sum := "6af47f847c0d19fa9dbd611dfac7274abbc3948eb077eb1ab7229c6f902aead8", func := "millrace/millracekeep.EarlyBetween", spec := "earlyBetween", unfollowed := true, recurses := true, apart := false }
def EarlyBetweenSaid : Prop := earlyBetweenRow.holds Try.pinned (OpenSpec.ofChange earlyBetweenSpec)

/-- ITS FALSE NEIGHBOUR: 'it returns false'. Refute it at one input. -/
def earlyBetweenWrong : ChangeSpec := { name := "earlyBetween", fn := fun _ => fun
  | [d1, d2, d3, d4] => { results := [.lit (.bool false)], args := [d1, d2, d3, d4] }
  | _ => none }
def EarlyBetweenWrongFalsely : Prop := earlyBetweenRow.holds Try.pinned (OpenSpec.ofChange earlyBetweenWrong)

/-- 'millracekeep.QueueStrict': WHATEVER THE INPUT: true; the input reads as it did. -/
def queueStrictSpec : ChangeSpec := { name := "queueStrict", fn := fun _ => fun
  | [d1, d2] => { results := [.lit (.bool true)], args := [d1, d2] }
  | _ => none }
def queueStrictRow : OpenClaim := { program := "ythhgbpbaihgogaa", sum := "6af47f847c0d19fa9dbd611dfac7274abbc3948eb077eb1ab7229c6f902aead8", func := "millrace/millracekeep.QueueStrict", spec := "queueStrict", unfollowed := true, recurses := true, apart := false }
def QueueStrictSaid : Prop := queueStrictRow.holds Try.pinned (OpenSpec.ofChange queueStrictSpec)

/-- ITS FALSE NEIGHBOUR: 'it returns false'. Refute it at one input. -/
def queueStrictWrong : ChangeSpec := { name := "queueStrict", fn := fun _ => fun
  | [d1, d2] => { results := [.lit (.bool false)], args := [d1, d2] }
  | _ => none }
def QueueStrictWrongFalsely : Prop := queueStrictRow.holds Try.pinned (OpenSpec.ofChange queueStrictWrong)

/-- 'millracekeep.FairKeeps': WHATEVER THE INPUT: true; the input reads as it did. -/
def fairKeepsSpec : ChangeSpec := { name := "fairKeeps", fn := fun _ => fun
  | [d1, d2, d3] => { results := [.lit (.bool true)], args := [d1, d2, d3] }
  | _ => none }
def fairKeepsRow : OpenClaim := { program := "ythhgbpbaihgogaa", sum := "6af47f847c0d19fa9dbd611dfac7274abbc3948eb077eb1ab7229c6f902aead8", func := "millrace/millracekeep.FairKeeps", spec := "fairKeeps", unfollowed := true, recurses := true, apart := false }
def FairKeepsSaid : Prop := fairKeepsRow.holds Try.pinned (OpenSpec.ofChange fairKeepsSpec)

/-- ITS FALSE NEIGHBOUR: 'it returns false'. Refute it at one input. -/
def fairKeepsWrong : ChangeSpec := { name := "fairKeeps", fn := fun _ => fun
  | [d1, d2, d3] => { results := [.lit (.bool false)], args := [d1, d2, d3] }
  | _ => none }
def FairKeepsWrongFalsely : Prop := fairKeepsRow.holds Try.pinned (OpenSpec.ofChange fairKeepsWrong)

/-- 'millracekeep.FairHashes': WHATEVER THE INPUT: true; the input reads as it did. -/
def fairHashesSpec : ChangeSpec := { name := "fairHashes", fn := fun _ => fun
  | [d1, d2, d3, d4] => { results := [.lit (.bool true)], args := [d1, d2, d3, d4] }
  | _ => none }
def fairHashesRow : OpenClaim := { program := "ythhgbpbaihgogaa", sum := "6af47f847c0d19fa9dbd611dfac7274abbc3948eb077eb1ab7229c6f902aead8", func := "millrace/millracekeep.FairHashes", spec := "fairHashes", unfollowed := true, recurses := true, apart := false }
def FairHashesSaid : Prop := fairHashesRow.holds Try.pinned (OpenSpec.ofChange fairHashesSpec)

/-- ITS FALSE NEIGHBOUR: 'it returns false'. Refute it at one input. -/
def fairHashesWrong : ChangeSpec := { name := "fairHashes", fn := fun _ => fun
  | [d1, d2, d3, d4] => { results := [.lit (.bool false)], args := [d1, d2, d3, d4] }
  | _ => none }
def FairHashesWrongFalsely : Prop := fairHashesRow.holds Try.pinned (OpenSpec.ofChange fairHashesWrong)

/-- 'millracekeep.FairVarghese': WHATEVER THE INPUT: true; the input reads as it did. -/
def fairVargheseSpec : ChangeSpec := { name := "fairVarghese", fn := fun _ => fun
  | [d1, d2, d3] => { results := [.lit (.bool true)], args := [d1, d2, d3] }
  | _ => none }
def fairVargheseRow : OpenClaim := { program := "ythhgbpbaihgogaa", sum := "6af47f847c0d19fa9dbd611dfac7274abbc3948eb077eb1ab7229c6f902aead8", func := "millrace/millracekeep.FairVarghese", spec := "fairVarghese", unfollowed := true, recurses := true, apart := false }
def FairVargheseSaid : Prop := fairVargheseRow.holds Try.pinned (OpenSpec.ofChange fairVargheseSpec)

/-- ITS FALSE NEIGHBOUR: 'it returns false'. Refute it at one input. -/
def fairVargheseWrong : ChangeSpec := { name := "fairVarghese", fn := fun _ => fun
  | [d1, d2, d3] => { results := [.lit (.bool false)], args := [d1, d2, d3] }
  | _ => none }
def FairVargheseWrongFalsely : Prop := fairVargheseRow.holds Try.pinned (OpenSpec.ofChange fairVargheseWrong)

/- THE SECOND FORM. 'bulk': how many values and letters a reading holds, each counted each time it is reached (what is shared counts as often as it is met; a slice's spare places count too). A statement '..UptoSaid' is the law's where the arguments, and the package variables that the reading takes, are together of bulk at most 1048576: NARROWER than '..Said'. Prove '..Said' where nothing that the law and all that it calls make is longer than what came in: it says more and counts as full. Else prove '..UptoSaid'. A law counts once. -/
mutual
def uptoBulk {H : Type} : DataW H → Nat
  | .lit (.string bytes) => bytes.length + 1
  | .lit _ => 1
  | .nil => 1
  | .ptr d => uptoBulk d + 1
  | .slice elems spare => uptoBulkAll elems + uptoBulkAll spare + 1
  | .agg parts => uptoBulkAll parts + 1
  | .iface _ d => uptoBulk d + 1
  | .map entries => uptoBulkEntries entries + 1
  | .held _ => 1
def uptoBulkAll {H : Type} : List (DataW H) → Nat
  | [] => 0
  | d :: r => uptoBulk d + uptoBulkAll r
def uptoBulkEntries {H : Type} : List (Lit × DataW H) → Nat
  | [] => 0
  | x :: r => uptoBulkEntry x + uptoBulkEntries r
def uptoBulkEntry {H : Type} : Lit × DataW H → Nat
  | (.string bytes, d) => bytes.length + uptoBulk d + 1
  | (_, d) => uptoBulk d + 1
 end
def uptoSmall : (H : Type) → List (DataW H) → Bool := fun _ ds => decide (uptoBulkAll ds ≤ 1048576)
def OpenSpec.upto (s : _root_.Go.ChangeSpec) : _root_.Go.OpenSpec := { _root_.Go.OpenSpec.ofChange s with cond := some uptoSmall }

/-- 'millracekeep.QueueKeeps', WHERE WHAT IT READS IS OF BULK AT MOST 1048576: true; the input reads as it did. -/
def queueKeepsUptoRow : OpenClaim := { program := "ythhgbpbaihgogaa", sum := "6af47f847c0d19fa9dbd611dfac7274abbc3948eb077eb1ab7229c6f902aead8", func := "millrace/millracekeep.QueueKeeps", spec := "queueKeeps", unfollowed := true, recurses := true, apart := false, narrowed := true }
def QueueKeepsUptoSaid : Prop := queueKeepsUptoRow.holds Try.pinned (OpenSpec.upto queueKeepsSpec)

/-- 'millracekeep.EarlyGood', WHERE WHAT IT READS IS OF BULK AT MOST 1048576: true; the input reads as it did. -/
def earlyGoodUptoRow : OpenClaim := { program := "ythhgbpbaihgogaa", sum := "6af47f847c0d19fa9dbd611dfac7274abbc3948eb077eb1ab7229c6f902aead8", func := "millrace/millracekeep.EarlyGood", spec := "earlyGood", unfollowed := true, recurses := true, apart := false, narrowed := true }
def EarlyGoodUptoSaid : Prop := earlyGoodUptoRow.holds Try.pinned (OpenSpec.upto earlyGoodSpec)

/-- 'millracekeep.EarlyBetween', WHERE WHAT IT READS IS OF BULK AT MOST 1048576: true; the input reads as it did. -/
def earlyBetweenUptoRow : OpenClaim := { program := "ythhgbpbaihgogaa", sum := "6af47f847c0d19fa9dbd611dfac7274abbc3948eb077eb1ab7229c6f902aead8", func := "millrace/millracekeep.EarlyBetween", spec := "earlyBetween", unfollowed := true, recurses := true, apart := false, narrowed := true }
def EarlyBetweenUptoSaid : Prop := earlyBetweenUptoRow.holds Try.pinned (OpenSpec.upto earlyBetweenSpec)

/-- 'millracekeep.QueueStrict', WHERE WHAT IT READS IS OF BULK AT MOST 1048576: true; the input reads as it did. -/
def queueStrictUptoRow : OpenClaim := { program := "ythhgbpbaihgogaa", sum := "6af47f847c0d19fa9dbd611dfac7274abbc3948eb077eb1ab7229c6f902aead8", func := "millrace/millracekeep.QueueStrict", spec := "queueStrict", unfollowed := true, recurses := true, apart := false, narrowed := true }
def QueueStrictUptoSaid : Prop := queueStrictUptoRow.holds Try.pinned (OpenSpec.upto queueStrictSpec)

/-- 'millracekeep.FairKeeps', WHERE WHAT IT READS IS OF BULK AT MOST 1048576: true; the input reads as it did. -/
def fairKeepsUptoRow : OpenClaim := { program := "ythhgbpbaihgogaa", sum := "6af47f847c0d19fa9dbd611dfac7274abbc3948eb077eb1ab7229c6f902aead8", func := "millrace/millracekeep.FairKeeps", spec := "fairKeeps", unfollowed := true, recurses := true, apart := false, narrowed := true }
def FairKeepsUptoSaid : Prop := fairKeepsUptoRow.holds Try.pinned (OpenSpec.upto fairKeepsSpec)

/-- 'millracekeep.FairHashes', WHERE WHAT IT READS IS OF BULK AT MOST 1048576: true; the input reads as it did. -/
def fairHashesUptoRow : OpenClaim := { program := "ythhgbpbaihgogaa", sum := "6af47f847c0d19fa9dbd611dfac7274abbc3948eb077eb1ab7229c6f902aead8", func := "millrace/millracekeep.FairHashes", spec := "fairHashes", unfollowed := true, recurses := true, apart := false, narrowed := true }
def FairHashesUptoSaid : Prop := fairHashesUptoRow.holds Try.pinned (OpenSpec.upto fairHashesSpec)

/-- 'millracekeep.FairVarghese', WHERE WHAT IT READS IS OF BULK AT MOST 1048576: true; the input reads as it did. -/
def fairVargheseUptoRow : OpenClaim := { program := "ythhgbpbaihgogaa", sum := "6af47f847c0d19fa9dbd611dfac7274abbc3948eb077eb1ab7229c6f902aead8", func := "millrace/millracekeep.FairVarghese", spec := "fairVarghese", unfollowed := true, recurses := true, apart := false, narrowed := true }
def FairVargheseUptoSaid : Prop := fairVargheseUptoRow.holds Try.pinned (OpenSpec.upto fairVargheseSpec)

end Rows
end Go.Proofs.Ythhgbpbaihgogaa
