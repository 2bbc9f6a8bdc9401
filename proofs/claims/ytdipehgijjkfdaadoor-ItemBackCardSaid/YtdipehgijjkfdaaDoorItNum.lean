/-
  What the laid variables hold, for packets' texts; Itoa.
-/
import Derived.Test.YtdipehgijjkfdaaDoorFlNum
namespace Go.Proofs.YtdipehgijjkfdaaDoor
open Go.RowKit
set_option linter.unusedVariables false
structure PvN (w : World) : Prop where
  tab : Lib.TabIs Tryd.prog w "internal/strconv.uint64pow10" .u64 Lib.pow10Tab
  sz : 10 ≤ w.heap.size
theorem PvN.below {w w' : World} {B : Nat} (h : PvN w) (hb : Below B w w') (hB : 10 ≤ B) : PvN w' := ⟨var?_below hb gl_tab (by omega) h.tab, Nat.le_trans h.sz hb.size⟩
theorem PvN.over {w w' : World} (h : PvN w) (hb : Below w.heap.size w w') : PvN w' := h.below hb h.sz
theorem itoa_n (v : Int) (h0 : -9223372036854775808 ≤ v) (h1 : v ≤ 9223372036854775807) (w : World) (h : PvN w) : Calls Tryd.prog 20 #[.int .i64 v] w fun e w' => Below w.heap.size w w' ∧ e = .returned (.string ⟨(Lib.itoa v).toArray⟩) := by
  refine (Tryd.strconv_Itoa v h0 h1 w h.tab).mono ?_
  rintro e w' ⟨rfl, k, os, rfl⟩
  exact ⟨Lib.below_grow _ w (Nat.le_refl _) k os, rfl⟩
end Go.Proofs.YtdipehgijjkfdaaDoor
