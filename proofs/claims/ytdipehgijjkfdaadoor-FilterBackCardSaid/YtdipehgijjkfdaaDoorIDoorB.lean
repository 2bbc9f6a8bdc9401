/-
  The frame of FilterBack's card: what the laid variables give a walk; a world that meets the condition.
-/
import Derived.Test.YtdipehgijjkfdaaDoorIDoor
import Derived.Test.YtdipehgijjkfdaaDoorTell
namespace Go.Proofs.YtdipehgijjkfdaaDoor
open Go.ChangeShapes Go.WideShapes Go.Deep Go.RowKit
set_option linter.unusedVariables false

/-! FilterBack's condition -/
noncomputable abbrev fbLaid : List (String × DataW Unit) := Rows.filterBackRow.laid
noncomputable abbrev fbPlain : List (String × DataW Unit) := [("math/bits.deBruijn32tab", Rows.laid_math_bits_deBruijn32tab), ("math/bits.deBruijn64tab", Rows.laid_math_bits_deBruijn64tab), ("internal/strconv.uint64pow10", Rows.laid_internal_strconv_uint64pow10), ("strconv.ErrRange", Rows.laid_strconv_ErrRange), ("strconv.ErrSyntax", Rows.laid_strconv_ErrSyntax), ("millrace/filter.fields", Rows.laid_millrace_filter_fields)]
theorem fb_parts {W : World} (h : laidMetH Tryd.prog fbLaid W) : laidMet Tryd.prog fbPlain W ∧ handlesMet Tryd.prog [("errors.errorType", Rows.laid_errors_errorType)] W := h
theorem pv_of_fb {W : World} (h : laidMetH Tryd.prog fbLaid W) (hsh : W.ShapedOpen Tryd.prog) : Pv W := by
  refine pv_of_met (fb_parts h).1 hsh ?_ ?_ ?_ ?_ ?_
  · exact .tail _ (.head _)
  · exact .tail _ (.tail _ (.head _))
  · exact .tail _ (.tail _ (.tail _ (.head _)))
  · exact .tail _ (.tail _ (.tail _ (.tail _ (.head _))))
  · exact .tail _ (.tail _ (.tail _ (.tail _ (.tail _ (.head _)))))
theorem IDoor.et : Tryd.prog.globalNamed "errors.errorType" = some 1 := by kernel_rfl
theorem IDoor.rt : (Tryd.prog.cutTypes.find? (·.1 == "internal/reflectlite.rtype")).map (·.2) = some 107 := by kernel_rfl
theorem IDoor.oneRow : ((List.range Tryd.prog.types.size).filter fun t => Tryd.prog.rowNamed t [101, 114, 114, 111, 114]) = [25] := by kernel_rfl
theorem handle_of_parts {W : World} (h : handlesMet Tryd.prog [("errors.errorType", Rows.laid_errors_errorType)] W) : Handle W := by
  obtain ⟨name, u, ty, e1, e2, e3, e4, e5⟩ := h _ (List.mem_singleton.2 rfl)
  have en : name = [101, 114, 114, 111, 114] := (Option.some.inj e1).symm
  subst en
  obtain rfl := Option.some.inj (IDoor.rt.symm.trans e2)
  have hm : ty ∈ (List.range Tryd.prog.types.size).filter fun t => Tryd.prog.rowNamed t [101, 114, 114, 111, 114] := List.mem_filter.2 ⟨List.mem_range.2 e3, e4⟩
  rw [IDoor.oneRow] at hm
  obtain rfl := List.mem_singleton.1 hm
  have hh : typeHandle Tryd.prog 25 = .pointer (some ⟨10, 25, none⟩) := by kernel_rfl
  rw [hh] at e5
  unfold Handle
  simpa using World.var?_cell IDoor.et e5 0
/-- A world that meets the condition: all laid, and the handle. -/
noncomputable def fbWorld (os : Os) : World :=
  let w0 := World.laidAll Tryd.prog os fbPlain
  { w0 with heap := w0.heap.modify 1 fun
      | .cells _ t frozen => .cells #[.iface 107 (.agg #[.pointer (some ⟨10, 25, none⟩)])] t frozen
      | o => o }
theorem fbWorld_os (os : Os) : (fbWorld os).os = os := by
  have h := World.laidAll_os Tryd.prog os fbPlain
  unfold fbWorld
  generalize World.laidAll Tryd.prog os fbPlain = w0 at h ⊢
  exact h
set_option maxRecDepth 100000 in
theorem fbWorld_met (os : Os) (args : Array Value) : laidMetH Tryd.prog fbLaid ((fbWorld os).forCall (fun _ _ => 0) ⟨#[], args, []⟩).memory :=
  laidMetH_of_parts (l := fbLaid) (show laidMet Tryd.prog fbPlain _ from laidMet_of_run' 8 (by kernel_rfl) (by kernel_rfl)) (by kernel_rfl)
theorem fbWorld_shaped (os : Os) (args : Array Value) : ((fbWorld os).forCall (fun _ _ => 0) ⟨#[], args, []⟩).Shaped Tryd.prog := World.shaped_of_ZipB (by kernel_rfl) (by kernel_rfl)
end Go.Proofs.YtdipehgijjkfdaaDoor
