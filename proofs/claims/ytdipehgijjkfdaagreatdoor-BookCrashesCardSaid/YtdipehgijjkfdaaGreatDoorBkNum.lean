/-
  What the laid variables hold; Atoi and Itoa; a line of the journal; a name.
-/
import Derived.Test.YtdipehgijjkfdaaGreatDoorBkMem
import Derived.Test.YtdipehgijjkfdaaGreatDoorBkIter
import Derived.Test.YtdipehgijjkfdaaGreatDoorHeld
import Derived.WalkSmall
import Derived.Lib.SmallJoins
import Derived.Lib.AppendIntMem
import Derived.Lib.QuietBelow
import Derived.BigQuiet
import Derived.BigRegion
namespace Go.Proofs.YtdipehgijjkfdaaGreatDoor
open Go.RowKit
set_option linter.unusedVariables false
theorem gl_syn : Tryz.prog.globalNamed "strconv.ErrSyntax" = some 1 := by kernel_rfl
theorem gl_rng : Tryz.prog.globalNamed "strconv.ErrRange" = some 2 := by kernel_rfl
theorem gl_tab : Tryz.prog.globalNamed "internal/strconv.uint64pow10" = some 5 := by kernel_rfl
/-- what the laid variables hold -/
structure Pv (w : World) : Prop where
  syn : ∃ tp p, w.var? Tryz.prog "strconv.ErrSyntax" = some #[.iface tp p]
  rng : ∃ tp p, w.var? Tryz.prog "strconv.ErrRange" = some #[.iface tp p]
  tab : Lib.TabIs Tryz.prog w "internal/strconv.uint64pow10" .u64 Lib.pow10Tab
  mx : ∃ m, w.cell? ⟨0, 0, none⟩ = some (.int .i64 m)
  sz : 8 ≤ w.heap.size
theorem Pv.below {w w' : World} {B : Nat} (h : Pv w) (hb : Below B w w') (hB : 8 ≤ B) : Pv w' := by
  obtain ⟨⟨tp, p, h2⟩, ⟨tp', p', h3⟩, h4, ⟨m, hm⟩, h5⟩ := h
  refine ⟨⟨tp, p, ?_⟩, ⟨tp', p', ?_⟩, ?_, ⟨m, ?_⟩, Nat.le_trans h5 hb.size⟩
  · exact var?_below hb gl_syn (by omega) h2
  · exact var?_below hb gl_rng (by omega) h3
  · exact var?_below hb gl_tab (by omega) h4
  · exact (hb.cell (p := ⟨0, 0, none⟩) (show 0 < B by omega)).trans hm
theorem Pv.chg {w w' : World} {S : Nat → Prop} (h : Pv w) (hc : Chg w w' S) (hs : ∀ i, S i → 8 ≤ i) : Pv w' :=
  h.below (hc.below h.sz (fun i hi hS => by have := hs i hS; omega)) (Nat.le_refl _)
/-- Atoi's two results -/
def AtoiEnd (s : ByteArray) (n : Int) (x : Value) : Prop := (Lib.atoiAll s.data.toList = .ok n ∧ x = .nilIface) ∨ ((∀ v, Lib.atoiAll s.data.toList ≠ .ok v) ∧ ∃ (T N : Nat), x = .iface T (.pointer (some ⟨N, 0, none⟩)))
theorem atoi_any (s : ByteArray) (hs : s.size ≤ 281474976710656) (w : World) (h : Pv w) : Calls Tryz.prog 17 #[.string s] w fun e w' => Below w.heap.size w w' ∧ ∃ n x, e = .returned (.tuple #[.int .i64 n, x]) ∧ AtoiEnd s n x := by
  cases hc : Lib.atoiAll s.data.toList
  · rename_i v
    refine (Tryz.strconv_Atoi_ok s (by omega) v hc w).mono ?_
    rintro e w' ⟨rfl, hw⟩
    refine ⟨?_, v, _, rfl, Or.inl ⟨hc, rfl⟩⟩
    rcases hw with rfl | ⟨t, rfl⟩
    · exact Below.refl _ _
    · exact Lib.bytesWorld_below _ _ _
  · skip
    obtain ⟨tp, p, hv⟩ := h.syn
    refine (Any.strconv_Atoi_syntax_var Tryz.laysC172 s (by omega) hc tp p w hv).mono ?_
    rintro e w' ⟨N, rfl, _, _, hb⟩
    exact ⟨hb, _, _, rfl, Or.inr ⟨fun v hq => by rw [hc] at hq; simp at hq, _, N, rfl⟩⟩
  · skip
    obtain ⟨tp, p, hv⟩ := h.rng
    refine (Tryz.strconv_Atoi_range_var s (by omega) hc tp p w hv).mono ?_
    rintro e w' ⟨N, rfl, _, _, hb⟩
    exact ⟨hb, _, _, rfl, Or.inr ⟨fun v hq => by rw [hc] at hq; simp at hq, _, N, rfl⟩⟩
theorem itoa_any (v : Int) (h0 : -9223372036854775808 ≤ v) (h1 : v ≤ 9223372036854775807) (w : World) (h : Pv w) : Calls Tryz.prog 27 #[.int .i64 v] w fun e w' => Below w.heap.size w w' ∧ e = .returned (.string ⟨(Lib.itoa v).toArray⟩) := by
  refine (Tryz.strconv_Itoa v h0 h1 w h.tab).mono ?_
  rintro e w' ⟨rfl, k, os, rfl⟩
  exact ⟨Lib.below_grow _ w (Nat.le_refl _) k os, rfl⟩
theorem atoi_fits (l : List UInt8) (v : Int) (h : Lib.atoiAll l = .ok v) : -9223372036854775808 ≤ v ∧ v ≤ 9223372036854775807 := by
  unfold Lib.atoiAll at h
  split at h
  · simp at h
  · dsimp only at h
    split at h
    · simp at h
    · simp at h
    · split at h
      · simp at h
      · split at h
        · simp at h
        · injection h with h
          split at h <;> omega
end Go.Proofs.YtdipehgijjkfdaaGreatDoor
