/-
  What item.Check tells.
-/
import Derived.Test.YtdipehgijjkfdaaDoorMem
import Derived.Test.YtdipehgijjkfdaaDoorBktLaw
namespace Go.Proofs.YtdipehgijjkfdaaDoor
open Go.RowKit Bkt
set_option linter.unusedVariables false

def itV (x : It) : Value := .agg #[.int .i64 x.at_, .int .i64 x.len, .int .i64 x.flow, .int .i64 x.band, .int .i64 x.mark]
structure ItFine (x : It) : Prop where
  f0 : 0 ≤ x.at_ ∧ x.at_ ≤ 1000000000
  f1 : 1 ≤ x.len ∧ x.len ≤ 10000
  f2 : 0 ≤ x.flow ∧ x.flow ≤ 15
  f3 : 0 ≤ x.band ∧ x.band ≤ 7
  f4 : 0 ≤ x.mark ∧ x.mark ≤ 255
def ErrnoErr (w : World) (e : Ending) (w' : World) : Prop := ∃ k : Int, e = .returned (.iface 41 (.int .i64 k)) ∧ Below w.heap.size w w'

theorem item_yes (x : It) (w : World) (h : ItFine x) : Calls Tryd.prog 15 #[itV x] w fun e w' => e = .returned .nilIface ∧ Below w.heap.size w w' := by
  obtain ⟨at_, len, flow, band, mark⟩ := x
  obtain ⟨⟨a0, a1⟩, ⟨b0, b1⟩, ⟨c0, c1⟩, ⟨d0, d1⟩, ⟨e0, e1⟩⟩ := h
  dsimp only at a0 a1 b0 b1 c0 c1 d0 d1 e0 e1
  unfold itV
  dsimp only
  go_enter Tryd.func15, Tryd.ntmps15
  go_wp2_with fail
  go_ret
  exact ⟨rfl, (Below.refl _ _).alloc (Nat.le_refl _) _⟩
theorem item_no0 (at_ len flow band mark : Int) (w : World)  (hb : at_ < 0) : Calls Tryd.prog 15 #[.agg #[.int .i64 at_, .int .i64 len, .int .i64 flow, .int .i64 band, .int .i64 mark]] w (ErrnoErr w) := by
  go_enter Tryd.func15, Tryd.ntmps15
  go_wp2_with fail
  go_ret
  exact ⟨_, rfl, (Below.refl _ _).alloc (Nat.le_refl _) _⟩
theorem item_no1 (at_ len flow band mark : Int) (w : World) (h0 : 0 ≤ at_) (hb : 1000000000 < at_) : Calls Tryd.prog 15 #[.agg #[.int .i64 at_, .int .i64 len, .int .i64 flow, .int .i64 band, .int .i64 mark]] w (ErrnoErr w) := by
  go_enter Tryd.func15, Tryd.ntmps15
  go_wp2_with fail
  go_ret
  exact ⟨_, rfl, (Below.refl _ _).alloc (Nat.le_refl _) _⟩
theorem item_no2 (at_ len flow band mark : Int) (w : World) (h0 : 0 ≤ at_) (h1 : at_ ≤ 1000000000) (hb : len < 1) : Calls Tryd.prog 15 #[.agg #[.int .i64 at_, .int .i64 len, .int .i64 flow, .int .i64 band, .int .i64 mark]] w (ErrnoErr w) := by
  go_enter Tryd.func15, Tryd.ntmps15
  go_wp2_with fail
  go_ret
  exact ⟨_, rfl, (Below.refl _ _).alloc (Nat.le_refl _) _⟩
theorem item_no3 (at_ len flow band mark : Int) (w : World) (h0 : 0 ≤ at_) (h1 : at_ ≤ 1000000000) (h2 : 1 ≤ len) (hb : 10000 < len) : Calls Tryd.prog 15 #[.agg #[.int .i64 at_, .int .i64 len, .int .i64 flow, .int .i64 band, .int .i64 mark]] w (ErrnoErr w) := by
  go_enter Tryd.func15, Tryd.ntmps15
  go_wp2_with fail
  go_ret
  exact ⟨_, rfl, (Below.refl _ _).alloc (Nat.le_refl _) _⟩
theorem item_no4 (at_ len flow band mark : Int) (w : World) (h0 : 0 ≤ at_) (h1 : at_ ≤ 1000000000) (h2 : 1 ≤ len) (h3 : len ≤ 10000) (hb : flow < 0) : Calls Tryd.prog 15 #[.agg #[.int .i64 at_, .int .i64 len, .int .i64 flow, .int .i64 band, .int .i64 mark]] w (ErrnoErr w) := by
  go_enter Tryd.func15, Tryd.ntmps15
  go_wp2_with fail
  go_ret
  exact ⟨_, rfl, (Below.refl _ _).alloc (Nat.le_refl _) _⟩
theorem item_no5 (at_ len flow band mark : Int) (w : World) (h0 : 0 ≤ at_) (h1 : at_ ≤ 1000000000) (h2 : 1 ≤ len) (h3 : len ≤ 10000) (h4 : 0 ≤ flow) (hb : 15 < flow) : Calls Tryd.prog 15 #[.agg #[.int .i64 at_, .int .i64 len, .int .i64 flow, .int .i64 band, .int .i64 mark]] w (ErrnoErr w) := by
  go_enter Tryd.func15, Tryd.ntmps15
  go_wp2_with fail
  go_ret
  exact ⟨_, rfl, (Below.refl _ _).alloc (Nat.le_refl _) _⟩
theorem item_no6 (at_ len flow band mark : Int) (w : World) (h0 : 0 ≤ at_) (h1 : at_ ≤ 1000000000) (h2 : 1 ≤ len) (h3 : len ≤ 10000) (h4 : 0 ≤ flow) (h5 : flow ≤ 15) (hb : band < 0) : Calls Tryd.prog 15 #[.agg #[.int .i64 at_, .int .i64 len, .int .i64 flow, .int .i64 band, .int .i64 mark]] w (ErrnoErr w) := by
  go_enter Tryd.func15, Tryd.ntmps15
  go_wp2_with fail
  go_ret
  exact ⟨_, rfl, (Below.refl _ _).alloc (Nat.le_refl _) _⟩
theorem item_no7 (at_ len flow band mark : Int) (w : World) (h0 : 0 ≤ at_) (h1 : at_ ≤ 1000000000) (h2 : 1 ≤ len) (h3 : len ≤ 10000) (h4 : 0 ≤ flow) (h5 : flow ≤ 15) (h6 : 0 ≤ band) (hb : 7 < band) : Calls Tryd.prog 15 #[.agg #[.int .i64 at_, .int .i64 len, .int .i64 flow, .int .i64 band, .int .i64 mark]] w (ErrnoErr w) := by
  go_enter Tryd.func15, Tryd.ntmps15
  go_wp2_with fail
  go_ret
  exact ⟨_, rfl, (Below.refl _ _).alloc (Nat.le_refl _) _⟩
theorem item_no8 (at_ len flow band mark : Int) (w : World) (h0 : 0 ≤ at_) (h1 : at_ ≤ 1000000000) (h2 : 1 ≤ len) (h3 : len ≤ 10000) (h4 : 0 ≤ flow) (h5 : flow ≤ 15) (h6 : 0 ≤ band) (h7 : band ≤ 7) (hb : mark < 0) : Calls Tryd.prog 15 #[.agg #[.int .i64 at_, .int .i64 len, .int .i64 flow, .int .i64 band, .int .i64 mark]] w (ErrnoErr w) := by
  go_enter Tryd.func15, Tryd.ntmps15
  go_wp2_with fail
  go_ret
  exact ⟨_, rfl, (Below.refl _ _).alloc (Nat.le_refl _) _⟩
theorem item_no9 (at_ len flow band mark : Int) (w : World) (h0 : 0 ≤ at_) (h1 : at_ ≤ 1000000000) (h2 : 1 ≤ len) (h3 : len ≤ 10000) (h4 : 0 ≤ flow) (h5 : flow ≤ 15) (h6 : 0 ≤ band) (h7 : band ≤ 7) (h8 : 0 ≤ mark) (hb : 255 < mark) : Calls Tryd.prog 15 #[.agg #[.int .i64 at_, .int .i64 len, .int .i64 flow, .int .i64 band, .int .i64 mark]] w (ErrnoErr w) := by
  go_enter Tryd.func15, Tryd.ntmps15
  go_wp2_with fail
  go_ret
  exact ⟨_, rfl, (Below.refl _ _).alloc (Nat.le_refl _) _⟩
theorem item_no (x : It) (w : World) (h : ¬ ItFine x) : Calls Tryd.prog 15 #[itV x] w (ErrnoErr w) := by
  obtain ⟨at_, len, flow, band, mark⟩ := x
  unfold itV
  dsimp only
  by_cases h0 : 0 ≤ at_
  case neg => exact item_no0 at_ len flow band mark w  (by omega)
  by_cases h1 : at_ ≤ 1000000000
  case neg => exact item_no1 at_ len flow band mark w h0 (by omega)
  by_cases h2 : 1 ≤ len
  case neg => exact item_no2 at_ len flow band mark w h0 h1 (by omega)
  by_cases h3 : len ≤ 10000
  case neg => exact item_no3 at_ len flow band mark w h0 h1 h2 (by omega)
  by_cases h4 : 0 ≤ flow
  case neg => exact item_no4 at_ len flow band mark w h0 h1 h2 h3 (by omega)
  by_cases h5 : flow ≤ 15
  case neg => exact item_no5 at_ len flow band mark w h0 h1 h2 h3 h4 (by omega)
  by_cases h6 : 0 ≤ band
  case neg => exact item_no6 at_ len flow band mark w h0 h1 h2 h3 h4 h5 (by omega)
  by_cases h7 : band ≤ 7
  case neg => exact item_no7 at_ len flow band mark w h0 h1 h2 h3 h4 h5 h6 (by omega)
  by_cases h8 : 0 ≤ mark
  case neg => exact item_no8 at_ len flow band mark w h0 h1 h2 h3 h4 h5 h6 h7 (by omega)
  by_cases h9 : mark ≤ 255
  case neg => exact item_no9 at_ len flow band mark w h0 h1 h2 h3 h4 h5 h6 h7 h8 (by omega)
  exact absurd ⟨⟨h0, h1⟩, ⟨h2, h3⟩, ⟨h4, h5⟩, ⟨h6, h7⟩, ⟨h8, h9⟩⟩ h

end Go.Proofs.YtdipehgijjkfdaaDoor
