/-
  What item.Check tells of a packet that may not be: ErrRange.
-/
import Derived.Test.YtdhojhgmaodifaaDoorItemC
namespace Go.Proofs.YtdhojhgmaodifaaDoor
open Go.RowKit Bkt
set_option linter.unusedVariables false

def RngErr (w : World) (e : Ending) (w' : World) : Prop := e = .returned (.iface 61 (.int .i64 2)) ∧ Below w.heap.size w w'
theorem item_rng0 (at_ len flow band mark : Int) (w : World)  (hb : at_ < 0) : Calls Tryd.prog 31 #[.agg #[.int .i64 at_, .int .i64 len, .int .i64 flow, .int .i64 band, .int .i64 mark]] w (RngErr w) := by
  go_enter Tryd.func31, Tryd.ntmps31
  go_wp2_with fail
  go_ret
  exact ⟨rfl, (Below.refl _ _).alloc (Nat.le_refl _) _⟩
theorem item_rng1 (at_ len flow band mark : Int) (w : World) (h0 : 0 ≤ at_) (hb : 1000000000 < at_) : Calls Tryd.prog 31 #[.agg #[.int .i64 at_, .int .i64 len, .int .i64 flow, .int .i64 band, .int .i64 mark]] w (RngErr w) := by
  go_enter Tryd.func31, Tryd.ntmps31
  go_wp2_with fail
  go_ret
  exact ⟨rfl, (Below.refl _ _).alloc (Nat.le_refl _) _⟩
theorem item_rng2 (at_ len flow band mark : Int) (w : World) (h0 : 0 ≤ at_) (h1 : at_ ≤ 1000000000) (hb : len < 1) : Calls Tryd.prog 31 #[.agg #[.int .i64 at_, .int .i64 len, .int .i64 flow, .int .i64 band, .int .i64 mark]] w (RngErr w) := by
  go_enter Tryd.func31, Tryd.ntmps31
  go_wp2_with fail
  go_ret
  exact ⟨rfl, (Below.refl _ _).alloc (Nat.le_refl _) _⟩
theorem item_rng3 (at_ len flow band mark : Int) (w : World) (h0 : 0 ≤ at_) (h1 : at_ ≤ 1000000000) (h2 : 1 ≤ len) (hb : 10000 < len) : Calls Tryd.prog 31 #[.agg #[.int .i64 at_, .int .i64 len, .int .i64 flow, .int .i64 band, .int .i64 mark]] w (RngErr w) := by
  go_enter Tryd.func31, Tryd.ntmps31
  go_wp2_with fail
  go_ret
  exact ⟨rfl, (Below.refl _ _).alloc (Nat.le_refl _) _⟩
theorem item_rng4 (at_ len flow band mark : Int) (w : World) (h0 : 0 ≤ at_) (h1 : at_ ≤ 1000000000) (h2 : 1 ≤ len) (h3 : len ≤ 10000) (hb : flow < 0) : Calls Tryd.prog 31 #[.agg #[.int .i64 at_, .int .i64 len, .int .i64 flow, .int .i64 band, .int .i64 mark]] w (RngErr w) := by
  go_enter Tryd.func31, Tryd.ntmps31
  go_wp2_with fail
  go_ret
  exact ⟨rfl, (Below.refl _ _).alloc (Nat.le_refl _) _⟩
theorem item_rng5 (at_ len flow band mark : Int) (w : World) (h0 : 0 ≤ at_) (h1 : at_ ≤ 1000000000) (h2 : 1 ≤ len) (h3 : len ≤ 10000) (h4 : 0 ≤ flow) (hb : 15 < flow) : Calls Tryd.prog 31 #[.agg #[.int .i64 at_, .int .i64 len, .int .i64 flow, .int .i64 band, .int .i64 mark]] w (RngErr w) := by
  go_enter Tryd.func31, Tryd.ntmps31
  go_wp2_with fail
  go_ret
  exact ⟨rfl, (Below.refl _ _).alloc (Nat.le_refl _) _⟩
theorem item_rng6 (at_ len flow band mark : Int) (w : World) (h0 : 0 ≤ at_) (h1 : at_ ≤ 1000000000) (h2 : 1 ≤ len) (h3 : len ≤ 10000) (h4 : 0 ≤ flow) (h5 : flow ≤ 15) (hb : band < 0) : Calls Tryd.prog 31 #[.agg #[.int .i64 at_, .int .i64 len, .int .i64 flow, .int .i64 band, .int .i64 mark]] w (RngErr w) := by
  go_enter Tryd.func31, Tryd.ntmps31
  go_wp2_with fail
  go_ret
  exact ⟨rfl, (Below.refl _ _).alloc (Nat.le_refl _) _⟩
theorem item_rng7 (at_ len flow band mark : Int) (w : World) (h0 : 0 ≤ at_) (h1 : at_ ≤ 1000000000) (h2 : 1 ≤ len) (h3 : len ≤ 10000) (h4 : 0 ≤ flow) (h5 : flow ≤ 15) (h6 : 0 ≤ band) (hb : 7 < band) : Calls Tryd.prog 31 #[.agg #[.int .i64 at_, .int .i64 len, .int .i64 flow, .int .i64 band, .int .i64 mark]] w (RngErr w) := by
  go_enter Tryd.func31, Tryd.ntmps31
  go_wp2_with fail
  go_ret
  exact ⟨rfl, (Below.refl _ _).alloc (Nat.le_refl _) _⟩
theorem item_rng8 (at_ len flow band mark : Int) (w : World) (h0 : 0 ≤ at_) (h1 : at_ ≤ 1000000000) (h2 : 1 ≤ len) (h3 : len ≤ 10000) (h4 : 0 ≤ flow) (h5 : flow ≤ 15) (h6 : 0 ≤ band) (h7 : band ≤ 7) (hb : mark < 0) : Calls Tryd.prog 31 #[.agg #[.int .i64 at_, .int .i64 len, .int .i64 flow, .int .i64 band, .int .i64 mark]] w (RngErr w) := by
  go_enter Tryd.func31, Tryd.ntmps31
  go_wp2_with fail
  go_ret
  exact ⟨rfl, (Below.refl _ _).alloc (Nat.le_refl _) _⟩
theorem item_rng9 (at_ len flow band mark : Int) (w : World) (h0 : 0 ≤ at_) (h1 : at_ ≤ 1000000000) (h2 : 1 ≤ len) (h3 : len ≤ 10000) (h4 : 0 ≤ flow) (h5 : flow ≤ 15) (h6 : 0 ≤ band) (h7 : band ≤ 7) (h8 : 0 ≤ mark) (hb : 255 < mark) : Calls Tryd.prog 31 #[.agg #[.int .i64 at_, .int .i64 len, .int .i64 flow, .int .i64 band, .int .i64 mark]] w (RngErr w) := by
  go_enter Tryd.func31, Tryd.ntmps31
  go_wp2_with fail
  go_ret
  exact ⟨rfl, (Below.refl _ _).alloc (Nat.le_refl _) _⟩
theorem item_rng (x : It) (w : World) (h : ¬ ItFine x) : Calls Tryd.prog 31 #[itV x] w (RngErr w) := by
  obtain ⟨at_, len, flow, band, mark⟩ := x
  unfold itV
  dsimp only
  by_cases h0 : 0 ≤ at_
  case neg => exact item_rng0 at_ len flow band mark w  (by omega)
  by_cases h1 : at_ ≤ 1000000000
  case neg => exact item_rng1 at_ len flow band mark w h0 (by omega)
  by_cases h2 : 1 ≤ len
  case neg => exact item_rng2 at_ len flow band mark w h0 h1 (by omega)
  by_cases h3 : len ≤ 10000
  case neg => exact item_rng3 at_ len flow band mark w h0 h1 h2 (by omega)
  by_cases h4 : 0 ≤ flow
  case neg => exact item_rng4 at_ len flow band mark w h0 h1 h2 h3 (by omega)
  by_cases h5 : flow ≤ 15
  case neg => exact item_rng5 at_ len flow band mark w h0 h1 h2 h3 h4 (by omega)
  by_cases h6 : 0 ≤ band
  case neg => exact item_rng6 at_ len flow band mark w h0 h1 h2 h3 h4 h5 (by omega)
  by_cases h7 : band ≤ 7
  case neg => exact item_rng7 at_ len flow band mark w h0 h1 h2 h3 h4 h5 h6 (by omega)
  by_cases h8 : 0 ≤ mark
  case neg => exact item_rng8 at_ len flow band mark w h0 h1 h2 h3 h4 h5 h6 h7 (by omega)
  by_cases h9 : mark ≤ 255
  case neg => exact item_rng9 at_ len flow band mark w h0 h1 h2 h3 h4 h5 h6 h7 h8 (by omega)
  exact absurd ⟨⟨h0, h1⟩, ⟨h2, h3⟩, ⟨h4, h5⟩, ⟨h6, h7⟩, ⟨h8, h9⟩⟩ h

end Go.Proofs.YtdhojhgmaodifaaDoor
