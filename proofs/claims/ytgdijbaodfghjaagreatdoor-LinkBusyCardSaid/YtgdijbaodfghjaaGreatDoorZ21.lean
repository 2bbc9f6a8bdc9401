/-
  Texts of this claim, one behind the other: CodRoot.
-/
import Derived.Test.YtgdijbaodfghjaaGreatDoorZ01
import Derived.Test.YtgdijbaodfghjaaGreatDoorZ14
import Derived.Deep.QuietTactic
import Derived.BigQuiet
import Derived.LoopTactic
/-
  Controlled delay in memory; root, law.
-/
namespace Go.Proofs.YtgdijbaodfghjaaGreatDoor
open Go.RowKit Bkt
set_option linter.unusedVariables false

set_option maxHeartbeats 1000000 in
theorem root_any (n : Int) (w : World) (h0 : 0 ≤ n) (h1 : n ≤ 1000000000000) :
    Calls Tryz.prog 122 #[.int .i64 n] w fun e w' => e = .returned (.int .i64 (Pl.rootD n)) ∧ w = w' := by
  have hsm : ∀ x : Int, 0 ≤ x → x * x ≤ n → x ≤ 1000000 := fun x hx hq => by
    rcases (show x ≤ 1000000 ∨ 1000001 ≤ x by omega) with h | h
    · exact h
    · have := Pl.sq_up (a := 1000001) (by omega) h
      omega
  have HSM := Lib.hid hsm
  clear hsm
  go_enter Tryz.func122, Tryz.ntmps122
  go_wp2_with fail
  go_loop [3] (fun i => ∃ x : Int, 0 ≤ x ∧ x * x ≤ n ∧ i = .int .i64 x) (fun i => (1000000 - intOf i).toNat)
  case atStart => exact ⟨0, by omega, by omega, rfl⟩
  case round =>
    obtain ⟨x, hx0, hx1, rfl⟩ := hrel
    have hx2 := HSM.out x hx0 hx1
    have hp0 : 0 ≤ (x + 1) * (x + 1) := Int.mul_nonneg (by omega) (by omega)
    have hp1 : (x + 1) * (x + 1) ≤ 1000001 * 1000001 := Pl.sq_up (by omega) (by omega)
    have hp1' : (x + 1) * (x + 1) ≤ 1000002000001 := by omega
    by_cases h : (x + 1) * (x + 1) ≤ n
    · have hx3 := HSM.out (x + 1) (by omega) h
      have HH := Lib.hid h
      generalize hq : (x + 1) * (x + 1) = q at *
      have HQ := Lib.hid hq
      have e1 : IntKind.i64.wrap ((x + 1) * (x + 1)) = q := by rw [hq]; exact IntWalk.i64_in _ (by omega)
      clear hq
      go_wp2_with fail
      go_round
      case rel => exact ⟨x + 1, by omega, by rw [HQ.out]; exact HH.out, rfl⟩
      case measure => simp [intOf]; omega
    · have hr := Pl.rootD_is h0 hx0 hx1 (by omega)
      have HR := Lib.hid hr
      have h' : n < (x + 1) * (x + 1) := by omega
      clear hr h
      go_wp2_with fail
      go_ret
      exact ⟨by rw [HR.out]; rfl, rfl⟩

set_option maxHeartbeats 1000000 in
theorem law_any (g : Nat) (P : Pl.DP) (c a : Int) (w : World) (c6 : w.cell? ⟨g, 6, none⟩ = some (.int .i64 P.span)) (c10 : w.cell? ⟨g, 10, none⟩ = some (.int .i64 c)) (hs : 0 ≤ P.span ∧ P.span ≤ 1000000) (hc : 1 ≤ c ∧ c ≤ 1000) (ha : 0 ≤ a ∧ a ≤ 2000000000) :
    Calls Tryz.prog 121 #[.pointer (some ⟨g, 0, none⟩), .int .i64 a] w fun e w' => e = .returned (.int .i64 (Pl.lawD P c a)) ∧ Below w.heap.size w w' := by
  have hr1 := Pl.rootD_one (n := 1000000 * c) (by omega)
  have hl := Pl.lawD_bd (P := P) (c := c) (a := a) hs hc.1
  have hroot := fun W => root_any (1000000 * c) W (by omega) (by omega)
  have hd : Pl.lawD P c a = a + P.span * 1000 / Pl.rootD (1000000 * c) := rfl
  have hd0 : 0 ≤ P.span * 1000 / Pl.rootD (1000000 * c) := Int.ediv_nonneg (by omega) (by omega)
  have hd1 : P.span * 1000 / Pl.rootD (1000000 * c) ≤ P.span * 1000 := Int.ediv_le_self _ (by omega)
  have htd : (P.span * 1000).tdiv (Pl.rootD (1000000 * c)) = P.span * 1000 / Pl.rootD (1000000 * c) := Int.tdiv_eq_ediv_of_nonneg (by omega)
  have HROOT := Lib.hid hroot; have HD := Lib.hid hd
  obtain ⟨hs0, hs1⟩ := hs; obtain ⟨hc0, hc1⟩ := hc; obtain ⟨ha0, ha1⟩ := ha
  clear hroot hd hl
  have e1 : IntKind.i64.wrap (P.span * 1000) = P.span * 1000 := IntWalk.i64_in _ (by omega)
  have e2 : IntKind.i64.wrap (1000000 * c) = 1000000 * c := IntWalk.i64_in _ (by omega)
  generalize Pl.rootD (1000000 * c) = r at *
  generalize hq : P.span * 1000 / r = q at *
  have e3 : IntKind.i64.wrap q = q := IntWalk.i64_in _ (by omega)
  have e4 : IntKind.i64.wrap (a + q) = a + q := IntWalk.i64_in _ (by omega)
  have r0 : (r == 0) = false := by simp; omega
  have r1 : r ≠ 0 := by omega
  clear hq
  go_enter Tryz.func121, Tryz.ntmps121
  go_wp2_with fail
  go_quiet ((go_at_call 122; exact Calls.quiet_of_same ((HROOT.out _).mono fun e w' ⟨h1, h2⟩ => ⟨h1, h2.symm⟩)))
  go_wp2_with fail
  go_ret
  exact ⟨by rw [HD.out]; rfl, ⟨rfl, rfl, rfl, Nat.le_refl _, fun _ _ => rfl⟩⟩
end Go.Proofs.YtgdijbaodfghjaaGreatDoor
