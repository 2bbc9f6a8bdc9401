/-
  What bounded tells.
-/
import Derived.Test.YtdhojhgmaodifaaDoorCells
import Derived.Test.YtdhojhgmaodifaaDoorBndLaw
namespace Go.Proofs.YtdhojhgmaodifaaDoor
open Go.RowKit Crv Bkt
set_option linter.unusedVariables false

def BndOut (w : World) (k : Bk) (xs ns : List Int) (e : Ending) (w' : World) : Prop := Below w.heap.size w w' ∧ ((Bounded k xs ns ∧ e = .returned (.bool true)) ∨ (¬ Bounded k xs ns ∧ e = .returned (.bool false)))
set_option maxHeartbeats 1000000 in
set_option maxRecDepth 100000 in
theorem bounded_any (k : Bk) (A A' : Option Addr) (n c c' : Nat) (xs ns : List Int) (w : World) (hr : RdI w w.heap.size A n xs) (hr' : RdI w w.heap.size A' n ns) (hk : BkOk k) (hn : n ≤ 100)
    (ha : ∀ i, i < n → 0 ≤ at0 xs i ∧ at0 xs i ≤ 1000000000) (hb : ∀ i, i < n → 0 ≤ at0 ns i ∧ at0 ns i ≤ 10000) :
    Calls Tryd.prog 19 #[bkV k, .slice A n c, .slice A' n c'] w (BndOut w k xs ns) := by
  have hl := hr.len
  have HA := Lib.hid ha; have HB := Lib.hid hb; have HL := Lib.hid hl; have HK := Lib.hid hk
  clear ha hb hl hk
  obtain ⟨kb, kt, kr⟩ := k
  unfold bkV
  dsimp only
  go_enter Tryd.func19, Tryd.ntmps19
  go_wp2_with fail
  have hbw : Below w.heap.size w (w.alloc (.cells #[.int .i64 kb, .int .i64 kt, .int .i64 kr] 32)) := (Below.refl _ w).alloc (Nat.le_refl _) _
  have s0 : (w.alloc (.cells #[.int .i64 kb, .int .i64 kt, .int .i64 kr] 32)).cell? ⟨w.heap.size, 0, none⟩ = some (.int .i64 kb) := by simp
  have s1 : (w.alloc (.cells #[.int .i64 kb, .int .i64 kt, .int .i64 kr] 32)).cell? ⟨w.heap.size, 1, none⟩ = some (.int .i64 kt) := by simp
  have s2 : (w.alloc (.cells #[.int .i64 kb, .int .i64 kt, .int .i64 kr] 32)).cell? ⟨w.heap.size, 2, none⟩ = some (.int .i64 kr) := by simp
  replace hr := hr.over hbw (Nat.le_refl _)
  replace hr' := hr'.over hbw (Nat.le_refl _)
  generalize hw1 : w.alloc (.cells #[.int .i64 kb, .int .i64 kt, .int .i64 kr] 32) = w1 at *
  clear hw1
  go_loopw [7] (fun i wr => ∃ s r : Nat, wr = w1.drewN r ∧ s ≤ n ∧ i = .int .i64 s ∧ ∀ i' q, i' < s → i' ≤ q → q < n → (sumTo ns (q + 1) - sumTo ns i') * kt ≤ kr * kt + (at0 xs q - at0 xs i') * kb)
    (fun i _ => n - (intOf i).toNat)
  case atStart => exact ⟨0, 0, rfl, Nat.zero_le _, rfl, fun i' q h => by omega⟩
  case round =>
    obtain ⟨s, r, rfl, hs, rfl, hall⟩ := hrel
    have HALL := Lib.hid hall; clear hall
    by_cases hlt : s < n
    · go_wp2_with fail
      go_loopw [8, 9] (fun m i wi => ∃ q r : Nat, wi = w1.drewN r ∧ s ≤ q ∧ q ≤ n ∧ i = .int .i64 q ∧ m = .int .i64 (sumTo ns q - sumTo ns s) ∧ 0 ≤ sumTo ns q - sumTo ns s ∧ sumTo ns q - sumTo ns s ≤ q * 10000 ∧ ∀ q', s ≤ q' → q' < q → (sumTo ns (q' + 1) - sumTo ns s) * kt ≤ kr * kt + (at0 xs q' - at0 xs s) * kb)
        (fun _ i _ => n - (intOf i).toNat)
      case atStart => exact ⟨s, r, rfl, by omega, by omega, rfl, by rw [Int.sub_self], by omega, by omega, fun t' h1 h2 => by omega⟩
      case round =>
        clear r; obtain ⟨q, r, rfl, hq0, hq, rfl, rfl, hs0, hs1, hin⟩ := hrel
        have HI := Lib.hid hin; clear hin
        by_cases hqn : q < n
        · obtain ⟨b, off, rfl, hbB⟩ := hr.addr hqn
          obtain ⟨b', off', rfl, hbB'⟩ := hr'.addr hqn
          have c0 : w1.cell? ⟨b, off + q, none⟩ = some (.int .i64 (at0 xs q)) := hr.all rfl q hqn
          have c2 : w1.cell? ⟨b, off + s, none⟩ = some (.int .i64 (at0 xs s)) := hr.all rfl s hlt
          have c1 : w1.cell? ⟨b', off' + q, none⟩ = some (.int .i64 (at0 ns q)) := hr'.all rfl q hqn
          have hxq := HA.out q hqn
          have hxs := HA.out s hlt
          have hnq := HB.out q hqn
          have HS : Hid (sumTo ns (q + 1) = sumTo ns q + at0 ns q) := rfl
          have hkb := HK.out.b
          have hkt := HK.out.t
          have hkr := HK.out.r
          dsimp only at hkb hkt hkr
          have e0 : sumTo ns (q + 1) - sumTo ns s = sumTo ns q - sumTo ns s + at0 ns q := by have := HS.out; omega
          have HE := Lib.hid e0; clear e0
          generalize hp : sumTo ns q - sumTo ns s = p at *
          generalize hx : at0 xs q = x at *
          generalize hy : at0 xs s = y at *
          generalize hz : at0 ns q = z at *
          have HX := Lib.hid hx; have HY := Lib.hid hy; clear hp hx hy hz
          have m1 : 0 ≤ (p + z) * kt ∧ (p + z) * kt ≤ 1010000 * 1000000 := ⟨Int.mul_nonneg (by omega) (by omega), Int.mul_le_mul (by omega) (by omega) (by omega) (by omega)⟩
          have m2 : 0 ≤ kr * kt ∧ kr * kt ≤ 1000000 * 1000000 := ⟨Int.mul_nonneg (by omega) (by omega), Int.mul_le_mul (by omega) (by omega) (by omega) (by omega)⟩
          have m3 : (x - y) * kb ≤ 1000000000 * 1000000 ∧ -(1000000000 * 1000000) ≤ (x - y) * kb := by
            rcases Int.le_total y x with h | h
            · have h1 : 0 ≤ (x - y) * kb := Int.mul_nonneg (by omega) (by omega)
              have h2 : (x - y) * kb ≤ 1000000000 * 1000000 := Int.mul_le_mul (by omega) (by omega) (by omega) (by omega)
              omega
            · have h1 : 0 ≤ (y - x) * kb := Int.mul_nonneg (by omega) (by omega)
              have h2 : (y - x) * kb ≤ 1000000000 * 1000000 := Int.mul_le_mul (by omega) (by omega) (by omega) (by omega)
              have h3 : (x - y) * kb = -((y - x) * kb) := by rw [← Int.neg_mul]; congr 1; omega
              omega
          have e1 : IntKind.i64.wrap (p + z) = p + z := IntWalk.i64_in _ (by omega)
          have e2 : IntKind.i64.wrap ((p + z) * kt) = (p + z) * kt := IntWalk.i64_in _ (by omega)
          have e3 : IntKind.i64.wrap (kr * kt) = kr * kt := IntWalk.i64_in _ (by omega)
          have e4 : IntKind.i64.wrap (x - y) = x - y := IntWalk.i64_in _ (by omega)
          have e5 : IntKind.i64.wrap ((x - y) * kb) = (x - y) * kb := IntWalk.i64_in _ (by omega)
          have e6 : IntKind.i64.wrap (kr * kt + (x - y) * kb) = kr * kt + (x - y) * kb := IntWalk.i64_in _ (by omega)
          by_cases hpz : (p + z) * kt ≤ kr * kt + (x - y) * kb
          · go_wp2_with fail
            go_quiet (fail)
            go_wp2_with fail
            go_roundw
            case rel =>
              refine ⟨q + 1, _, rfl, by omega, by omega, by go_num, by rw [HE.out], by rw [HE.out]; omega, by rw [HE.out]; omega, fun q' h1 h2 => ?_⟩
              by_cases e : q' = q
              · subst e; rw [HE.out, HX.out]; exact hpz
              · exact HI.out q' h1 (by omega)
            case measure => simp [intOf]; omega
          · have hpz' : kr * kt + (x - y) * kb < (p + z) * kt := by omega
            go_wp2_with fail
            go_quiet (fail)
            go_wp2_with fail
            go_ret
            exact ⟨below_drewN (below_drewN hbw _) _, .inr ⟨fun h => by
              have h1 := h s q hq0 (by rw [HL.out]; exact hqn)
              rw [HE.out, HX.out, HY.out] at h1
              exact Int.not_lt.2 h1 hpz', rfl⟩⟩
        · obtain rfl : q = n := by omega
          go_wp2_with fail
          go_roundw
          case rel => exact ⟨s + 1, _, rfl, by omega, by go_num, fun s' t' h1 h2 h3 => by
            by_cases e : s' = s
            · subst e; exact HI.out t' h2 h3
            · exact HALL.out s' t' (by omega) h2 h3⟩
          case measure => simp [intOf]; omega
    · obtain rfl : s = n := by omega
      go_wp2_with fail
      go_ret
      exact ⟨below_drewN hbw _, .inl ⟨fun i q h1 h2 => HALL.out i q (by rw [HL.out] at h2; omega) h1 (by rw [HL.out] at h2; exact h2), rfl⟩⟩
end Go.Proofs.YtdhojhgmaodifaaDoor
