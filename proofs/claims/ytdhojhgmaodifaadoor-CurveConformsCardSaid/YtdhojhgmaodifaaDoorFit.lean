/-
  What curve.Fits tells.
-/
import Derived.Test.YtdhojhgmaodifaaDoorThen
import Derived.Test.YtdhojhgmaodifaaDoorCruzLaw
namespace Go.Proofs.YtdhojhgmaodifaaDoor
open Go.RowKit Crv
set_option linter.unusedVariables false

/-- of come what keeps, told as a Bool -/
def FitsOut (w : World) (xs a : List Int) (e : Ending) (w' : World) : Prop := w = w' ∧ ((FitsP xs a ∧ e = .returned (.tuple #[.bool true, .nilIface])) ∨ (¬ FitsP xs a ∧ e = .returned (.tuple #[.bool false, .nilIface])))
set_option maxHeartbeats 1000000 in
set_option maxRecDepth 100000 in
theorem fits_yes (A A' : Option Addr) (n n' c c' : Nat) (xs zs : List Int) (w : World) (hr : RdI w w.heap.size A n xs) (hr' : RdI w w.heap.size A' n' zs) (hy : Okay zs) (hn : n < n') (hx : ∀ i, i < n → 0 ≤ at0 xs i ∧ at0 xs i ≤ 1000000) :
    Calls Tryd.prog 26 #[.slice A n c, .slice A' n' c'] w (FitsOut w xs zs) := by
  have hl := hr.len
  have hl' := hr'.len
  have hn2 := hy.len
  rw [hl'] at hn2
  have HX := Lib.hid hx; have HL := Lib.hid hl; have HL' := Lib.hid hl'
  clear hx hl hl'
  have hd : decide (n' ≤ n) = false := by simp; omega
  go_enter Tryd.func26, Tryd.ntmps26
  go_wp2_with fail
  refine (check_yes A' n' c' zs w hr' hy).mono ?_
  rintro e w' ⟨rfl, rfl⟩
  clear hy
  go_wp2_with fail
  go_loop [23] (fun i => ∃ s : Nat, s ≤ n ∧ i = .int .i64 s ∧ ∀ s' t, s' < s → s' ≤ t → t < n → sumTo xs (t + 1) - sumTo xs s' ≤ at0 zs (t - s' + 1))
    (fun i => n - (intOf i).toNat)
  case atStart => exact ⟨0, Nat.zero_le _, rfl, fun s' t h => by omega⟩
  case round =>
    obtain ⟨s, hs, rfl, hall⟩ := hrel
    have HA := Lib.hid hall; clear hall
    by_cases hlt : s < n
    · go_wp2_with fail
      go_loop [8, 9] (fun m i => ∃ t : Nat, s ≤ t ∧ t ≤ n ∧ i = .int .i64 t ∧ m = .int .i64 (sumTo xs t - sumTo xs s) ∧ 0 ≤ sumTo xs t - sumTo xs s ∧ sumTo xs t - sumTo xs s ≤ t * 1000000 ∧ ∀ t', s ≤ t' → t' < t → sumTo xs (t' + 1) - sumTo xs s ≤ at0 zs (t' - s + 1))
        (fun _ i => n - (intOf i).toNat)
      case atStart => exact ⟨s, by omega, by omega, rfl, by rw [Int.sub_self], by omega, by omega, fun t' h1 h2 => by omega⟩
      case round =>
        obtain ⟨t, ht0, ht, rfl, rfl, hs0, hs1, hin⟩ := hrel
        have HI := Lib.hid hin; clear hin
        by_cases htn : t < n
        · obtain ⟨b, off, rfl, _⟩ := hr.addr htn
          obtain ⟨b', off', rfl, _⟩ := hr'.addr (show 0 < n' by omega)
          have c0 : w.cell? ⟨b, off + t, none⟩ = some (.int .i64 (at0 xs t)) := hr.all rfl t htn
          have c1 : w.cell? ⟨b', off' + (t - s + 1), none⟩ = some (.int .i64 (at0 zs (t - s + 1))) := hr'.all rfl (t - s + 1) (by omega)
          have hxt := HX.out t htn
          have HS : Hid (sumTo xs (t + 1) = sumTo xs t + at0 xs t) := rfl
          have j1 : (t : Int) - (s : Int) + 1 < (n' : Int) := by omega
          have j2 : 0 ≤ (t : Int) - (s : Int) := by omega
          have j3 : ((t : Int) - (s : Int) + 1).toNat = t - s + 1 := by omega
          generalize hp : sumTo xs t - sumTo xs s = p at *
          generalize hq : at0 xs t = x at *
          generalize hz : at0 zs (t - s + 1) = z at *
          have HP := Lib.hid hp; have HQ := Lib.hid hq; have HZ := Lib.hid hz; clear hp hq hz
          by_cases hpz : p + x ≤ z
          · go_wp2_with fail
            go_round
            case rel =>
              have e1 : sumTo xs (t + 1) - sumTo xs s = p + x := by have := HS.out; have := HP.out; omega
              refine ⟨t + 1, by omega, by omega, by go_num, by rw [e1], by rw [e1]; omega, by rw [e1]; omega, fun t' h1 h2 => ?_⟩
              by_cases e : t' = t
              · subst e; rw [e1, HZ.out]; exact hpz
              · exact HI.out t' h1 (by omega)
            case measure => simp [intOf]; omega
          · have hpz' : z < p + x := by omega
            go_wp2_with fail
            go_ret2
            exact ⟨rfl, .inr ⟨fun h => by
              have h1 := h s t ht0 (by rw [HL.out]; exact htn)
              have := HS.out; have := HP.out; have := HZ.out
              omega, rfl⟩⟩
        · obtain rfl : t = n := by omega
          go_wp2_with fail
          go_round
          case rel => exact ⟨s + 1, by omega, by go_num, fun s' t' h1 h2 h3 => by
            by_cases e : s' = s
            · subst e; exact HI.out t' h2 h3
            · exact HA.out s' t' (by omega) h2 h3⟩
          case measure => simp [intOf]; omega
    · obtain rfl : s = n := by omega
      go_wp2_with fail
      go_ret2
      exact ⟨rfl, .inl ⟨fun s' t h1 h2 => HA.out s' t (by rw [HL.out] at h2; omega) h1 (by rw [HL.out] at h2; exact h2), rfl⟩⟩
end Go.Proofs.YtdhojhgmaodifaaDoor
