/-
  What curve.Backlog and curve.Fits compute.
-/
import Derived.Test.YtjjmfgoeabmfdaaThen
import Derived.Test.YtjjmfgoeabmfdaaCruzLaw
namespace Go.Proofs.Ytjjmfgoeabmfdaa
open Go.RowKit Crv
set_option linter.unusedVariables false

def BackOut (w : World) (a b : List Int) (e : Ending) (w' : World) : Prop := e = .returned (.tuple #[.int .i64 (backlog a b), .nilIface]) ∧ Below w.heap.size w w'
theorem backOut_mk {w w' : World} {a b : List Int} {e : Ending} {v : Int} (he : e = .returned (.tuple #[.int .i64 v, .nilIface])) (hv : backlog a b = v) (hb : Below w.heap.size w w') : BackOut w a b e w' := by
  subst hv; exact ⟨he, hb⟩

set_option maxHeartbeats 1000000 in
set_option maxRecDepth 100000 in
theorem backlog_yes (A A' : Option Addr) (n n' c c' : Nat) (zs zs' : List Int) (w : World) (hr : RdI w w.heap.size A n zs) (hr' : RdI w w.heap.size A' n' zs') (hy : Okay zs) (hy' : Okay zs') :
    Calls Try.prog 26 #[.slice A n c, .slice A' n' c'] w (BackOut w zs zs') := by
  have hl := hr.len
  have hl' := hr'.len
  have hn := hy.len
  have hbd : ∀ i, i < n → 0 ≤ at0 zs i ∧ at0 zs i ≤ 1000000000000 := fun i hi => hy.bd (by omega)
  have hbd' : ∀ i, i < n' → 0 ≤ at0 zs' i ∧ at0 zs' i ≤ 1000000000000 := fun i hi => hy'.bd (by omega)
  rw [hl] at hn
  have HB := Lib.hid hbd; have HB' := Lib.hid hbd'
  have he : backlog zs zs' = backTo (at0 zs) (at0 zs') (min n n') := by unfold backlog; rw [hl, hl']
  have HE := Lib.hid he
  clear hbd hbd' hl hl' he
  go_enter Try.func26, Try.ntmps26
  go_wp2_with fail
  refine (both_yes A A' n n' c c' zs zs' w hr hr' hy hy').mono ?_
  rintro e w' ⟨rfl, rfl⟩
  clear hy hy'
  go_wp2_with fail
  all_goals
    go_loopw [7, 20] (fun m i wi => ∃ j q : Nat, j ≤ min n n' ∧ i = .int .i64 j ∧ m = .int .i64 (backTo (at0 zs) (at0 zs') j) ∧ 0 ≤ backTo (at0 zs) (at0 zs') j ∧ backTo (at0 zs) (at0 zs') j ≤ 1000000000000 ∧ wi = w.drewN q)
      (fun _ i _ => min n n' - (intOf i).toNat)
    case atStart => exact ⟨0, 0, by omega, rfl, rfl, Int.le_refl _, by show (0 : Int) ≤ _; omega, rfl⟩
    case round =>
      obtain ⟨j, q, hj2, rfl, rfl, hm0, hm1, rfl⟩ := hrel
      by_cases hjk : j < min n n'
      · obtain ⟨b, off, rfl, hbB⟩ := hr.addr (show j < n by omega)
        obtain ⟨b', off', rfl, hbB'⟩ := hr'.addr (show j < n' by omega)
        have c0 : w.cell? ⟨b, off + j, none⟩ = some (.int .i64 (at0 zs j)) := hr.all rfl j (by omega)
        have c1 : w.cell? ⟨b', off' + j, none⟩ = some (.int .i64 (at0 zs' j)) := hr'.all rfl j (by omega)
        have b2 := HB.out j (by omega)
        have b3 := HB'.out j (by omega)
        have HS : Hid (backTo (at0 zs) (at0 zs') (j + 1) = max (backTo (at0 zs) (at0 zs') j) (at0 zs j - at0 zs' j)) := rfl
        have j1 : (j : Int) < (n : Int) := by omega
        have j2 : (j : Int) < (n' : Int) := by omega
        generalize hx : at0 zs j = x at *
        generalize hy : at0 zs' j = y at *
        have HX := Lib.hid hx; have HY := Lib.hid hy; clear hx hy
        go_wp2_with fail
        go_quiet (fail)
        go_wp2_with fail
        go_roundw
        case rel =>
          have em : ∀ p r : Int, (if p < r then r else p) = max p r := fun p r => by split <;> omega
          refine ⟨j + 1, _, by omega, by go_num, by rw [HS.out, em], ?_, ?_, rfl⟩
          · rw [HS.out]; omega
          · rw [HS.out]; omega
        case measure => simp [intOf]; omega
      · obtain rfl : j = min n n' := by omega
        go_wp2_with fail
        go_ret2
        exact backOut_mk rfl HE.out ⟨rfl, rfl, rfl, Nat.le_refl _, fun _ _ => rfl⟩

/-- of come what keeps, told as a Bool -/
def FitsOut (w : World) (xs a : List Int) (e : Ending) (w' : World) : Prop := w = w' ∧ ((FitsP xs a ∧ e = .returned (.tuple #[.bool true, .nilIface])) ∨ (¬ FitsP xs a ∧ e = .returned (.tuple #[.bool false, .nilIface])))
set_option maxHeartbeats 1000000 in
set_option maxRecDepth 100000 in
theorem fits_yes (A A' : Option Addr) (n n' c c' : Nat) (xs zs : List Int) (w : World) (hr : RdI w w.heap.size A n xs) (hr' : RdI w w.heap.size A' n' zs) (hy : Okay zs) (hn : n < n') (hx : ∀ i, i < n → 0 ≤ at0 xs i ∧ at0 xs i ≤ 1000000) :
    Calls Try.prog 44 #[.slice A n c, .slice A' n' c'] w (FitsOut w xs zs) := by
  have hl := hr.len
  have hl' := hr'.len
  have hn2 := hy.len
  rw [hl'] at hn2
  have HX := Lib.hid hx; have HL := Lib.hid hl; have HL' := Lib.hid hl'
  clear hx hl hl'
  have hd : decide (n' ≤ n) = false := by simp; omega
  go_enter Try.func44, Try.ntmps44
  go_wp2_with fail
  refine (check_yes A' n' c' zs w hr' hy).mono ?_
  rintro e w' ⟨rfl, rfl⟩
  clear hy
  go_wp2_with fail
  go_loop [23] (fun i => ∃ s : Nat, s ≤ n ∧ i = .int .i64 s ∧ ∀ s' t, s' < s → s' ≤ t → t < n → sumTo xs (t + 1) - sumTo xs s' ≤ at0 zs (t - s' + 1))
    (fun i => n - (intOf i).toNat)
  case atStart => exact ⟨0, Nat.zero_le _, rfl, fun s' t h => by omega⟩
  case round =>
    obtain ⟨s, hs, rfl, hall⟩ := hrel
    have HA := Lib.hid hall; clear hall
    by_cases hlt : s < n
    · go_wp2_with fail
      go_loop [8, 9] (fun m i => ∃ t : Nat, s ≤ t ∧ t ≤ n ∧ i = .int .i64 t ∧ m = .int .i64 (sumTo xs t - sumTo xs s) ∧ 0 ≤ sumTo xs t - sumTo xs s ∧ sumTo xs t - sumTo xs s ≤ t * 1000000 ∧ ∀ t', s ≤ t' → t' < t → sumTo xs (t' + 1) - sumTo xs s ≤ at0 zs (t' - s + 1))
        (fun _ i => n - (intOf i).toNat)
      case atStart => exact ⟨s, by omega, by omega, rfl, by rw [Int.sub_self], by omega, by omega, fun t' h1 h2 => by omega⟩
      case round =>
        obtain ⟨t, ht0, ht, rfl, rfl, hs0, hs1, hin⟩ := hrel
        have HI := Lib.hid hin; clear hin
        by_cases htn : t < n
        · obtain ⟨b, off, rfl, _⟩ := hr.addr htn
          obtain ⟨b', off', rfl, _⟩ := hr'.addr (show 0 < n' by omega)
          have c0 : w.cell? ⟨b, off + t, none⟩ = some (.int .i64 (at0 xs t)) := hr.all rfl t htn
          have c1 : w.cell? ⟨b', off' + (t - s + 1), none⟩ = some (.int .i64 (at0 zs (t - s + 1))) := hr'.all rfl (t - s + 1) (by omega)
          have hxt := HX.out t htn
          have HS : Hid (sumTo xs (t + 1) = sumTo xs t + at0 xs t) := rfl
          have j1 : (t : Int) - (s : Int) + 1 < (n' : Int) := by omega
          have j2 : 0 ≤ (t : Int) - (s : Int) := by omega
          have j3 : ((t : Int) - (s : Int) + 1).toNat = t - s + 1 := by omega
          generalize hp : sumTo xs t - sumTo xs s = p at *
          generalize hq : at0 xs t = x at *
          generalize hz : at0 zs (t - s + 1) = z at *
          have HP := Lib.hid hp; have HQ := Lib.hid hq; have HZ := Lib.hid hz; clear hp hq hz
          by_cases hpz : p + x ≤ z
          · go_wp2_with fail
            go_round
            case rel =>
              have e1 : sumTo xs (t + 1) - sumTo xs s = p + x := by have := HS.out; have := HP.out; omega
              refine ⟨t + 1, by omega, by omega, by go_num, by rw [e1], by rw [e1]; omega, by rw [e1]; omega, fun t' h1 h2 => ?_⟩
              by_cases e : t' = t
              · subst e; rw [e1, HZ.out]; exact hpz
              · exact HI.out t' h1 (by omega)
            case measure => simp [intOf]; omega
          · have hpz' : z < p + x := by omega
            go_wp2_with fail
            go_ret2
            exact ⟨rfl, .inr ⟨fun h => by
              have h1 := h s t ht0 (by rw [HL.out]; exact htn)
              have := HS.out; have := HP.out; have := HZ.out
              omega, rfl⟩⟩
        · obtain rfl : t = n := by omega
          go_wp2_with fail
          go_round
          case rel => exact ⟨s + 1, by omega, by go_num, fun s' t' h1 h2 h3 => by
            by_cases e : s' = s
            · subst e; exact HI.out t' h2 h3
            · exact HA.out s' t' (by omega) h2 h3⟩
          case measure => simp [intOf]; omega
    · obtain rfl : s = n := by omega
      go_wp2_with fail
      go_ret2
      exact ⟨rfl, .inl ⟨fun s' t h1 h2 => HA.out s' t (by rw [HL.out] at h2; omega) h1 (by rw [HL.out] at h2; exact h2), rfl⟩⟩
end Go.Proofs.Ytjjmfgoeabmfdaa
