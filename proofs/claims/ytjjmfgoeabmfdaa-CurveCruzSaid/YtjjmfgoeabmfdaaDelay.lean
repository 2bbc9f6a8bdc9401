/-
  What curve.Behind and curve.Delay compute.
-/
import Derived.Test.YtjjmfgoeabmfdaaThen
import Derived.Test.YtjjmfgoeabmfdaaOnceLaw
namespace Go.Proofs.Ytjjmfgoeabmfdaa
open Go.RowKit Crv
set_option linter.unusedVariables false

set_option maxHeartbeats 1000000 in
set_option maxRecDepth 100000 in
theorem behind_yes (A A' : Option Addr) (n n' c c' : Nat) (zs zs' : List Int) (w : World) (hr : RdI w w.heap.size A n zs) (hr' : RdI w w.heap.size A' n' zs') (hy : Okay zs) (hy' : Okay zs') :
    Calls Try.prog 23 #[.slice A n c, .slice A' n' c'] w (CurveOut w (behindL zs zs')) := by
  have hl := hr.len
  have hl' := hr'.len
  have hn := hy.len
  have hp := hy.pos; have hp' := hy'.pos
  have hbd : ∀ i, i < n → 0 ≤ at0 zs i ∧ at0 zs i ≤ 1000000000000 := fun i hi => hy.bd (by omega)
  have hbd' : ∀ i, i < n' → 0 ≤ at0 zs' i ∧ at0 zs' i ≤ 1000000000000 := fun i hi => hy'.bd (by omega)
  rw [hl] at hn hp; rw [hl'] at hp'
  have HB := Lib.hid hbd; have HB' := Lib.hid hbd'; have HL := Lib.hid hl; have HL' := Lib.hid hl'
  clear hbd hbd' hl hl'
  go_enter Try.func23, Try.ntmps23
  go_wp2_with fail
  refine (both_yes A A' n n' c c' zs zs' w hr hr' hy hy').mono ?_
  rintro e w' ⟨rfl, rfl⟩
  clear hy hy'
  go_wp2_with fail
  all_goals
    go_loopw [8, 26] (fun v i wr => ∃ k : Nat, k ≤ (min n n' + 1) / 2 ∧ i = .int .i64 k ∧ wr.ownsRow w.heap.size 3 1 v k ((tab k (fun t => bhTo (at0 zs) (at0 zs') t (min n n' - t))).map (Value.int .i64)) ∧ Below w.heap.size w wr)
      (fun _ i _ => (min n n' + 1) / 2 - (intOf i).toNat)
    case atStart => exact ⟨0, Nat.zero_le _, rfl, World.ownsRow_nil _ _ _ _, Below.refl _ _⟩
    case round =>
      obtain ⟨k, hk, rfl, hown, hb⟩ := hrel
      by_cases hlt : k < (min n n' + 1) / 2
      · have hk1 : k < n := by omega
        have hk2 : k < n' := by omega
        obtain ⟨b, off, rfl, hbB⟩ := hr.addr hk1
        obtain ⟨b', off', rfl, hbB'⟩ := hr'.addr hk2
        have hc : ∀ j, j < n → wr.cell? ⟨b, off + j, none⟩ = some (.int .i64 (at0 zs j)) := fun j hj => (hb.cell (p := ⟨b, off + j, none⟩) hbB).trans (hr.all rfl j hj)
        have hc' : ∀ j, j < n' → wr.cell? ⟨b', off' + j, none⟩ = some (.int .i64 (at0 zs' j)) := fun j hj => (hb.cell (p := ⟨b', off' + j, none⟩) hbB').trans (hr'.all rfl j hj)
        have HC := Lib.hid hc; have HC' := Lib.hid hc'; clear hc hc'
        go_wp2_with fail
        obtain ⟨wo, rfl⟩ : ∃ wo : World, wo = wr := ⟨_, rfl⟩
        go_loopw [10, 11] (fun m s wi => ∃ j q : Nat, k + j ≤ min n n' ∧ s = .int .i64 j ∧ m = .int .i64 (bhTo (at0 zs) (at0 zs') k j) ∧ 0 ≤ bhTo (at0 zs) (at0 zs') k j ∧ bhTo (at0 zs) (at0 zs') k j ≤ 1000000000000 ∧ wi = wo.drewN q)
          (fun _ s _ => min n n' - k - (intOf s).toNat)
        case atStart => exact ⟨0, 0, by omega, rfl, rfl, Int.le_refl _, by show (0 : Int) ≤ _; omega, rfl⟩
        case round =>
          obtain ⟨j, q, hj2, rfl, rfl, hm0, hm1, rfl⟩ := hrel
          by_cases hjk : k + j < min n n'
          · have c0 := HC.out (k + j) (by omega)
            have c1 := HC'.out j (by omega)
            have b2 := HB.out (k + j) (by omega)
            have b3 := HB'.out j (by omega)
            have HS : Hid (bhTo (at0 zs) (at0 zs') k (j + 1) = max (bhTo (at0 zs) (at0 zs') k j) (at0 zs (k + j) - at0 zs' j)) := rfl
            have j1 : (k : Int) + (j : Int) < (n : Int) := by omega
            have j2 : (j : Int) < (n' : Int) := by omega
            have j3 : (k : Int) + (j : Int) < (n' : Int) := by omega
            have j5 : ((k : Int) + (j : Int)).toNat = k + j := by omega
            generalize hx : at0 zs (k + j) = x at *
            generalize hy : at0 zs' j = y at *
            have HX := Lib.hid hx; have HY := Lib.hid hy; clear hx hy
            go_wp2_with fail
            go_quiet (fail)
            go_wp2_with fail
            go_roundw
            case rel =>
              have em : ∀ p r : Int, (if p < r then r else p) = max p r := fun p r => by split <;> omega
              refine ⟨j + 1, _, by omega, by go_num, by rw [HS.out, em], ?_, ?_, rfl⟩
              · rw [HS.out]; omega
              · rw [HS.out]; omega
            case measure => simp [intOf]; omega
          · obtain rfl : j = min n n' - k := by omega
            have hown2 : (wo.drewN q).ownsRow w.heap.size 3 1 u8 k ((tab k (fun t => bhTo (at0 zs) (at0 zs') t (min n n' - t))).map (Value.int .i64)) := hown
            have hbq : Below w.heap.size w (wo.drewN q) := ⟨hb.os, hb.tape, hb.output, hb.size, hb.block⟩
            clear hown hb
            generalize hW : wo.drewN q = W at *
            clear hW
            have j1 : ¬ (k : Int) + ((min n n' - k : Nat) : Int) < (n : Int) ∨ ¬ (k : Int) + ((min n n' - k : Nat) : Int) < (n' : Int) := by omega
            obtain ⟨J, hJ⟩ : ∃ J, J = min n n' - k := ⟨_, rfl⟩
            rw [← hJ] at hj2 hjk hm0 hm1 j1 ⊢
            have HJ := Lib.hid hJ; clear hJ
            go_wp2_with (at_builtin; refine wpList_pushI rfl _ _ _ Try.underlying30 rfl w.heap.size _ k _ (bhTo (at0 zs) (at0 zs') k J) hown2 rfl rfl (by omega) hbq.size ?_; intro v' w' hown' hg' hb')
            go_roundw
            case rel =>
              refine ⟨k + 1, by omega, by go_num, ?_, hbq.trans hb'⟩
              rw [tab_succ, ← HJ.out]; exact hown'
            case measure => simp [intOf]; omega
      · obtain rfl : k = (min n n' + 1) / 2 := by omega
        obtain ⟨A2, c2, rfl, hrd⟩ := own_reads hown
        have e : behindL zs zs' = tab ((min n n' + 1) / 2) (fun t => bhTo (at0 zs) (at0 zs') t (min n n' - t)) := by unfold behindL; rw [HL.out, HL'.out]
        have HE := Lib.hid e; clear e
        go_wp2_with fail
        go_ret2
        exact curveOut_mk rfl (by rw [HE.out]; exact tab_length _ _) hb (by rw [HE.out]; exact hrd)

def DelayFine (w : World) (a b : List Int) (e : Ending) (w' : World) : Prop := ∃ m : Nat, e = .returned (.tuple #[.int .i64 m, .nilIface]) ∧ Below w.heap.size w w' ∧ m ≤ 201 ∧ IsDelay a b m
def DelayErr (w : World) (e : Ending) (w' : World) : Prop := ∃ k : Int, e = .returned (.tuple #[.int .i64 0, .iface 77 (.int .i64 k)]) ∧ Below w.heap.size w w'

theorem delay_no (A A' : Option Addr) (n n' c c' : Nat) (zs zs' : List Int) (w : World) (hr : RdI w w.heap.size A n zs) (hr' : RdI w w.heap.size A' n' zs') (h : ¬ (Okay zs ∧ Okay zs')) :
    Calls Try.prog 24 #[.slice A n c, .slice A' n' c'] w (DelayErr w) := by
  go_enter Try.func24, Try.ntmps24
  go_wp2_with fail
  refine (both_no A A' n n' c c' zs zs' w hr hr' h).mono ?_
  rintro e w' ⟨⟨k, rfl⟩, rfl⟩
  go_wp2_with fail
  go_ret2
  exact ⟨k, rfl, Below.refl _ _⟩

set_option maxHeartbeats 1000000 in
set_option maxRecDepth 100000 in
theorem delay_yes (A A' : Option Addr) (n n' c c' : Nat) (zs zs' : List Int) (w : World) (hr : RdI w w.heap.size A n zs) (hr' : RdI w w.heap.size A' n' zs') (hy : Okay zs) (hy' : Okay zs') :
    Calls Try.prog 24 #[.slice A n c, .slice A' n' c'] w fun e w' => DelayFine w zs zs' e w' ∨ DelayErr w e w' := by
  have hl := hr.len
  have hl' := hr'.len
  have hn := hy.len; have hn' := hy'.len
  rw [hl] at hn; rw [hl'] at hn'
  have HL := Lib.hid hl; have HL' := Lib.hid hl'
  clear hl hl'
  go_enter Try.func24, Try.ntmps24
  go_wp2_with fail
  refine (both_yes A A' n n' c c' zs zs' w hr hr' hy hy').mono ?_
  rintro e w' ⟨rfl, rfl⟩
  clear hy hy'
  go_wp2_with fail
  go_loopw [7, 18] (fun v i wr => ∃ k m q : Nat, k ≤ n ∧ i = .int .i64 k ∧ v = .int .i64 m ∧ DelayTo zs zs' k m ∧ wr = w.drewN q)
    (fun _ i _ => n - (intOf i).toNat)
  case atStart => exact ⟨0, 0, 0, Nat.zero_le _, rfl, rfl, DelayTo.start _ _, rfl⟩
  case round =>
    obtain ⟨k, m, q, hk, rfl, rfl, hd, rfl⟩ := hrel
    have hm := hd.small
    have hm' : m ≤ 201 := by have := HL'.out; omega
    have HD := Lib.hid hd; clear hd
    by_cases hlt : k < n
    · obtain ⟨b, off, rfl, _⟩ := hr.addr hlt
      have c0 : w.cell? ⟨b, off + k, none⟩ = some (.int .i64 (at0 zs k)) := hr.all rfl k hlt
      generalize hx : at0 zs k = x at *
      have HX := Lib.hid hx; clear hx
      go_wp2_with fail
      go_loopw [9] (fun s wi => ∃ d p : Nat, s = .int .i64 d ∧ (∀ e, e < d → k + e < n' ∧ at0 zs' (k + e) < x) ∧ d ≤ n' ∧ wi = w.drewN p)
        (fun s _ => n' - (intOf s).toNat)
      case atStart => exact ⟨0, _, rfl, fun e he => by omega, Nat.zero_le _, rfl⟩
      case round =>
        obtain ⟨d, p, rfl, hall, hdn, rfl⟩ := hrel
        have HA := Lib.hid hall; clear hall
        by_cases hin : k + d < n'
        · obtain ⟨b', off', rfl, _⟩ := hr'.addr (show 0 < n' by omega)
          have c1 : w.cell? ⟨b', off' + (k + d), none⟩ = some (.int .i64 (at0 zs' (k + d))) := hr'.all rfl (k + d) hin
          have hg : decide ((k : Int) + (d : Int) < (n' : Int)) = true := by simp; omega
          have i1 : (k : Int) < (n : Int) := by omega
          have i2 : (k : Int) + (d : Int) < (n' : Int) := by omega
          have j5 : ((k : Int) + (d : Int)).toNat = k + d := by omega
          generalize hy : at0 zs' (k + d) = y at *
          have HY := Lib.hid hy; clear hy
          by_cases hxy : y < x
          · go_wp2_with fail
            go_quiet (fail)
            go_wp2_with fail
            go_roundw
            case rel =>
              refine ⟨d + 1, _, by go_num, fun e he => ?_, by omega, rfl⟩
              by_cases ee : e = d
              · subst ee; exact ⟨hin, by rw [HY.out]; exact hxy⟩
              · exact HA.out e (by omega)
            case measure => simp [intOf]; omega
          · have hyx : x ≤ y := by omega
            have hst : DelayTo zs zs' (k + 1) (max m d) := HD.out.step (by rw [HL'.out]; exact hin) (by rw [HX.out, HY.out]; exact hyx) (fun e he => by rw [HL'.out, HX.out]; exact HA.out e he)
            have HST := Lib.hid hst; clear hst
            go_wp2_with fail
            go_quiet (fail)
            go_wp2_with fail
            go_roundw
            case rel => exact ⟨k + 1, max m d, _, by omega, by go_num, congrArg (Value.int .i64) (by split <;> omega), HST.out, rfl⟩
            case measure => simp [intOf]; omega
        · have hg : decide ((k : Int) + (d : Int) < (n' : Int)) = false := by simp; omega
          have hg2 : (n' : Int) ≤ (k : Int) + (d : Int) := by omega
          go_wp2_with fail
          go_quiet (fail)
          go_wp2_with fail
          go_ret2
          exact .inr ⟨_, rfl, ⟨rfl, rfl, rfl, Nat.le_refl _, fun _ _ => rfl⟩⟩
    · obtain rfl : k = n := by omega
      go_wp2_with fail
      go_ret2
      exact .inl ⟨m, rfl, ⟨rfl, rfl, rfl, Nat.le_refl _, fun _ _ => rfl⟩, hm', by have := HD.out; unfold IsDelay; rw [HL.out]; exact this⟩
end Go.Proofs.Ytjjmfgoeabmfdaa
