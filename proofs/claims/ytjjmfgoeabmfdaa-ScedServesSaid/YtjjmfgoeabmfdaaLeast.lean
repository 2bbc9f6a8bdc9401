/-
  What curve.Least computes, where both curves may be.
-/
import Derived.Test.YtjjmfgoeabmfdaaThen
import Derived.Deep.RegionHeld3
namespace Go.Proofs.Ytjjmfgoeabmfdaa
open Go.RowKit Crv
set_option linter.unusedVariables false

set_option maxHeartbeats 1000000 in
set_option maxRecDepth 100000 in
theorem least_yes (A A' : Option Addr) (n n' c c' : Nat) (zs zs' : List Int) (w : World) (hr : RdI w w.heap.size A n zs) (hr' : RdI w w.heap.size A' n' zs') (hy : Okay zs) (hy' : Okay zs') :
    Calls Try.prog 19 #[.slice A n c, .slice A' n' c'] w (CurveOut w (leastL zs zs')) := by
  have hl := hr.len
  have hl' := hr'.len
  have hn := hy.len
  have hbd : ∀ i, i < n → 0 ≤ at0 zs i ∧ at0 zs i ≤ 1000000000000 := fun i hi => hy.bd (by omega)
  have hbd' : ∀ i, i < n' → 0 ≤ at0 zs' i ∧ at0 zs' i ≤ 1000000000000 := fun i hi => hy'.bd (by omega)
  rw [hl] at hn
  have HB := Lib.hid hbd; have HB' := Lib.hid hbd'; have HL := Lib.hid hl; have HL' := Lib.hid hl'
  clear hbd hbd' hl hl'
  go_enter Try.func19, Try.ntmps19
  go_wp2_with fail
  refine (both_yes A A' n n' c c' zs zs' w hr hr' hy hy').mono ?_
  rintro e w' ⟨rfl, rfl⟩
  clear hy hy'
  go_wp2_with fail
  all_goals
    go_loopw [7, 20] (fun v i wr => ∃ k : Nat, k ≤ min n n' ∧ i = .int .i64 k ∧ wr.ownsRow w.heap.size 3 1 v k ((tab k (fun t => min (at0 zs t) (at0 zs' t))).map (Value.int .i64)) ∧ Below w.heap.size w wr)
      (fun _ i _ => min n n' - (intOf i).toNat)
    case atStart => exact ⟨0, Nat.zero_le _, rfl, World.ownsRow_nil _ _ _ _, Below.refl _ _⟩
    case round =>
      obtain ⟨k, hk, rfl, hown, hb⟩ := hrel
      by_cases hlt : k < min n n'
      · have hk1 : k < n := by omega
        have hk2 : k < n' := by omega
        obtain ⟨b, off, rfl, hbB⟩ := hr.addr hk1
        obtain ⟨b', off', rfl, hbB'⟩ := hr'.addr hk2
        have hc : ∀ j, j < n → wr.cell? ⟨b, off + j, none⟩ = some (.int .i64 (at0 zs j)) := fun j hj => (hb.cell (p := ⟨b, off + j, none⟩) hbB).trans (hr.all rfl j hj)
        have hc' : ∀ j, j < n' → wr.cell? ⟨b', off' + j, none⟩ = some (.int .i64 (at0 zs' j)) := fun j hj => (hb.cell (p := ⟨b', off' + j, none⟩) hbB').trans (hr'.all rfl j hj)
        have c0 := hc k hk1
        have c1 := hc' k hk2
        have HC := Lib.hid hc; have HC' := Lib.hid hc'; clear hc hc'
        have b0 := HB.out k hk1
        have b1 := HB'.out k hk2
        have i1 : (k : Int) < (n : Int) := by omega
        have i2 : (k : Int) < (n' : Int) := by omega
        go_wp2_with fail
        have HE : Hid ((if at0 zs' k < at0 zs k then at0 zs' k else at0 zs k) = min (at0 zs k) (at0 zs' k)) := ite_min _ _
        go_region_held3 (fun wx => wx.cell? ⟨b, off + k, none⟩ = some (.int .i64 (at0 zs k)) ∧ wx.cell? ⟨b', off' + k, none⟩ = some (.int .i64 (at0 zs' k)))
          (first
            | go_keep
            | exact ⟨(hb'.cell (p := ⟨b, off + k, none⟩) hbB).trans ((World.cell?_alloc_lt wr _ ⟨b, off + k, none⟩ (Nat.lt_of_lt_of_le hbB hb.size)).trans c0), (hb'.cell (p := ⟨b', off' + k, none⟩) hbB').trans ((World.cell?_alloc_lt wr _ ⟨b', off' + k, none⟩ (Nat.lt_of_lt_of_le hbB' hb.size)).trans c1)⟩)
          ((refine step_pushI (by rfl) (.tmp 23) (.tmp 33) 30 Try.underlying30 (by rfl) w.heap.size u7 k (tab k (fun t => min (at0 zs t) (at0 zs' t))) (if at0 zs' k < at0 zs k then at0 zs' k else at0 zs k) ((hown.alloc _).drew) (by rfl) ⟨wr.heap.size, 0, none⟩ (by rfl) ?_ (by omega) ?_ ?_; (simp [World.cell?_alloc_new]); (have := hb.size; first | omega | (simp; omega)); intro v' w' hown' hg' hb'))
        have hb2 : Below w.heap.size w w' := ((⟨hb.os, hb.tape, hb.output, hb.size, hb.block⟩ : Below w.heap.size w wr).alloc hb.size _).trans ⟨hb'.os, hb'.tape, hb'.output, hb'.size, hb'.block⟩
        clear c0 c1
        go_wp2_with fail
        go_roundw
        case rel =>
          refine ⟨k + 1, by omega, by go_num, ?_, hb2⟩
          rw [tab_succ, ← HE.out]; exact hown'
        case measure => simp [intOf]; omega
      · obtain rfl : k = min n n' := by omega
        obtain ⟨A2, c2, rfl, hrd⟩ := own_reads hown
        have e : leastL zs zs' = tab (min n n') (fun t => min (at0 zs t) (at0 zs' t)) := by unfold leastL; rw [HL.out, HL'.out]
        have HE := Lib.hid e; clear e
        go_wp2_with fail
        go_ret2
        exact curveOut_mk rfl (by rw [HE.out]; exact tab_length _ _) hb (by rw [HE.out]; exact hrd)
end Go.Proofs.Ytjjmfgoeabmfdaa
