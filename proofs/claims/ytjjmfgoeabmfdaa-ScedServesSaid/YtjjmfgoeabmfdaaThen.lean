/-
  What curve.Then and curve.Least compute, where both curves may be; else an error.
-/
import Derived.Test.YtjjmfgoeabmfdaaCheck
import Derived.Deep.QuietTactic
import Derived.BigQuiet
import Derived.StillTailTactics
import Derived.Deep.DeepCutAuto
namespace Go.Proofs.Ytjjmfgoeabmfdaa
open Go.RowKit Crv
set_option linter.unusedVariables false

theorem Okay.bd {zs : List Int} (h : Okay zs) {i : Nat} (hi : i < zs.length) : 0 ≤ zs.getD i 0 ∧ zs.getD i 0 ≤ 1000000000000 := ⟨h.lo i hi, h.hi i hi⟩

/-- the curve that is handed back -/
def CurveOut (w : World) (l : List Int) (e : Ending) (w' : World) : Prop :=
  ∃ A c, e = .returned (.tuple #[.slice A l.length c, .nilIface]) ∧ Below w.heap.size w w' ∧ RdI w' w'.heap.size A l.length l

theorem curveOut_mk {w w' : World} {l : List Int} {e : Ending} {A : Option Addr} {k c : Nat} (he : e = .returned (.tuple #[.slice A k c, .nilIface])) (hk : l.length = k) (hb : Below w.heap.size w w') (hr : RdI w' w'.heap.size A k l) : CurveOut w l e w' := by
  subst hk
  exact ⟨A, c, he, hb, hr⟩
theorem ite_min (a b : Int) : (if b < a then b else a) = min a b := by split <;> omega
/-- the sums whose least is asked -/
def sumAt (zs zs' : List Int) (k s : Nat) : Int := at0 zs s + at0 zs' (k - s)
/-- the least of the first j sums -/
def bestTo (zs zs' : List Int) (k j : Nat) : Int := minTo (sumAt zs zs' k) (j - 1)
theorem bestTo_step (zs zs' : List Int) (k j : Nat) (hj : 1 ≤ j) : bestTo zs zs' k (j + 1) = min (bestTo zs zs' k j) (sumAt zs zs' k j) := by
  unfold bestTo
  obtain ⟨i, rfl⟩ : ∃ i, j = i + 1 := ⟨j - 1, by omega⟩
  rfl
theorem bestTo_last (zs zs' : List Int) (k : Nat) : bestTo zs zs' k (k + 1) = conv (at0 zs) (at0 zs') k := rfl

set_option maxHeartbeats 1000000 in
set_option maxRecDepth 100000 in
theorem then_yes (A A' : Option Addr) (n n' c c' : Nat) (zs zs' : List Int) (w : World) (hr : RdI w w.heap.size A n zs) (hr' : RdI w w.heap.size A' n' zs') (hy : Okay zs) (hy' : Okay zs') :
    Calls Try.prog 17 #[.slice A n c, .slice A' n' c'] w (CurveOut w (thenL zs zs')) := by
  have hl := hr.len
  have hl' := hr'.len
  have hn := hy.len
  have hbd : ∀ i, i < n → 0 ≤ at0 zs i ∧ at0 zs i ≤ 1000000000000 := fun i hi => hy.bd (by omega)
  have hbd' : ∀ i, i < n' → 0 ≤ at0 zs' i ∧ at0 zs' i ≤ 1000000000000 := fun i hi => hy'.bd (by omega)
  rw [hl] at hn
  have HB := Lib.hid hbd; have HB' := Lib.hid hbd'; have HL := Lib.hid hl; have HL' := Lib.hid hl'
  clear hbd hbd' hl hl'
  go_enter Try.func17, Try.ntmps17
  go_wp2_with fail
  refine (both_yes A A' n n' c c' zs zs' w hr hr' hy hy').mono ?_
  rintro e w' ⟨rfl, rfl⟩
  clear hy hy'
  go_wp2_with fail
  all_goals
    go_loopw [7, 22] (fun v i wr => ∃ k : Nat, k ≤ min n n' ∧ i = .int .i64 k ∧ wr.ownsRow w.heap.size 3 1 v k ((tab k (conv (at0 zs) (at0 zs'))).map (Value.int .i64)) ∧ Below w.heap.size w wr)
      (fun _ i _ => min n n' - (intOf i).toNat)
    case atStart => exact ⟨0, Nat.zero_le _, rfl, World.ownsRow_nil _ _ _ _, Below.refl _ _⟩
    case round =>
      obtain ⟨k, hk, rfl, hown, hb⟩ := hrel
      by_cases hlt : k < min n n'
      · have hk1 : k < n := by omega
        have hk2 : k < n' := by omega
        obtain ⟨b, off, rfl, hbB⟩ := hr.addr hk1
        obtain ⟨b', off', rfl, hbB'⟩ := hr'.addr hk2
        have hc : ∀ j, j < n → wr.cell? ⟨b, off + j, none⟩ = some (.int .i64 (at0 zs j)) := fun j hj => (hb.cell (p := ⟨b, off + j, none⟩) hbB).trans (hr.all rfl j hj)
        have hc' : ∀ j, j < n' → wr.cell? ⟨b', off' + j, none⟩ = some (.int .i64 (at0 zs' j)) := fun j hj => (hb.cell (p := ⟨b', off' + j, none⟩) hbB').trans (hr'.all rfl j hj)
        have c0 : wr.cell? ⟨b, off, none⟩ = some (.int .i64 (at0 zs 0)) := by simpa using hc 0 (by omega)
        have c1 := hc' k hk2
        have HC := Lib.hid hc; have HC' := Lib.hid hc'; clear hc hc'
        have b0 := HB.out 0 (by omega)
        have b1 := HB'.out k hk2
        have i1 : (k : Int) < (n : Int) := by omega
        have i2 : (k : Int) < (n' : Int) := by omega
        have i3 : (0 : Int) < (n : Int) := by omega
        go_wp2_with fail
        go_quiet (fail)
        go_wp2_with fail
        have HN : Hid (at0 zs 0 + at0 zs' k = bestTo zs zs' k 1) := rfl
        clear c0 c1
        obtain ⟨wo, rfl⟩ : ∃ wo : World, wo = wr := ⟨_, rfl⟩
        go_loopw [9, 10] (fun m s wi => ∃ j q : Nat, 1 ≤ j ∧ j ≤ k + 1 ∧ s = .int .i64 j ∧ m = .int .i64 (bestTo zs zs' k j) ∧ 0 ≤ bestTo zs zs' k j ∧ bestTo zs zs' k j ≤ 2000000000000 ∧ wi = wo.drewN q)
          (fun _ s _ => k + 1 - (intOf s).toNat)
        case atStart => exact ⟨1, _, by omega, by omega, rfl, by rw [← HN.out], by rw [← HN.out]; omega, by rw [← HN.out]; omega, rfl⟩
        case round =>
          obtain ⟨j, q, hj1, hj2, rfl, rfl, hm0, hm1, rfl⟩ := hrel
          by_cases hjk : j ≤ k
          · have c0 := HC.out j (by omega)
            have c1 := HC'.out (k - j) (by omega)
            have b2 := HB.out j (by omega)
            have b3 := HB'.out (k - j) (by omega)
            have HS : Hid (bestTo zs zs' k (j + 1) = min (bestTo zs zs' k j) (at0 zs j + at0 zs' (k - j))) := bestTo_step zs zs' k j hj1
            have j1 : (j : Int) ≤ (k : Int) := by omega
            have j2 : (j : Int) < (n : Int) := by omega
            have j3 : ((k : Int) - (j : Int)) < (n' : Int) := by omega
            have j4 : 0 ≤ ((k : Int) - (j : Int)) := by omega
            have j5 : ((k : Int) - (j : Int)).toNat = k - j := by omega
            go_wp2_with fail
            go_quiet (fail)
            go_wp2_with fail
            go_roundw
            case rel =>
              refine ⟨j + 1, _, by omega, by omega, by go_num, by rw [HS.out, ite_min], ?_, ?_, rfl⟩
              · rw [HS.out]; omega
              · rw [HS.out]; omega
            case measure => simp [intOf]; omega
          · obtain rfl : j = k + 1 := by omega
            have hown2 : (wo.drewN q).ownsRow w.heap.size 3 1 u7 k ((tab k (conv (at0 zs) (at0 zs'))).map (Value.int .i64)) := hown
            have hbq : Below w.heap.size w (wo.drewN q) := ⟨hb.os, hb.tape, hb.output, hb.size, hb.block⟩
            clear hown hb
            generalize hW : wo.drewN q = W at *
            clear hW
            have HE : Hid (bestTo zs zs' k (k + 1) = conv (at0 zs) (at0 zs') k) := bestTo_last zs zs' k
            go_wp2_with (at_builtin; refine wpList_pushI rfl _ _ _ Try.underlying30 rfl w.heap.size _ k _ (bestTo zs zs' k (k + 1)) hown2 rfl rfl (by omega) hbq.size ?_; intro v' w' hown' hg' hb')
            go_roundw
            case rel =>
              refine ⟨k + 1, by omega, by go_num, ?_, hbq.trans hb'⟩
              rw [tab_succ, ← HE.out]; exact hown'
            case measure => simp [intOf]; omega
      · obtain rfl : k = min n n' := by omega
        obtain ⟨A2, c2, rfl, hrd⟩ := own_reads hown
        have e : thenL zs zs' = tab (min n n') (conv (at0 zs) (at0 zs')) := by unfold thenL; rw [HL.out, HL'.out]
        have HE := Lib.hid e; clear e
        go_wp2_with fail
        go_ret2
        exact curveOut_mk rfl (by rw [HE.out]; exact tab_length _ _) hb (by rw [HE.out]; exact hrd)
end Go.Proofs.Ytjjmfgoeabmfdaa
