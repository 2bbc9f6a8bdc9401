/-
  What sced.Check tells: nothing where the flows may be (SOk), else an error of the program's own.
-/
import Derived.Test.YtjjmfgoeabmfdaaFam
import Derived.Test.YtjjmfgoeabmfdaaCheck
import Derived.Test.YtjjmfgoeabmfdaaSrvLaw
import Derived.Deep.QuietTactic
import Derived.BigQuiet
import Derived.Outline
namespace Go.Proofs.Ytjjmfgoeabmfdaa
open Go.RowKit Crv
set_option linter.unusedVariables false

/-- a flow as it may be -/
structure FOk (f : FV) (n0 : Nat) : Prop where
  prom : Okay f.zs
  len : f.n = n0
  far : f.n < f.n'
  come : ∀ i, i < f.n → 0 ≤ at0 f.xs i ∧ at0 f.xs i ≤ 100
  sum : ∀ i, i ≤ f.n → sumTo f.xs i ≤ 100
def SOk (m : Nat) (fs : Nat → FV) : Prop := 1 ≤ m ∧ m ≤ 8 ∧ ∀ i, i < m → FOk (fs i) (fs 0).n
def SchPost (m : Nat) (fs : Nat → FV) (w : World) (e : Ending) (w' : World) : Prop := Below w.heap.size w w' ∧ ((SOk m fs ∧ e = .returned .nilIface) ∨ (¬ SOk m fs ∧ Err e))

theorem sched_none (A : Option Addr) (c : Nat) (fs : Nat → FV) (w : World) : Calls Try.prog 45 #[.slice A 0 c] w (SchPost 0 fs w) := by
  go_enter Try.func45, Try.ntmps45
  go_wp2_with fail
  go_ret
  exact ⟨Below.refl _ _, .inr ⟨fun h => by have := h.1; omega, _, rfl⟩⟩
theorem sched_long (A : Option Addr) (m c : Nat) (fs : Nat → FV) (w : World) (hm : 8 < m) : Calls Try.prog 45 #[.slice A m c] w (SchPost m fs w) := by
  have h1 : ¬ (m : Int) < 1 := by omega
  have h2 : (8 : Int) < (m : Int) := by omega
  go_enter Try.func45, Try.ntmps45
  go_wp2_with fail
  go_ret
  exact ⟨Below.refl _ _, .inr ⟨fun h => by have := h.2.1; omega, _, rfl⟩⟩

set_option maxHeartbeats 2000000 in
set_option maxRecDepth 100000 in
theorem sched_mid (A : Option Addr) (m c : Nat) (fs : Nat → FV) (w : World) (hr : RdF w w.heap.size A m fs) (hm1 : 1 ≤ m) (hm2 : m ≤ 8) : Calls Try.prog 45 #[.slice A m c] w (SchPost m fs w) := by
  have h1 : ¬ (m : Int) < 1 := by omega
  have h2 : ¬ (8 : Int) < (m : Int) := by omega
  go_enter Try.func45, Try.ntmps45
  go_wp2_with fail
  go_loopw [20] (fun i wr => ∃ k : Nat, k ≤ m ∧ i = .int .i64 k ∧ (∀ i, i < k → FOk (fs i) (fs 0).n) ∧ Below w.heap.size w wr) (fun i _ => m - (intOf i).toNat)
  case atStart => exact ⟨0, Nat.zero_le _, rfl, fun i hi => by omega, Below.refl _ _⟩
  case round =>
    obtain ⟨k, hk, rfl, hall, hb⟩ := hrel
    have HA := Lib.hid hall; clear hall
    by_cases hlt : k < m
    · have hrw := hr.over hb (Nat.le_refl _)
      obtain ⟨b, off, rfl, hbB, c0, c1⟩ := hrw.at_ hlt
      obtain ⟨b', off', e, _, d0, _⟩ := hrw.at_ hm1
      injection e with e; injection e with e1 e2; subst e1 e2
      rw [Nat.zero_mul, Nat.add_zero] at d0
      have hco := rdI_new (hrw.come k hlt) (.cells #[.slice (fs k).A (fs k).n (fs k).c, .slice (fs k).A' (fs k).n' (fs k).c'] 42)
      have hpr := rdI_new (hrw.prom k hlt) (.cells #[.slice (fs k).A (fs k).n (fs k).c, .slice (fs k).A' (fs k).n' (fs k).c'] 42)
      have HD : Hid (k < m ∧ FOk (fs k) (fs 0).n = FOk (fs k) (fs 0).n) := ⟨hlt, rfl⟩
      generalize hf : fs k = f at *
      generalize hn0 : (fs 0).n = n0 at *
      generalize (fs 0).A = A0 at *
      generalize (fs 0).c = cc0 at *
      have HF := Lib.hid hf; have HN0 := Lib.hid hn0; clear hf hn0 HD hrw
      obtain ⟨A1, n1, c1', xs, A2, n2, c2', zs⟩ := f
      dsimp only at c0 c1 hco hpr
      have hlx := hco.len; have hlz := hpr.len
      have HLX := Lib.hid hlx; have HLZ := Lib.hid hlz; clear hlx hlz
      have hno : Hid (¬ FOk ⟨A1, n1, c1', xs, A2, n2, c2', zs⟩ n0 → ¬ SOk m fs) := fun hn h => hn (by rw [← HF.out, ← HN0.out]; exact h.2.2 k hlt)
      have hbb : Below w.heap.size w (wr.alloc (.cells #[.slice A1 n1 c1', .slice A2 n2 c2'] 42)) := hb.alloc hb.size _
      by_cases hok : Okay zs
      · go_wp2_with fail
        refine (check_yes _ _ _ _ _ hpr hok).mono ?_
        rintro e w1 ⟨rfl, rfl⟩
        have h201 : n2 ≤ 201 := by have h1 := hok.len; have h2 := HLZ.out; omega
        have HOK := Lib.hid hok; clear hok
        have hbl : Below w.heap.size w (wr.alloc (.cells #[.slice A1 n1 c1', .slice A2 n2 c2'] 42)) := hbb
        have e0 : (wr.alloc (.cells #[.slice A1 n1 c1', .slice A2 n2 c2'] 42)).cell? ⟨b, off, none⟩ = some (.slice A0 n0 cc0) := (World.cell?_alloc_lt wr _ ⟨b, off, none⟩ hbB).trans d0
        have hk := Blk.new wr 42 #[.slice A1 n1 c1', .slice A2 n2 c2']
        have e1 : (wr.alloc (.cells #[.slice A1 n1 c1', .slice A2 n2 c2'] 42)).cell? ⟨wr.heap.size, 0, none⟩ = some (.slice A1 n1 c1') := hk.cell 0
        have e2 : (wr.alloc (.cells #[.slice A1 n1 c1', .slice A2 n2 c2'] 42)).cell? ⟨wr.heap.size, 1, none⟩ = some (.slice A2 n2 c2') := hk.cell 1
        have i0 : (0 : Int) < (m : Int) := by omega
        clear c0 c1 d0 hk
        generalize hW : (wr.alloc (.cells #[.slice A1 n1 c1', .slice A2 n2 c2'] 42)) = W at *
        clear hW
        by_cases hnn : n1 = n0
        · subst hnn
          by_cases hfar : n1 < n2
          · go_wp2_with fail
            go_quiet (fail)
            go_wp2_with fail
            have hbq : Below w.heap.size w (W.drewN nq) := ⟨hbl.os, hbl.tape, hbl.output, hbl.size, hbl.block⟩
            have hxq : RdI (W.drewN nq) W.heap.size A1 n1 xs := hco
            generalize W.drewN nq = W2 at *
            go_loop [6, 51] (fun s i => ∃ j : Nat, j ≤ n1 ∧ i = .int .i64 j ∧ s = .int .i64 (sumTo xs j) ∧ 0 ≤ sumTo xs j ∧ sumTo xs j ≤ 100 ∧ (∀ i, i < j → 0 ≤ at0 xs i ∧ at0 xs i ≤ 100) ∧ ∀ i, i ≤ j → sumTo xs i ≤ 100) (fun _ i => n1 - (intOf i).toNat)
            case atStart => exact ⟨0, Nat.zero_le _, rfl, rfl, Int.le_refl _, by show (0 : Int) ≤ 100; omega, fun i hi => by omega, fun i hi => by (obtain rfl : i = 0 := by omega); show (0 : Int) ≤ 100; omega⟩
            case round =>
              obtain ⟨j, hj, rfl, rfl, hs0, hs1, hal, hsl⟩ := hrel
              have HAL := Lib.hid hal; have HSL := Lib.hid hsl; clear hal hsl
              by_cases hjl : j < n1
              · obtain ⟨bx, ox, rfl, _⟩ := hxq.addr hjl
                have x0 : W2.cell? ⟨bx, ox + j, none⟩ = some (.int .i64 (at0 xs j)) := hxq.all rfl j hjl
                have HS : Hid (sumTo xs (j + 1) = sumTo xs j + at0 xs j) := rfl
                have HX : Hid (∃ y, y = at0 xs j) := ⟨_, rfl⟩
                generalize hy : at0 xs j = y at *
                have HY := Lib.hid hy; clear hy HX
                have hnot : Hid (¬ (0 ≤ y ∧ y ≤ 100) → ¬ SOk m fs) := fun h => hno.out fun h2 => h (by have := h2.come j hjl; dsimp only at this; rw [HY.out] at this; exact this)
                have hnot2 : Hid (¬ (sumTo xs j + y ≤ 100) → ¬ SOk m fs) := fun h => hno.out fun h2 => h (by have := h2.sum (j + 1) hjl; dsimp only at this; rw [HS.out] at this; exact this)
                by_cases hy0 : 0 ≤ y
                · by_cases hy1 : y ≤ 100
                  · by_cases hy2 : sumTo xs j + y ≤ 100
                    · go_wp2_with fail
                      go_round
                      case rel => refine ⟨_, _, _, _, ?_, rfl, rfl, rfl, rfl⟩; exact ⟨j + 1, by omega, by go_num, by rw [HS.out], by rw [HS.out]; omega, by rw [HS.out]; omega, fun i hi => by
                        by_cases e : i = j
                        · rw [e, HY.out]; omega
                        · exact HAL.out i (by omega), fun i hi => by
                        by_cases e : i = j + 1
                        · rw [e, HS.out]; omega
                        · exact HSL.out i (by omega)⟩
                      case measure => simp [intOf]; omega
                    · have hy2' : 100 < sumTo xs j + y := by omega
                      go_wp2_with fail
                      go_ret
                      exact ⟨hbq, .inr ⟨hnot2.out hy2, _, rfl⟩⟩
                  · have hy1' : 100 < y := by omega
                    go_wp2_with fail
                    go_ret
                    exact ⟨hbq, .inr ⟨hnot.out (by omega), _, rfl⟩⟩
                · have hy0' : y < 0 := by omega
                  go_wp2_with fail
                  go_ret
                  exact ⟨hbq, .inr ⟨hnot.out (by omega), _, rfl⟩⟩
              · obtain rfl : j = n1 := by omega
                go_wp2_with fail
                go_roundw
                case rel => exact ⟨k + 1, by omega, by go_num, fun i hi => by
                  by_cases e : i = k
                  · rw [e, HF.out]
                    exact ⟨HOK.out, rfl, hfar, HAL.out, HSL.out⟩
                  · exact HA.out i (by omega), hbq⟩
                case measure => simp [intOf]; omega
          · have hfar' : n2 ≤ n1 := by omega
            go_wp2_with fail
            go_quiet (fail)
            go_wp2_with fail
            go_ret
            exact ⟨⟨hbl.os, hbl.tape, hbl.output, hbl.size, hbl.block⟩, .inr ⟨hno.out (fun h => hfar h.far), _, rfl⟩⟩
        · go_wp2_with fail
          go_quiet (fail)
          go_wp2_with fail
          go_ret
          exact ⟨⟨hbl.os, hbl.tape, hbl.output, hbl.size, hbl.block⟩, .inr ⟨hno.out (fun h => hnn h.len), _, rfl⟩⟩
      · go_wp2_with fail
        refine (check_no _ _ _ _ _ hpr hok).mono ?_
        rintro e w1 ⟨⟨ke, rfl⟩, rfl⟩
        go_wp2_with fail
        go_ret
        exact ⟨hbb, .inr ⟨hno.out (fun h => hok h.prom), _, rfl⟩⟩
    · obtain rfl : k = m := by omega
      go_wp2_with fail
      go_ret
      exact ⟨hb, .inl ⟨⟨hm1, hm2, HA.out⟩, rfl⟩⟩
end Go.Proofs.Ytjjmfgoeabmfdaa
