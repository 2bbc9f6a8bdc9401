/-
  The walk of the law SketchFollows: it returns true, and leaves all that was there.
-/
import Derived.Test.YtjjmfgoeabmfdaaRate
namespace Go.Proofs.Ytjjmfgoeabmfdaa
open Go.RowKit Crv
set_option linter.unusedVariables false
set_option maxHeartbeats 400000 in
set_option maxRecDepth 100000 in
theorem sketchFollows_walk (a0 : Option Addr) (len0 cap0 : Nat) (z0 : List Int) (a1 : Int) (w : World) (w0 : IsRow .i64 w a0 len0 cap0 z0) (w1 : (Lit.int .i64 a1).wf = true) :
    Calls Try.prog 3 #[.slice a0 len0 cap0, .int .i64 a1] w fun e w' => e = .returned (.bool true) ∧ Below w.heap.size w w' := by
  have hr := w0.rd
  clear w0 w1
  generalize z0.take len0 = zs at hr
  go_enter Try.func3, Try.ntmps3
  go_wp2_with fail
  refine (rate_any a0 len0 cap0 zs a1 _ hr).mono ?_
  rintro e w1 (⟨⟨k, rfl, hb⟩, _⟩ | ⟨A1, c1, rfl, hb, hrd, h100, hall⟩)
  · go_wp2_with fail
    refine (rate_8 w1).mono ?_
    rintro e w2 ⟨b, off, c, rfl, hb2, hc⟩
    go_wp2_with fail
    go_ret
    exact ⟨rfl, hb.trans (hb2.mono hb.size)⟩
  · go_wp2_with fail
    refine (rate_8 w1).mono ?_
    rintro e w2 ⟨b, off, c, rfl, hb2, hc⟩
    have hr2 := (hr.over hb (Nat.le_refl _)).over hb2 (Nat.le_refl _)
    have hm2 := hrd.over hb2 (Nat.le_refl _)
    have hbw : Below w.heap.size w w2 := hb.trans (hb2.mono hb.size)
    have HA := Lib.hid hall; clear hall
    go_wp2_with fail
    go_loop [9, 10] (fun t i => ∃ k : Nat, k ≤ len0 ∧ i = .int .i64 k ∧ t = .int .i64 (topTo zs k)) (fun _ i => len0 - (intOf i).toNat)
    case atStart => exact ⟨0, Nat.zero_le _, rfl, rfl⟩
    case round =>
      obtain ⟨k, hk, rfl, rfl⟩ := hrel
      by_cases hlt : k < len0
      · obtain ⟨b1, o1, rfl, _, hc1⟩ := hr2.get hlt
        obtain ⟨b2, o2, rfl, _, hc2⟩ := hm2.get hlt
        have e2 : (rateL a1 zs len0).getD k 0 = rateTo a1 zs (k + 1) := by unfold rateL; exact at0_tab hlt
        rw [e2] at hc2
        clear e2
        have hbd := rateTo_top a1 zs (k + 1) fun i hi => (HA.out i (by omega)).1
        have htop := topTo_bd zs 1000000 (by omega) k fun i hi => (HA.out i (by omega)).2
        have hx := HA.out k hlt
        have HT : Hid (topTo zs (k + 1) = max (topTo zs k) (zs.getD k 0)) := rfl
        generalize hy : rateTo a1 zs (k + 1) = y at *
        generalize hz : zs.getD k 0 = x at *
        generalize hv : topTo zs (k + 1) = v at *
        generalize hu : topTo zs k = u at *
        have H1 := Lib.hid hy; have H2 := Lib.hid hz; have H3 := Lib.hid hv; have H4 := Lib.hid hu
        have hmax : v = max u x := HT.out
        by_cases hux : u < x
        · obtain rfl : v = x := by omega
          clear hy hz hv hu hmax
          have hy1 : 0 ≤ y := hbd.1
          have hy2 : y ≤ 1000 * v := hbd.2
          clear hbd
          go_wp2_with fail
          go_round
          case rel => exact ⟨k + 1, by omega, by go_num, by rw [H3.out]⟩
          case measure => simp [intOf]; omega
        · obtain rfl : v = u := by omega
          clear hy hz hv hu hmax
          have hy1 : 0 ≤ y := hbd.1
          have hy2 : y ≤ 1000 * v := hbd.2
          clear hbd
          go_wp2_with fail
          go_round
          case rel => exact ⟨k + 1, by omega, by go_num, by rw [H3.out]⟩
          case measure => simp [intOf]; omega
      · obtain rfl : k = len0 := by omega
        go_wp2_with fail
        go_ret
        exact ⟨rfl, hbw⟩
end Go.Proofs.Ytjjmfgoeabmfdaa
