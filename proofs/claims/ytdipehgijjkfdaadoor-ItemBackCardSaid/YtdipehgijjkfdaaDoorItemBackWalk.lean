/-
  ItemBack: the walk.
-/
import Derived.Test.YtdipehgijjkfdaaDoorItParse
import Derived.Test.YtdipehgijjkfdaaDoorListed
import Derived.BigQuiet
import Derived.Deep.QuietTactic
namespace Go.Proofs.YtdipehgijjkfdaaDoor
open Go.RowKit Bkt
set_option linter.unusedVariables false
set_option maxHeartbeats 4000000 in
set_option maxRecDepth 100000 in
theorem itemBack_core (A : Option Addr) (n c : Nat) (l : List It) (w : World) (hr : RdIt w w.heap.size A n l) (hv : PvN w) (hg : Handle w) :
    Calls Tryd.prog 3 #[.slice A n c] w fun e w' => e = .returned (.bool true) ∧ Below w.heap.size w w' := by
  have hl := hr.len
  have HR := Lib.hid hr; have HV := Lib.hid hv; have HG := Lib.hid hg; have HL := Lib.hid hl
  clear hr hv hg hl
  by_cases hbig : 120 < n
  · have d0 : decide ((120 : Int) < (n : Int)) = true := decide_eq_true (by omega)
    go_enter Tryd.func3, Tryd.ntmps3
    go_wp2_with fail
    go_ret
    exact ⟨rfl, Below.refl _ _⟩
  · have d0 : decide ((120 : Int) < (n : Int)) = false := decide_eq_false (by omega)
    have HLD := Lib.hid (listed_any w HG.out)
    go_enter Tryd.func3, Tryd.ntmps3
    go_wp2_with fail
    (with_reducible refine HLD.out.mono ?_)
    rintro e w1 ⟨rfl, hb1⟩
    have HLS := Lib.hid (list_any A n c l w1 ((HR.out.over hb1 (Nat.le_refl _))) (HG.out.below hb1))
    have HB1 := Lib.hid hb1
    clear hb1 HLD
    go_wp2_with fail
    (with_reducible refine HLS.out.mono ?_)
    rintro e w2 (⟨hfine, rfl, hb2⟩ | ⟨hnot, T, v, rfl, hb2⟩)
    · have hbw2 := HB1.out.trans (hb2.mono HB1.out.size)
      have hn100 : n ≤ 100 := by have := hfine.1; rw [HL.out] at this; exact this
      have htx : ∀ W, Below w.heap.size w W → Calls Tryd.prog 9 #[.slice A n c] W fun e w' => e = .returned (.string ⟨(txT l).toArray⟩) ∧ Below W.heap.size W w' := fun W h =>
        text_it A n c l W (HR.out.over h (Nat.le_refl _)) (by omega) (fun i hi => hfine.2.1 i (by rw [HL.out]; exact hi)) (HV.out.over h)
      have HTX := Lib.hid htx; have HBW2 := Lib.hid hbw2; have HF := Lib.hid hfine
      clear hb2 hfine htx hbw2 HLS
      go_wp2_with fail
      (with_reducible refine (HTX.out _ HBW2.out).mono ?_)
      rintro e w3 ⟨rfl, hb3⟩
      have hbw3 := HBW2.out.trans (hb3.mono HBW2.out.size)
      have HPA := Lib.hid (parse_it l HF.out w3 (HV.out.over hbw3) (HG.out.below hbw3))
      have HBW3 := Lib.hid hbw3
      clear hb3 hbw3
      go_wp2_with fail
      (with_reducible refine HPA.out.mono ?_)
      rintro e w4 ⟨A4, c4, rfl, hr4, hb4⟩
      have hbw4 := HBW3.out.trans (hb4.mono HBW3.out.size)
      have hl := HL.out
      rw [hl] at hr4
      rw [hl]
      have HR4 := Lib.hid hr4; have HBW4 := Lib.hid hbw4
      clear hr4 hb4 hbw4 hl
      go_wp2_with fail
      go_loopw [5] (fun iv wr => ∃ i : Nat, i ≤ n ∧ iv = .int .i64 i ∧ Hid (Below w4.heap.size w4 wr)) (fun iv _ => n - (intOf iv).toNat)
      case atStart => exact ⟨0, Nat.zero_le _, rfl, Lib.hid (Below.refl _ _)⟩
      case round =>
        obtain ⟨i, hi, rfl, hx⟩ := hrel
        by_cases hlt : i < n
        · have hrw := HR.out.over (HBW4.out.trans (hx.out.mono HBW4.out.size)) (Nat.le_refl _)
          have hrm := HR4.out.over hx.out (Nat.le_refl _)
          obtain ⟨b, off, rfl, hbB⟩ := hrw.addr hlt
          obtain ⟨b', off', rfl, hbB'⟩ := hrm.addr hlt
          obtain ⟨c0, c1, c2, c3, c4'⟩ := hrw.cells hlt
          obtain ⟨m0, m1, m2, m3, m4⟩ := hrm.cells hlt
          have ii : (i : Int) < (n : Int) := by omega
          generalize ix l i = x at *
          have HX := Lib.hid hx.out
          clear hrw hrm hx
          go_upto_region 11 with fail
          go_quiet (fail)
          go_wp2_with fail
          exact ⟨⟨i + 1, by omega, by go_num, Lib.hid (below_drewN HX.out _)⟩, by simp [intOf]; omega⟩
        · obtain rfl : i = n := by omega
          have htm : ∀ W, Below w4.heap.size w4 W → Calls Tryd.prog 9 #[.slice A4 i c4] W fun e w' => e = .returned (.string ⟨(txT l).toArray⟩) ∧ Below W.heap.size W w' := fun W h =>
            text_it A4 i c4 l W (HR4.out.over h (Nat.le_refl _)) (by omega) (fun j hj => HF.out.2.1 j (by rw [HL.out]; exact hj)) (HV.out.over (HBW4.out.trans (h.mono HBW4.out.size)))
          have HTM := Lib.hid (htm _ hx.out); have HX := Lib.hid hx.out
          clear htm hx
          go_wp2_with fail
          (with_reducible refine HTM.out.mono ?_)
          rintro e w5 ⟨rfl, hb5⟩
          have hbw5 := HBW4.out.trans ((HX.out.trans (hb5.mono HX.out.size)).mono HBW4.out.size)
          have HT5 := Lib.hid (HTX.out _ hbw5); have HBW5 := Lib.hid hbw5
          clear hb5 hbw5
          go_wp2_with fail
          (with_reducible refine HT5.out.mono ?_)
          rintro e w6 ⟨rfl, hb6⟩
          have HBW6 := Lib.hid (HBW5.out.trans (hb6.mono HBW5.out.size))
          clear hb6
          go_wp2_with fail
          go_ret
          exact ⟨by simp, HBW6.out⟩
    · have hbw2 := HB1.out.trans (hb2.mono HB1.out.size)
      have HLD2 := Lib.hid (listed_any w2 (HG.out.below hbw2)); have HBW2 := Lib.hid hbw2
      clear hb2 hbw2 hnot
      go_wp2_with fail
      (with_reducible refine HLD2.out.mono ?_)
      rintro e w3 ⟨rfl, hb3⟩
      have HB3 := Lib.hid (HBW2.out.trans (hb3.mono HBW2.out.size))
      clear hb3
      go_wp2_with fail
      go_ret
      exact ⟨rfl, HB3.out⟩
end Go.Proofs.YtdipehgijjkfdaaDoor
