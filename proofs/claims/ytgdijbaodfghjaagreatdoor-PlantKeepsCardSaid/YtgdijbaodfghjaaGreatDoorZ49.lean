/-
  Texts of this claim, one behind the other: PlantKeepsWalk.
-/
import Derived.Test.YtgdijbaodfghjaaGreatDoorZ41
import Derived.Test.YtgdijbaodfghjaaGreatDoorZ47
/-
  The law PlantKeeps: its walk.
-/
namespace Go.Proofs.YtgdijbaodfghjaaGreatDoor
open Go.RowKit Bkt
set_option linter.unusedVariables false
set_option maxHeartbeats 4000000 in
set_option maxRecDepth 100000 in
theorem plantKeeps_core (text : List UInt8) (Ax : Option Addr) (cx : Nat) (tape : List Int) (Al : Option Addr) (n cl : Nat) (l : List Pl.Stp) (w : World) (hv : Pv w) (htp : RdI w w.heap.size Ax tape.length tape) (hr : RdR StR w w.heap.size Al n l) :
    Calls Tryz.prog 6 #[.string ⟨text.toArray⟩, .slice Ax tape.length cx, .slice Al n cl] w fun e w' => e = .returned (.bool true) ∧ Below w.heap.size w w' := by
  by_cases c1 : text.length ≤ 600
  rotate_left
  · have d1 : decide ((600 : Int) < (text.length : Int)) = true := decide_eq_true (by omega)
    clear hv htp hr
    go_enter Tryz.func6, Tryz.ntmps6
    go_wp2_with fail
    go_ret
    exact ⟨rfl, Below.refl _ _⟩
  have d1 : decide ((600 : Int) < (text.length : Int)) = false := decide_eq_false (by omega)
  by_cases c2 : tape.length ≤ 200
  rotate_left
  · have d2 : decide ((200 : Int) < (tape.length : Int)) = true := decide_eq_true (by omega)
    clear hv htp hr
    go_enter Tryz.func6, Tryz.ntmps6
    go_wp2_with fail
    go_ret
    exact ⟨rfl, Below.refl _ _⟩
  have d2 : decide ((200 : Int) < (tape.length : Int)) = false := decide_eq_false (by omega)
  by_cases c3 : n ≤ 120
  rotate_left
  · have d3 : decide ((120 : Int) < (n : Int)) = true := decide_eq_true (by omega)
    clear hv htp hr
    go_enter Tryz.func6, Tryz.ntmps6
    go_wp2_with fail
    go_ret
    exact ⟨rfl, Below.refl _ _⟩
  have d3 : decide ((120 : Int) < (n : Int)) = false := decide_eq_false (by omega)
  have hbz := busy_any text (by omega) w
  have HBZ := Lib.hid hbz; have HV := Lib.hid hv; have HTP := Lib.hid htp; have HR := Lib.hid hr
  clear hbz hv htp hr
  go_enter Tryz.func6, Tryz.ntmps6
  go_wp2_with fail
  (with_reducible refine HBZ.out.mono ?_)
  rintro e w1 hbz
  unfold BusyOut at hbz
  obtain ⟨⟨b, rfl⟩, hb1⟩ := hbz
  have HB1 := Lib.hid hb1
  clear hb1
  cases b with
  | true =>
    go_wp2_with fail
    go_ret
    exact ⟨rfl, HB1.out⟩
  | false =>
  have hpa := parse_p text (by omega) Ax cx tape w1 (HV.out.below HB1.out HV.out.sz) (HTP.out.over HB1.out (Nat.le_refl _)) (by omega)
  have HPA := Lib.hid hpa
  clear hpa HBZ
  go_wp2_with fail
  (with_reducible refine HPA.out.mono ?_)
  rintro e w2 (⟨P, v, F, hP, rfl, hqv, h2⟩ | ⟨hno, T, x, rfl, h2⟩)
  · obtain ⟨T, gv, rfl⟩ := hqv
    obtain ⟨hpk, hb2, hF⟩ := h2.out
    have hb02 := HB1.out.trans (hb2.mono HB1.out.size)
    have HPL := Lib.hid (planted_yes w2 (HV.out.below hb02 HV.out.sz))
    have HPK := Lib.hid hpk; have HB2 := Lib.hid hb02; have HF := Lib.hid hF
    have hsz := HB1.out.size
    clear hpk hb2 hF h2 hb02 hP HPA
    go_wp2_with fail
    (with_reducible refine HPL.out.mono ?_)
    rintro e w3 ⟨rfl, hb3⟩
    have hb03 := HB2.out.trans (hb3.mono HB2.out.size)
    have hr3 := HR.out.over hb03 (Nat.le_refl _)
    have hpl := play_pk Al n cl l w3 (HPK.out.below hb3) hr3 (by omega)
    have HB3 := Lib.hid hb03; have HPY := Lib.hid hpl
    clear hb3 hb03 hr3 hpl HPL
    go_wp2_with (go_at_call 19; (with_reducible refine HPY.out.mono ?_); rintro e w4 ⟨As, cs, rfl, h4⟩; have hb04 : Below w.heap.size w w4 := HB3.out.trans (h4.out.2.below HB3.out.size (fun i hi e => by have := HF.out i e; omega)); have HB4 := Lib.hid hb04; have HSN := Lib.hid h4.out.1; clear hb04 h4)
    have hr4 := HR.out.over HB4.out (Nat.le_refl _)
    have hll := HR.out.len
    have hok := Pl.times_ok l
    have htl := Pl.timesTo_len l n (by omega)
    have hgd := (Pl.good_left P.qb.good.weak P.hI P.w0 (l := Pl.timesTo l n) (by rw [show n = l.length by omega]; exact hok) n).2
    have hly := left_yes Al n cl l As cs _ true w4 hr4 HSN.out (by omega) (fun i hi => by have := Pl.good_lost P.qb.good P.hI P.w0 (l := Pl.timesTo l n) (by rw [show n = l.length by omega]; exact hok) i; omega) (by obtain ⟨S, h, _⟩ := hgd; exact ⟨S, h⟩)
    have HLY := Lib.hid hly
    clear hr4 hll hok htl hgd hly HSN
    (with_reducible refine HLY.out.mono ?_)
    rintro e w5 ⟨rfl, hb5⟩
    have HB5 := Lib.hid (HB4.out.trans (hb5.mono HB4.out.size))
    clear hb5
    go_wp2_with fail
    go_ret
    exact ⟨rfl, HB5.out⟩
  · have hb02 := HB1.out.trans (h2.out.mono HB1.out.size)
    have HPL := Lib.hid (planted_yes w2 (HV.out.below hb02 HV.out.sz))
    have HB2 := Lib.hid hb02
    clear hb02 h2 hno HPA
    go_wp2_with fail
    (with_reducible refine HPL.out.mono ?_)
    rintro e w3 ⟨rfl, hb3⟩
    have hb03 := HB2.out.trans (hb3.mono HB2.out.size)
    have HPL2 := Lib.hid (planted_yes w3 (HV.out.below hb03 HV.out.sz))
    have HB3 := Lib.hid hb03
    clear hb03 hb3 HPL
    go_wp2_with fail
    (with_reducible refine HPL2.out.mono ?_)
    rintro e w4 ⟨rfl, hb4⟩
    have HB4 := Lib.hid (HB3.out.trans (hb4.mono HB3.out.size))
    clear hb4
    go_wp2_with fail
    go_ret
    exact ⟨rfl, HB4.out⟩
end Go.Proofs.YtgdijbaodfghjaaGreatDoor
