/-
  The walk of the law ItemTakesMore.
-/
import Derived.Test.YtdhojhgmaodifaaDoorListed
import Derived.Test.YtdhojhgmaodifaaDoorTakes
import Derived.Test.YtdhojhgmaodifaaDoorPick
import Derived.Test.YtdhojhgmaodifaaDoorHeld
import Derived.Deep.RegionHeld3
namespace Go.Proofs.YtdhojhgmaodifaaDoor
open Go.RowKit Bkt
set_option linter.unusedVariables false

set_option maxHeartbeats 2000000 in
set_option maxRecDepth 100000 in
theorem itemTakesMore_core (b t p q : Int) (w : World) (hg : Handle w) (hp : -9223372036854775808 ≤ p ∧ p ≤ 9223372036854775807) (hq : -9223372036854775808 ≤ q ∧ q ≤ 9223372036854775807) :
    Calls Tryd.prog 3 #[.agg #[.int .i64 b, .int .i64 t], .int .i64 p, .int .i64 q] w fun e w' => e = .returned (.bool true) ∧ Below w.heap.size w w' := by
  have HG := Lib.hid hg; have HP := Lib.hid hp; have HQ := Lib.hid hq
  clear hg hp hq
  by_cases hs : SpeedOk b t
  · have htk := fun n W h0 h1 => takes_any b t n W hs h0 h1
    have hlaw := fun m n hm hn => takes_law b t m n hs.1.1 hs.2.1 hm hn
    have hhi := fun n (h0 : 0 ≤ n) (h1 : n ≤ 20000) => takes_hi (N := 20000) hs.1.1 hs.2.1 h0 hs.2.2 h1
    have HT := Lib.hid htk; have HW := Lib.hid hlaw; have HS := Lib.hid hs; have HH := Lib.hid hhi
    clear htk hlaw hs hhi
    go_enter Tryd.func3, Tryd.ntmps3
    go_wp2_with fail
    have hb0 : Below w.heap.size w (w.alloc (.cells #[.int .i64 b, .int .i64 t] 23)) := (Below.refl _ w).alloc (Nat.le_refl _) _
    refine (listed_any _ (HG.out.below hb0)).mono ?_
    rintro e w1 ⟨rfl, hb1⟩
    have s0 : w1.cell? ⟨w.heap.size, 0, none⟩ = some (.int .i64 b) := (hb1.cell (p := ⟨w.heap.size, 0, none⟩) (by simp)).trans (by simp)
    have s1 : w1.cell? ⟨w.heap.size, 1, none⟩ = some (.int .i64 t) := (hb1.cell (p := ⟨w.heap.size, 1, none⟩) (by simp)).trans (by simp)
    have hbw := hb0.trans (hb1.mono (by simp))
    clear hb0 hb1
    go_wp2_with fail
    refine (speed_yes b t w1 HS.out).mono ?_
    rintro e w2 ⟨rfl, hb2⟩
    have hl1 : w.heap.size < w1.heap.size := lt_of_cell s0
    replace s0 := (hb2.cell (p := ⟨w.heap.size, 0, none⟩) hl1).trans s0
    replace s1 := (hb2.cell (p := ⟨w.heap.size, 1, none⟩) hl1).trans s1
    replace hbw := hbw.trans (hb2.mono hbw.size)
    clear hb2 hl1
    go_wp2_with fail
    refine (pick_any p 10000 w2 (by omega) (by omega) HP.out.1 HP.out.2).mono ?_
    rintro e w' ⟨m, hm0, hm1, rfl, rfl⟩
    go_wp2_with fail
    refine (pick_any q 10000 w2 (by omega) (by omega) HQ.out.1 HQ.out.2).mono ?_
    rintro e w' ⟨n, hn0, hn1, rfl, rfl⟩
    go_wp2_with fail
    obtain ⟨l1, l2, l3, l4, l5⟩ := HW.out m n hm0 hn0
    have h1 := HH.out m hm0 (by omega)
    have h2 := HH.out n hn0 (by omega)
    have h3 := HH.out (m + n) (by omega) (by omega)
    have c1 := fun W => HT.out m W hm0 (by omega)
    have c2 := fun W => HT.out n W hn0 (by omega)
    have c3 := fun W => HT.out (m + n) W (by omega) (by omega)
    have c4 := fun W => HT.out 1 W (by omega) (by omega)
    have C1 := Lib.hid c1; have C2 := Lib.hid c2; have C3 := Lib.hid c3; have C4 := Lib.hid c4
    clear c1 c2 c3 c4
    generalize takes b t m = x at *
    generalize takes b t n = y at *
    generalize takes b t (m + n) = z at *
    generalize takes b t 1 = o at *
    have hS : ∀ wy, Below w2.heap.size w2 wy → wy.cell? ⟨w.heap.size, 0, none⟩ = some (.int .i64 b) ∧ wy.cell? ⟨w.heap.size, 1, none⟩ = some (.int .i64 t) ∧ Below w2.heap.size w2 wy := fun wy hw =>
      have hlt : w.heap.size < w2.heap.size := lt_of_cell s0
      ⟨(hw.cell (p := ⟨w.heap.size, 0, none⟩) hlt).trans s0, (hw.cell (p := ⟨w.heap.size, 1, none⟩) hlt).trans s1, hw⟩
    have HSS := Lib.hid hS; clear hS
    have HBW := Lib.hid hbw; clear hbw
    have e1 : IntKind.i64.wrap (m + n) = m + n := IntWalk.i64_in _ (by omega)
    go_region_held3 (fun wx => wx.cell? ⟨w.heap.size, 0, none⟩ = some (.int .i64 b) ∧ wx.cell? ⟨w.heap.size, 1, none⟩ = some (.int .i64 t) ∧ Below w2.heap.size w2 wx)
      ((refine HSS.out _ ?_; (repeat (first | assumption | exact Below.refl _ _ | apply bl_drew | apply bl_drewN | apply bl_alloc | (refine bl_next ?_ (by assumption))))))
      (first
        | (((with_reducible refine (C1.out _).mono ?_); rintro e w4 ⟨rfl, hb4⟩))
        | (((with_reducible refine (C2.out _).mono ?_); rintro e w5 ⟨rfl, hb5⟩))
        | (((with_reducible refine (C3.out _).mono ?_); rintro e w6 ⟨rfl, hb6⟩))
        | fail)
    all_goals
      clear e1
      rename_i hsum
      have hbx : ∀ wy, Below w2.heap.size w2 wy → Below w.heap.size w wy := fun wy h => HBW.out.trans (h.mono HBW.out.size)
      obtain ⟨r0, r1, hbl⟩ := hsum
      go_wp2_with fail
      refine (C4.out _).mono ?_
      rintro e w7 ⟨rfl, hb7⟩
      go_wp2_with fail
      go_ret
      refine ⟨rfl, hbx _ ?_⟩
      (repeat (first | assumption | exact Below.refl _ _ | apply bl_drew | apply bl_drewN | apply bl_alloc | (refine bl_next ?_ (by assumption))))
  · go_enter Tryd.func3, Tryd.ntmps3
    go_wp2_with fail
    have hb0 : Below w.heap.size w (w.alloc (.cells #[.int .i64 b, .int .i64 t] 23)) := (Below.refl _ w).alloc (Nat.le_refl _) _
    refine (listed_any _ (HG.out.below hb0)).mono ?_
    rintro e w1 ⟨rfl, hb1⟩
    have s0 : w1.cell? ⟨w.heap.size, 0, none⟩ = some (.int .i64 b) := (hb1.cell (p := ⟨w.heap.size, 0, none⟩) (by simp)).trans (by simp)
    have s1 : w1.cell? ⟨w.heap.size, 1, none⟩ = some (.int .i64 t) := (hb1.cell (p := ⟨w.heap.size, 1, none⟩) (by simp)).trans (by simp)
    have hbw := hb0.trans (hb1.mono (by simp))
    clear hb0 hb1
    go_wp2_with fail
    refine (speed_no b t w1 hs).mono ?_
    rintro e w2 ⟨kk, rfl, hb2⟩
    replace hbw := hbw.trans (hb2.mono hbw.size)
    clear hb2 s0 s1
    go_wp2_with fail
    refine (listed_any w2 (HG.out.below hbw)).mono ?_
    rintro e w3 ⟨rfl, hb3⟩
    go_wp2_with fail
    go_ret
    exact ⟨rfl, hbw.trans (hb3.mono hbw.size)⟩
end Go.Proofs.YtdhojhgmaodifaaDoor
