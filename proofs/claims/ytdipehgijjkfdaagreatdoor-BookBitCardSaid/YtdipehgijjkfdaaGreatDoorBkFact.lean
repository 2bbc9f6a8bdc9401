/-
  The fact 'booked'.
-/
import Derived.Test.YtdipehgijjkfdaaGreatDoorBkHas
namespace Go.Proofs.YtdipehgijjkfdaaGreatDoor
open Go.RowKit Go.Maps Go.Sort Go.Shelf
set_option linter.unusedVariables false
def x1 : Bo.Ln := ⟨[120], 3⟩
theorem x1_ok : Bo.addOk 0 x1 = true := by decide +kernel
theorem x1_all : Bo.AllOk 0 [x1] := ⟨x1_ok, trivial⟩
theorem x1_len : 5 ≤ (Bo.dataF 0 [x1]).length ∧ (Bo.dataF 0 [x1]).length ≤ 40 := by
  have := Bo.line_len x1_ok (by decide)
  simpa [Bo.dataF] using this
theorem x1_cnt : Bo.cntL [x1] [120] = 3 := by decide
set_option maxHeartbeats 2000000 in
set_option maxRecDepth 100000 in
theorem booked_any (w : World) (hv : Pv w) : Calls Tryz.prog 9 #[] w fun e w' => e = .returned (.bool true) ∧ Below w.heap.size w w' := by
  have hb0 : Below w.heap.size w (w.alloc (.cells #[.map none, .int .i64 0, .slice none 0 0, .int .i64 0] 43)) := (Below.refl _ _).alloc (Nat.le_refl _) _
  have hadd := add_any w.heap.size w.heap.size [] 0 none (.slice none 0 0) [120] 3 _ (BkM.new w _ (Nat.le_refl _)) (hv.below hb0 hv.sz) (by decide) (by decide) (by decide) hv.sz
  have HADD := Lib.hid hadd; have HV := Lib.hid hv; have HB0 := Lib.hid hb0
  clear hadd hv hb0
  go_enter Tryz.func9, Tryz.ntmps9
  go_wp2_with fail
  (with_reducible refine HADD.out.mono ?_)
  rintro e w1 ⟨r, rfl, h1 | h1⟩
  rotate_left
  · exact absurd h1.1 (by show ¬ Bo.addOk 0 x1 = false; rw [x1_ok]; decide)
  obtain ⟨_, rfl, h2⟩ := h1
  obtain ⟨mv, dv, hbk, hch⟩ := h2.out
  have hb1 : Below w.heap.size w w1 := HB0.out.trans (hch.below (by simp) (fun i hi hS => by
    rcases hS with e | e | e
    · omega
    · cases e
    · cases e))
  have hbk1 : BkM w1 w.heap.size w.heap.size [x1] 0 mv dv := hbk
  have hget := get_any _ _ _ _ _ _ [120] w1 hbk1 (by decide)
  rw [x1_cnt] at hget
  have hsync := sync_any _ _ _ _ _ _ w1 hbk1
  have HG := Lib.hid hget; have HS := Lib.hid hsync; have HB1 := Lib.hid hb1
  clear hget hsync hb1 hbk hbk1 hch h2 HADD HB0
  go_wp2_with fail
  (with_reducible refine HG.out.mono ?_)
  rintro e w2 ⟨rfl, rfl⟩
  go_wp2_with fail
  (with_reducible refine HS.out.mono ?_)
  rintro e w3 ⟨rfl, h3⟩
  obtain ⟨hbk3, hc3⟩ := h3.out
  have hb3 : Below w.heap.size w w3 := HB1.out.trans (hc3.below HB1.out.size (fun i hi e => by omega))
  have hcr := crash_any _ _ _ _ _ _ 0 w3 hbk3 (by decide) (by decide)
  have HCR := Lib.hid hcr; have HB3 := Lib.hid hb3
  clear hcr hb3 hbk3 hc3 h3 HG HS HB1
  go_wp2_with fail
  (with_reducible refine HCR.out.mono ?_)
  rintro e w4 (⟨_, _, v, rfl, h4⟩ | ⟨h4, _⟩)
  rotate_left
  · exact absurd ⟨by decide, by omega⟩ h4
  obtain ⟨ho4, hb4⟩ := h4.out
  have hlen : (Bo.dataF 0 [x1]).length + (0 : Int).toNat = (Bo.dataF 0 [x1]).length := by simp
  rw [hlen, List.take_length] at ho4
  obtain ⟨A, c, rfl, _⟩ := own_reads ho4
  have hb34 : Below w.heap.size w w4 := HB3.out.trans (hb4.mono HB3.out.size)
  have hop := open_any w3.heap.size _ _ (Bo.dataF 0 [x1]) [x1] [] w4 ho4 (by simp) x1_all (Bo.read_none (by simp)) (by have := x1_len; omega) (HV.out.below hb34 HV.out.sz)
  have HOP := Lib.hid hop; have HB4 := Lib.hid hb34
  have hL := x1_len
  clear hop hb34 ho4 hb4 h4 hlen HCR HB3
  generalize hn : (Bo.dataF 0 [x1]).length = n at *
  go_wp2_with fail
  (with_reducible refine HOP.out.mono ?_)
  rintro e w5 ⟨g, rfl, h5⟩
  rw [hn] at h5
  obtain ⟨mv5, dv5, hbk5, hb5⟩ := h5.out
  have hget := get_any _ _ _ _ _ _ [120] w5 hbk5 (by decide)
  rw [x1_cnt] at hget
  have hb6 := HB4.out.trans (hb5.mono HB4.out.size)
  have HG := Lib.hid hget; have HB6 := Lib.hid hb6
  clear hget hb6 hbk5 hb5 h5 HOP HB4
  rw [hn]
  clear hn
  have hpos : (0 : Int) < n := by omega
  have d3 : decide ((0 : Int) < n) = true := decide_eq_true hpos
  go_wp2_with fail
  (with_reducible refine HG.out.mono ?_)
  rintro e w6 ⟨rfl, rfl⟩
  go_wp2_with fail
  go_ret
  exact ⟨rfl, HB6.out⟩
end Go.Proofs.YtdipehgijjkfdaaGreatDoor
