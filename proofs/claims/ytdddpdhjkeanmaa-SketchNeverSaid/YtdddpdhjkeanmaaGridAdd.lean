/-
  The grid: Add.
-/
import Derived.Test.YtdddpdhjkeanmaaGrid
import Derived.Deep.CutRange
import Derived.Deep.CutBlock
namespace Go.Proofs.Ytdddpdhjkeanmaa
open Go.RowKit
set_option linter.unusedVariables false
/-- what stands in the cells when the keys L were added -/
def gridV (cells : Nat) (L : List Int) (i : Nat) : Int := Pl.cntBy (hashF cells (i / cells)) L ((i % cells : Nat) : Int)
theorem gridV_bd (cells : Nat) (L : List Int) (i : Nat) : 0 ≤ gridV cells L i ∧ gridV cells L i ≤ L.length := Pl.cntBy_le _ _ _
/-- on the way: the rows below r have the key -/
def addV (cells : Nat) (L : List Int) (key : Int) (r : Nat) (i : Nat) : Int := gridV cells L i + if i / cells < r ∧ hashF cells (i / cells) key = ((i % cells : Nat) : Int) then 1 else 0
theorem addV_zero (cells : Nat) (L : List Int) (key : Int) (i : Nat) : gridV cells L i = addV cells L key 0 i := by unfold addV; rw [if_neg (fun h => Nat.not_lt_zero _ h.1)]; omega
theorem addV_all (rows cells : Nat) (L : List Int) (key : Int) (i : Nat) (hi : i < rows * cells) : addV cells L key rows i = gridV cells (L ++ [key]) i := by
  have h1 : i / cells < rows := Nat.div_lt_of_lt_mul (by rw [Nat.mul_comm]; exact hi)
  unfold addV gridV
  rw [Pl.cntBy_snoc]
  by_cases h : hashF cells (i / cells) key = ((i % cells : Nat) : Int)
  · rw [if_pos ⟨h1, h⟩, if_pos h]
  · rw [if_neg (fun x => h x.2), if_neg h]
theorem idx_div {cells r h : Nat} (hh : h < cells) : (r * cells + h) / cells = r ∧ (r * cells + h) % cells = h := by
  have hc : 0 < cells := by omega
  constructor
  · rw [Nat.mul_comm, Nat.mul_add_div hc, Nat.div_eq_of_lt hh]; omega
  · rw [Nat.mul_comm, Nat.mul_add_mod]; exact Nat.mod_eq_of_lt hh
theorem addV_at (cells : Nat) (L : List Int) (key : Int) (r h : Nat) (hh : h < cells) : addV cells L key r (r * cells + h) = gridV cells L (r * cells + h) := by
  unfold addV
  rw [(idx_div hh).1, if_neg (fun x => Nat.lt_irrefl _ x.1)]; omega
theorem addV_step (cells : Nat) (L : List Int) (key : Int) (r h : Nat) (hh : h < cells) (he : hashF cells r key = h) (i : Nat) :
    (if i = r * cells + h then gridV cells L (r * cells + h) + 1 else addV cells L key r i) = addV cells L key (r + 1) i := by
  by_cases e : i = r * cells + h
  · subst e
    rw [if_pos rfl]
    unfold addV
    rw [(idx_div hh).1, (idx_div hh).2, if_pos ⟨by omega, he⟩]
  · rw [if_neg e]
    unfold addV
    by_cases h1 : i / cells = r
    · have hne : ¬ hashF cells (i / cells) key = ((i % cells : Nat) : Int) := fun x => by
        rw [h1, he] at x
        have h3 : h = i % cells := by exact_mod_cast x
        have := Nat.div_add_mod i cells
        rw [h1, ← h3, Nat.mul_comm] at this
        exact e this.symm
      rw [if_neg (fun x => hne x.2), if_neg (fun x => hne x.2)]
    · by_cases h2 : i / cells < r
      · have e2 : (i / cells < r ∧ hashF cells (i / cells) key = ((i % cells : Nat) : Int)) ↔ (i / cells < r + 1 ∧ hashF cells (i / cells) key = ((i % cells : Nat) : Int)) := ⟨fun x => ⟨by omega, x.2⟩, fun x => ⟨h2, x.2⟩⟩
        simp only [e2]
      · rw [if_neg (fun x => h2 x.1), if_neg (fun x => by omega)]
theorem wrap_mul_nat (a b : Nat) (h : a * b ≤ 1000000) : wrap64 ((a : Int) * (b : Int)) = ((a * b : Nat) : Int) := by
  have e0 : (a : Int) * (b : Int) = ((a * b : Nat) : Int) := by simp
  rw [e0]
  generalize a * b = q at *
  exact IntWalk.wrap64_in _ (by omega)
theorem wrap_add_nat (a b : Nat) (h : a + b ≤ 1000000) : wrap64 ((a : Int) + (b : Int)) = ((a + b : Nat) : Int) := by
  rw [IntWalk.wrap64_in _ (by omega)]; simp
def AddOut (w : World) (g ga rows cells : Nat) (V : Nat → Int) (e : Ending) (w' : World) : Prop := e = .returned (.tuple #[]) ∧ Hid (GridM w' g ga rows cells V ∧ Chg w w' (fun i => i = ga))
set_option maxHeartbeats 4000000 in
set_option maxRecDepth 100000 in
theorem add_any (g ga rows cells : Nat) (L : List Int) (key : Int) (w : World) (h : GridM w g ga rows cells (gridV cells L)) (hL : L.length ≤ 1000000) :
    Calls Try.prog 11 #[.pointer (some ⟨g, 0, none⟩), .int .i64 key] w (AddOut w g ga rows cells (gridV cells (L ++ [key]))) := by
  have hm := mul_bd h.r h.c
  have hr := h.r; have hc := h.c
  have c0 := h.blk.cell 0
  simp at c0
  have h0 : GridM w g ga rows cells (addV cells L key 0) := h.congr fun i _ => addV_zero _ _ _ _
  have H0 := Lib.hid h0
  have hne := h.ne
  clear h h0
  go_enter Try.func11, Try.ntmps11
  go_wp2_with fail
  go_loopw [4, 11] (fun _ i wr => ∃ r : Nat, r ≤ rows ∧ i = .int .i64 r ∧ GridM wr g ga rows cells (addV cells L key r) ∧ Chg w wr (fun i => i = ga)) (fun _ i _ => rows - (intOf i).toNat)
  case atStart => exact ⟨0, Nat.zero_le _, rfl, H0.out, Chg.refl _ _⟩
  case round =>
    obtain ⟨r, hrr, rfl, hg, hch⟩ := hrel
    have HG := Lib.hid hg; have HCH := Lib.hid hch
    by_cases hlt : r < rows
    · have ir : (r : Int) < (rows : Int) := by omega
      have hcell := fun W hW => cell_any g rows cells (.slice (some ⟨ga, 0, none⟩) (rows * cells) (rows * cells)) r key W hW hlt hc hr.2
      obtain ⟨hb1, hb2⟩ := hash_bd cells r key hc
      obtain ⟨hh, hhe⟩ : ∃ hh : Nat, hashF cells r key = hh := ⟨(hashF cells r key).toNat, by omega⟩
      have hhl : hh < cells := by omega
      have hj : r * cells + hh < rows * cells := by
        have := Nat.mul_le_mul_right cells (show r + 1 ≤ rows from hlt)
        rw [Nat.add_mul, Nat.one_mul] at this
        omega
      clear hb1 hb2
      have hstep := addV_step cells L key r hh hhl hhe
      have hat := addV_at cells L key r hh hhl
      have hbd := gridV_bd cells L (r * cells + hh)
      rw [hhe] at hcell
      have c0 := hg.blk.cell 0; have c1 := hg.blk.cell 1; have c2 := hg.blk.cell 2
      simp at c0 c1 c2
      have a0 := hg.arr.cell hj
      have fa := hg.arr.frozen (r * cells + hh)
      rw [hat] at a0
      have hfin : GridM ((wr.setCell ⟨ga, r * cells + hh, none⟩ (.int .i64 (gridV cells L (r * cells + hh) + 1))).drew) g ga rows cells (addV cells L key (r + 1)) ∧ Chg w ((wr.setCell ⟨ga, r * cells + hh, none⟩ (.int .i64 (gridV cells L (r * cells + hh) + 1))).drew) (fun i => i = ga) := by
        have hc1 : Chg wr (wr.setCell ⟨ga, r * cells + hh, none⟩ (.int .i64 (gridV cells L (r * cells + hh) + 1))) (fun i => i = ga) := Chg.setCell (p := ⟨ga, r * cells + hh, none⟩) (Chg.refl _ (fun i => i = ga)) (fun _ => rfl) _
        have hc2 := hch.trans hc1 (fun i _ e => e)
        have hc3 : Chg wr (wr.setCell ⟨ga, r * cells + hh, none⟩ (.int .i64 (gridV cells L (r * cells + hh) + 1))).drew (fun i => i = ga) := ⟨hc1.os, hc1.tape, hc1.output, hc1.size, hc1.block⟩
        refine ⟨⟨hg.blk.chg hc3 hne, (hg.arr.set_ hj _).congr (fun i _ => hstep i), hne, hr, hc⟩, ⟨hc2.os, hc2.tape, hc2.output, hc2.size, hc2.block⟩⟩
      have HST := Lib.hid hstep; have HHE := Lib.hid hhe; have HF := Lib.hid hfin
      clear hfin
      have hcw := hcell wr.drew hg.blk
      have HC := Lib.hid hcw
      have hle : r * cells + hh ≤ 1000000 := Nat.le_trans (Nat.le_of_lt hj) (Nat.le_trans hm (by decide))
      have ev1 := wrap_mul_nat r cells (Nat.le_trans (Nat.le_add_right _ _) hle)
      have ev2 := wrap_add_nat (r * cells) hh hle
      rw [← IntWalk.i64_left] at ev1 ev2
      clear hg hch hcell hhe hstep hat hcw
      generalize gridV cells L (r * cells + hh) = v at *
      have ev3 : IntKind.i64.wrap (v + 1) = v + 1 := IntWalk.i64_in _ (by omega)
      clear hle
      generalize hrc : r * cells = rc at *
      generalize hm2 : rows * cells = m at *
      generalize hjj : rc + hh = j at *
      have ij : (j : Int) < (m : Int) := by omega
      clear hjj
      go_upto_region 4 with fail
      go_region_law ((go_simp; go_at_call 15; (with_reducible refine HC.out.mono ?_); rintro e w' ⟨rfl, hw'⟩; subst w'))
      all_goals
        go_wp2_with fail
        exact ⟨⟨r + 1, by omega, by go_num, HF.out.1, HF.out.2⟩, by simp [intOf]; omega⟩
    · obtain rfl : r = rows := by omega
      have hfin := HG.out.congr (fun i hi => addV_all r cells L key i hi)
      have HFIN := Lib.hid hfin
      clear hg hfin hch
      go_wp2_with fail
      exact bodyPost_end (results_none rfl _ _ _) rfl ⟨rfl, Lib.hid ⟨HFIN.out, HCH.out⟩⟩
end Go.Proofs.Ytdddpdhjkeanmaa
