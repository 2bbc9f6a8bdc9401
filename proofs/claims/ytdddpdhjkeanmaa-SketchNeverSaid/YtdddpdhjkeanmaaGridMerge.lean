/-
  The grid: Merge.
-/
import Derived.Test.YtdddpdhjkeanmaaGridGuess
import Derived.RegionTactic
namespace Go.Proofs.Ytdddpdhjkeanmaa
open Go.RowKit
set_option linter.unusedVariables false
def mergeV (V U : Nat → Int) (k : Nat) (i : Nat) : Int := if i < k then V i + U i else V i
theorem mergeV_step (V U : Nat → Int) (k i : Nat) : (if i = k then V k + U k else mergeV V U k i) = mergeV V U (k + 1) i := by
  unfold mergeV
  by_cases h : i = k
  · subst h; rw [if_pos rfl, if_pos (by omega)]
  · rw [if_neg h]
    by_cases h2 : i < k
    · rw [if_pos h2, if_pos (by omega)]
    · rw [if_neg h2, if_neg (by omega)]
def MergeOut (w : World) (g ga rows cells : Nat) (V : Nat → Int) (e : Ending) (w' : World) : Prop := e = .returned .nilIface ∧ Hid (GridM w' g ga rows cells V ∧ Chg w w' (fun i => i = ga))
structure MgRel (w wr : World) (g ga o oa rows cells : Nat) (V U : Nat → Int) (k : Nat) : Prop where
  a : GridM wr g ga rows cells (mergeV V U k)
  b : GridM wr o oa rows cells U
  chg : Chg w wr (fun i => i = ga)
theorem GridM.drewN {w : World} {g ga rows cells : Nat} {V : Nat → Int} (h : GridM w g ga rows cells V) (q : Nat) : GridM (w.drewN q) g ga rows cells V := ⟨h.blk, h.arr, h.ne, h.r, h.c⟩
theorem MgRel.drewN {w wr : World} {g ga o oa rows cells : Nat} {V U : Nat → Int} {k : Nat} (h : MgRel w wr g ga o oa rows cells V U k) (q : Nat) : MgRel w (wr.drewN q) g ga o oa rows cells V U k :=
  ⟨h.a.drewN q, h.b.drewN q, ⟨h.chg.os, h.chg.tape, h.chg.output, h.chg.size, h.chg.block⟩⟩
set_option maxHeartbeats 4000000 in
set_option maxRecDepth 100000 in
theorem merge_any (g ga o oa rows cells : Nat) (V U : Nat → Int) (w : World) (h : GridM w g ga rows cells V) (h2 : GridM w o oa rows cells U) (n1 : oa ≠ ga) (n2 : o ≠ ga) (hV : ∀ i, 0 ≤ V i ∧ V i ≤ 1000000) (hU : ∀ i, 0 ≤ U i ∧ U i ≤ 1000000) :
    Calls Try.prog 13 #[.pointer (some ⟨g, 0, none⟩), .pointer (some ⟨o, 0, none⟩)] w (MergeOut w g ga rows cells (fun i => V i + U i)) := by
  have hm := mul_bd h.r h.c
  have hr := h.r; have hc := h.c
  have c0 := h.blk.cell 0; have c1 := h.blk.cell 1; have c2 := h.blk.cell 2
  have o0 := h2.blk.cell 0; have o1 := h2.blk.cell 1
  simp at c0 c1 c2 o0 o1
  have hne := h.ne
  have hrel0 : MgRel w w g ga o oa rows cells V U 0 := ⟨h.congr fun i _ => by unfold mergeV; rw [if_neg (by omega)], h2, Chg.refl _ _⟩
  have HREL0 := Lib.hid hrel0
  have HV := Lib.hid hV; have HU := Lib.hid hU
  clear h h2 hrel0 hV hU
  generalize hm2 : rows * cells = m at *
  go_enter Try.func13, Try.ntmps13
  go_upto_region 3 with fail
  go_quiet (fail)
  clear o0 o1 c0 c1
  go_wp2_with fail
  go_loopw [5, 39] (fun _ i wr => ∃ k : Nat, k ≤ m ∧ i = .int .i64 k ∧ MgRel w wr g ga o oa rows cells V U k) (fun _ i _ => m - (intOf i).toNat)
  case atStart => exact ⟨0, Nat.zero_le _, rfl, HREL0.out.drewN _⟩
  case round =>
    obtain ⟨k, hk, rfl, hrel⟩ := hrel
    have HREL := Lib.hid hrel
    clear hrel
    by_cases hlt : k < m
    · have ik : (k : Int) < (m : Int) := by omega
      have hk2 : k < rows * cells := by rw [hm2]; exact hlt
      have x2 := HREL.out.a.blk.cell 2; have y2 := HREL.out.b.blk.cell 2
      rw [hm2] at x2 y2
      simp at x2 y2
      have a0 := HREL.out.a.arr.cell hk2
      have b0 := HREL.out.b.arr.cell hk2
      have fa := HREL.out.a.arr.frozen k
      have e0 : mergeV V U k k = V k := by unfold mergeV; rw [if_neg (by omega)]
      rw [e0] at a0
      have hb1 := HV.out k; have hb2 := HU.out k
      have hfin : MgRel w ((wr.setCell ⟨ga, k, none⟩ (.int .i64 (V k + U k))).drew) g ga o oa rows cells V U (k + 1) := by
        have hc1 : Chg wr (wr.setCell ⟨ga, k, none⟩ (.int .i64 (V k + U k))) (fun i => i = ga) := Chg.setCell (p := ⟨ga, k, none⟩) (Chg.refl _ (fun i => i = ga)) (fun _ => rfl) _
        have hc3 : Chg wr (wr.setCell ⟨ga, k, none⟩ (.int .i64 (V k + U k))).drew (fun i => i = ga) := ⟨hc1.os, hc1.tape, hc1.output, hc1.size, hc1.block⟩
        exact ⟨⟨HREL.out.a.blk.chg hc3 hne, (HREL.out.a.arr.set_ hk2 _).congr (fun i _ => mergeV_step V U k i), hne, hr, hc⟩, HREL.out.b.chg hc3 n2 n1, HREL.out.chg.trans hc3 (fun i _ e => e)⟩
      have HF := Lib.hid hfin
      clear hfin e0
      generalize V k = v at *
      generalize U k = u at *
      have ev3 : IntKind.i64.wrap (v + u) = v + u := IntWalk.i64_in _ (by omega)
      go_upto_region 8 with fail
      go_region
      all_goals
        go_wp2_with fail
        exact ⟨⟨k + 1, by omega, by go_num, HF.out⟩, by simp [intOf]; omega⟩
    · obtain rfl : k = m := by omega
      have hfin := HREL.out.a.congr (V' := fun i => V i + U i) (fun i hi => by unfold mergeV; rw [if_pos (by omega)])
      have HFIN := Lib.hid hfin
      clear hfin
      go_wp2_with fail
      go_ret
      exact ⟨rfl, Lib.hid ⟨HFIN.out, HREL.out.chg⟩⟩
end Go.Proofs.Ytdddpdhjkeanmaa
