/-
  What sced.Make computes.
-/
import Derived.Test.YtjjmfgoeabmfdaaSced2
import Derived.Test.YtjjmfgoeabmfdaaSced3
import Derived.Test.YtjjmfgoeabmfdaaScedLaw2
import Derived.BigRegion
import Derived.RegionTactic
import Derived.Deep.DeepCutAuto
import Derived.Deep.RegionHeld3
import Derived.Deep.RegionLaw
import Derived.StillTailTactics
namespace Go.Proofs.Ytjjmfgoeabmfdaa
open Go.RowKit Crv
set_option linter.unusedVariables false

def MakeErr (w : World) (e : Ending) (w' : World) : Prop := ∃ k : Int, e = .returned (.tuple #[.agg #[.slice none 0 0, .slice none 0 0, .slice none 0 0], .iface 77 (.int .i64 k)]) ∧ Below w.heap.size w w'
def InRange (m : Nat) (fs : Nat → FV) (T : Int) : Prop := ∀ i, i < m → ((fs i).n : Int) ≤ T ∧ T < (fs i).n'

set_option maxRecDepth 100000 in
theorem make_no (A : Option Addr) (m c : Nat) (fs : Nat → FV) (T : Int) (w : World) (hr : RdF w w.heap.size A m fs) (h : ¬ SOk m fs) : Calls Try.prog 28 #[.slice A m c, .int .i64 T] w (MakeErr w) := by
  have hb0 : Below w.heap.size w (w.alloc (.cells #[.slice none 0 0, .slice none 0 0, .slice none 0 0] 47)) := (Below.refl _ w).alloc (Nat.le_refl _) _
  have hr1 := hr.over hb0 (Nat.le_refl _)
  have hgw : w.heap.size < (w.alloc (.cells #[.slice none 0 0, .slice none 0 0, .slice none 0 0] 47)).heap.size := by simp
  have hk := Blk.new w 47 #[.slice none 0 0, .slice none 0 0, .slice none 0 0]
  go_enter Try.func28, Try.ntmps28
  go_wp2_with fail
  refine (sched_no A m c fs _ hr1 h).mono ?_
  rintro e w1 ⟨⟨k, rfl⟩, hb⟩
  have hk1 := hk.below hb hgw
  have f0 := hk1.frozen 0; have f1 := hk1.frozen 1; have f2 := hk1.frozen 2
  have q0 : w1.cell? ⟨w.heap.size, 0, none⟩ = some (.slice none 0 0) := hk1.cell 0
  have q1 : w1.cell? ⟨w.heap.size, 1, none⟩ = some (.slice none 0 0) := hk1.cell 1
  have q2 : w1.cell? ⟨w.heap.size, 2, none⟩ = some (.slice none 0 0) := hk1.cell 2
  have hk2 := Blk.set_ (Blk.set_ (Blk.set_ hk1 0 (.slice none 0 0)) 1 (.slice none 0 0)) 2 (.slice none 0 0)
  have r0 := hk2.cell 0; have r1 := hk2.cell 1; have r2 := hk2.cell 2
  have R0 := Lib.hid r0; have R1 := Lib.hid r1; have R2 := Lib.hid r2
  have hbe : Below w.heap.size w w1 := hb0.trans (hb.mono (by omega))
  clear r0 r1 r2 hk2 hk1
  go_wp2_with fail
  refine bodyPost_ret (v := .tuple #[.agg #[.slice none 0 0, .slice none 0 0, .slice none 0 0], .iface 77 (.int .i64 k)]) (by simp [results, Try.results28, go_sem, R0.out, R1.out, R2.out]) rfl ⟨k, rfl, ((hbe.setCell (Nat.le_refl _) _).setCell (Nat.le_refl _) _).setCell (Nat.le_refl _) _⟩

set_option maxHeartbeats 1000000 in
set_option maxRecDepth 100000 in
theorem make_far (A : Option Addr) (m c : Nat) (fs : Nat → FV) (T : Int) (w : World) (hr : RdF w w.heap.size A m fs) (h : SOk m fs) (hn : ¬ InRange m fs T) : Calls Try.prog 28 #[.slice A m c, .int .i64 T] w (MakeErr w) := by
  have hb0 : Below w.heap.size w (w.alloc (.cells #[.slice none 0 0, .slice none 0 0, .slice none 0 0] 47)) := (Below.refl _ w).alloc (Nat.le_refl _) _
  have hr1 := hr.over hb0 (Nat.le_refl _)
  have hgw : w.heap.size < (w.alloc (.cells #[.slice none 0 0, .slice none 0 0, .slice none 0 0] 47)).heap.size := by simp
  have hk := Blk.new w 47 #[.slice none 0 0, .slice none 0 0, .slice none 0 0]
  have hm8 := h.2.1
  have HH := Lib.hid h; have HNR := Lib.hid hn; clear h hn
  go_enter Try.func28, Try.ntmps28
  go_wp2_with fail
  refine (sched_yes A m c fs _ hr1 HH.out).mono ?_
  rintro e w1 ⟨rfl, hb⟩
  have hk1 := hk.below hb hgw
  replace hr1 := hr1.over hb (Nat.le_refl _)
  have hbe : Below w.heap.size w w1 := hb0.trans (hb.mono (by omega))
  have hgw1 : w.heap.size < w1.heap.size := by have := hb.size; omega
  clear hk hb hb0 hr hgw
  go_wp2_with fail
  go_loopw [29] (fun i wr => ∃ k : Nat, k ≤ m ∧ i = .int .i64 k ∧ (∀ i, i < k → ((fs i).n : Int) ≤ T ∧ T < (fs i).n') ∧ Below w1.heap.size w1 wr) (fun i _ => m - (intOf i).toNat)
  case atStart => exact ⟨0, Nat.zero_le _, rfl, fun i hi => by omega, Below.refl _ _⟩
  case round =>
    obtain ⟨k, hk, rfl, hall, hb⟩ := hrel
    have HA := Lib.hid hall; clear hall
    by_cases hlt : k < m
    · obtain ⟨b, off, rfl, hbB, c0, c1⟩ := (hr1.over hb (Nat.le_refl _)).at_ hlt
      have HIN : Hid (((fs k).n : Int) ≤ T ∧ T < (fs k).n' → ∀ i, i < k + 1 → ((fs i).n : Int) ≤ T ∧ T < (fs i).n') := fun h i hi => by
        by_cases e : i = k
        · rw [e]; exact h
        · exact HA.out i (by omega)
      generalize (fs k).A = Ak at *
      generalize (fs k).n = nk at *
      generalize (fs k).c = ck at *
      generalize (fs k).A' = Ak' at *
      generalize (fs k).n' = nk' at *
      generalize (fs k).c' = ck' at *
      by_cases h1 : (nk : Int) ≤ T
      · by_cases h2 : T < (nk' : Int)
        · go_wp2_with fail
          go_roundw
          case rel => exact ⟨k + 1, by omega, by go_num, HIN.out ⟨h1, h2⟩, hb.alloc hb.size _⟩
          case measure => simp [intOf]; omega
        · have h2' : (nk' : Int) ≤ T := by omega
          have hk2 := (hk1.below hb hgw1).alloc (.cells #[.slice Ak nk ck, .slice Ak' nk' ck'] 42)
          have hbf := hbe.trans (hb.mono hbe.size)
          have hn1 : w.heap.size < wr.heap.size := by have := hb.size; omega
          have hn2 : w.heap.size ≠ wr.heap.size := by omega
          have hk3 := (Blk.set_ (Blk.set_ (Blk.set_ (hk1.below hb hgw1) 0 (.slice none 0 0)) 1 (.slice none 0 0)) 2 (.slice none 0 0)).alloc (.cells #[.slice Ak nk ck, .slice Ak' nk' ck'] 42)
          have r0 := hk3.cell 0; have r1 := hk3.cell 1; have r2 := hk3.cell 2
          have R0 := Lib.hid r0; have R1 := Lib.hid r1; have R2 := Lib.hid r2
          have hk4 := hk1.below hb hgw1
          have f0 := hk4.frozen 0; have f1 := hk4.frozen 1; have f2 := hk4.frozen 2
          have q0 : wr.cell? ⟨w.heap.size, 0, none⟩ = some (.slice none 0 0) := hk4.cell 0
          have q1 : wr.cell? ⟨w.heap.size, 1, none⟩ = some (.slice none 0 0) := hk4.cell 1
          have q2 : wr.cell? ⟨w.heap.size, 2, none⟩ = some (.slice none 0 0) := hk4.cell 2
          have HBF := Lib.hid hbf
          clear r0 r1 r2 hk3 hk2 hk4 hbf
          go_wp2_with fail
          refine bodyPost_ret (v := .tuple #[.agg #[.slice none 0 0, .slice none 0 0, .slice none 0 0], .iface 77 (.int .i64 2)]) (by simp [results, Try.results28, go_sem, R0.out, R1.out, R2.out]) rfl ⟨2, rfl, (((HBF.out.setCell (p := ⟨w.heap.size, 0, none⟩) (Nat.le_refl _) _).setCell (p := ⟨w.heap.size, 1, none⟩) (Nat.le_refl _) _).setCell (p := ⟨w.heap.size, 2, none⟩) (Nat.le_refl _) _).alloc (by simp [World.setCell]; omega) _⟩
      · have h1' : T < (nk : Int) := by omega
        have hk2 := (hk1.below hb hgw1).alloc (.cells #[.slice Ak nk ck, .slice Ak' nk' ck'] 42)
        have hbf := hbe.trans (hb.mono hbe.size)
        have hn1 : w.heap.size < wr.heap.size := by have := hb.size; omega
        have hn2 : w.heap.size ≠ wr.heap.size := by omega
        have hk3 := (Blk.set_ (Blk.set_ (Blk.set_ (hk1.below hb hgw1) 0 (.slice none 0 0)) 1 (.slice none 0 0)) 2 (.slice none 0 0)).alloc (.cells #[.slice Ak nk ck, .slice Ak' nk' ck'] 42)
        have r0 := hk3.cell 0; have r1 := hk3.cell 1; have r2 := hk3.cell 2
        have R0 := Lib.hid r0; have R1 := Lib.hid r1; have R2 := Lib.hid r2
        have hk4 := hk1.below hb hgw1
        have f0 := hk4.frozen 0; have f1 := hk4.frozen 1; have f2 := hk4.frozen 2
        have q0 : wr.cell? ⟨w.heap.size, 0, none⟩ = some (.slice none 0 0) := hk4.cell 0
        have q1 : wr.cell? ⟨w.heap.size, 1, none⟩ = some (.slice none 0 0) := hk4.cell 1
        have q2 : wr.cell? ⟨w.heap.size, 2, none⟩ = some (.slice none 0 0) := hk4.cell 2
        have HBF := Lib.hid hbf
        clear r0 r1 r2 hk3 hk2 hk4 hbf
        go_wp2_with fail
        refine bodyPost_ret (v := .tuple #[.agg #[.slice none 0 0, .slice none 0 0, .slice none 0 0], .iface 77 (.int .i64 2)]) (by simp [results, Try.results28, go_sem, R0.out, R1.out, R2.out]) rfl ⟨2, rfl, (((HBF.out.setCell (p := ⟨w.heap.size, 0, none⟩) (Nat.le_refl _) _).setCell (p := ⟨w.heap.size, 1, none⟩) (Nat.le_refl _) _).setCell (p := ⟨w.heap.size, 2, none⟩) (Nat.le_refl _) _).alloc (by simp [World.setCell]; omega) _⟩
    · obtain rfl : k = m := by omega
      exact absurd (show InRange k fs T from HA.out) HNR.out

/-- what the four makes and the alloc leave -/
structure Fresh1 (W wx : World) (m gp gP gT : Nat) : Prop where
  kp : Blk wx gp 47 #[.slice none 0 0, .slice (some ⟨gP, 0, none⟩) m m, .slice (some ⟨gT, 0, none⟩) m m]
  kP : RowV wx gP 22 m (fun _ => .slice none 0 0)
  kT : RowV wx gT 22 m (fun _ => .slice none 0 0)
  ne : gP ≠ gT
  h1 : W.heap.size ≤ gp
  h2 : W.heap.size ≤ gP
  h3 : W.heap.size ≤ gT
  below : Below W.heap.size W wx
structure Fresh2 (W wx : World) (m gc gs : Nat) : Prop where
  kc : RowV wx gc 3 m (fun _ => .int .i64 0)
  ks : RowV wx gs 3 m (fun _ => .int .i64 0)
  ne : gc ≠ gs
  h1 : W.heap.size ≤ gc
  h2 : W.heap.size ≤ gs
  below : Below W.heap.size W wx
theorem rowV_made {w : World} {g m : Nat} {t : TypeId} {z : Value} (h : Blk w g t (madeCells #[z] m)) : RowV w g t m (fun _ => z) := by
  have hl := toList_madeCells_one z m
  refine RowV.of_blk h (by rw [← Array.length_toList, hl, List.length_replicate]) fun i hi => ?_
  rw [← Array.getElem?_toList, hl, List.getElem?_replicate, if_pos hi]
theorem blk2 (W : World) (ta tb : TypeId) (a b : Array Value) : Blk ((W.alloc (.cells a ta)).alloc (.cells b tb)) W.heap.size ta a ∧ Blk ((W.alloc (.cells a ta)).alloc (.cells b tb)) (W.heap.size + 1) tb b ∧ Below W.heap.size W ((W.alloc (.cells a ta)).alloc (.cells b tb)) := by
  refine ⟨(Blk.new _ _ _).alloc _, ?_, ((Below.refl _ _).alloc (Nat.le_refl _) _).alloc (by simp) _⟩
  have := Blk.new (W.alloc (.cells a ta)) tb b
  rwa [show (W.alloc (.cells a ta)).heap.size = W.heap.size + 1 from by simp] at this
theorem blk3 (W : World) (ta tb tc : TypeId) (a b c : Array Value) :
    Blk (((W.alloc (.cells a ta)).alloc (.cells b tb)).alloc (.cells c tc)) W.heap.size ta a ∧ Blk (((W.alloc (.cells a ta)).alloc (.cells b tb)).alloc (.cells c tc)) (W.heap.size + 1) tb b ∧
    Blk (((W.alloc (.cells a ta)).alloc (.cells b tb)).alloc (.cells c tc)) (W.heap.size + 1 + 1) tc c ∧ Below W.heap.size W (((W.alloc (.cells a ta)).alloc (.cells b tb)).alloc (.cells c tc)) := by
  obtain ⟨h1, h2, h3⟩ := blk2 W ta tb a b
  refine ⟨h1.alloc _, h2.alloc _, ?_, h3.alloc (by simp; omega) _⟩
  have := Blk.new ((W.alloc (.cells a ta)).alloc (.cells b tb)) tc c
  rwa [show ((W.alloc (.cells a ta)).alloc (.cells b tb)).heap.size = W.heap.size + 1 + 1 from by simp] at this
section
variable (W : World) (m : Nat)
theorem fresh_a1 : Fresh1 W (((W.alloc (.cells #[.slice none 0 0, .slice (some ⟨W.heap.size + 1, 0, none⟩) m m, .slice (some ⟨W.heap.size + 1 + 1, 0, none⟩) m m] 47)).alloc (.cells (madeCells #[.slice none 0 0] m) 22)).alloc (.cells (madeCells #[.slice none 0 0] m) 22)).drew m W.heap.size (W.heap.size + 1) (W.heap.size + 1 + 1) := by
  obtain ⟨h1, h2, h3, h4⟩ := blk3 W 47 22 22 #[.slice none 0 0, .slice (some ⟨W.heap.size + 1, 0, none⟩) m m, .slice (some ⟨W.heap.size + 1 + 1, 0, none⟩) m m] (madeCells #[.slice none 0 0] m) (madeCells #[.slice none 0 0] m)
  exact ⟨h1.drew, (rowV_made h2).drew, (rowV_made h3).drew, by omega, by omega, by omega, by omega, h4.drew⟩
theorem fresh_a2 : Fresh1 W (((W.alloc (.cells #[.slice none 0 0, .slice (some ⟨W.heap.size + 1 + 1, 0, none⟩) m m, .slice (some ⟨W.heap.size + 1, 0, none⟩) m m] 47)).alloc (.cells (madeCells #[.slice none 0 0] m) 22)).alloc (.cells (madeCells #[.slice none 0 0] m) 22)).drew m W.heap.size (W.heap.size + 1 + 1) (W.heap.size + 1) := by
  obtain ⟨h1, h2, h3, h4⟩ := blk3 W 47 22 22 #[.slice none 0 0, .slice (some ⟨W.heap.size + 1 + 1, 0, none⟩) m m, .slice (some ⟨W.heap.size + 1, 0, none⟩) m m] (madeCells #[.slice none 0 0] m) (madeCells #[.slice none 0 0] m)
  exact ⟨h1.drew, (rowV_made h3).drew, (rowV_made h2).drew, by omega, by omega, by omega, by omega, h4.drew⟩
theorem fresh_b1 : Fresh1 W (((W.alloc (.cells (madeCells #[.slice none 0 0] m) 22)).alloc (.cells #[.slice none 0 0, .slice (some ⟨W.heap.size, 0, none⟩) m m, .slice (some ⟨W.heap.size + 1 + 1, 0, none⟩) m m] 47)).alloc (.cells (madeCells #[.slice none 0 0] m) 22)).drew m (W.heap.size + 1) W.heap.size (W.heap.size + 1 + 1) := by
  obtain ⟨h1, h2, h3, h4⟩ := blk3 W 22 47 22 (madeCells #[.slice none 0 0] m) #[.slice none 0 0, .slice (some ⟨W.heap.size, 0, none⟩) m m, .slice (some ⟨W.heap.size + 1 + 1, 0, none⟩) m m] (madeCells #[.slice none 0 0] m)
  exact ⟨h2.drew, (rowV_made h1).drew, (rowV_made h3).drew, by omega, by omega, by omega, by omega, h4.drew⟩
theorem fresh_b2 : Fresh1 W (((W.alloc (.cells (madeCells #[.slice none 0 0] m) 22)).alloc (.cells #[.slice none 0 0, .slice (some ⟨W.heap.size + 1 + 1, 0, none⟩) m m, .slice (some ⟨W.heap.size, 0, none⟩) m m] 47)).alloc (.cells (madeCells #[.slice none 0 0] m) 22)).drew m (W.heap.size + 1) (W.heap.size + 1 + 1) W.heap.size := by
  obtain ⟨h1, h2, h3, h4⟩ := blk3 W 22 47 22 (madeCells #[.slice none 0 0] m) #[.slice none 0 0, .slice (some ⟨W.heap.size + 1 + 1, 0, none⟩) m m, .slice (some ⟨W.heap.size, 0, none⟩) m m] (madeCells #[.slice none 0 0] m)
  exact ⟨h2.drew, (rowV_made h3).drew, (rowV_made h1).drew, by omega, by omega, by omega, by omega, h4.drew⟩
theorem fresh_c1 : Fresh1 W (((W.alloc (.cells (madeCells #[.slice none 0 0] m) 22)).alloc (.cells (madeCells #[.slice none 0 0] m) 22)).alloc (.cells #[.slice none 0 0, .slice (some ⟨W.heap.size, 0, none⟩) m m, .slice (some ⟨W.heap.size + 1, 0, none⟩) m m] 47)).drew m (W.heap.size + 1 + 1) W.heap.size (W.heap.size + 1) := by
  obtain ⟨h1, h2, h3, h4⟩ := blk3 W 22 22 47 (madeCells #[.slice none 0 0] m) (madeCells #[.slice none 0 0] m) #[.slice none 0 0, .slice (some ⟨W.heap.size, 0, none⟩) m m, .slice (some ⟨W.heap.size + 1, 0, none⟩) m m]
  exact ⟨h3.drew, (rowV_made h1).drew, (rowV_made h2).drew, by omega, by omega, by omega, by omega, h4.drew⟩
theorem fresh_c2 : Fresh1 W (((W.alloc (.cells (madeCells #[.slice none 0 0] m) 22)).alloc (.cells (madeCells #[.slice none 0 0] m) 22)).alloc (.cells #[.slice none 0 0, .slice (some ⟨W.heap.size + 1, 0, none⟩) m m, .slice (some ⟨W.heap.size, 0, none⟩) m m] 47)).drew m (W.heap.size + 1 + 1) (W.heap.size + 1) W.heap.size := by
  obtain ⟨h1, h2, h3, h4⟩ := blk3 W 22 22 47 (madeCells #[.slice none 0 0] m) (madeCells #[.slice none 0 0] m) #[.slice none 0 0, .slice (some ⟨W.heap.size + 1, 0, none⟩) m m, .slice (some ⟨W.heap.size, 0, none⟩) m m]
  exact ⟨h3.drew, (rowV_made h2).drew, (rowV_made h1).drew, by omega, by omega, by omega, by omega, h4.drew⟩
theorem fresh_d : Fresh2 W ((W.alloc (.cells (madeCells #[.int .i64 0] m) 3)).alloc (.cells (madeCells #[.int .i64 0] m) 3)).drew m W.heap.size (W.heap.size + 1) := by
  obtain ⟨h1, h2, h3⟩ := blk2 W 3 3 (madeCells #[.int .i64 0] m) (madeCells #[.int .i64 0] m)
  exact ⟨(rowV_made h1).drew, (rowV_made h2).drew, by omega, by omega, by omega, h3.drew⟩
theorem fresh_e : Fresh2 W ((W.alloc (.cells (madeCells #[.int .i64 0] m) 3)).alloc (.cells (madeCells #[.int .i64 0] m) 3)).drew m (W.heap.size + 1) W.heap.size := by
  obtain ⟨h1, h2, h3⟩ := blk2 W 3 3 (madeCells #[.int .i64 0] m) (madeCells #[.int .i64 0] m)
  exact ⟨(rowV_made h2).drew, (rowV_made h1).drew, by omega, by omega, by omega, h3.drew⟩
end
theorem made_rows (m : Nat) (hm : m ≤ 1000) : ∀ wz, (Instr.makeSlice 45 (.int .i64 (m : Int)) (.int .i64 (m : Int))).run Try.prog wz = .ok (.slice (some ⟨wz.heap.size, 0, none⟩) m m) (wz.alloc (.cells (madeCells #[.slice none 0 0] m) 22)) := fun wz => by
  have hinfo : (Try.prog.info? 22).map (fun i => (i.zero, i.size, i.bytes)) = some (some (.slice none 0 0), 1, 24) := by kernel_rfl
  obtain ⟨i0, hi, hz0, hz1, hz2⟩ := info_parts hinfo
  have := run_make (P := Try.prog) wz 45 22 i0 (.slice none 0 0) Try.underlying45 hi hz0 .i64 .i64 m m (by omega) (Int.le_refl _) (by rw [hz2]; omega) (by omega)
  rw [this, hz1]
  simp [Value.cells]
theorem made_ints (m : Nat) (hm : m ≤ 1000) : ∀ wz, (Instr.makeSlice 22 (.int .i64 (m : Int)) (.int .i64 (m : Int))).run Try.prog wz = .ok (.slice (some ⟨wz.heap.size, 0, none⟩) m m) (wz.alloc (.cells (madeCells #[.int .i64 0] m) 3)) := fun wz => by
  obtain ⟨i0, hi, hz0, hz1, hz2⟩ := info_parts Try.intInfo
  have := run_make (P := Try.prog) wz 22 3 i0 (.int .i64 0) Try.underlying22 hi hz0 .i64 .i64 m m (by omega) (Int.le_refl _) (by rw [hz2]; omega) (by omega)
  rw [this, hz1]
  simp [Value.cells]


/-- what the plan's cells hold while it is made -/
structure MInv (W wr : World) (k gp gP gT gc gs : Nat) (V : Nat → Value) (L : Nat → List Int) (come sent : Nat → Int) : Prop where
  kp : Blk wr gp 47 #[V k, .slice (some ⟨gP, 0, none⟩) k k, .slice (some ⟨gT, 0, none⟩) k k]
  kT : RowV wr gT 22 k V
  kc : RowV wr gc 3 k (fun i => .int .i64 (come i))
  ks : RowV wr gs 3 k (fun i => .int .i64 (sent i))
  fam : Fam wr W.heap.size (k + 1) V L
  chg : Chg W wr (fun b => b = gp ∨ b = gT ∨ b = gc ∨ b = gs)
/-- where they lie -/
structure MFar (W : World) (gp gP gT gc gs : Nat) : Prop where
  l1 : gp < W.heap.size
  l2 : gP < W.heap.size
  l3 : gT < W.heap.size
  l4 : gc < W.heap.size
  l5 : gs < W.heap.size
  n1 : gp ≠ gP
  n2 : gp ≠ gT
  n3 : gp ≠ gc
  n4 : gp ≠ gs
  n5 : gP ≠ gT
  n6 : gP ≠ gc
  n7 : gP ≠ gs
  n8 : gT ≠ gc
  n9 : gT ≠ gs
  n10 : gc ≠ gs
section
variable {W wr wx : World} {k gp gP gT gc gs : Nat} {V : Nat → Value} {L : Nat → List Int} {come sent : Nat → Int}
theorem MInv.congr {come' sent' : Nat → Int} (h : MInv W wr k gp gP gT gc gs V L come sent) (hc : ∀ i, i < k → come i = come' i) (hs : ∀ i, i < k → sent i = sent' i) : MInv W wr k gp gP gT gc gs V L come' sent' :=
  ⟨h.kp, h.kT, h.kc.congr fun i hi => by rw [hc i hi], h.ks.congr fun i hi => by rw [hs i hi], h.fam, h.chg⟩
theorem MInv.alloc (h : MInv W wr k gp gP gT gc gs V L come sent) (o : Obj) : MInv W (wr.alloc o) k gp gP gT gc gs V L come sent :=
  ⟨h.kp.alloc o, h.kT.alloc o, h.kc.alloc o, h.ks.alloc o, h.fam.alloc o, h.chg.alloc o⟩
theorem MInv.drew (h : MInv W wr k gp gP gT gc gs V L come sent) : MInv W wr.drew k gp gP gT gc gs V L come sent :=
  ⟨h.kp.drew, h.kT.drew, h.kc.drew, h.ks.drew, h.fam.same rfl, h.chg.drew⟩
theorem MInv.drewN (h : MInv W wr k gp gP gT gc gs V L come sent) (n : Nat) : MInv W (wr.drewN n) k gp gP gT gc gs V L come sent :=
  ⟨h.kp.drewN n, h.kT.drewN n, h.kc.drewN n, h.ks.drewN n, h.fam.same rfl, h.chg.drewN n⟩
theorem fam_set {w : World} {base m : Nat} (h : Fam w base m V L) {p : Addr} (hp : p.block < base) (u : Value) : Fam (w.setCell p u) base m V L :=
  ⟨fun i hi => ownsRow_chg (S := fun b => b = p.block) (h.own i hi) (Chg.setCell (p := p) (Chg.refl w (fun b => b = p.block)) (fun _ => rfl) u) (fun g hg e => by have := ((h.own i hi).lt g hg).1; omega), h.ne⟩
theorem MInv.setCome (h : MInv W wr k gp gP gT gc gs V L come sent) (f : MFar W gp gP gT gc gs) {i : Nat} (hi : i < k) (x : Int) : MInv W (wr.setCell ⟨gc, i, none⟩ (.int .i64 x)) k gp gP gT gc gs V L (upd come i x) sent :=
  ⟨h.kp.far f.n3 _, h.kT.far f.n8 _, (h.kc.set_ hi _).congr (fun j _ => by unfold upd; split <;> rfl), h.ks.far (Ne.symm f.n10) _, fam_set h.fam f.l4 _, h.chg.setCell (p := ⟨gc, i, none⟩) (fun _ => .inr (.inr (.inl rfl))) _⟩
theorem MInv.setSent (h : MInv W wr k gp gP gT gc gs V L come sent) (f : MFar W gp gP gT gc gs) {i : Nat} (hi : i < k) (x : Int) : MInv W (wr.setCell ⟨gs, i, none⟩ (.int .i64 x)) k gp gP gT gc gs V L come (upd sent i x) :=
  ⟨h.kp.far f.n4 _, h.kT.far f.n9 _, h.kc.far f.n10 _, (h.ks.set_ hi _).congr (fun j _ => by unfold upd; split <;> rfl), fam_set h.fam f.l5 _, h.chg.setCell (p := ⟨gs, i, none⟩) (fun _ => .inr (.inr (.inr rfl))) _⟩
/-- a row has grown, and is not stored yet: the cells as they are -/
structure MMid (W wr : World) (k gp gP gT gc gs : Nat) (V : Nat → Value) (come sent : Nat → Int) : Prop where
  kp : Blk wr gp 47 #[V k, .slice (some ⟨gP, 0, none⟩) k k, .slice (some ⟨gT, 0, none⟩) k k]
  kT : RowV wr gT 22 k V
  kc : RowV wr gc 3 k (fun i => .int .i64 (come i))
  ks : RowV wr gs 3 k (fun i => .int .i64 (sent i))
  chg : Chg W wr (fun b => b = gp ∨ b = gT ∨ b = gc ∨ b = gs)
theorem MInv.grown {i : Nat} (h : MInv W wr k gp gP gT gc gs V L come sent) (f : MFar W gp gP gT gc gs) (hi : i < k + 1) (hg : wr.grownBy wx (V i).ownBlock) : MMid W wx k gp gP gT gc gs V come sent := by
  have hv : ∀ g, g < W.heap.size → some g ≠ (V i).ownBlock := fun g hlt e => by have := (h.fam.lt hi g e.symm).1; omega
  exact ⟨h.kp.grown hg (hv _ f.l1), h.kT.grown hg (hv _ f.l3), h.kc.grown hg (hv _ f.l4), h.ks.grown hg (hv _ f.l5),
    h.chg.trans (Chg.of_grown (S := fun b => some b = (V i).ownBlock) hg (fun b e => e)) (fun b hb e => absurd e (hv b (by have := h.chg.size; omega)))⟩
theorem MInv.pushSent {v' : Value} {u : Int} (h : MInv W wr k gp gP gT gc gs V L come sent) (f : MFar W gp gP gT gc gs) (ho : wx.ownsRow W.heap.size 3 1 v' ((L k).length + 1) ((L k ++ [u]).map (Value.int .i64)))
    (hg : wr.grownBy wx (V k).ownBlock) (hat : v'.ownBlock = (V k).ownBlock ∨ ∀ g, v'.ownBlock = some g → wr.heap.size ≤ g) :
    MInv W (wx.setCell ⟨gp, 0, none⟩ v') k gp gP gT gc gs (upd V k v') (upd L k (L k ++ [u])) come sent := by
  have hm := h.grown f (i := k) (by omega) hg
  refine ⟨?_, (hm.kT.far (Ne.symm f.n2) _).congr fun i hi => (upd_ne _ _ (by omega)).symm, hm.kc.far (Ne.symm f.n3) _, hm.ks.far (Ne.symm f.n4) _, fam_set (h.fam.push (by omega) ho hg hat) f.l1 _, hm.chg.setCell (p := ⟨gp, 0, none⟩) (fun _ => .inl rfl) _⟩
  rw [upd_same]
  exact Blk.set_ hm.kp 0 v'
theorem MInv.pushThr {v' : Value} {u : Int} {i : Nat} (hi : i < k) (h : MInv W wr k gp gP gT gc gs V L come sent) (f : MFar W gp gP gT gc gs) (ho : wx.ownsRow W.heap.size 3 1 v' ((L i).length + 1) ((L i ++ [u]).map (Value.int .i64)))
    (hg : wr.grownBy wx (V i).ownBlock) (hat : v'.ownBlock = (V i).ownBlock ∨ ∀ g, v'.ownBlock = some g → wr.heap.size ≤ g) :
    MInv W (wx.setCell ⟨gT, i, none⟩ v') k gp gP gT gc gs (upd V i v') (upd L i (L i ++ [u])) come sent := by
  have hm := h.grown f (i := i) (by omega) hg
  refine ⟨?_, hm.kT.set_ hi _, hm.kc.far (Ne.symm f.n8) _, hm.ks.far (Ne.symm f.n9) _, fam_set (h.fam.push (by omega) ho hg hat) f.l3 _, hm.chg.setCell (p := ⟨gT, i, none⟩) (fun _ => .inr (.inl rfl)) _⟩
  rw [upd_ne _ _ (by omega)]
  exact Blk.far hm.kp f.n2 v'
end
/-- the row of promises of a flow -/
def DueAt (W wx : World) (fs : Nat → FV) (T i : Nat) (v : Value) : Prop := ∃ A c K, v = .slice A K c ∧ sumTo (fs i).xs (fs i).n = (K : Int) ∧ RdI wx wx.heap.size A K (tab K (dueF (fs i).xs (fs i).zs T)) ∧ ∀ ad, A = some ad → W.heap.size ≤ ad.block
theorem DueAt.chg {W wx wy : World} {fs : Nat → FV} {T i : Nat} {v : Value} {S : Nat → Prop} (h : DueAt W wx fs T i v) (hc : Chg wx wy S) (hS : ∀ b, S b → b < W.heap.size) : DueAt W wy fs T i v := by
  obtain ⟨A, c, K, rfl, hK, hr, hA⟩ := h
  exact ⟨A, c, K, rfl, hK, Reads.more (RdI.chg hr (Nat.le_refl _) hc (fun ad e hb => by have := hA ad e; have := hS _ hb; omega)) hc.size, hA⟩
theorem DueAt.drew {W wx : World} {fs : Nat → FV} {T i : Nat} {v : Value} (h : DueAt W wx fs T i v) : DueAt W wx.drew fs T i v := h
theorem DueAt.drewN {W wx : World} {fs : Nat → FV} {T i : Nat} {v : Value} (h : DueAt W wx fs T i v) (n : Nat) : DueAt W (wx.drewN n) fs T i v := h
/-- one more flow's promises are stored -/
def DueInv (w3 wr : World) (fs : Nat → FV) (T k gP j : Nat) (Pv : Nat → Value) : Prop := RowV wr gP 22 k Pv ∧ (∀ i, i < j → DueAt w3 wr fs T i (Pv i)) ∧ Chg w3 wr (fun b => b = gP)
theorem due_step {w3 wr w4 : World} {fs : Nat → FV} {T k gP j : Nat} {Pv : Nat → Value} {v : Value} (h : DueInv w3 wr fs T k gP j Pv) (hb : Below wr.heap.size wr w4) (hgP : gP < w3.heap.size) (hj : j < k) (hv : DueAt w3 w4 fs T j v) :
    DueInv w3 (w4.setCell ⟨gP, j, none⟩ v) fs T k gP (j + 1) (upd Pv j v) := by
  obtain ⟨h1, h2, h3⟩ := h
  have hc : Chg w4 (w4.setCell ⟨gP, j, none⟩ v) (fun b => b = gP) := Chg.setCell (p := ⟨gP, j, none⟩) (Chg.refl w4 (fun b => b = gP)) (fun _ => rfl) v
  have hS : ∀ b, b = gP → b < w3.heap.size := fun b e => by omega
  refine ⟨(h1.below hb h1.lt).set_ hj v, fun i hi => ?_, (h3.trans (Chg.of_below (S := fun b => b = gP) hb) (fun b _ e => e)).setCell (p := ⟨gP, j, none⟩) (fun _ => rfl) v⟩
  by_cases e : i = j
  · subst e; rw [upd_same]; exact hv.chg hc hS
  · rw [upd_ne _ _ e]
    exact ((h2 i (by omega)).chg (Chg.of_below (S := fun b => b = gP) hb) hS).chg hc hS
theorem DueInv.drew {w3 wr : World} {fs : Nat → FV} {T k gP j : Nat} {Pv : Nat → Value} (h : DueInv w3 wr fs T k gP j Pv) : DueInv w3 wr.drew fs T k gP j Pv := ⟨h.1, h.2.1, h.2.2.drew⟩
theorem blk_ne_row {w : World} {g g' m : Nat} {t t' : TypeId} {cs : Array Value} {V : Nat → Value} (h : Blk w g t cs) (h' : RowV w g' t' m V) (hne : t ≠ t') : g ≠ g' := by
  obtain ⟨cs', hb, _⟩ := h'
  exact Blk.ne_ h hb hne
theorem row_ne_row {w : World} {g g' m m' : Nat} {t t' : TypeId} {V V' : Nat → Value} (h : RowV w g t m V) (h' : RowV w g' t' m' V') (hne : t ≠ t') : g ≠ g' := by
  obtain ⟨cs', hb, _⟩ := h
  exact blk_ne_row hb h' hne
theorem bl_drew {B : Nat} {W w : World} (h : Below B W w) : Below B W w.drew := ⟨h.os, h.tape, h.output, h.size, h.block⟩
theorem bl_drewN {B : Nat} {W w : World} (h : Below B W w) {n : Nat} : Below B W (w.drewN n) := ⟨h.os, h.tape, h.output, h.size, h.block⟩
theorem bl_next {W w w' : World} (h : Below W.heap.size W w) (h' : Below w.heap.size w w') : Below W.heap.size W w' := h.trans (h'.mono h.size)
theorem bl_alloc {W w : World} (h : Below W.heap.size W w) {o : Obj} : Below W.heap.size W (w.alloc o) := h.alloc h.size o

/-- the plan's make, in plain words -/
def plOf (m : Nat) (fs : Nat → FV) (T : Nat) : Sced.Pl := ⟨m, fun i => ⟨(fs i).xs, (fs i).zs⟩, T⟩
def totK (fs : Nat → FV) (i : Nat) : Nat := (sumTo (fs i).xs (fs i).n).toNat
theorem at0_out {l : List Int} {i : Nat} (h : l.length ≤ i) : at0 l i = 0 := by simp [at0, List.getD, List.getElem?_eq_none h]
section
variable {m T : Nat} {fs : Nat → FV}
/-- what the flows are, with the lengths of what lies there -/
structure FGood (m T : Nat) (fs : Nat → FV) : Prop where
  ok : SOk m fs
  rng : InRange m fs T
  lx : ∀ i, i < m → (fs i).xs.length = (fs i).n
  lz : ∀ i, i < m → (fs i).zs.length = (fs i).n'
theorem FGood.come (h : FGood m T fs) {i : Nat} (hi : i < m) (t : Nat) : 0 ≤ at0 (fs i).xs t ∧ at0 (fs i).xs t ≤ 100 := by
  rcases Nat.lt_or_ge t (fs i).n with ht | ht
  · exact (h.ok.2.2 i hi).come t ht
  · rw [at0_out (by rw [h.lx i hi]; exact ht)]; omega
theorem FGood.pl (h : FGood m T fs) : Sced.PlOk (plOf m fs T) :=
  ⟨fun i hi t => (h.come hi t).1, fun i hi t ht => (h.ok.2.2 i hi).prom.lo t ht, fun i hi t ht => (h.ok.2.2 i hi).prom.up t ht, fun i hi => by
    have := (h.rng i hi).2
    show T < (fs i).zs.length
    rw [h.lz i hi]; omega⟩
theorem FGood.tot (h : FGood m T fs) {i : Nat} (hi : i < m) : sumTo (fs i).xs (fs i).n = (totK fs i : Int) := by
  have := (sumTo_bd (fs i).xs 100 (fs i).n (fun j _ => h.come hi j)).1
  unfold totK; omega
theorem FGood.cum_le (h : FGood m T fs) {i : Nat} (hi : i < m) (t : Nat) : 0 ≤ sumTo (fs i).xs t ∧ sumTo (fs i).xs t ≤ totK fs i ∧ (totK fs i : Int) ≤ 100 := by
  have ht := h.tot hi
  have hs := (h.ok.2.2 i hi).sum (fs i).n (Nat.le_refl _)
  have h0 := (sumTo_bd (fs i).xs 100 t (fun j _ => h.come hi j)).1
  refine ⟨h0, ?_, by omega⟩
  rw [← ht]
  rcases Nat.le_total t (fs i).n with hl | hl
  · exact sumTo_mono _ _ (fun j _ => (h.come hi j).1) t _ hl (Nat.le_refl _)
  · have : ∀ d, sumTo (fs i).xs ((fs i).n + d) = sumTo (fs i).xs (fs i).n := by
      intro d
      induction d with
      | zero => rfl
      | succ d ih =>
        show sumTo (fs i).xs ((fs i).n + d) + at0 (fs i).xs ((fs i).n + d) = _
        rw [ih, at0_out (by rw [h.lx i hi]; omega)]; omega
    have := this (t - (fs i).n)
    rw [show (fs i).n + (t - (fs i).n) = t from by omega] at this
    omega
theorem FGood.sent_lt (h : FGood m T fs) {i t : Nat} (hi : i < m) (hne : (Sced.sentT (plOf m fs T) t i : Int) ≠ sumTo (fs i).xs (t + 1)) : Sced.sentT (plOf m fs T) t i < totK fs i := by
  have h1 : (Sced.sentT (plOf m fs T) t i : Int) ≤ sumTo (fs i).xs t := Sced.sent_le h.pl t i hi
  have h2 : sumTo (fs i).xs (t + 1) = sumTo (fs i).xs t + at0 (fs i).xs t := rfl
  have h3 := (h.come hi t).1
  have h4 := h.cum_le hi (t + 1)
  omega
theorem FGood.sent_tot (h : FGood m T fs) {i : Nat} (hi : i < m) (t : Nat) : Sced.sentT (plOf m fs T) t i ≤ totK fs i := by
  have h1 : (Sced.sentT (plOf m fs T) t i : Int) ≤ sumTo (fs i).xs t := Sced.sent_le h.pl t i hi
  have h4 := h.cum_le hi t
  omega
theorem FGood.due_bd (h : FGood m T fs) (i k : Nat) : -1 ≤ dueF (fs i).xs (fs i).zs T k ∧ dueF (fs i).xs (fs i).zs T k ≤ T := by
  unfold dueF
  rcases Sced.first_spec (conv (sumTo (fs i).xs) (at0 (fs i).zs)) ((k : Int) + 1) (T + 1) with ⟨e, _⟩ | ⟨t, h1, h2, _⟩
  · rw [e]; omega
  · rw [h2]; omega
end
theorem pick_succ (wt : Nat → Bool) (key : Nat → Int) (i : Nat) : Sced.pick wt key (i + 1) = if wt i = true ∧ ((Sced.pick wt key i).1 < 0 ∨ key i < (Sced.pick wt key i).2) then ((i : Int), key i) else Sced.pick wt key i := rfl
/-- whose cell is sent, as far as the flows were looked at -/
def pickTo (m : Nat) (fs : Nat → FV) (T t j : Nat) : Int × Int := Sced.pick (fun i => decide ((Sced.sentT (plOf m fs T) t i : Int) ≠ sumTo (fs i).xs (t + 1))) (fun i => Sced.keyOf (plOf m fs T) i (Sced.sentT (plOf m fs T) t i)) j
theorem pickTo_best (m : Nat) (fs : Nat → FV) (T t : Nat) : (pickTo m fs T t m).1 = Sced.bestOf (plOf m fs T) (Sced.sentT (plOf m fs T) t) t := rfl
theorem pickTo_skip {m : Nat} {fs : Nat → FV} {T t j : Nat} (h : (Sced.sentT (plOf m fs T) t j : Int) = sumTo (fs j).xs (t + 1)) : pickTo m fs T t (j + 1) = pickTo m fs T t j := by
  unfold pickTo
  rw [pick_succ, if_neg]
  intro ⟨h1, _⟩
  simp [h] at h1
theorem pickTo_no {m : Nat} {fs : Nat → FV} {T t j : Nat} (h : ¬ ((pickTo m fs T t j).1 < 0 ∨ Sced.keyOf (plOf m fs T) j (Sced.sentT (plOf m fs T) t j) < (pickTo m fs T t j).2)) : pickTo m fs T t (j + 1) = pickTo m fs T t j := by
  unfold pickTo
  rw [pick_succ, if_neg]
  intro ⟨_, h2⟩
  exact h h2
theorem pickTo_yes {m : Nat} {fs : Nat → FV} {T t j : Nat} (h : (Sced.sentT (plOf m fs T) t j : Int) ≠ sumTo (fs j).xs (t + 1)) (h2 : (pickTo m fs T t j).1 < 0 ∨ Sced.keyOf (plOf m fs T) j (Sced.sentT (plOf m fs T) t j) < (pickTo m fs T t j).2) :
    pickTo m fs T t (j + 1) = ((j : Int), Sced.keyOf (plOf m fs T) j (Sced.sentT (plOf m fs T) t j)) := by
  unfold pickTo
  rw [pick_succ, if_pos]
  exact ⟨by simpa using h, h2⟩
theorem keyOf_eq (m : Nat) (fs : Nat → FV) (T i k : Nat) : Sced.keyOf (plOf m fs T) i k = if dueF (fs i).xs (fs i).zs T k < 0 then (T : Int) + 1 else dueF (fs i).xs (fs i).zs T k := rfl
/-- what came, in the midst of a tick -/
def comeTo (fs : Nat → FV) (t j i : Nat) : Int := if i < j then sumTo (fs i).xs (t + 1) else sumTo (fs i).xs t
/-- the rows behind t ticks: of each flow, and whose was sent -/
def rowsAt (m : Nat) (fs : Nat → FV) (T t : Nat) : Nat → List Int := upd (fun i => Sced.thrL (plOf m fs T) i t) m (Sced.sentL (plOf m fs T) t)
/-- the rows while they are filled up -/
def rowsFill (m : Nat) (fs : Nat → FV) (T j r : Nat) : Nat → List Int := fun i =>
  if i = m then Sced.sentL (plOf m fs T) T else if i < j then Sced.thrF (plOf m fs T) i (totK fs i) else if i = j then Sced.thrL (plOf m fs T) i T ++ List.replicate r (-1) else Sced.thrL (plOf m fs T) i T
theorem MFar.mono {W W' : World} {gp gP gT gc gs : Nat} (h : MFar W gp gP gT gc gs) (hs : W.heap.size ≤ W'.heap.size) : MFar W' gp gP gT gc gs :=
  ⟨Nat.lt_of_lt_of_le h.l1 hs, Nat.lt_of_lt_of_le h.l2 hs, Nat.lt_of_lt_of_le h.l3 hs, Nat.lt_of_lt_of_le h.l4 hs, Nat.lt_of_lt_of_le h.l5 hs, h.n1, h.n2, h.n3, h.n4, h.n5, h.n6, h.n7, h.n8, h.n9, h.n10⟩
theorem minv_start {W : World} {m T gp gP gT gc gs : Nat} {fs : Nat → FV} (kp : Blk W gp 47 #[.slice none 0 0, .slice (some ⟨gP, 0, none⟩) m m, .slice (some ⟨gT, 0, none⟩) m m])
    (kT : RowV W gT 22 m (fun _ => .slice none 0 0)) (kc : RowV W gc 3 m (fun _ => .int .i64 0)) (ks : RowV W gs 3 m (fun _ => .int .i64 0)) :
    MInv W W m gp gP gT gc gs (fun _ => .slice none 0 0) (rowsAt m fs T 0) (comeTo fs 0 0) (fun i => (Sced.sentT (plOf m fs T) 0 i : Int)) := by
  have e : rowsAt m fs T 0 = fun _ => [] := by
    funext i
    unfold rowsAt upd
    split <;> rfl
  rw [e]
  exact ⟨kp, kT, kc, ks, Fam.nil _ _ _, Chg.refl _ _⟩
theorem Fam.congr {w : World} {base m : Nat} {V : Nat → Value} {L L' : Nat → List Int} (h : Fam w base m V L) (e : ∀ i, i < m → L i = L' i) : Fam w base m V L' :=
  ⟨fun i hi => by rw [← e i hi]; exact h.own i hi, h.ne⟩
theorem MInv.congrL {W wr : World} {k gp gP gT gc gs : Nat} {V : Nat → Value} {L L' : Nat → List Int} {come sent : Nat → Int} (h : MInv W wr k gp gP gT gc gs V L come sent) (e : ∀ i, i < k + 1 → L i = L' i) : MInv W wr k gp gP gT gc gs V L' come sent :=
  ⟨h.kp, h.kT, h.kc, h.ks, h.fam.congr e, h.chg⟩
section
variable {k T t : Nat} {fs : Nat → FV}
theorem thrL_succ (p : Sced.Pl) (i t : Nat) : Sced.thrL p i (t + 1) = if Sced.bestOf p (Sced.sentT p t) t = (i : Int) then Sced.thrL p i t ++ [(t : Int) + 1] else Sced.thrL p i t := rfl
theorem sentT_succ (p : Sced.Pl) (i t : Nat) : Sced.sentT p (t + 1) i = if Sced.bestOf p (Sced.sentT p t) t = (i : Int) then Sced.sentT p t i + 1 else Sced.sentT p t i := rfl
theorem rows_idle (h : Sced.bestOf (plOf k fs T) (Sced.sentT (plOf k fs T) t) t = -1) : ∀ i, i < k + 1 → upd (rowsAt k fs T t) k (rowsAt k fs T t k ++ [-1]) i = rowsAt k fs T (t + 1) i := by
  intro i _
  unfold rowsAt
  by_cases e : i = k
  · subst e
    rw [upd_same, upd_same, upd_same]
    show _ = Sced.sentL (plOf i fs T) t ++ [_]
    rw [h]
  · rw [upd_ne _ _ e, upd_ne _ _ e, upd_ne _ _ e, thrL_succ, if_neg (by rw [h]; omega)]
theorem rows_send {b : Nat} (hb : b < k) (h : Sced.bestOf (plOf k fs T) (Sced.sentT (plOf k fs T) t) t = b) : ∀ i, i < k + 1 →
    upd (upd (rowsAt k fs T t) k (rowsAt k fs T t k ++ [(b : Int)])) b (upd (rowsAt k fs T t) k (rowsAt k fs T t k ++ [(b : Int)]) b ++ [(t : Int) + 1]) i = rowsAt k fs T (t + 1) i := by
  intro i _
  unfold rowsAt
  by_cases e : i = k
  · subst e
    rw [upd_ne _ _ (by omega), upd_same, upd_same, upd_same]
    show _ = Sced.sentL (plOf i fs T) t ++ [_]
    rw [h]
  · by_cases e2 : i = b
    · subst e2
      rw [upd_same, upd_ne _ _ e, upd_ne _ _ e, upd_ne _ _ e, thrL_succ, if_pos h]
    · rw [upd_ne _ _ e2, upd_ne _ _ e, upd_ne _ _ e, upd_ne _ _ e, thrL_succ, if_neg (by rw [h]; omega)]
theorem sent_idle (h : Sced.bestOf (plOf k fs T) (Sced.sentT (plOf k fs T) t) t = -1) (i : Nat) : (Sced.sentT (plOf k fs T) t i : Int) = (Sced.sentT (plOf k fs T) (t + 1) i : Int) := by
  rw [sentT_succ, if_neg (by rw [h]; omega)]
theorem sent_send {b : Nat} (h : Sced.bestOf (plOf k fs T) (Sced.sentT (plOf k fs T) t) t = b) (i : Nat) : upd (fun i => (Sced.sentT (plOf k fs T) t i : Int)) b ((Sced.sentT (plOf k fs T) t b : Int) + 1) i = (Sced.sentT (plOf k fs T) (t + 1) i : Int) := by
  rw [sentT_succ]
  unfold upd
  by_cases e : i = b
  · subst e; rw [if_pos rfl, if_pos h]; omega
  · rw [if_neg e, if_neg (by rw [h]; omega)]
end
/-- rows in a row that read as lists -/
def RowsOut (w : World) (g m : Nat) (LL : Nat → List Int) : Prop := g < w.heap.size ∧ ∀ i, i < m → ∃ A c, w.cell? ⟨g, i, none⟩ = some (.slice A (LL i).length c) ∧ RdI w w.heap.size A (LL i).length (LL i)
def MakeOut (w : World) (k T : Nat) (fs : Nat → FV) (e : Ending) (w' : World) : Prop := ∃ SA Sc gP gT, e = .returned (.tuple #[.agg #[.slice SA T Sc, .slice (some ⟨gP, 0, none⟩) k k, .slice (some ⟨gT, 0, none⟩) k k], .nilIface]) ∧ Below w.heap.size w w' ∧
  RdI w' w'.heap.size SA T (Sced.sentL (plOf k fs T) T) ∧ RowsOut w' gP k (fun i => tab (totK fs i) (dueF (fs i).xs (fs i).zs T)) ∧ RowsOut w' gT k (fun i => Sced.thrF (plOf k fs T) i (totK fs i))
section
variable {k T : Nat} {fs : Nat → FV}
theorem rowsFill_start (hT : T = T) : ∀ i, i < k + 1 → rowsAt k fs T T i = rowsFill k fs T 0 0 i := by
  intro i _
  unfold rowsAt rowsFill
  by_cases e : i = k
  · subst e; rw [upd_same, if_pos rfl]
  · rw [upd_ne _ _ e, if_neg e, if_neg (by omega)]
    split <;> simp
theorem rowsFill_push {j r : Nat} (hj : j < k) : ∀ i, i < k + 1 → upd (rowsFill k fs T j r) j (rowsFill k fs T j r j ++ [-1]) i = rowsFill k fs T j (r + 1) i := by
  intro i _
  unfold rowsFill
  by_cases e : i = j
  · subst e
    rw [upd_same, if_neg (by omega), if_neg (by omega), if_pos rfl, if_neg (by omega), if_neg (by omega), if_pos rfl, List.append_assoc, List.replicate_succ']
  · rw [upd_ne _ _ e]
    by_cases e2 : i = k
    · rw [if_pos e2, if_pos e2]
    · rw [if_neg e2, if_neg e2]
      by_cases e3 : i < j
      · rw [if_pos e3, if_pos e3]
      · rw [if_neg e3, if_neg e3, if_neg e, if_neg e]
theorem rowsFill_next {j r : Nat} (hj : j < k) (hr : Sced.sentT (plOf k fs T) T j + r = totK fs j) : ∀ i, i < k + 1 → rowsFill k fs T j r i = rowsFill k fs T (j + 1) 0 i := by
  intro i _
  unfold rowsFill
  by_cases e2 : i = k
  · rw [if_pos e2, if_pos e2]
  · rw [if_neg e2, if_neg e2]
    by_cases e3 : i < j
    · rw [if_pos e3, if_pos (by omega)]
    · rw [if_neg e3]
      by_cases e : i = j
      · subst e
        rw [if_pos rfl, if_pos (by omega)]
        unfold Sced.thrF
        have hp : (plOf k fs T).ticks = T := rfl
        rw [hp, show totK fs i - Sced.sentT (plOf k fs T) T i = r from by omega]
      · rw [if_neg e, if_neg (by omega)]
        split <;> simp
theorem rowsFill_at {j r : Nat} (hj : j < k) : rowsFill k fs T j r j = Sced.thrL (plOf k fs T) j T ++ List.replicate r (-1) := by
  unfold rowsFill
  rw [if_neg (by omega), if_neg (by omega), if_pos rfl]
theorem rowsFill_len {j r : Nat} (hj : j < k) : (rowsFill k fs T j r j).length = Sced.sentT (plOf k fs T) T j + r := by
  rw [rowsFill_at hj, List.length_append, Sced.thrL_len, List.length_replicate]
theorem RowsOut.chg {w w' : World} {g m : Nat} {LL : Nat → List Int} {S : Nat → Prop} (h : RowsOut w g m LL) (hc : Chg w w' S) (hg : ¬ S g) (hr : ∀ i, i < m → ∀ A c, w.cell? ⟨g, i, none⟩ = some (.slice A (LL i).length c) → ∀ ad, A = some ad → ¬ S ad.block) : RowsOut w' g m LL :=
  ⟨Nat.lt_of_lt_of_le h.1 hc.size, fun i hi => by
    obtain ⟨A, c, h1, h2⟩ := h.2 i hi
    exact ⟨A, c, (hc.cell (p := ⟨g, i, none⟩) h.1 hg).trans h1, Reads.more (RdI.chg h2 (Nat.le_refl _) hc (hr i hi A c h1)) hc.size⟩⟩
theorem make_fin {w W wr wz w3 : World} {gp gP gT gc gs : Nat} {V Pv : Nat → Value} {come sent : Nat → Int} {SA : Option Addr} {Sc : Nat} (hg : FGood k T fs) (hm : MInv W wr k gp gP gT gc gs V (rowsFill k fs T k 0) come sent)
    (hP : RowV W gP 22 k Pv) (hD : ∀ i, i < k → DueAt w3 W fs T i (Pv i)) (far : MFar W gp gP gT gc gs) (hl3 : ∀ b, (b = gp ∨ b = gT ∨ b = gc ∨ b = gs) → b < w3.heap.size) (hlo : w.heap.size < gP ∧ w.heap.size < gT) (hw3 : w.heap.size < w3.heap.size) (hW : w.heap.size < W.heap.size)
    (hz : Chg wr wz (fun b => b = w.heap.size)) (hb : Below w.heap.size w wz) (hV : V k = .slice SA T Sc) {e : Ending} (he : e = .returned (.tuple #[.agg #[.slice SA T Sc, .slice (some ⟨gP, 0, none⟩) k k, .slice (some ⟨gT, 0, none⟩) k k], .nilIface])) : MakeOut w k T fs e wz := by
  have hown := hm.fam.own k (by omega)
  have hk : rowsFill k fs T k 0 k = Sced.sentL (plOf k fs T) T := if_pos rfl
  rw [hk, Sced.sentL_len] at hown
  refine ⟨SA, Sc, gP, gT, he, hb, ?_, ?_, ?_⟩
  · have ho2 := ownsRow_chg hown hz (fun g hg e => by have := (hown.lt g hg).1; omega)
    obtain ⟨A, c, hv, hr⟩ := own_reads ho2
    rw [hV] at hv
    injection hv with h1 h2 h3
    subst h1
    exact hr
  · have hP2 := hP.chg hm.chg (by have h1 := far.n1; have h2 := far.n5; have h3 := far.n6; have h4 := far.n7; omega)
    have h1 : RowsOut wr gP k (fun i => tab (totK fs i) (dueF (fs i).xs (fs i).zs T)) := ⟨hP2.lt, fun i hi => by
      obtain ⟨A, c, K, hv, hK, hr, hA⟩ := (hD i hi).chg hm.chg hl3
      have : K = totK fs i := by have := hg.tot hi; omega
      subst this
      refine ⟨A, c, ?_, ?_⟩
      · rw [tab_length]; exact (hP2.cell hi).trans (by rw [hv])
      · rw [tab_length]; exact hr⟩
    refine h1.chg hz (by omega) fun i hi A c hc ad hA e => ?_
    obtain ⟨A', c', K, hv, hK, hr, hA'⟩ := (hD i hi).chg hm.chg hl3
    rw [(hP2.cell hi), hv] at hc
    injection hc with hc
    injection hc with hc _ _
    have := hA' ad (hc.trans hA)
    omega
  · have h1 : RowsOut wr gT k (fun i => Sced.thrF (plOf k fs T) i (totK fs i)) := ⟨hm.kT.lt, fun i hi => by
      have ho := hm.fam.own i (by omega)
      have hi2 : rowsFill k fs T k 0 i = Sced.thrF (plOf k fs T) i (totK fs i) := by unfold rowsFill; rw [if_neg (by omega), if_pos hi]
      rw [hi2] at ho
      obtain ⟨A, c, hv, hr⟩ := own_reads ho
      exact ⟨A, c, (hm.kT.cell hi).trans (by rw [hv]), hr⟩⟩
    refine h1.chg hz (by omega) fun i hi A c hc ad hA e => ?_
    rw [hm.kT.cell hi] at hc
    injection hc with hc
    have := (hm.fam.lt (i := i) (by omega) ad.block (by rw [hc, hA]; rfl)).1
    omega
end
end Go.Proofs.Ytjjmfgoeabmfdaa
