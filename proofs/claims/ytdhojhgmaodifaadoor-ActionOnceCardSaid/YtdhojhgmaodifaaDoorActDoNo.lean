/-
  What a program of actions does with a packet that may not be.
-/
import Derived.Test.YtdhojhgmaodifaaDoorActDo
namespace Go.Proofs.YtdhojhgmaodifaaDoor
open Go.RowKit Bkt
set_option linter.unusedVariables false

set_option maxHeartbeats 1000000 in
set_option maxRecDepth 100000 in
theorem do_no (r : Value) (x : It) (w : World) (hx : ¬ ItFine x) :
    Calls Tryd.prog 29 #[r, itV x] w fun e w' => e = .returned (.tuple #[itV It.zero, .bool false, .iface 61 (.int .i64 2)]) ∧ Below w.heap.size w w' := by
  have hit := fun W => item_rng x W hx
  have hk1 := Blk.new (w.alloc (.cells (itArr x) 39)) 39 #[.int .i64 0, .int .i64 0, .int .i64 0, .int .i64 0, .int .i64 0]
  have hb0 : Below w.heap.size w ((w.alloc (.cells (itArr x) 39)).alloc (.cells #[.int .i64 0, .int .i64 0, .int .i64 0, .int .i64 0, .int .i64 0] 39)) := ((Below.refl _ _).alloc (Nat.le_refl _) _).alloc (by simp) _
  have HIT := Lib.hid hit; have HK1 := Lib.hid hk1; have HB0 := Lib.hid hb0
  clear hit hk1 hb0 hx
  obtain ⟨xa, xl, xf, xb, xm⟩ := x
  unfold itV itArr at *
  dsimp only at *
  go_enter Tryd.func29, Tryd.ntmps29
  go_wp2_with fail
  refine (HIT.out _).mono ?_
  rintro e w1 ⟨rfl, hb1⟩
  have hkz : Blk w1 (w.heap.size + 1) 39 #[.int .i64 0, .int .i64 0, .int .i64 0, .int .i64 0, .int .i64 0] := by
    have := HK1.out.below hb1 HK1.out.lt
    simpa using this
  have hbw := HB0.out.trans (hb1.mono (by simp; omega))
  have z0 := hkz.cell 0; have z1 := hkz.cell 1; have z2 := hkz.cell 2; have z3 := hkz.cell 3; have z4 := hkz.cell 4
  have fz0 := hkz.frozen 0; have fz1 := hkz.frozen 1; have fz2 := hkz.frozen 2; have fz3 := hkz.frozen 3; have fz4 := hkz.frozen 4
  simp at z0 z1 z2 z3 z4
  have HKZ := Lib.hid hkz; have HBW := Lib.hid hbw
  clear hkz hbw hb1
  go_wp2_with fail
  refine bodyPost_is fun Wf hWf => ?_
  have hch : Below w.heap.size w Wf := by
    rw [hWf]
    exact (HBW.out).trans ((chg_five w1 (w.heap.size + 1) _ _ _ _ _).below HBW.out.size (fun i hi e => by omega))
  have hkf : Blk Wf (w.heap.size + 1) 39 #[.int .i64 0, .int .i64 0, .int .i64 0, .int .i64 0, .int .i64 0] := by rw [hWf]; exact blk_five HKZ.out _ _ _ _ _
  clear hWf
  have r0 := hkf.cell 0; have r1 := hkf.cell 1; have r2 := hkf.cell 2; have r3 := hkf.cell 3; have r4 := hkf.cell 4
  simp at r0 r1 r2 r3 r4
  exact bodyPost_ret (v := .tuple #[itV It.zero, .bool false, .iface 61 (.int .i64 2)]) (by simp [results, Tryd.results29, go_sem, itV, It.zero, r0, r1, r2, r3, r4]) rfl ⟨rfl, hch⟩
end Go.Proofs.YtdhojhgmaodifaaDoor
