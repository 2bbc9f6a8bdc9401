/-
  The fact listed: two packets in order, and not.
-/
import Derived.Test.YtdipehgijjkfdaaDoorList
import Derived.Test.YtdipehgijjkfdaaDoorAsAt
namespace Go.Proofs.YtdipehgijjkfdaaDoor
open Go.RowKit Bkt
set_option linter.unusedVariables false

theorem add_mid (g j : Nat) : (⟨g, 0, none⟩ : Addr).add j = ⟨g, j, none⟩ := by unfold Addr.add; split <;> simp_all
theorem rdIt_blk {w : World} {g : Nat} {t : TypeId} {cs : Array Value} {l : List It} {n : Nat} (h : Blk w g t cs) (hc : cs.toList = l.flatMap itCells) (hn : l.length = n) : RdIt w w.heap.size (some ⟨g, 0, none⟩) n l := by
  subst hn
  refine ⟨flat_len l, fun _ => ⟨_, rfl, h.lt, fun j u hu => ?_⟩⟩
  rw [add_mid, h.cell j, ← hu, ← hc]
  simp
def OrdErr (w : World) (e : Ending) (w' : World) : Prop := ∃ g : Nat, e = .returned (.iface 46 (.pointer (some ⟨g, 0, none⟩))) ∧ w'.cell? ⟨g, 0, none⟩ = some (.int .i64 10) ∧ Below w.heap.size w w'

set_option maxHeartbeats 2000000 in
set_option maxRecDepth 100000 in
theorem list_two (b : Nat) (w : World) (h0 : Blk w b 31 #[.int .i64 2, .int .i64 5, .int .i64 0, .int .i64 0, .int .i64 0, .int .i64 1, .int .i64 5, .int .i64 0, .int .i64 0, .int .i64 0]) :
    Calls Tryd.prog 7 #[.slice (some ⟨b, 0, none⟩) 2 2] w (OrdErr w) := by
  have hlt := h0.lt
  have hy := fun W => item_yes ⟨2, 5, 0, 0, 0⟩ W ⟨by decide, by decide, by decide, by decide, by decide⟩
  have hz := fun W => item_yes ⟨1, 5, 0, 0, 0⟩ W ⟨by decide, by decide, by decide, by decide, by decide⟩
  unfold itV at hy hz
  dsimp only at hy hz
  have HY := Lib.hid hy; have HZ := Lib.hid hz; clear hy hz
  have c0 : w.cell? ⟨b, 0, none⟩ = some (.int .i64 2) := h0.cell 0
  have c1 : w.cell? ⟨b, 1, none⟩ = some (.int .i64 5) := h0.cell 1
  have c2 : w.cell? ⟨b, 2, none⟩ = some (.int .i64 0) := h0.cell 2
  have c3 : w.cell? ⟨b, 3, none⟩ = some (.int .i64 0) := h0.cell 3
  have c4 : w.cell? ⟨b, 4, none⟩ = some (.int .i64 0) := h0.cell 4
  have H0 := Lib.hid h0; clear h0
  go_enter Tryd.func7, Tryd.ntmps7
  go_wp2_with fail
  refine wp_loop_rounds 2 ?_
  rw [rounds_succ]
  go_wp2_with fail
  refine (HY.out _).mono ?_
  rintro e w1 ⟨rfl, hb1⟩
  have hb : Below w.heap.size w w1 := ((Below.refl _ w).alloc (Nat.le_refl _) _).trans (hb1.mono (by simp))
  clear c0 c1 c2 c3 c4
  go_wp2_with fail
  go_quiet (fail)
  go_wp2_with fail
  have hb2 : Below w.heap.size w (w1.drewN nq) := below_drewN hb _
  have h2 := Blk.below H0.out hb2 hlt
  generalize w1.drewN nq = w2 at *
  have d0 : w2.cell? ⟨b, 0, none⟩ = some (.int .i64 2) := h2.cell 0
  have d5 : w2.cell? ⟨b, 5, none⟩ = some (.int .i64 1) := h2.cell 5
  have d6 : w2.cell? ⟨b, 6, none⟩ = some (.int .i64 5) := h2.cell 6
  have d7 : w2.cell? ⟨b, 7, none⟩ = some (.int .i64 0) := h2.cell 7
  have d8 : w2.cell? ⟨b, 8, none⟩ = some (.int .i64 0) := h2.cell 8
  have d9 : w2.cell? ⟨b, 9, none⟩ = some (.int .i64 0) := h2.cell 9
  have H2 := Lib.hid h2; clear h2 hb hb1
  rw [rounds_succ]
  go_wp2_with fail
  refine (HZ.out _).mono ?_
  rintro e w3 ⟨rfl, hb3⟩
  have hx3 : Below w2.heap.size w2 w3 := ((Below.refl _ w2).alloc (Nat.le_refl _) _).trans (hb3.mono (by simp))
  have hbb := hb2.trans (hx3.mono hb2.size)
  have hd3 := Blk.below H2.out hx3 (Blk.lt H2.out)
  have f0 : w3.cell? ⟨b, 0, none⟩ = some (.int .i64 2) := hd3.cell 0
  have x0 : w3.cell? ⟨w2.heap.size, 0, none⟩ = some (.int .i64 1) := (hb3.cell (p := ⟨w2.heap.size, 0, none⟩) (by simp)).trans (by simp)
  clear d0 d5 d6 d7 d8 d9 hd3 hb3 hx3 hb2
  go_wp2_with fail
  go_quiet (fail)
  go_wp2_with fail
  go_ret
  exact ⟨w3.heap.size, rfl, (Blk.new (w3.drewN _) _ _).cell 0, (below_drewN hbb _).alloc hbb.size _⟩

set_option maxHeartbeats 2000000 in
set_option maxRecDepth 100000 in
theorem blk_third (w : World) (o1 o2 : Obj) (cs : Array Value) (t : TypeId) : Blk (((w.alloc o1).alloc o2).alloc (.cells cs t)) (w.heap.size + 1 + 1) t cs := by
  have := Blk.new ((w.alloc o1).alloc o2) t cs
  rwa [show ((w.alloc o1).alloc o2).heap.size = w.heap.size + 1 + 1 from by simp] at this
theorem blk_second (w : World) (o1 o2 : Obj) (cs : Array Value) (t : TypeId) (o1' : Obj) (h : o1' = .cells cs t) : Blk (((w.alloc o1).alloc o1').alloc o2) (w.heap.size + 1) t cs := by
  subst h
  have := Blk.new (w.alloc o1) t cs
  rw [show (w.alloc o1).heap.size = w.heap.size + 1 from by simp] at this
  exact this.alloc o2
theorem blk_first (w : World) (o2 o3 : Obj) (cs : Array Value) (t : TypeId) : Blk (((w.alloc (.cells cs t)).alloc o2).alloc o3) w.heap.size t cs := ((Blk.new w t cs).alloc o2).alloc o3
set_option maxHeartbeats 2000000 in
set_option maxRecDepth 100000 in
theorem listed_any (w : World) (hg : Handle w) : Calls Tryd.prog 6 #[] w fun e w' => e = .returned (.bool true) ∧ Below w.heap.size w w' := by
  have HG := Lib.hid hg; clear hg
  have hfine : ListFine [⟨1, 5, 0, 0, 0⟩, ⟨2, 5, 0, 0, 0⟩] := by
    refine ⟨by decide, fun i hi => ?_, fun i hi => ?_⟩
    · have hi' : i < 2 := hi
      obtain rfl | rfl : i = 0 ∨ i = 1 := by omega
      · exact ⟨by decide, by decide, by decide, by decide, by decide⟩
      · exact ⟨by decide, by decide, by decide, by decide, by decide⟩
    · have hi' : i + 1 < 2 := hi
      obtain rfl : i = 0 := by omega
      decide
  have HF := Lib.hid hfine; clear hfine
  go_enter Tryd.func6, Tryd.ntmps6
  go_wp2_with fail
  have hb0 : ∀ o1 o2 o3, Below w.heap.size w (((w.alloc o1).alloc o2).alloc o3) := fun o1 o2 o3 => (((Below.refl _ w).alloc (Nat.le_refl _) _).alloc (by simp) _).alloc (by simp; omega) _
  have hb1 := hb0 (.cells #[.int .i64 1, .int .i64 5, .int .i64 0, .int .i64 0, .int .i64 0] 31) (.cells #[.int .i64 2, .int .i64 5, .int .i64 0, .int .i64 0, .int .i64 0] 31) (.cells #[.int .i64 1, .int .i64 5, .int .i64 0, .int .i64 0, .int .i64 0, .int .i64 2, .int .i64 5, .int .i64 0, .int .i64 0, .int .i64 0] 31)
  have k1 := blk_first w (.cells #[.int .i64 2, .int .i64 5, .int .i64 0, .int .i64 0, .int .i64 0] 31) (.cells #[.int .i64 1, .int .i64 5, .int .i64 0, .int .i64 0, .int .i64 0, .int .i64 2, .int .i64 5, .int .i64 0, .int .i64 0, .int .i64 0] 31) #[.int .i64 1, .int .i64 5, .int .i64 0, .int .i64 0, .int .i64 0] 31
  have k2 := blk_second w (.cells #[.int .i64 1, .int .i64 5, .int .i64 0, .int .i64 0, .int .i64 0] 31) (.cells #[.int .i64 1, .int .i64 5, .int .i64 0, .int .i64 0, .int .i64 0, .int .i64 2, .int .i64 5, .int .i64 0, .int .i64 0, .int .i64 0] 31) #[.int .i64 2, .int .i64 5, .int .i64 0, .int .i64 0, .int .i64 0] 31 _ rfl
  have k3 := blk_third w (.cells #[.int .i64 1, .int .i64 5, .int .i64 0, .int .i64 0, .int .i64 0] 31) (.cells #[.int .i64 2, .int .i64 5, .int .i64 0, .int .i64 0, .int .i64 0] 31) #[.int .i64 1, .int .i64 5, .int .i64 0, .int .i64 0, .int .i64 0, .int .i64 2, .int .i64 5, .int .i64 0, .int .i64 0, .int .i64 0] 31
  generalize ((w.alloc (.cells #[.int .i64 1, .int .i64 5, .int .i64 0, .int .i64 0, .int .i64 0] 31)).alloc (.cells #[.int .i64 2, .int .i64 5, .int .i64 0, .int .i64 0, .int .i64 0] 31)).alloc (.cells #[.int .i64 1, .int .i64 5, .int .i64 0, .int .i64 0, .int .i64 0, .int .i64 2, .int .i64 5, .int .i64 0, .int .i64 0, .int .i64 0] 31) = W at *
  have l1 := k1.lt; have l2 := k2.lt
  refine (list_any _ 2 2 [⟨1, 5, 0, 0, 0⟩, ⟨2, 5, 0, 0, 0⟩] W (rdIt_blk k3 rfl rfl) (HG.out.below hb1)).mono ?_
  rintro e w1 (⟨_, rfl, hb2⟩ | ⟨hbad, _⟩)
  · have hbw := hb1.trans (hb2.mono hb1.size)
    have j1 := k1.below hb2 l1; have j2 := k2.below hb2 l2
    clear k1 k2 k3 l1 l2 hb0 hb1 hb2
    have d0 : w1.cell? ⟨w.heap.size, 0, none⟩ = some (.int .i64 1) := j1.cell 0
    have d1 : w1.cell? ⟨w.heap.size, 1, none⟩ = some (.int .i64 5) := j1.cell 1
    have d2 : w1.cell? ⟨w.heap.size, 2, none⟩ = some (.int .i64 0) := j1.cell 2
    have d3 : w1.cell? ⟨w.heap.size, 3, none⟩ = some (.int .i64 0) := j1.cell 3
    have d4 : w1.cell? ⟨w.heap.size, 4, none⟩ = some (.int .i64 0) := j1.cell 4
    have f0 : w1.cell? ⟨w.heap.size + 1, 0, none⟩ = some (.int .i64 2) := j2.cell 0
    have f1 : w1.cell? ⟨w.heap.size + 1, 1, none⟩ = some (.int .i64 5) := j2.cell 1
    have f2 : w1.cell? ⟨w.heap.size + 1, 2, none⟩ = some (.int .i64 0) := j2.cell 2
    have f3 : w1.cell? ⟨w.heap.size + 1, 3, none⟩ = some (.int .i64 0) := j2.cell 3
    have f4 : w1.cell? ⟨w.heap.size + 1, 4, none⟩ = some (.int .i64 0) := j2.cell 4
    have HBW := Lib.hid hbw; clear j1 j2 hbw
    go_wp2_with fail
    refine (list_two _ _ (Blk.new w1 _ _)).mono ?_
    rintro e w2 ⟨g, rfl, hq, hb2⟩
    have hb3 := HBW.out.trans ((((Below.refl _ w1).alloc (Nat.le_refl _) _).trans (hb2.mono (by simp))).mono HBW.out.size)
    clear d0 d1 d2 d3 d4 f0 f1 f2 f3 f4 hb2
    go_wp2_with fail
    refine (tell_at 10 g w2 (HG.out.below hb3) hq).mono ?_
    rintro e w4 ⟨rfl, hb4⟩
    go_wp2_with fail
    go_ret
    exact ⟨rfl, hb3.trans (hb4.mono hb3.size)⟩
  · exact absurd HF.out hbad
end Go.Proofs.YtdipehgijjkfdaaDoor
