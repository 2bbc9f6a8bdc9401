/-
  The fact acts: a mark and a jump.
-/
import Derived.Test.YtdhojhgmaodifaaDoorActNew
import Derived.Test.YtdhojhgmaodifaaDoorActDo
namespace Go.Proofs.YtdhojhgmaodifaaDoor
open Go.RowKit Bkt
set_option linter.unusedVariables false

theorem rdR_blk {α : Type} {R : Rec α} {w : World} {g : Nat} {t : TypeId} {cs : Array Value} {l : List α} (h : Blk w g t cs) (hc : cs.toList = l.flatMap R.cells) : RdR R w w.heap.size (some ⟨g, 0, none⟩) l.length l := by
  refine ⟨flatR_len l, fun _ => ⟨_, rfl, h.lt, fun j u hu => ?_⟩⟩
  rw [Addr.add_lit, Nat.zero_add, h.cell, ← hu, ← hc]
  simp
def actsL : List Actn.Ac := [⟨3, 7, 0⟩, ⟨8, 7, 3⟩, ⟨2, 0, 0⟩]
theorem acts_ok : PrgOk actsL [] := by
  refine ⟨by decide, by decide, fun i hi => by simp at hi, fun i hi => ?_⟩
  have hi3 : i = 0 ∨ i = 1 ∨ i = 2 := by have : actsL.length = 3 := rfl; omega
  rcases hi3 with rfl | rfl | rfl
  · exact ⟨by decide, by decide, by decide, by decide, by decide⟩
  · exact ⟨by decide, by decide, by decide, by decide, by decide⟩
  · exact ⟨by decide, by decide, by decide, by decide, by decide⟩
theorem acts_ahead : Actn.Ahead actsL := by
  intro i hi
  have hi3 : i = 0 ∨ i = 1 ∨ i = 2 := by have : actsL.length = 3 := rfl; omega
  rcases hi3 with rfl | rfl | rfl <;> exact ⟨by decide, by decide, by decide⟩
theorem acts_end (x : It) (c : Nat → Int) : Actn.Ends actsL ⟨0, x, c⟩ ⟨3, { x with mark := 7 }, c⟩ true false := by
  refine ⟨2, ?_, .inl ⟨by decide, rfl, .inl ⟨rfl, .inl (show (3 : Nat) ≤ 3 from Nat.le_refl _)⟩⟩⟩
  have h1 : Actn.Step actsL ⟨0, x, c⟩ ⟨1, { x with mark := 7 }, c⟩ := .mark (show (0 : Nat) < 3 by decide) rfl
  have h2 : Actn.Step actsL ⟨1, { x with mark := 7 }, c⟩ ⟨3, { x with mark := 7 }, c⟩ := .meet (show (1 : Nat) < 3 by decide) rfl rfl
  exact .snoc (.snoc .zero h1) h2
theorem acts_is {x : It} {s : Actn.Sa} {on cyc : Bool} (h : Actn.Ends actsL ⟨0, x, fun _ => 0⟩ s on cyc) : s.x.mark = 7 ∧ on = true ∧ cyc = false := by
  have h0 := acts_end x (fun _ => 0)
  have := Actn.Ends.same h0 h acts_ahead (d := fun _ => 0) ⟨rfl, rfl, fun j => by simp⟩ (fun j => by simp) (fun j => by simp)
  obtain ⟨h1, h2, h3⟩ := this
  exact ⟨by rw [h1.x], h2.symm, h3.symm⟩
def actsArr : Array Value := #[.int .i64 3, .int .i64 7, .int .i64 0, .int .i64 8, .int .i64 7, .int .i64 3, .int .i64 2, .int .i64 0, .int .i64 0]
theorem ac_wf (w : World) : ∀ i, (Lit.int .i64 (Actn.ax actsL i).kind).wf = true := by
  intro i
  rcases i with _ | _ | _ | i
  · decide
  · decide
  · decide
  · rfl

set_option maxHeartbeats 1000000 in
set_option maxRecDepth 100000 in
theorem acts_yes (w : World) : Calls Tryd.prog 28 #[] w fun e w' => e = .returned (.bool true) ∧ Below w.heap.size w w' := by
  have hk := Blk.new w 65 actsArr
  have hrd : RdR AcR (w.alloc (.cells actsArr 65)) (w.alloc (.cells actsArr 65)).heap.size (some ⟨w.heap.size, 0, none⟩) actsL.length actsL := rdR_blk hk rfl
  have hnew := anew_any (some ⟨w.heap.size, 0, none⟩) 3 3 actsL none 0 0 [] _ hrd RdR.nil (ac_wf w) (by decide) (by decide)
  have hb0 : Below w.heap.size w (w.alloc (.cells actsArr 65)) := (Below.refl _ _).alloc (Nat.le_refl _) _
  have HNEW := Lib.hid hnew; have HB0 := Lib.hid hb0
  clear hk hrd hnew hb0
  unfold actsArr at *
  go_enter Tryd.func28, Tryd.ntmps28
  go_wp2_with fail
  (with_reducible refine HNEW.out.mono ?_)
  rintro e w1 (⟨_, g, Aa, ca, Ab, cb, gs, rfl, hgs, hprg, hb1⟩ | ⟨hbad, _⟩)
  · obtain rfl : gs = [] := List.eq_nil_of_length_eq_zero (by simpa using hgs)
    have hb2 := bl_next HB0.out hb1
    have hdo := do_yes w1.heap.size g
    have hdo := do_yes _ g Aa ca Ab cb actsL [] (fun _ => 0) ⟨0, 1, 0, 0, 0⟩ w1 hprg acts_ok.ac ⟨by decide, by decide, by decide, by decide, by decide⟩ (by decide) hb1.size
    have HDO := Lib.hid hdo; have HB2 := Lib.hid hb2
    unfold itV at hdo
    dsimp only at hdo
    have HDO := Lib.hid hdo
    clear hdo hprg hb1 hb2
    go_wp2_with fail
    (with_reducible refine HDO.out.mono ?_)
    rintro e w2 ⟨s, on, cyc, rfl, hends, _, hb3, _⟩
    obtain ⟨e1, rfl, rfl⟩ := acts_is hends
    have hb4 := HB2.out.trans (hb3.mono (by have := HB0.out.size; omega))
    have HB4 := Lib.hid hb4
    clear hb3 hb4 hends
    obtain ⟨at_, ⟨xa, xl, xf, xb, xm⟩, d⟩ := s
    dsimp only at e1
    subst e1
    unfold itV errV
    dsimp only
    go_wp2_with fail
    go_ret
    exact ⟨rfl, HB4.out.alloc HB4.out.size _⟩
  · exact absurd acts_ok hbad
end Go.Proofs.YtdhojhgmaodifaaDoor
