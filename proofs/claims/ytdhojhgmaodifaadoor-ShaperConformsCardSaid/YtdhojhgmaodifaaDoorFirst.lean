/-
  The fact 'first': a queue of two.
-/
import Derived.Test.YtdhojhgmaodifaaDoorKept
import Derived.Test.YtdhojhgmaodifaaDoorPlay
namespace Go.Proofs.YtdhojhgmaodifaaDoor
open Go.RowKit Bkt
set_option linter.unusedVariables false

theorem RdR.of_blk {α : Type} {R : Rec α} {w : World} {g : Nat} {t : TypeId} {cs : Array Value} {l : List α} (h : Blk w g t cs) (hc : cs.toList = l.flatMap R.cells) : RdR R w w.heap.size (some ⟨g, 0, none⟩) l.length l := by
  refine ⟨flatR_len l, fun _ => ⟨_, rfl, h.lt, fun j u hu => ?_⟩⟩
  rw [Addr.add_lit, Nat.zero_add, h.cell, ← hu, ← hc]
  simp
/-- a plain queue that was just made is its machine, empty -/
theorem Ffo.inv {w : World} {base g : Nat} {p : Pl.FP} {cs : Array Value} (h : Ffo w base g 0 120 cs (.slice none 0 0) [] p) (hg : base ≤ g) : FInv1 base g p [] 0 (fun i => i = g) w :=
  ⟨.slice none 0 0, cs, h, by simp, fun x hx => by simp at hx, Nat.le_trans hg (Nat.le_of_lt h.lst.blk.lt), by omega, hg, fun i => by simp [Value.ownBlock]⟩

/-- a play, told by the number of steps -/
theorem play_seen {M : Pl.QM} {inv : M.σ → Nat → (Nat → Prop) → World → Prop} {q : Value} {base : Nat} (I : QImp M q base inv) (A : Option Addr) (n c : Nat) (l : List Pl.Stp) (s0 : M.σ) (F0 : Nat → Prop) (w : World)
    (hr : RdR StR w w.heap.size A n l) (hn : n ≤ 1000) (hi : inv s0 0 F0 w) :
    Calls Tryd.prog 37 #[q, .slice A n c] w fun e w' => ∃ As cs F', e = .returned (.slice As n cs) ∧ RdSn w' w'.heap.size As n (Pl.seenAt M s0 (Pl.timesTo l n)) ∧ (∃ k, inv (Pl.nth M s0 (Pl.timesTo l n) n).2 k F' w') ∧ Chg w w' F0 ∧
      (∀ i, F' i → F0 i ∨ w.heap.size ≤ i) ∧ ∀ ad, As = some ad → w.heap.size ≤ ad.block := by
  have htl := Pl.timesTo_len l n (by have := hr.len; omega)
  refine (play_any I A n c l s0 0 F0 w hr (by omega) hi).mono ?_
  rintro e w' ⟨As, cs, e1, h1, h4, F', h2, h3, h5⟩
  rw [htl] at e1 h1 h2
  exact ⟨As, cs, F', e1, h1, ⟨_, h2⟩, h3, h5, h4⟩

def firstSteps : List Pl.Stp := [⟨0, 0, ⟨0, 5, 0, 0, 0⟩⟩, ⟨0, 0, ⟨0, 6, 0, 0, 0⟩⟩, ⟨0, 0, ⟨0, 7, 0, 0, 0⟩⟩, ⟨1, 0, ⟨0, 0, 0, 0, 0⟩⟩]
def firstP : Pl.FP := ⟨2, 100, false⟩
theorem first_sees : (Pl.seenAt (Pl.fifoM firstP) [] (Pl.timesTo firstSteps 4) 2).lost = [2] ∧ (Pl.seenAt (Pl.fifoM firstP) [] (Pl.timesTo firstSteps 4) 3).taken = 0 ∧
    (Pl.seenAt (Pl.fifoM firstP) [] (Pl.timesTo firstSteps 4) 3).len = 1 ∧ (Pl.seenAt (Pl.fifoM firstP) [] (Pl.timesTo firstSteps 4) 3).bytes = 6 := by
  refine ⟨?_, ?_, ?_, ?_⟩ <;> rfl

def firstCells : Array Value := #[.int .i64 0, .int .i64 0, .int .i64 0, .int .i64 5, .int .i64 0, .int .i64 0, .int .i64 0, .int .i64 0, .int .i64 0, .int .i64 0, .int .i64 6, .int .i64 0, .int .i64 0, .int .i64 0,
  .int .i64 0, .int .i64 0, .int .i64 0, .int .i64 7, .int .i64 0, .int .i64 0, .int .i64 0, .int .i64 1, .int .i64 0, .int .i64 0, .int .i64 0, .int .i64 0, .int .i64 0, .int .i64 0]
theorem first_play {w1 : World} {base g : Nat} {cs : Array Value} (hg : base ≤ g) (hf : Ffo w1 base g 0 120 cs (.slice none 0 0) [] firstP) :
    Calls Tryd.prog 37 #[.iface 71 (.pointer (some ⟨g, 0, none⟩)), .slice (some ⟨w1.heap.size, 0, none⟩) 4 4] (w1.alloc (.cells firstCells 82)) fun e w' => ∃ A c, e = .returned (.slice A 4 c) ∧
      RdSn w' w'.heap.size A 4 (Pl.seenAt (Pl.fifoM firstP) [] (Pl.timesTo firstSteps 4)) ∧ Chg (w1.alloc (.cells firstCells 82)) w' (fun i => i = g) := by
  have hp : Pl.FOk firstP := ⟨by decide, by decide⟩
  have hc : Chg w1 (w1.alloc (.cells firstCells 82)) (fun _ => False) := (Chg.refl _ _).alloc _
  have hi : FInv1 base g firstP [] 0 (fun i => i = g) (w1.alloc (.cells firstCells 82)) := (fifo_imp base g firstP hp).chg _ _ _ _ _ _ (Ffo.inv hf hg) hc (fun _ _ h => h)
  have hr : RdR StR (w1.alloc (.cells firstCells 82)) (w1.alloc (.cells firstCells 82)).heap.size (some ⟨w1.heap.size, 0, none⟩) firstSteps.length firstSteps := RdR.of_blk (Blk.new w1 82 firstCells) rfl
  refine (play_any (fifo_imp base g firstP hp) (some ⟨w1.heap.size, 0, none⟩) 4 4 firstSteps [] 0 _ _ hr (by decide) hi).mono ?_
  rintro e w' ⟨A, c, e1, h1, _, F', _, h3, _⟩
  exact ⟨A, c, e1, h1, h3⟩
theorem RdSn.two {w : World} {B n : Nat} {A : Option Addr} {sn : Nat → Pl.Seen} (h : RdSn w B A n sn) {j k : Nat} (hj : j < n) (hk : k < n) : ∃ b off A' c, A = some ⟨b, off, none⟩ ∧ b < B ∧ w.cell? ⟨b, off + j * 6 + 5, none⟩ = some (.slice A' (sn j).lost.length c) ∧ RdI w B A' (sn j).lost.length (sn j).lost ∧
    w.cell? ⟨b, off + k * 6, none⟩ = some (.int .i64 (sn k).taken) ∧ w.cell? ⟨b, off + k * 6 + 3, none⟩ = some (.int .i64 (sn k).len) ∧ w.cell? ⟨b, off + k * 6 + 4, none⟩ = some (.int .i64 (sn k).bytes) := by
  obtain ⟨b, off, A', c, rfl, hb, _, _, _, h5, h6⟩ := h.at_ hj
  obtain ⟨b', off', _, _, e, _, g0, g3, g4, _, _⟩ := h.at_ hk
  injection e with e
  injection e with e1 e2
  subst e1 e2
  exact ⟨b, off, A', c, rfl, hb, h5, h6, g0, g3, g4⟩

set_option maxHeartbeats 1000000 in
set_option maxRecDepth 100000 in
theorem first_yes (w : World) : Calls Tryd.prog 35 #[] w fun e w' => e = .returned (.bool true) ∧ Below w.heap.size w w' := by
  have hp : Pl.FOk firstP := ⟨by decide, by decide⟩
  have hn : Calls Tryd.prog 34 #[.int .i64 2, .int .i64 100, .bool false] w (NewFifoOut w firstP) := newFifo_yes firstP w hp
  have HN := Lib.hid hn
  clear hn
  go_enter Tryd.func35, Tryd.ntmps35
  go_wp2_with fail
  (with_reducible refine HN.out.mono ?_)
  rintro e w1 ⟨g, rfl, hg, hb1, hf⟩
  have hpl := first_play hg hf
  have HB1 := Lib.hid hb1; have HPL := Lib.hid hpl
  clear hb1 hf hpl
  unfold firstCells at HPL
  go_wp2_with fail
  (with_reducible refine HPL.out.mono ?_)
  rintro e w2 ⟨A, c, rfl, hs, hc⟩
  obtain ⟨b, off, A', c', rfl, hb, y5, yr, z0, z3, z4⟩ := hs.two (j := 2) (k := 3) (by omega) (by omega)
  obtain ⟨s1, s2, s3, s4⟩ := first_sees
  rw [s1] at y5 yr
  rw [s2] at z0; rw [s3] at z3; rw [s4] at z4
  obtain ⟨b2, off2, rfl, _, yc⟩ := yr.get (k := 0) (by decide)
  have hfin : Below w.heap.size w w2 := by
    have h1 := HB1.out
    have h2 := (hc.below (B := w.heap.size) (by have := h1.size; simp; omega) (fun i hi e => by omega))
    exact (h1.alloc h1.size _).trans h2
  have HFIN := Lib.hid hfin
  clear hs hc s1 s2 s3 s4 yr hfin
  simp at y5 yc z0 z3 z4
  go_wp2_with fail
  trace_state
  go_ret
  exact ⟨rfl, HFIN.out⟩
end Go.Proofs.YtdhojhgmaodifaaDoor
