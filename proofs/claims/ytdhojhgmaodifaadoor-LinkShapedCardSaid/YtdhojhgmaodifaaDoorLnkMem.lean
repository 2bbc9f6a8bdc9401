/-
  A run over a wire, as it lies in memory: the log, the queue, the rate.
-/
import Derived.Test.YtdhojhgmaodifaaDoorLnkAfter
namespace Go.Proofs.YtdhojhgmaodifaaDoor
open Go.RowKit Bkt
set_option linter.unusedVariables false

def sntCells (s : Pl.Snt) : List Value := [.int .i64 s.num, .int .i64 s.from_, .int .i64 s.to_, .int .i64 s.mark]
def SntR : Rec Pl.Snt := ⟨4, sntCells, fun _ => rfl, by decide, ⟨0, 0, 0, 0⟩⟩
theorem snt_one (s : Pl.Snt) : ∀ u ∈ sntCells s, u.oneCell' = true := by
  intro u hu
  simp [sntCells] at hu
  rcases hu with rfl | rfl | rfl | rfl <;> rfl
theorem Tryd.sntInfo : (Tryd.prog.info? 93).map (fun i => (i.zero, i.size, i.bytes)) = some (some (.agg #[.int .i64 0, .int .i64 0, .int .i64 0, .int .i64 0]), 4, 32) := by kernel_rfl
def logZ : Array Value := #[.slice none 0 0, .slice none 0 0, .int .i64 0, .int .i64 0]
structure LnM {M : Pl.QM} (inv : M.σ → Nat → (Nat → Prop) → World → Prop) (w0 wr : World) (F0 : Nat → Prop) (gr gz g : Nat) (rb rt : Int) (S : Pl.Lk M.σ) (F : Nat → Prop) (vs vl : Value) : Prop where
  blk : Blk wr g 89 #[vs, vl, .int .i64 0, .int .i64 S.most]
  os : OwnW wr w0.heap.size 93 4 vs S.sent.length (S.sent.flatMap SntR.cells)
  ol : OwnW wr w0.heap.size 3 1 vl S.lost.length (S.lost.flatMap IntR.cells)
  inv : inv S.q S.next F wr
  hF : ∀ i, F i → F0 i ∨ w0.heap.size ≤ i
  hg : ∀ i, F i → (i ≠ g ∧ i ≠ gr ∧ i ≠ gz) ∧ vs.ownBlock ≠ some i ∧ vl.ownBlock ≠ some i
  hlt : ∀ i, F i → i < wr.heap.size
  chg : Chg w0 wr F0
  rate : Blk wr gr 23 #[.int .i64 rb, .int .i64 rt]
  res : Blk wr gz 89 logZ
  n0 : w0.heap.size ≤ g ∧ w0.heap.size ≤ gr ∧ w0.heap.size ≤ gz
  gz : g ≠ gz
theorem ownW_lt {w : World} {base e size n : Nat} {v : Value} {xs : List Value} (h : OwnW w base e size v n xs) {i : Nat} (hi : v.ownBlock = some i) : base ≤ i ∧ i < w.heap.size := h.lt i hi
section
variable {M : Pl.QM} {inv : M.σ → Nat → (Nat → Prop) → World → Prop} {q : Value} {base : Nat} {w0 wr w' : World} {F0 F F' : Nat → Prop} {gr gz g : Nat} {rb rt : Int} {S : Pl.Lk M.σ} {vs vl : Value}
theorem LnM.over (I : QImp M q base inv) (h : LnM inv w0 wr F0 gr gz g rb rt S F vs vl) (hw : Below wr.heap.size wr w') : LnM inv w0 w' F0 gr gz g rb rt S F vs vl :=
  ⟨h.blk.below hw h.blk.lt, h.os.below hw, h.ol.below hw, I.chg _ _ _ _ _ (fun _ => False) h.inv (Chg.of_below hw) (fun _ _ e => e), h.hF, h.hg, fun i hi => Nat.lt_of_lt_of_le (h.hlt i hi) hw.size, h.chg.trans (Chg.of_below hw) (fun _ _ h => h), h.rate.below hw h.rate.lt, h.res.below hw h.res.lt, h.n0, h.gz⟩
/-- the queue has turned -/
theorem LnM.queue (I : QImp M q base inv) (h : LnM inv w0 wr F0 gr gz g rb rt S F vs vl) {s' : M.σ} {k' : Nat} (hi : inv s' k' F' w') (hc : Chg wr w' F) (hf : ∀ i, F' i → F i ∨ wr.heap.size ≤ i) : LnM inv w0 w' F0 gr gz g rb rt { S with q := s', next := k' } F' vs vl := by
  have hng : ¬ F g := fun e => (h.hg g e).1.1 rfl
  have hnr : ¬ F gr := fun e => (h.hg gr e).1.2.1 rfl
  have hnz : ¬ F gz := fun e => (h.hg gz e).1.2.2 rfl
  refine ⟨h.blk.chg hc hng, h.os.chg hc (fun i hi e => (h.hg i e).2.1 hi), h.ol.chg hc (fun i hi e => (h.hg i e).2.2 hi), hi, fun i hi => ?_, fun i hi => ?_, fun i hi2 => (I.lt _ _ _ _ hi i hi2).2, h.chg.trans hc (fun i hi e => ?_), h.rate.chg hc hnr, h.res.chg hc hnz, h.n0, h.gz⟩
  · rcases hf i hi with e | e
    · exact h.hF i e
    · exact .inr (Nat.le_trans h.chg.size e)
  · rcases hf i hi with e | e
    · exact h.hg i e
    · have h1 := h.blk.lt; have h2 := h.rate.lt; have h3 := h.res.lt
      exact ⟨⟨by omega, by omega, by omega⟩, fun e2 => by have := (ownW_lt h.os e2).2; omega, fun e2 => by have := (ownW_lt h.ol e2).2; omega⟩
  · rcases h.hF i e with e | e
    · exact e
    · omega
theorem LnM.at_now (h : LnM inv w0 wr F0 gr gz g rb rt S F vs vl) (x y : Int) : LnM inv w0 wr F0 gr gz g rb rt { S with now := x, free := y } F vs vl :=
  ⟨h.blk, h.os, h.ol, h.inv, h.hF, h.hg, h.hlt, h.chg, h.rate, h.res, h.n0, h.gz⟩
/-- what was lost is told -/
theorem LnM.lose (I : QImp M q base inv) (h : LnM inv w0 wr F0 gr gz g rb rt S F vs vl) {nums : List Int} {lv : Value} (hl : LlRel w0.heap.size wr w' g vs (.int .i64 0) (.int .i64 S.most) vl nums 0 lv) : LnM inv w0 w' F0 gr gz g rb rt { S with lost := nums } F vs lv := by
  have hvg : ∀ i, vl.ownBlock = some i → i ≠ gr ∧ i ≠ gz := fun i hi => ⟨fun e => h.ol.blk_ne h.rate (by decide) (e ▸ hi), fun e => h.ol.blk_ne h.res (by decide) (e ▸ hi)⟩
  have hrg : gr ≠ g := Blk.ne_ h.rate h.blk (by decide)
  have hvsg : vs.ownBlock ≠ some g := h.os.blk_ne h.blk (by decide)
  have hvv : ∀ i, vs.ownBlock = some i → vl.ownBlock ≠ some i := fun i hi e => by
    rcases h.os.2 with ⟨rfl, _⟩ | ⟨g1, o1, c1, cur, rfl, hb, hgg, _⟩
    · simp [Value.ownBlock] at hi
    · have e1 : g1 = i := by simpa [Value.ownBlock] using hi
      subst e1
      exact h.ol.blk_ne hgg (by decide) e
  refine ⟨hl.blk, h.os.chg hl.chg (fun i hi e => ?_), hl.own, I.chg _ _ _ _ _ _ h.inv hl.chg (fun i hi e => ?_), h.hF, fun i hi => ⟨(h.hg i hi).1, (h.hg i hi).2.1, fun e => ?_⟩, fun i hi => Nat.lt_of_lt_of_le (h.hlt i hi) hl.chg.size, h.chg.trans hl.chg (fun i hi e => ?_), h.rate.chg hl.chg (fun e => ?_), h.res.chg hl.chg (fun e => ?_), h.n0, h.gz⟩
  · rcases e with e | e
    · subst e; exact hvsg hi
    · exact hvv i hi e
  · rcases e with e | e
    · exact (h.hg i hi).1.1 e
    · exact (h.hg i hi).2.2 e
  · rcases hl.at_ with e2 | e2
    · exact (h.hg i hi).2.2 (e2 ▸ e)
    · have := e2 i e; have := h.hlt i hi; omega
  · rcases e with e | e
    · have := h.n0.1; omega
    · have := (ownW_lt h.ol e).1; omega
  · rcases e with e | e
    · exact hrg e
    · exact (hvg _ e).1 rfl
  · rcases e with e | e
    · exact h.gz e.symm
    · exact (hvg _ e).2 rfl
/-- the most bytes -/
theorem LnM.most (I : QImp M q base inv) (h : LnM inv w0 wr F0 gr gz g rb rt S F vs vl) (m : Int) : LnM inv w0 (wr.setCell ⟨g, 3, none⟩ (.int .i64 m)) F0 gr gz g rb rt { S with most := m } F vs vl := by
  have hc : Chg wr (wr.setCell ⟨g, 3, none⟩ (.int .i64 m)) (fun i => i = g) := Chg.setCell (p := ⟨g, 3, none⟩) (Chg.refl _ (fun i => i = g)) (fun _ => rfl) _
  have hrg : gr ≠ g := Blk.ne_ h.rate h.blk (by decide)
  exact ⟨h.blk.set_ 3 _, h.os.chg hc (fun i hi e => h.os.blk_ne h.blk (by decide) (e ▸ hi)), h.ol.chg hc (fun i hi e => h.ol.blk_ne h.blk (by decide) (e ▸ hi)), I.chg _ _ _ _ _ _ h.inv hc (fun i hi e => (h.hg i hi).1.1 e), h.hF, h.hg, fun i hi => Nat.lt_of_lt_of_le (h.hlt i hi) hc.size, h.chg.trans hc (fun i hi e => by have := h.n0.1; omega), h.rate.chg hc hrg, h.res.chg hc (fun e => h.gz e.symm), h.n0, h.gz⟩
/-- one more went -/
theorem LnM.went (I : QImp M q base inv) (h : LnM inv w0 wr F0 gr gz g rb rt S F vs vl) {y : Pl.Snt} {vs' : Value} (ho : OwnW w' w0.heap.size 93 4 vs' (S.sent.length + 1) ((S.sent ++ [y]).flatMap SntR.cells)) (hg : wr.grownBy w' vs.ownBlock) (ha : vs'.ownBlock = vs.ownBlock ∨ ∀ i, vs'.ownBlock = some i → wr.heap.size ≤ i) (free : Int) :
    LnM inv w0 (w'.setCell ⟨g, 0, none⟩ vs') F0 gr gz g rb rt { S with free := free, sent := S.sent ++ [y] } F vs' vl := by
  have hc1 : Chg wr w' (fun i => vs.ownBlock = some i) := Chg.of_grown hg (fun i e => e.symm)
  have hc2 : Chg w' (w'.setCell ⟨g, 0, none⟩ vs') (fun i => i = g) := Chg.setCell (p := ⟨g, 0, none⟩) (Chg.refl _ (fun i => i = g)) (fun _ => rfl) _
  have hrg : gr ≠ g := Blk.ne_ h.rate h.blk (by decide)
  have hvg : vs.ownBlock ≠ some g := h.os.blk_ne h.blk (by decide)
  have hb1 := h.blk.chg hc1 hvg
  have hv2 : vs'.ownBlock ≠ some g := ho.blk_ne hb1 (by decide)
  have hvv : ∀ i, vl.ownBlock = some i → vs.ownBlock ≠ some i := fun i hi e => by
    rcases h.ol.2 with ⟨rfl, _⟩ | ⟨g1, o1, c1, cur, rfl, hb, hgg, _⟩
    · simp [Value.ownBlock] at hi
    · have e1 : g1 = i := by simpa [Value.ownBlock] using hi
      subst e1
      exact h.os.blk_ne hgg (by decide) e
  refine ⟨hb1.set_ 0 _, ?_, (h.ol.chg hc1 (fun i hi e => hvv i hi e)).chg hc2 (fun i hi e => h.ol.blk_ne h.blk (by decide) (e ▸ hi)), I.chg _ _ _ _ _ _ (I.chg _ _ _ _ _ _ h.inv hc1 (fun i hi e => (h.hg i hi).2.1 e)) hc2 (fun i hi e => (h.hg i hi).1.1 e), h.hF, fun i hi => ⟨(h.hg i hi).1, fun e => ?_, (h.hg i hi).2.2⟩, fun i hi => Nat.lt_of_lt_of_le (h.hlt i hi) (Nat.le_trans hc1.size hc2.size), (h.chg.trans hc1 (fun i hi e => ?_)).trans hc2 (fun i hi e => ?_), (h.rate.chg hc1 (fun e => h.os.blk_ne h.rate (by decide) e)).chg hc2 hrg, (h.res.chg hc1 (fun e => h.os.blk_ne h.res (by decide) e)).chg hc2 (fun e => h.gz e.symm), h.n0, h.gz⟩
  · rw [List.length_append, List.length_singleton]
    exact ho.chg hc2 (fun i hi e => hv2 (e ▸ hi))
  · rcases ha with e2 | e2
    · exact (h.hg i hi).2.1 (e2 ▸ e)
    · have := e2 i e; have := h.hlt i hi; omega
  · have := (ownW_lt h.os e).1; omega
  · have := h.n0.1; omega
end
end Go.Proofs.YtdhojhgmaodifaaDoor
