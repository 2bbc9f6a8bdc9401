/-
  Inside: a filter that is made of filters, under way.
-/
import Derived.Test.YtdipehgijjkfdaaDoorFlTextL
import Derived.Test.YtdipehgijjkfdaaDoorStepW
import Derived.Test.YtdipehgijjkfdaaDoorHeld
namespace Go.Proofs.YtdipehgijjkfdaaDoor
open Go.RowKit
set_option linter.unusedVariables false
structure InM (nb : Nat) (bb : Bool) (wr : World) (vs : List Value) (v : Value) (ts : List Fl.Ft) : Prop where
  blk : Blk wr nb 73 #[v, .bool bb]
  own : OwnW wr (nb + 1) 34 1 v ts.length vs
  ft : ∀ (i : Nat) u t, vs[i]? = some u → ts[i]? = some t → ∃ Bi Ei, nb < Bi ∧ Ei ≤ wr.heap.size ∧ (∀ j, v.ownBlock = some j → ¬ (Bi ≤ j ∧ j < Ei)) ∧ FtV Bi Ei wr u t
section
variable {nb : Nat} {bb : Bool} {wr w2 w3 : World} {vs : List Value} {v v' : Value} {ts : List Fl.Ft}
theorem InM.start (w : World) (bb : Bool) : InM w.heap.size bb (w.alloc (.cells #[.slice none 0 0, .bool bb] 73)) [] (.slice none 0 0) [] :=
  ⟨Blk.new _ _ _, OwnW.nil _ _ _ _, fun i u t hu => by cases hu⟩
theorem InM.len (h : InM nb bb wr vs v ts) : vs.length = ts.length := by have := h.own.1; omega
theorem InM.over (h : InM nb bb wr vs v ts) (hb : Below wr.heap.size wr w2) : InM nb bb w2 vs v ts := by
  refine ⟨h.blk.below hb h.blk.lt, h.own.below hb, fun i u t hu ht => ?_⟩
  obtain ⟨Bi, Ei, h1, h2, h3, h4⟩ := h.ft i u t hu ht
  exact ⟨Bi, Ei, h1, Nat.le_trans h2 hb.size, h3, h4.over h2 hb⟩
theorem InM.blk3 (h : InM nb bb wr vs v ts) (hg : wr.grownBy w3 v.ownBlock) : Blk w3 nb 73 #[v, .bool bb] :=
  h.blk.grown hg (fun e => by have := (h.own.lt _ e.symm).1; omega)
theorem InM.push (h : InM nb bb wr vs v ts) {B0 : Nat} {u : Value} {t : Fl.Ft} (hB : nb < B0) (hB2 : ∀ j, v.ownBlock = some j → j < B0) (hu : FtV B0 wr.heap.size wr u t)
    (h1 : OwnW w3 (nb + 1) 34 1 v' (ts.length + 1) (vs ++ [u])) (h2 : wr.grownBy w3 v.ownBlock) (h3 : v'.ownBlock = v.ownBlock ∨ ∀ j, v'.ownBlock = some j → wr.heap.size ≤ j) :
    InM nb bb (w3.setCell ⟨nb, 0, none⟩ v') (vs ++ [u]) v' (ts ++ [t]) := by
  have hne : ∀ j, v.ownBlock = some j → nb + 1 ≤ j := fun j hj => (h.own.lt j hj).1
  have hc3 : Chg wr w3 (fun i => v.ownBlock = some i) := ⟨h2.os, h2.tape, h2.output, h2.size, fun i hi hn => h2.block i hi (fun e => hn e.symm)⟩
  have hc4 : Chg wr (w3.setCell ⟨nb, 0, none⟩ v') (fun i => v.ownBlock = some i ∨ i = nb) := Chg.setCell (p := ⟨nb, 0, none⟩) (hc3.mono (fun i _ e => .inl e)) (fun _ => .inr rfl) _
  refine ⟨(h.blk3 h2).set_ 0 v', ?_, fun i x y hx hy => ?_⟩
  · have hl : (ts ++ [t]).length = ts.length + 1 := by simp
    rw [hl]
    exact h1.chg (Chg.setCell (p := ⟨nb, 0, none⟩) (Chg.refl w3 (fun i => i = nb)) (fun _ => rfl) _) (fun j hj e => by have := (h1.lt j hj).1; omega)
  · have hlen := h.len
    have hsz := hc4.size
    rcases Nat.lt_or_ge i vs.length with hi | hi
    · rw [List.getElem?_append_left hi] at hx
      rw [List.getElem?_append_left (by omega)] at hy
      obtain ⟨Bi, Ei, e1, e2, e3, e4⟩ := h.ft i x y hx hy
      refine ⟨Bi, Ei, e1, Nat.le_trans e2 hsz, fun j hj => ?_, e4.keep fun j hj hj2 => hc4.block j (by omega) (fun e => ?_)⟩
      · rcases h3 with h3 | h3
        · exact e3 j (h3 ▸ hj)
        · have := h3 j hj; omega
      · rcases e with e | e
        · exact e3 j e ⟨hj, hj2⟩
        · omega
    · have hi2 : i = vs.length := by
        have := (List.getElem?_eq_some_iff.1 hx).1
        simp at this; omega
      subst hi2
      rw [List.getElem?_append_right (Nat.le_refl _)] at hx
      rw [hlen, List.getElem?_append_right (Nat.le_refl _)] at hy
      simp at hx hy
      subst hx; subst hy
      refine ⟨B0, wr.heap.size, hB, hsz, fun j hj => ?_, hu.keep fun j hj hj2 => hc4.block j hj2 (fun e => ?_)⟩
      · rcases h3 with h3 | h3
        · have := hB2 j (h3 ▸ hj); omega
        · have := h3 j hj; omega
      · rcases e with e | e
        · have := hB2 j e; omega
        · omega
theorem InM.done {A : Option Addr} {n c : Nat} (h : InM nb bb wr vs (.slice A n c) ts) : FtV nb wr.heap.size wr (.iface 73 (.agg #[.slice A n c, .bool bb])) (.sev ts bb) := by
  obtain ⟨A', c', e, _, _, hr⟩ := h.own.reads
  injection e with e1 e2 e3
  subst e1; subst e2; subst e3
  refine .sev hr rfl (fun ad e => ?_) (fun i u t hu ht => ?_)
  · have := (h.own.lt ad.block (by rw [e]; rfl)).1
    omega
  · obtain ⟨Bi, Ei, h1, h2, _, h4⟩ := h.ft i u t hu ht
    exact h4.wide (by omega) h2
end
/-- one more: the filter that a call has made behind wr -/
theorem InM.more {nb : Nat} {bb : Bool} {wr w2 W3 w3 : World} {vs : List Value} {v v' : Value} {ts : List Fl.Ft} (h : InM nb bb wr vs v ts) {u : Value} {t : Fl.Ft} (hb : Below wr.heap.size wr w2) (hu : FtV wr.heap.size w2.heap.size w2 u t) (h0 : Below w2.heap.size w2 W3)
    (h1 : OwnW w3 (nb + 1) 34 1 v' (ts.length + 1) (vs ++ [u])) (h2 : W3.grownBy w3 v.ownBlock) (h3 : v'.ownBlock = v.ownBlock ∨ ∀ j, v'.ownBlock = some j → W3.heap.size ≤ j) :
    InM nb bb (w3.setCell ⟨nb, 0, none⟩ v') (vs ++ [u]) v' (ts ++ [t]) := by
  have hm := h.over hb
  have hm3 := hm.over h0
  have hu3 := hu.over (Nat.le_refl _) h0
  have hsz := h0.size
  exact hm3.push (B0 := wr.heap.size) h.blk.lt (fun j hj => (h.own.lt j hj).2) (hu3.wide (Nat.le_refl _) hsz) h1 h2 h3
end Go.Proofs.YtdipehgijjkfdaaDoor
