/-
  item.Parse at packets' lines: its memory.
-/
import Derived.Test.YtdipehgijjkfdaaDoorItText
import Derived.Test.YtdipehgijjkfdaaDoorItLine
import Derived.Deep.RegionLawGrows
namespace Go.Proofs.YtdipehgijjkfdaaDoor
open Go.RowKit Bkt
set_option linter.unusedVariables false
def ItR : Rec It := ⟨5, itCells, fun _ => rfl, by decide, It.zero⟩
theorem it_one (x : It) : ∀ u ∈ itCells x, u.oneCell' = true := by
  intro u hu
  simp [itCells] at hu
  rcases hu with rfl | rfl | rfl | rfl | rfl <;> rfl
theorem Tryd.itInfo : (Tryd.prog.info? 31).map (fun i => (i.zero, i.size, i.bytes)) = some (some (.agg #[.int .i64 0, .int .i64 0, .int .i64 0, .int .i64 0, .int .i64 0]), 5, 40) := by kernel_rfl
/-- the lines of a text of packets -/
theorem glue_lines : ∀ l : List It, glue 10 (l.map lnT ++ [[]]) = txT l
  | [] => rfl
  | x :: r => by
    rw [List.map_cons, List.cons_append, glue_two _ _ (by simp), glue_lines r, txT]
/-- between two rounds of Parse: k lines are read, of n -/
structure PaI (w : World) (l : List It) (k : Nat) (W : World) : Prop where
  r0 : Blk W w.heap.size 22 #[.slice none 0 0]
  r1 : Blk W (w.heap.size + 1) 25 #[.nilIface]
  out : ∃ v, Blk W (w.heap.size + 1 + 1) 22 #[v] ∧ OwnW W (w.heap.size + 9) 31 5 v (min k l.length) ((l.take k).flatMap ItR.cells)
  at_ : ∃ a : Int, Blk W (w.heap.size + 1 + 1 + 1) 3 #[.int .i64 a] ∧ 0 ≤ a ∧ a ≤ 1000 * k
  b : Below w.heap.size w W
theorem PaI.chg {w : World} {l : List It} {k : Nat} {W W' : World} (h : PaI w l k W) (hc : Chg W W' (fun i => w.heap.size + 4 ≤ i ∧ i < w.heap.size + 9)) : PaI w l k W' := by
  obtain ⟨v, h1, h2⟩ := h.out
  obtain ⟨a, h3, h4⟩ := h.at_
  exact ⟨h.r0.chg hc (by omega), h.r1.chg hc (by omega), ⟨v, h1.chg hc (by omega), h2.chg hc (fun j hj e => by have := (h2.lt j hj).1; omega)⟩, ⟨a, h3.chg hc (by omega), h4⟩, h.b.trans (hc.below h.b.size (fun i hi e => by omega))⟩
def PaW (w : World) (tx : List UInt8) : World := ((((((w.alloc (.cells #[.slice none 0 0] 22)).alloc (.cells #[.nilIface] 25)).alloc (.cells #[.slice none 0 0] 22)).alloc (.cells #[.int .i64 0] 3)).alloc (.cells #[.string ⟨tx.toArray⟩] 9)).alloc (.cells #[.string ⟨#[10]⟩] 9)).alloc (.cells #[.int .i64 0] 3)
theorem pa_start (w : World) (tx : List UInt8) (l : List It) : PaI w l 0 (PaW w tx) := by
  have e0 := Blk.new w 22 #[.slice none 0 0]
  have e1 := Blk.new (w.alloc (.cells #[.slice none 0 0] 22)) 25 #[.nilIface]
  have e2 := Blk.new ((w.alloc (.cells #[.slice none 0 0] 22)).alloc (.cells #[.nilIface] 25)) 22 #[.slice none 0 0]
  have e3 := Blk.new (((w.alloc (.cells #[.slice none 0 0] 22)).alloc (.cells #[.nilIface] 25)).alloc (.cells #[.slice none 0 0] 22)) 3 #[.int .i64 0]
  simp only [World.size_alloc] at e1 e2 e3
  refine ⟨((((((e0.alloc _).alloc _).alloc _).alloc _).alloc _).alloc _), (((((e1.alloc _).alloc _).alloc _).alloc _).alloc _), ⟨.slice none 0 0, ((((e2.alloc _).alloc _).alloc _).alloc _), ?_⟩, ⟨0, (((e3.alloc _).alloc _).alloc _), by omega, by omega⟩, ?_⟩
  · rw [Nat.zero_min, List.take_zero]; exact OwnW.nil _ _ _ _
  · exact (((((((Below.refl w.heap.size w).alloc (Nat.le_refl _) _).alloc (by simp) _).alloc (by simp; omega) _).alloc (by simp; omega) _).alloc (by simp; omega) _).alloc (by simp; omega) _).alloc (by simp; omega) _
theorem pa_sq (w : World) (tx : List UInt8) : SqT 10 (w.heap.size + 5) (w.heap.size + 4) (w.heap.size + 6) tx (PaW w tx) := by
  have e3 := Blk.new ((((w.alloc (.cells #[.slice none 0 0] 22)).alloc (.cells #[.nilIface] 25)).alloc (.cells #[.slice none 0 0] 22)).alloc (.cells #[.int .i64 0] 3)) 9 #[.string ⟨tx.toArray⟩]
  have e4 := Blk.new (((((w.alloc (.cells #[.slice none 0 0] 22)).alloc (.cells #[.nilIface] 25)).alloc (.cells #[.slice none 0 0] 22)).alloc (.cells #[.int .i64 0] 3)).alloc (.cells #[.string ⟨tx.toArray⟩] 9)) 9 #[.string ⟨#[10]⟩]
  have e5 := Blk.new ((((((w.alloc (.cells #[.slice none 0 0] 22)).alloc (.cells #[.nilIface] 25)).alloc (.cells #[.slice none 0 0] 22)).alloc (.cells #[.int .i64 0] 3)).alloc (.cells #[.string ⟨tx.toArray⟩] 9)).alloc (.cells #[.string ⟨#[10]⟩] 9)) 3 #[.int .i64 0]
  simp only [World.size_alloc] at e3 e4 e5
  exact ⟨e4.alloc _, (e3.alloc _).alloc _, e5⟩
theorem PaI.bump {w : World} {l : List It} {k : Nat} {W : World} (h : PaI w l k W) (hk : k = l.length) (hs : w.heap.size + 9 ≤ W.heap.size) {a a' : Int} (ha : Blk W (w.heap.size + 1 + 1 + 1) 3 #[.int .i64 a]) (h0 : 0 ≤ a') (h1 : a' ≤ 1000 * (k + 1 : Nat)) :
    PaI w l (k + 1) (W.setCell ⟨w.heap.size + 1 + 1 + 1, 0, none⟩ (.int .i64 a')) ∧ W.heap.size ≤ (W.setCell ⟨w.heap.size + 1 + 1 + 1, 0, none⟩ (.int .i64 a')).heap.size ∧ ∀ i, w.heap.size + 4 ≤ i → i < w.heap.size + 9 → (W.setCell ⟨w.heap.size + 1 + 1 + 1, 0, none⟩ (.int .i64 a')).heap[i]? = W.heap[i]? := by
  have hc : Chg W (W.setCell ⟨w.heap.size + 1 + 1 + 1, 0, none⟩ (.int .i64 a')) (fun i => i = w.heap.size + 1 + 1 + 1) := Chg.setCell (p := ⟨w.heap.size + 1 + 1 + 1, 0, none⟩) (Chg.refl W (fun i => i = w.heap.size + 1 + 1 + 1)) (fun _ => rfl) _
  obtain ⟨v, h2, h3⟩ := h.out
  refine ⟨⟨h.r0.chg hc (by omega), h.r1.chg hc (by omega), ⟨v, h2.chg hc (by omega), ?_⟩, ⟨a', ha.set_ 0 _, h0, h1⟩, h.b.trans (hc.below h.b.size (fun i hi e => by omega))⟩, hc.size, fun i h4 h5 => hc.block i (by omega) (by omega)⟩
  have e1 : min (k + 1) l.length = min k l.length := by omega
  have e2 : l.take (k + 1) = l.take k := by rw [List.take_of_length_le (by omega), List.take_of_length_le (by omega)]
  rw [e1, e2]
  exact h3.chg hc (fun j hj e => by have := (h3.lt j hj).1; omega)
theorem PaI.push {w : World} {l : List It} {k : Nat} {W w5 : World} {v v' : Value} (h : PaI w l k W) (hk : k < l.length) (hs : w.heap.size + 9 ≤ W.heap.size) (hbk : Blk W (w.heap.size + 1 + 1) 22 #[v]) (hv : ∀ j, v.ownBlock = some j → w.heap.size + 9 ≤ j) {a a' : Int} (ha : Blk W (w.heap.size + 1 + 1 + 1) 3 #[.int .i64 a]) (h0 : 0 ≤ a') (ha1 : a' ≤ 1000 * (k + 1 : Nat))
    (h1 : OwnW w5 (w.heap.size + 9) 31 5 v' (k + 1) ((l.take (k + 1)).flatMap ItR.cells)) (h2 : W.grownBy w5 v.ownBlock) :
    PaI w l (k + 1) ((w5.setCell ⟨w.heap.size + 1 + 1, 0, none⟩ v').setCell ⟨w.heap.size + 1 + 1 + 1, 0, none⟩ (.int .i64 a')) ∧ W.heap.size ≤ ((w5.setCell ⟨w.heap.size + 1 + 1, 0, none⟩ v').setCell ⟨w.heap.size + 1 + 1 + 1, 0, none⟩ (.int .i64 a')).heap.size ∧
      ∀ i, w.heap.size + 4 ≤ i → i < w.heap.size + 9 → ((w5.setCell ⟨w.heap.size + 1 + 1, 0, none⟩ v').setCell ⟨w.heap.size + 1 + 1 + 1, 0, none⟩ (.int .i64 a')).heap[i]? = W.heap[i]? := by
  have hc1 : Chg W w5 (fun i => v.ownBlock = some i) := Chg.of_grown (S := fun i => v.ownBlock = some i) h2 (fun i e => e.symm)
  have hc0 : Chg W (w5.setCell ⟨w.heap.size + 1 + 1, 0, none⟩ v') (fun i => v.ownBlock = some i ∨ i = w.heap.size + 1 + 1) := Chg.setCell (p := ⟨w.heap.size + 1 + 1, 0, none⟩) (hc1.mono fun i _ e => .inl e) (fun _ => .inr rfl) _
  have hc2 : Chg W ((w5.setCell ⟨w.heap.size + 1 + 1, 0, none⟩ v').setCell ⟨w.heap.size + 1 + 1 + 1, 0, none⟩ (.int .i64 a')) (fun i => v.ownBlock = some i ∨ i = w.heap.size + 1 + 1 ∨ i = w.heap.size + 1 + 1 + 1) := Chg.setCell (p := ⟨w.heap.size + 1 + 1 + 1, 0, none⟩) (hc0.mono fun i _ e => e.imp id .inl) (fun _ => .inr (.inr rfl)) _
  have hne : ∀ i, i < w.heap.size + 9 → i ≠ w.heap.size + 1 + 1 → i ≠ w.heap.size + 1 + 1 + 1 → ¬ (v.ownBlock = some i ∨ i = w.heap.size + 1 + 1 ∨ i = w.heap.size + 1 + 1 + 1) := fun i hi hn hn2 e => by
    rcases e with e | e | e
    · have := hv i e; omega
    · exact hn e
    · exact hn2 e
  have hb4 : Blk w5 (w.heap.size + 1 + 1) 22 #[v] := hbk.chg hc1 (fun e => by have := hv _ e; omega)
  have ha4 : Blk w5 (w.heap.size + 1 + 1 + 1) 3 #[.int .i64 a] := ha.chg hc1 (fun e => by have := hv _ e; omega)
  refine ⟨⟨h.r0.chg hc2 (hne _ (by omega) (by omega) (by omega)), h.r1.chg hc2 (hne _ (by omega) (by omega) (by omega)), ⟨v', ?_, ?_⟩, ⟨a', ?_, h0, ha1⟩, h.b.trans (hc2.below h.b.size (fun i hi => hne i (by omega) (by omega) (by omega)))⟩, hc2.size, fun i h3 h4 => hc2.block i (by omega) (hne i h4 (by omega) (by omega))⟩
  · exact (hb4.set_ 0 v').far (p := ⟨w.heap.size + 1 + 1 + 1, 0, none⟩) (by simp) _
  · rw [Nat.min_eq_left (by omega)]
    have hcc : Chg w5 ((w5.setCell ⟨w.heap.size + 1 + 1, 0, none⟩ v').setCell ⟨w.heap.size + 1 + 1 + 1, 0, none⟩ (.int .i64 a')) (fun i => i = w.heap.size + 1 + 1 ∨ i = w.heap.size + 1 + 1 + 1) := (Chg.setCell (p := ⟨w.heap.size + 1 + 1, 0, none⟩) (Chg.refl w5 (fun i => i = w.heap.size + 1 + 1 ∨ i = w.heap.size + 1 + 1 + 1)) (fun _ => .inl rfl) _).setCell (p := ⟨w.heap.size + 1 + 1 + 1, 0, none⟩) (fun _ => .inr rfl) _
    exact h1.chg hcc (fun j hj e => by have := (h1.lt j hj).1; omega)
  · exact (ha4.far (p := ⟨w.heap.size + 1 + 1, 0, none⟩) (by simp) _).set_ 0 _
end Go.Proofs.YtdipehgijjkfdaaDoor
