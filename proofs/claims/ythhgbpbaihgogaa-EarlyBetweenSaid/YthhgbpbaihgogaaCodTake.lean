/-
  Controlled delay in memory: Take.
-/
import Derived.Test.YthhgbpbaihgogaaCodPull
namespace Go.Proofs.Ythhgbpbaihgogaa
open Go.RowKit Bkt
set_option linter.unusedVariables false

def hdC (x : Hd) : Array Value := #[.int .i64 x.it.at_, .int .i64 x.it.len, .int .i64 x.it.flow, .int .i64 x.it.band, .int .i64 x.it.mark, .int .i64 x.num]
/-- in the midst of a Take that began at w: the queue, the packet at hand (in the result's block), those that are thrown away -/
structure Tl (w wi : World) (base g : Nat) (v vi : Value) (csi : Array Value) (P : Pl.DP) (D : Pl.DS) (x : Hd) (lo : Value) (lost : List Hd) : Prop where
  d : Dmm wi base g vi csi P D
  t : Trn w wi g v vi
  k : Blk wi w.heap.size 54 (hdC x)
  o : OwnW wi w.heap.size 54 HdR.sz lo lost.length (lost.flatMap HdR.cells)
  n1 : lo.ownBlock ≠ some w.heap.size
  n2 : ∀ i, lo.ownBlock = some i → vi.ownBlock ≠ some i
  n3 : vi.ownBlock ≠ some w.heap.size
  gl : g < w.heap.size
section
variable {w wi w' : World} {base g : Nat} {v vi vi' lo lo' : Value} {csi csi' : Array Value} {P : Pl.DP} {D D' : Pl.DS} {x y : Hd} {lost : List Hd}
theorem Tl.sz (h : Tl w wi base g v vi csi P D x lo lost) : w.heap.size ≤ wi.heap.size := h.t.chg.size
theorem Tl.pull (h : Tl w wi base g v vi csi P D x lo lost) (hd : Dmm w' base g vi' csi' P D') (ht : Trn wi w' g vi vi') : Tl w w' base g v vi' csi' P D' x lo lost := by
  have hk := h.k.lt
  have hnk : ¬ (w.heap.size = g ∨ vi.ownBlock = some w.heap.size) := by
    rintro (e | e)
    · have := h.gl; omega
    · exact h.n3 e
  refine ⟨hd, h.t.trans ht h.gl (fun i hi => (h.d.vlt i hi).2), h.k.chg ht.chg hnk, h.o.chg ht.chg (fun i hi e => ?_), h.n1, fun i hi e => ?_, fun e => ?_, h.gl⟩
  · have := (h.o.lt i hi).1; have := h.gl
    rcases e with e | e
    · omega
    · exact h.n2 i hi e
  · rcases ht.at_ with e2 | e2
    · exact h.n2 i hi (e2 ▸ e)
    · have := e2 i e; have := (h.o.lt i hi).2; omega
  · rcases ht.at_ with e2 | e2
    · exact h.n3 (e2 ▸ e)
    · have := e2 _ e; omega
theorem Tl.six (h : Tl w wi base g v vi csi P D x lo lost) (y : Hd) :
    Tl w ((((((wi.setCell ⟨w.heap.size, 0, none⟩ (.int .i64 y.it.at_)).setCell ⟨w.heap.size, 1, none⟩ (.int .i64 y.it.len)).setCell ⟨w.heap.size, 2, none⟩ (.int .i64 y.it.flow)).setCell ⟨w.heap.size, 3, none⟩ (.int .i64 y.it.band)).setCell ⟨w.heap.size, 4, none⟩ (.int .i64 y.it.mark)).setCell ⟨w.heap.size, 5, none⟩ (.int .i64 y.num)) base g v vi csi P D y lo lost := by
  have hne : w.heap.size ≠ g := by have := h.gl; omega
  exact ⟨h.d.six hne h.n3 _ _ _ _ _ _, h.t.six (Nat.le_refl _) _ _ _ _ _ _, blk_six h.k _ _ _ _ _ _,
    (((((h.o.setCell (p := ⟨w.heap.size, 0, none⟩) h.n1 _).setCell (p := ⟨w.heap.size, 1, none⟩) h.n1 _).setCell (p := ⟨w.heap.size, 2, none⟩) h.n1 _).setCell (p := ⟨w.heap.size, 3, none⟩) h.n1 _).setCell (p := ⟨w.heap.size, 4, none⟩) h.n1 _).setCell (p := ⟨w.heap.size, 5, none⟩) h.n1 _,
    h.n1, h.n2, h.n3, h.gl⟩
theorem Tl.log (h : Tl w wi base g v vi csi P D x lo lost) : lo.ownBlock ≠ some g := fun e => by have := (h.o.lt _ e).1; have := h.gl; omega
theorem Tl.at_g (h : Tl w wi base g v vi csi P D x lo lost) (i : Nat) (u : Value) (hd : Dmm (wi.setCell ⟨g, i, none⟩ u) base g vi csi' P D') : Tl w (wi.setCell ⟨g, i, none⟩ u) base g v vi csi' P D' x lo lost := by
  have hne : w.heap.size ≠ g := by have := h.gl; omega
  exact ⟨hd, h.t.set_ i u, h.k.far (p := ⟨g, i, none⟩) hne u, h.o.setCell (p := ⟨g, i, none⟩) h.log u, h.n1, h.n2, h.n3, h.gl⟩
theorem Tl.setDrop (h : Tl w wi base g v vi csi P D x lo lost) (b : Bool) : Tl w (wi.setCell ⟨g, 8, none⟩ (.bool b)) base g v vi (csi.setIfInBounds 8 (.bool b)) P ⟨D.s, D.above, b, D.next, D.count⟩ x lo lost := h.at_g 8 _ (h.d.setDrop b)
theorem Tl.setNext (h : Tl w wi base g v vi csi P D x lo lost) (b : Int) : Tl w (wi.setCell ⟨g, 9, none⟩ (.int .i64 b)) base g v vi (csi.setIfInBounds 9 (.int .i64 b)) P ⟨D.s, D.above, D.drop, b, D.count⟩ x lo lost := h.at_g 9 _ (h.d.setNext b)
theorem Tl.setCount (h : Tl w wi base g v vi csi P D x lo lost) (b : Int) : Tl w (wi.setCell ⟨g, 10, none⟩ (.int .i64 b)) base g v vi (csi.setIfInBounds 10 (.int .i64 b)) P ⟨D.s, D.above, D.drop, D.next, b⟩ x lo lost := h.at_g 10 _ (h.d.setCount b)
theorem Tl.below (h : Tl w wi base g v vi csi P D x lo lost) (hb : Below wi.heap.size wi w') : Tl w w' base g v vi csi P D x lo lost :=
  ⟨h.d.below hb, h.t.below hb, h.k.below hb h.k.lt, h.o.below hb, h.n1, h.n2, h.n3, h.gl⟩
theorem Tl.push (h : Tl w wi base g v vi csi P D x lo lost) (ho : OwnW w' w.heap.size 54 HdR.sz lo' (lost.length + 1) ((lost ++ [y]).flatMap HdR.cells)) (hg : wi.grownBy w' lo.ownBlock) (hat : lo'.ownBlock = lo.ownBlock ∨ ∀ i, lo'.ownBlock = some i → wi.heap.size < i) :
    Tl w w' base g v vi csi P D x lo' (lost ++ [y]) := by
  have hne : w.heap.size ≠ g := by have := h.gl; omega
  have hc : Chg wi w' (fun i => lo.ownBlock = some i) := Chg.of_grown hg (fun i hi => hi.symm)
  have hsz := h.sz
  refine ⟨h.d.chg hc h.log (fun i hi e => h.n2 i e hi), ?_, h.k.chg hc h.n1, by rw [List.length_append]; exact ho, fun e => ?_, fun i hi e => ?_, h.n3, h.gl⟩
  · refine ⟨h.t.chg.trans hc (fun i hi e => ?_), h.t.at_⟩
    have := (h.o.lt i e).1; omega
  · rcases hat with e2 | e2
    · exact h.n1 (e2 ▸ e)
    · have := e2 _ e; omega
  · rcases hat with e2 | e2
    · exact h.n2 i (e2 ▸ hi) e
    · have := e2 i hi; have := (h.d.vlt i e).2; omega
end
/-- pull, its packet written out -/
def PullsOut (w : World) (base g : Nat) (v : Value) (P : Pl.DP) (r : Option Hd × Bool × Pl.DS) (e : Ending) (w' : World) : Prop :=
  ∃ (ya yl yf yb ym yn : Int) (v' : Value) (cs' : Array Value), e = .returned (.tuple #[.agg #[.int .i64 ya, .int .i64 yl, .int .i64 yf, .int .i64 yb, .int .i64 ym, .int .i64 yn], .bool r.1.isSome, .bool r.2.1]) ∧ r.1.getD Hd.zero = ⟨⟨ya, yl, yf, yb, ym⟩, yn⟩ ∧ Dmm w' base g v' cs' P r.2.2 ∧ Trn w w' g v v'
theorem pulls_any (base g : Nat) (v : Value) (cs : Array Value) (P : Pl.DP) (D : Pl.DS) (now : Int) (w : World) (h : Dmm w base g v cs P D) (hl : HdsOk D.s) (hP : Pl.DPOk P) (hn : 0 ≤ now ∧ now ≤ 1000000000) (hx : ∀ x ∈ D.s, 0 ≤ x.it.at_ ∧ x.it.at_ ≤ 1000000000) (hab : -1 ≤ D.above ∧ D.above ≤ 1001000000) :
    Calls Try.prog 66 #[.pointer (some ⟨g, 0, none⟩), .int .i64 now] w (PullsOut w base g v P (Pl.pullD P now D)) := by
  refine (pull_any base g v cs P D now w h hl hP hn hx hab).mono ?_
  rintro e w' ⟨rfl, v', cs', h1, h2⟩
  generalize Pl.pullD P now D = r at *
  obtain ⟨xo, b, D'⟩ := r
  cases xo with
  | none => exact ⟨0, 0, 0, 0, 0, 0, v', cs', rfl, rfl, h1, h2⟩
  | some x =>
    obtain ⟨⟨ya, yl, yf, yb, ym⟩, yn⟩ := x
    exact ⟨ya, yl, yf, yb, ym, yn, v', cs', rfl, rfl, h1, h2⟩

/-- what Take does -/
def DTakeOut (w : World) (base g : Nat) (v : Value) (P : Pl.DP) (r : Option Hd × List Hd × Pl.DS) (e : Ending) (w' : World) : Prop :=
  ∃ h A c v' cs', e = .returned (.tuple #[hdV h, .slice A r.2.1.length c, .bool r.1.isSome]) ∧ (∀ x, r.1 = some x → h = x) ∧ RdR HdR w' w'.heap.size A r.2.1.length r.2.1 ∧ (∀ ad, A = some ad → w.heap.size ≤ ad.block) ∧ Dmm w' base g v' cs' P r.2.2 ∧ Trn w w' g v v'
/-- what holds of the packets -/
structure HsOk (s : List Hd) : Prop where
  h : HdsOk s
  a : ∀ x ∈ s, 0 ≤ x.it.at_ ∧ x.it.at_ ≤ 1000000000
theorem HsOk.sub {s r : List Hd} (h : HsOk s) (hl : r.length ≤ s.length) (hm : ∀ x ∈ r, x ∈ s) : HsOk r := ⟨⟨Nat.le_trans hl h.h.n, fun x hx => h.h.b x (hm x hx)⟩, fun x hx => h.a x (hm x hx)⟩
theorem HsOk.pull {P : Pl.DP} {now : Int} {D : Pl.DS} (h : HsOk D.s) : HsOk (Pl.pullD P now D).2.2.s := by
  have ha := Pl.pullD_all P now D
  have hl := congrArg List.length ha
  rw [List.length_append] at hl
  exact h.sub (by omega) (fun x hx => by rw [← ha]; exact List.mem_append_right _ hx)

/-- the end of Take -/
theorem Tl.out {w wi wf : World} {base g : Nat} {v vi lo : Value} {csi : Array Value} {P : Pl.DP} {D : Pl.DS} {x : Hd} {lost : List Hd} (h : Tl w wi base g v vi csi P D x lo lost) (xo : Option Hd) (hx : xo.getD Hd.zero = x) (r : Option Hd × List Hd × Pl.DS) (hr : r = (xo, lost, D))
    (hw : wf = ((((((wi.setCell ⟨w.heap.size, 0, none⟩ (.int .i64 x.it.at_)).setCell ⟨w.heap.size, 1, none⟩ (.int .i64 x.it.len)).setCell ⟨w.heap.size, 2, none⟩ (.int .i64 x.it.flow)).setCell ⟨w.heap.size, 3, none⟩ (.int .i64 x.it.band)).setCell ⟨w.heap.size, 4, none⟩ (.int .i64 x.it.mark)).setCell ⟨w.heap.size, 5, none⟩ (.int .i64 x.num))) :
    Blk wf w.heap.size 54 (hdC x) ∧ DTakeOut w base g v P r (.returned (.tuple #[hdV x, lo, .bool xo.isSome])) wf := by
  subst hr hw
  have h6 := h.six x
  obtain ⟨A, c, hlo, _, _, hrd⟩ := h6.o.reads
  refine ⟨h6.k, x, A, c, vi, csi, by rw [hlo], fun y hy => ?_, hrd, fun ad e => ?_, h6.d, h6.t⟩
  · subst hy; exact hx.symm
  · subst hlo
    subst e
    obtain ⟨b, o, sp⟩ := ad
    exact (h6.o.lt b rfl).1
theorem pullD_same (P : Pl.DP) (now : Int) (D : Pl.DS) : (Pl.pullD P now D).2.2.drop = D.drop ∧ (Pl.pullD P now D).2.2.next = D.next ∧ (Pl.pullD P now D).2.2.count = D.count := by
  unfold Pl.pullD
  split
  · exact ⟨rfl, rfl, rfl⟩
  · split
    · exact ⟨rfl, rfl, rfl⟩
    · split <;> exact ⟨rfl, rfl, rfl⟩
end Go.Proofs.Ythhgbpbaihgogaa
