/-
  A shaper over a plain queue, as it lies in memory; the next one at hand.
-/
import Derived.Test.YtdhojhgmaodifaaDoorShpLaw
import Derived.Test.YtdhojhgmaodifaaDoorWhen
import Derived.Test.YtdhojhgmaodifaaDoorFifoImp
namespace Go.Proofs.YtdhojhgmaodifaaDoor
open Go.RowKit Bkt
set_option linter.unusedVariables false

def hdArr (x : Hd) : Array Value := #[.int .i64 x.it.at_, .int .i64 x.it.len, .int .i64 x.it.flow, .int .i64 x.it.band, .int .i64 x.it.mark, .int .i64 x.num]
def fifV (gq : Nat) : Value := .iface 71 (.pointer (some ⟨gq, 0, none⟩))
/-- the next one at hand -/
def NxM (base : Nat) (F Fq : Nat → Prop) (w : World) (vn : Value) (nx : Option Hd) : Prop :=
  (nx = none ∧ vn = .pointer none) ∨ ∃ x gn, nx = some x ∧ vn = .pointer (some ⟨gn, 0, none⟩) ∧ Blk w gn 127 (hdArr x) ∧ (F gn ∧ ¬ Fq gn) ∧ 0 ≤ x.it.len ∧ x.it.len ≤ 10000
structure ShI (base : Nat) (b : Bk) (p : Pl.FP) (g gt gq : Nat) (s : Pl.Shp (List Hd)) (k : Nat) (F Fq : Nat → Prop) (w : World) (vn : Value) : Prop where
  blk : Blk w g 125 #[fifV gq, .pointer (some ⟨gt, 0, none⟩), vn, .slice none 0 0]
  st : StB w gt b s.st
  sok : SOk b s.st
  sl : s.st.last ≤ 1000000000
  q : FInv1 base gq p s.q k Fq w
  nx : NxM base F Fq w vn s.next
  d : ¬ Fq g ∧ ¬ Fq gt
  mF : F g ∧ F gt ∧ ∀ i, Fq i → F i
  lt : ∀ i, F i → base ≤ i ∧ i < w.heap.size
section
variable {base : Nat} {b : Bk} {p : Pl.FP} {g gt gq : Nat} {s : Pl.Shp (List Hd)} {k : Nat} {F F' Fq Fq' S : Nat → Prop} {w w' : World} {vn : Value}
theorem NxM.chg {nx : Option Hd} (h : NxM base F Fq w vn nx) (hc : Chg w w' S) (hn : ∀ i, F i → ¬ Fq i → ¬ S i) (hF : ∀ i, F i → F' i) (hq : ∀ i, F i → Fq' i → Fq i) : NxM base F' Fq' w' vn nx := by
  rcases h with h | ⟨x, gn, h1, h2, h3, h4, h5⟩
  · exact .inl h
  · exact .inr ⟨x, gn, h1, h2, h3.chg hc (hn _ h4.1 h4.2), ⟨hF _ h4.1, fun e => h4.2 (hq _ h4.1 e)⟩, h5⟩
theorem ShI.gne (h : ShI base b p g gt gq s k F Fq w vn) : g ≠ gt := Blk.ne_ h.blk h.st (by decide)
/-- nothing of it has turned -/
theorem ShI.chg (hp : Pl.FOk p) (h : ShI base b p g gt gq s k F Fq w vn) (hc : Chg w w' S) (hn : ∀ i, F i → ¬ S i) : ShI base b p g gt gq s k F Fq w' vn :=
  ⟨h.blk.chg hc (hn _ h.mF.1), Blk.chg h.st hc (hn _ h.mF.2.1), h.sok, h.sl, (fifo_imp base gq p hp).chg _ _ _ _ _ _ h.q hc (fun i hi => hn _ (h.mF.2.2 i hi)), h.nx.chg hc (fun i hi _ => hn i hi) (fun _ h => h) (fun _ _ h => h), h.d, h.mF,
    fun i hi => ⟨(h.lt i hi).1, Nat.lt_of_lt_of_le (h.lt i hi).2 hc.size⟩⟩
theorem ShI.over (hp : Pl.FOk p) (h : ShI base b p g gt gq s k F Fq w vn) (hb : Below w.heap.size w w') : ShI base b p g gt gq s k F Fq w' vn := h.chg hp (S := fun _ => False) (Chg.of_below hb) (fun _ _ e => e)
/-- the bucket has turned -/
theorem ShI.bucket (hp : Pl.FOk p) (h : ShI base b p g gt gq s k F Fq w vn) (hg : w.grownBy w' (some gt)) {st' : St} (hst : StB w' gt b st') (hs : SOk b st') (hl : st'.last ≤ 1000000000) : ShI base b p g gt gq ⟨s.q, st', s.next⟩ k F Fq w' vn := by
  have hc : Chg w w' (fun i => i = gt) := Chg.of_grown hg (fun i e => by injection e)
  have hst0 := h.st
  refine ⟨h.blk.chg hc h.gne, hst, hs, hl, (fifo_imp base gq p hp).chg _ _ _ _ _ _ h.q hc (fun i hi e => h.d.2 (e ▸ hi)), ?_, h.d, h.mF, fun i hi => ⟨(h.lt i hi).1, Nat.lt_of_lt_of_le (h.lt i hi).2 hc.size⟩⟩
  rcases h.nx with h1 | ⟨x, gn, h1, h2, h3, h4, h5⟩
  · exact .inl h1
  · exact .inr ⟨x, gn, h1, h2, h3.chg hc (Blk.ne_ h3 hst0 (by decide)), h4, h5⟩
/-- the queue has turned -/
theorem ShI.queue (h : ShI base b p g gt gq s k F Fq w vn) {q' : List Hd} {k' : Nat} (hq : FInv1 base gq p q' k' Fq' w') (hc : Chg w w' Fq) (hf : ∀ i, Fq' i → Fq i ∨ w.heap.size ≤ i) :
    ShI base b p g gt gq ⟨q', s.st, s.next⟩ k' (fun i => F i ∨ Fq' i) Fq' w' vn := by
  obtain ⟨v, cs, hq'⟩ := id hq
  have hlt := hq'.lt
  refine ⟨h.blk.chg hc h.d.1, Blk.chg h.st hc h.d.2, h.sok, h.sl, hq, ?_, ⟨fun e => ?_, fun e => ?_⟩, ⟨.inl h.mF.1, .inl h.mF.2.1, fun i hi => .inr hi⟩, fun i hi => ?_⟩
  · refine h.nx.chg hc (fun i _ hn => hn) (fun i hi => .inl hi) (fun i hi e => ?_)
    rcases hf i e with e | e
    · exact e
    · have := (h.lt i hi).2; omega
  · rcases hf g e with e | e
    · exact h.d.1 e
    · have := h.blk.lt; omega
  · rcases hf gt e with e | e
    · exact h.d.2 e
    · have := Blk.lt h.st; omega
  · rcases hi with hi | hi
    · exact ⟨(h.lt i hi).1, Nat.lt_of_lt_of_le (h.lt i hi).2 hc.size⟩
    · exact hlt i hi
/-- a packet is at hand, in a new block -/
theorem ShI.hand (hp : Pl.FOk p) (h : ShI base b p g gt gq s k F Fq w vn) {o : Hd} (ho : 0 ≤ o.it.len ∧ o.it.len ≤ 10000) (hb : base ≤ w.heap.size) {n : Nat} (hn : n = w.heap.size) :
    ShI base b p g gt gq ⟨s.q, s.st, some o⟩ k (fun i => F i ∨ i = n) Fq ((w.setCell ⟨g, 2, none⟩ (.pointer (some ⟨n, 0, none⟩))).alloc (.cells (hdArr o) 127)) (.pointer (some ⟨n, 0, none⟩)) := by
  subst hn
  have hc : Chg w (w.setCell ⟨g, 2, none⟩ (.pointer (some ⟨w.heap.size, 0, none⟩))) (fun i => i = g) := Chg.setCell (p := ⟨g, 2, none⟩) (Chg.refl _ (fun i => i = g)) (fun _ => rfl) _
  have hca : Chg w ((w.setCell ⟨g, 2, none⟩ (.pointer (some ⟨w.heap.size, 0, none⟩))).alloc (.cells (hdArr o) 127)) (fun i => i = g) := hc.alloc _
  have hgl := h.blk.lt
  have hsz : (w.setCell ⟨g, 2, none⟩ (.pointer (some ⟨w.heap.size, 0, none⟩))).heap.size = w.heap.size := by simp [World.setCell]
  have hnew := Blk.new (w.setCell ⟨g, 2, none⟩ (.pointer (some ⟨w.heap.size, 0, none⟩))) 127 (hdArr o)
  rw [hsz] at hnew
  refine ⟨(h.blk.set_ 2 _).alloc _, Blk.chg h.st hca (fun e => h.gne e.symm), h.sok, h.sl, (fifo_imp base gq p hp).chg _ _ _ _ _ _ h.q hca (fun i hi e => h.d.1 (e ▸ hi)), ?_, h.d, ⟨.inl h.mF.1, .inl h.mF.2.1, fun i hi => .inl (h.mF.2.2 i hi)⟩, fun i hi => ?_⟩
  · exact .inr ⟨o, w.heap.size, rfl, rfl, hnew, ⟨.inr rfl, fun e => by have := (h.lt _ (h.mF.2.2 _ e)).2; omega⟩, ho⟩
  · rcases hi with hi | hi
    · exact ⟨(h.lt i hi).1, by have := (h.lt i hi).2; simp [World.setCell]; omega⟩
    · exact ⟨by omega, by simp [World.setCell]; omega⟩
theorem ShI.same (h : ShI base b p g gt gq s k F Fq w vn) (hp : Pl.FOk p) (j : Nat) (v : Value) (hv : (#[fifV gq, .pointer (some ⟨gt, 0, none⟩), vn, .slice none 0 0] : Array Value).setIfInBounds j v = #[fifV gq, .pointer (some ⟨gt, 0, none⟩), vn, .slice none 0 0]) : ShI base b p g gt gq s k F Fq (w.setCell ⟨g, j, none⟩ v) vn := by
  have hc : Chg w (w.setCell ⟨g, j, none⟩ v) (fun i => i = g) := Chg.setCell (p := ⟨g, j, none⟩) (Chg.refl _ (fun i => i = g)) (fun _ => rfl) _
  have hb := h.blk.set_ j v
  rw [hv] at hb
  refine ⟨hb, Blk.chg h.st hc (fun e => h.gne e.symm), h.sok, h.sl, (fifo_imp base gq p hp).chg _ _ _ _ _ _ h.q hc (fun i hi e => h.d.1 (e ▸ hi)), ?_, h.d, h.mF, fun i hi => ⟨(h.lt i hi).1, Nat.lt_of_lt_of_le (h.lt i hi).2 hc.size⟩⟩
  rcases h.nx with h1 | ⟨x, gn, h1, h2, h3, h4, h5⟩
  · exact .inl h1
  · exact .inr ⟨x, gn, h1, h2, h3.chg hc (Blk.ne_ h3 h.blk (by decide)), h4, h5⟩
/-- none is at hand any more -/
theorem ShI.gone (h : ShI base b p g gt gq s k F Fq w vn) (hp : Pl.FOk p) : ShI base b p g gt gq ⟨s.q, s.st, none⟩ k F Fq (w.setCell ⟨g, 2, none⟩ (.pointer none)) (.pointer none) := by
  have hc : Chg w (w.setCell ⟨g, 2, none⟩ (.pointer none)) (fun i => i = g) := Chg.setCell (p := ⟨g, 2, none⟩) (Chg.refl _ (fun i => i = g)) (fun _ => rfl) _
  exact ⟨h.blk.set_ 2 _, Blk.chg h.st hc (fun e => h.gne e.symm), h.sok, h.sl, (fifo_imp base gq p hp).chg _ _ _ _ _ _ h.q hc (fun i hi e => h.d.1 (e ▸ hi)), .inl ⟨rfl, rfl⟩, h.d, h.mF, fun i hi => ⟨(h.lt i hi).1, Nat.lt_of_lt_of_le (h.lt i hi).2 hc.size⟩⟩
end
/-- the machine's invariant -/
def ShInv (base : Nat) (b : Bk) (p : Pl.FP) (g gt gq : Nat) (s : Pl.Shp (List Hd)) (k : Nat) (F : Nat → Prop) (w : World) : Prop := base ≤ w.heap.size ∧ ∃ Fq vn, ShI base b p g gt gq s k F Fq w vn
/-- 'append' of nothing onto nil -/
theorem wpList_app00 {P : Program} {w : World} {ops : Array Oper} {rest : List Oper} {o : Oper} {a : Act} {Q : Exit → Act → World → Prop} (hgd : o.guard = none) (s x : Operand) (t e : TypeId) (ht : P.underlying t = some (.slice e)) {z : Value} {sz by_ : Nat} (hinfo : (P.info? e).map (fun i => (i.zero, i.size, i.bytes)) = some (some z, sz, by_))
    (ho : o.op = .call { callee := .builtin .append, args := #[s, x], argTypes := #[t, t] }) (A : Option Addr) (c : Nat) (hs : a.eval s = .slice none 0 0) (hx : a.eval x = .slice A 0 c)
    (h : wpList P ops Q rest (a.put o.dst (.slice none 0 0)) w) : wpList P ops Q (o :: rest) a w := by
  obtain ⟨i, hi, _, _, _⟩ := info_parts hinfo
  have hrun : (Builtin.append_ #[t, t] o.type #[.slice none 0 0, .slice A 0 c]).run P w = .ok (.slice none 0 0) w := by
    cases A with
    | none => simp [Builtin.append_, run_underlying ht, sizeOf, typeInfo, hi, Builtin.lenOf, Builtin.firstCells]
    | some ad => simp [Builtin.append_, run_underlying ht, sizeOf, typeInfo, hi, Builtin.lenOf, Builtin.firstCells, loadCells, loadCellsFrom]
  refine wpList_plain hgd fun _ hK => ?_
  unfold Oper.wp execOp
  simp only [ho, resolve, invoke, builtin, Sem.run_bind, Sem.run_pure, Result.andThen_ok, List.map_toArray, List.map_cons, List.map_nil, hs, hx, hrun]
  exact hK _ _ h
end Go.Proofs.YtdhojhgmaodifaaDoor
