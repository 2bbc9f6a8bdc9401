/-
  Controlled delay in memory: pull.
-/
import Derived.Test.YthhgbpbaihgogaaCodRoot
import Derived.Test.YthhgbpbaihgogaaFifo2
import Derived.Deep.CutRange
import Derived.Deep.CutBlock
namespace Go.Proofs.Ythhgbpbaihgogaa
open Go.RowKit Bkt
set_option linter.unusedVariables false

/-- controlled delay in its block -/
structure Dmm (w : World) (base g : Nat) (v : Value) (cs : Array Value) (P : Pl.DP) (D : Pl.DS) : Prop where
  f : Ffo w base g 0 89 cs v D.s P.p
  c5 : cs[5]? = some (.int .i64 P.target)
  c6 : cs[6]? = some (.int .i64 P.span)
  c7 : cs[7]? = some (.int .i64 D.above)
  c8 : cs[8]? = some (.bool D.drop)
  c9 : cs[9]? = some (.int .i64 D.next)
  c10 : cs[10]? = some (.int .i64 D.count)
/-- behind a method: nothing else has turned but the block and the row -/
structure Trn (w w' : World) (g : Nat) (v v' : Value) : Prop where
  chg : Chg w w' (fun i => i = g ∨ v.ownBlock = some i)
  at_ : v'.ownBlock = v.ownBlock ∨ ∀ i, v'.ownBlock = some i → w.heap.size ≤ i
section
variable {w w' w'' : World} {base g : Nat} {v v' v'' : Value} {cs : Array Value} {P : Pl.DP} {D D' : Pl.DS}
theorem Trn.refl (w : World) (g : Nat) (v : Value) : Trn w w g v v := ⟨Chg.refl _ _, .inl rfl⟩
theorem Trn.trans (h : Trn w w' g v v') (h' : Trn w' w'' g v' v'') (hg : g < w.heap.size) (hv : ∀ i, v'.ownBlock = some i → i < w'.heap.size) : Trn w w'' g v v'' := by
  refine ⟨h.chg.trans h'.chg (fun i hi hs => ?_), ?_⟩
  · rcases hs with e | e
    · exact .inl e
    · rcases h.at_ with e2 | e2
      · exact .inr (e2 ▸ e)
      · have := e2 i e; omega
  · rcases h'.at_ with e | e
    · rw [e]; exact h.at_
    · exact .inr fun i hi => Nat.le_trans h.chg.size (e i hi)
theorem Trn.below (h : Trn w w' g v v') (hb : Below w'.heap.size w' w'') : Trn w w'' g v v' := ⟨h.chg.trans (Chg.of_below hb) (fun i _ hs => hs), h.at_⟩
theorem Trn.behind (hb : Below w.heap.size w w') (h : Trn w' w'' g v v') : Trn w w'' g v v' := ⟨(Chg.of_below hb).trans h.chg (fun i _ hs => hs), h.at_.imp id (fun h i hi => Nat.le_trans hb.size (h i hi))⟩
theorem Trn.set_ (h : Trn w w' g v v') (i : Nat) (u : Value) : Trn w (w'.setCell ⟨g, i, none⟩ u) g v v' := ⟨h.chg.setCell (p := ⟨g, i, none⟩) (fun _ => .inl rfl) u, h.at_⟩
/-- a cell of a block of the call's own -/
theorem Trn.setNew (h : Trn w w' g v v') {p : Addr} (hp : w.heap.size ≤ p.block) (u : Value) : Trn w (w'.setCell p u) g v v' := ⟨h.chg.setCell (p := p) (fun e => by omega) u, h.at_⟩
theorem Trn.drew (h : Trn w w' g v v') : Trn w w'.drew g v v' := ⟨h.chg.drew, h.at_⟩
theorem Trn.drewN (h : Trn w w' g v v') (n : Nat) : Trn w (w'.drewN n) g v v' := ⟨h.chg.drewN n, h.at_⟩
theorem Trn.alloc (h : Trn w w' g v v') (o : Obj) : Trn w (w'.alloc o) g v v' := ⟨h.chg.alloc o, h.at_⟩
theorem Dmm.blk (h : Dmm w base g v cs P D) : Blk w g 89 cs := h.f.lst.blk
theorem Dmm.cell {i : Nat} {u : Value} (h : Dmm w base g v cs P D) (hi : cs[i]? = some u) : w.cell? ⟨g, i, none⟩ = some u := (h.blk.cell i).trans hi
theorem Dmm.vlt (h : Dmm w base g v cs P D) : ∀ i, v.ownBlock = some i → base ≤ i ∧ i < w.heap.size := h.f.lst.own.lt
theorem Dmm.chg {S : Nat → Prop} (h : Dmm w base g v cs P D) (hc : Chg w w' S) (h1 : ¬ S g) (h2 : ∀ i, v.ownBlock = some i → ¬ S i) : Dmm w' base g v cs P D := ⟨h.f.chg hc h1 h2, h.c5, h.c6, h.c7, h.c8, h.c9, h.c10⟩
theorem Dmm.below (h : Dmm w base g v cs P D) (hb : Below w.heap.size w w') : Dmm w' base g v cs P D := ⟨h.f.below hb, h.c5, h.c6, h.c7, h.c8, h.c9, h.c10⟩
theorem Dmm.drewN (h : Dmm w base g v cs P D) (n : Nat) : Dmm (w.drewN n) base g v cs P D := h.below ⟨rfl, rfl, rfl, Nat.le_refl _, fun _ _ => rfl⟩
theorem Dmm.setNew (h : Dmm w base g v cs P D) {p : Addr} (hp : p.block ≠ g) (hv : v.ownBlock ≠ some p.block) (u : Value) : Dmm (w.setCell p u) base g v cs P D :=
  h.chg (Chg.setCell (S := fun i => i = p.block) (p := p) (Chg.refl w _) (fun _ => rfl) u) (fun e => hp e.symm) (fun i hi e => hv (by rw [hi, e]))
theorem Dmm.vne (h : Dmm w base g v cs P D) : v.ownBlock ≠ some g := h.f.lst.own.blk_ne h.blk (Ne.symm h.f.lst.ne)
theorem Dmm.size (h : Dmm w base g v cs P D) : 10 < cs.size := by
  rcases Nat.lt_or_ge 10 cs.size with h' | h'
  · exact h'
  · have := h.c10; rw [Array.getElem?_eq_none h'] at this; cases this
theorem Dmm.setF (h : Dmm w base g v cs P D) (i : Nat) (hi : 5 ≤ i) (u : Value) : Ffo (w.setCell ⟨g, i, none⟩ u) base g 0 89 (cs.setIfInBounds i u) v D.s P.p := by
  have hk : ∀ j, j ≠ i → (cs.setIfInBounds i u)[j]? = cs[j]? := fun j hj => by rw [Array.getElem?_setIfInBounds, if_neg (Ne.symm hj)]
  refine ⟨⟨h.blk.set_ i u, (hk 0 (by omega)).trans h.f.lst.c0, (hk (0 + 1) (by omega)).trans h.f.lst.c1, ?_, h.f.lst.ne⟩, (hk (0 + 2) (by omega)).trans h.f.c2, (hk (0 + 3) (by omega)).trans h.f.c3, (hk (0 + 4) (by omega)).trans h.f.c4⟩
  exact h.f.lst.own.chg (S := fun i => i = g) (Chg.setCell (S := fun i => i = g) (p := ⟨g, i, none⟩) (Chg.refl w _) (fun _ => rfl) u) (fun j hj e => h.vne (by rw [hj, e]))
theorem set_at {cs : Array Value} {i j : Nat} {u : Value} (hj : j ≠ i) : (cs.setIfInBounds i u)[j]? = cs[j]? := by rw [Array.getElem?_setIfInBounds, if_neg (Ne.symm hj)]
theorem set_is {cs : Array Value} {i : Nat} {u : Value} (h : i < cs.size) : (cs.setIfInBounds i u)[i]? = some u := by rw [Array.getElem?_setIfInBounds, if_pos rfl, if_pos h]
theorem Dmm.setAbove (h : Dmm w base g v cs P D) (x : Int) : Dmm (w.setCell ⟨g, 7, none⟩ (.int .i64 x)) base g v (cs.setIfInBounds 7 (.int .i64 x)) P ⟨D.s, x, D.drop, D.next, D.count⟩ :=
  ⟨h.setF 7 (by omega) _, (set_at (by omega)).trans h.c5, (set_at (by omega)).trans h.c6, set_is (by have := h.size; omega), (set_at (by omega)).trans h.c8, (set_at (by omega)).trans h.c9, (set_at (by omega)).trans h.c10⟩
theorem Dmm.setDrop (h : Dmm w base g v cs P D) (x : Bool) : Dmm (w.setCell ⟨g, 8, none⟩ (.bool x)) base g v (cs.setIfInBounds 8 (.bool x)) P ⟨D.s, D.above, x, D.next, D.count⟩ :=
  ⟨h.setF 8 (by omega) _, (set_at (by omega)).trans h.c5, (set_at (by omega)).trans h.c6, (set_at (by omega)).trans h.c7, set_is (by have := h.size; omega), (set_at (by omega)).trans h.c9, (set_at (by omega)).trans h.c10⟩
theorem Dmm.setNext (h : Dmm w base g v cs P D) (x : Int) : Dmm (w.setCell ⟨g, 9, none⟩ (.int .i64 x)) base g v (cs.setIfInBounds 9 (.int .i64 x)) P ⟨D.s, D.above, D.drop, x, D.count⟩ :=
  ⟨h.setF 9 (by omega) _, (set_at (by omega)).trans h.c5, (set_at (by omega)).trans h.c6, (set_at (by omega)).trans h.c7, (set_at (by omega)).trans h.c8, set_is (by have := h.size; omega), (set_at (by omega)).trans h.c10⟩
theorem Dmm.setCount (h : Dmm w base g v cs P D) (x : Int) : Dmm (w.setCell ⟨g, 10, none⟩ (.int .i64 x)) base g v (cs.setIfInBounds 10 (.int .i64 x)) P ⟨D.s, D.above, D.drop, D.next, x⟩ :=
  ⟨h.setF 10 (by omega) _, (set_at (by omega)).trans h.c5, (set_at (by omega)).trans h.c6, (set_at (by omega)).trans h.c7, (set_at (by omega)).trans h.c8, (set_at (by omega)).trans h.c9, set_is (by have := h.size; omega)⟩
/-- behind one of the plain queue's methods -/
theorem Dmm.of_fifo {s' : List Hd} (h : Dmm w base g v cs P D) (h' : FfoTo w w' base g 0 89 cs v s' P.p) : ∃ v' cs', Dmm w' base g v' cs' P ⟨s', D.above, D.drop, D.next, D.count⟩ ∧ Trn w w' g v v' := by
  obtain ⟨v', cs', f', c', a', e'⟩ := h'
  exact ⟨v', cs', ⟨f', (e' 5 (by omega) (by omega)).trans h.c5, (e' 6 (by omega) (by omega)).trans h.c6, (e' 7 (by omega) (by omega)).trans h.c7, (e' 8 (by omega) (by omega)).trans h.c8, (e' 9 (by omega) (by omega)).trans h.c9, (e' 10 (by omega) (by omega)).trans h.c10⟩, c', a'⟩
theorem Dmm.of_next {x : Hd} {r : List Hd} {b : Int} (h : Dmm w base g v cs P D) (hs : D.s = x :: r) (h' : LstTo w w' base g 0 89 cs v v' r b) (e : b = Pl.tot r) : ∃ cs', Dmm w' base g v' cs' P ⟨r, D.above, D.drop, D.next, D.count⟩ ∧ Trn w w' g v v' := by
  subst e
  have hk : ∀ j, j ≠ 0 → j ≠ 0 + 1 → ((cs.setIfInBounds 0 v').setIfInBounds (0 + 1) (.int .i64 (Pl.tot r)))[j]? = cs[j]? := fun j h0 h1 => by rw [set_at h1, set_at h0]
  exact ⟨_, ⟨⟨h'.lst, (hk _ (by omega) (by omega)).trans h.f.c2, (hk _ (by omega) (by omega)).trans h.f.c3, (hk _ (by omega) (by omega)).trans h.f.c4⟩, (hk 5 (by omega) (by omega)).trans h.c5, (hk 6 (by omega) (by omega)).trans h.c6, (hk 7 (by omega) (by omega)).trans h.c7, (hk 8 (by omega) (by omega)).trans h.c8, (hk 9 (by omega) (by omega)).trans h.c9, (hk 10 (by omega) (by omega)).trans h.c10⟩, h'.chg, h'.at_⟩
end

/-- a block of six cells -/
theorem blk6 {w : World} {g : Nat} {t : TypeId} {a0 a1 a2 a3 a4 a5 : Value} (h : Blk w g t #[a0, a1, a2, a3, a4, a5]) :
    w.cell? ⟨g, 0, none⟩ = some a0 ∧ w.cell? ⟨g, 1, none⟩ = some a1 ∧ w.cell? ⟨g, 2, none⟩ = some a2 ∧ w.cell? ⟨g, 3, none⟩ = some a3 ∧ w.cell? ⟨g, 4, none⟩ = some a4 ∧ w.cell? ⟨g, 5, none⟩ = some a5 ∧
    w.frozen? ⟨g, 0, none⟩ = false ∧ w.frozen? ⟨g, 1, none⟩ = false ∧ w.frozen? ⟨g, 2, none⟩ = false ∧ w.frozen? ⟨g, 3, none⟩ = false ∧ w.frozen? ⟨g, 4, none⟩ = false ∧ w.frozen? ⟨g, 5, none⟩ = false :=
  ⟨h.cell 0, h.cell 1, h.cell 2, h.cell 3, h.cell 4, h.cell 5, h.frozen 0, h.frozen 1, h.frozen 2, h.frozen 3, h.frozen 4, h.frozen 5⟩
section
variable {w w' w'' : World} {base g k : Nat} {v v' v'' : Value} {cs : Array Value} {P : Pl.DP} {D D' : Pl.DS}
theorem Dmm.six (h : Dmm w base g v cs P D) (hp : k ≠ g) (hv : v.ownBlock ≠ some k) (u0 u1 u2 u3 u4 u5 : Value) :
    Dmm ((((((w.setCell ⟨k, 0, none⟩ u0).setCell ⟨k, 1, none⟩ u1).setCell ⟨k, 2, none⟩ u2).setCell ⟨k, 3, none⟩ u3).setCell ⟨k, 4, none⟩ u4).setCell ⟨k, 5, none⟩ u5) base g v cs P D :=
  (((((h.setNew (p := ⟨k, 0, none⟩) hp hv u0).setNew (p := ⟨k, 1, none⟩) hp hv u1).setNew (p := ⟨k, 2, none⟩) hp hv u2).setNew (p := ⟨k, 3, none⟩) hp hv u3).setNew (p := ⟨k, 4, none⟩) hp hv u4).setNew (p := ⟨k, 5, none⟩) hp hv u5
theorem Trn.six (h : Trn w w' g v v') (hk : w.heap.size ≤ k) (u0 u1 u2 u3 u4 u5 : Value) :
    Trn w ((((((w'.setCell ⟨k, 0, none⟩ u0).setCell ⟨k, 1, none⟩ u1).setCell ⟨k, 2, none⟩ u2).setCell ⟨k, 3, none⟩ u3).setCell ⟨k, 4, none⟩ u4).setCell ⟨k, 5, none⟩ u5) g v v' :=
  (((((h.setNew (p := ⟨k, 0, none⟩) hk u0).setNew (p := ⟨k, 1, none⟩) hk u1).setNew (p := ⟨k, 2, none⟩) hk u2).setNew (p := ⟨k, 3, none⟩) hk u3).setNew (p := ⟨k, 4, none⟩) hk u4).setNew (p := ⟨k, 5, none⟩) hk u5
end
/-- what pull does -/
def PullOut (w : World) (base g : Nat) (v : Value) (P : Pl.DP) (r : Option Hd × Bool × Pl.DS) (e : Ending) (w' : World) : Prop :=
  e = .returned (.tuple #[optV r.1, .bool r.1.isSome, .bool r.2.1]) ∧ ∃ v' cs', Dmm w' base g v' cs' P r.2.2 ∧ Trn w w' g v v'

set_option maxHeartbeats 1000000 in
set_option maxRecDepth 100000 in
theorem pull_none (base g : Nat) (v : Value) (cs : Array Value) (P : Pl.DP) (D : Pl.DS) (now : Int) (w : World) (h : Dmm w base g v cs P D) (hs : D.s = []) :
    Calls Try.prog 66 #[.pointer (some ⟨g, 0, none⟩), .int .i64 now] w (PullOut w base g v P (none, false, ⟨[], -1, D.drop, D.next, D.count⟩)) := by
  have hgl := h.blk.lt
  have hb0 : Below w.heap.size w (w.alloc (.cells #[.int .i64 0, .int .i64 0, .int .i64 0, .int .i64 0, .int .i64 0, .int .i64 0] 54)) := (Below.refl _ _).alloc (Nat.le_refl _) _
  have hls := h.f.lst
  rw [hs] at hls
  have hnx := next_none base g 0 89 cs v (Pl.tot []) _ (hls.below hb0)
  have hk := Blk.new w 54 #[.int .i64 0, .int .i64 0, .int .i64 0, .int .i64 0, .int .i64 0, .int .i64 0]
  unfold PairOut hdV Hd.zero It.zero at hnx
  dsimp only at hnx
  have H := Lib.hid h; have HNX := Lib.hid hnx; have HB0 := Lib.hid hb0; have HK := Lib.hid hk; have HS := Lib.hid hs
  clear h hnx hb0 hk hls hs
  go_enter Try.func66, Try.ntmps66
  go_wp2_with fail
  (with_reducible refine HNX.out.mono ?_)
  rintro e w1 ⟨rfl, hb1⟩
  have hd1 := (H.out.below HB0.out).below hb1
  have hk1 := HK.out.below hb1 HK.out.lt
  have hsz := hb1.size
  simp at hsz
  have HD1 := Lib.hid hd1; have HK1 := Lib.hid hk1; have HB1 := Lib.hid (bl_next HB0.out hb1)
  clear hd1 hk1 hb1
  go_upto_if 18 with fail
  have hd2 := HD1.out.below ((Below.refl _ _).alloc (Nat.le_refl _) (.cells #[.int .i64 0, .int .i64 0, .int .i64 0, .int .i64 0, .int .i64 0, .int .i64 0] 54))
  have hk2 := HK1.out.alloc (.cells #[.int .i64 0, .int .i64 0, .int .i64 0, .int .i64 0, .int .i64 0, .int .i64 0] 54)
  have hn2 := Blk.new w1 54 #[.int .i64 0, .int .i64 0, .int .i64 0, .int .i64 0, .int .i64 0, .int .i64 0]
  have hb2 := HB1.out.alloc HB1.out.size (.cells #[.int .i64 0, .int .i64 0, .int .i64 0, .int .i64 0, .int .i64 0, .int .i64 0] 54)
  generalize w1.alloc (.cells #[.int .i64 0, .int .i64 0, .int .i64 0, .int .i64 0, .int .i64 0, .int .i64 0] 54) = w2 at *
  have hgl1 := HD1.out.blk.lt
  generalize w1.heap.size = gn at *
  obtain ⟨z0, z1, z2, z3, z4, z5, f0, f1, f2, f3, f4, f5⟩ := blk6 hk2
  obtain ⟨t0, t1, t2, t3, t4, t5, s0, s1, s2, s3, s4, s5⟩ := blk6 hn2
  have y7 := hd2.cell hd2.c7; have x7 := hd2.blk.frozen 7
  have HD2 := Lib.hid hd2; have HK2 := Lib.hid hk2; have HN2 := Lib.hid hn2; have HB2 := Lib.hid hb2
  clear hd2 hk2 hn2 hb2
  have n1 : g ≠ gn := by omega
  have n2 : gn ≠ g := Ne.symm n1
  have n3 : w.heap.size ≠ gn := by omega
  have n4 : gn ≠ w.heap.size := by omega
  have n5 : g ≠ w.heap.size := by omega
  have n6 : w.heap.size ≠ g := by omega
  go_wp2_with fail
  refine bodyPost_as fun Wf hWf => ?_
  have hkf : Blk Wf w.heap.size 54 #[.int .i64 0, .int .i64 0, .int .i64 0, .int .i64 0, .int .i64 0, .int .i64 0] := by rw [hWf]; exact blk_six (HK2.out.far (p := ⟨g, 7, none⟩) n6 _) _ _ _ _ _ _
  have hvk : v.ownBlock ≠ some w.heap.size := fun e => by have := (H.out.vlt _ e).2; omega
  have hdf : Dmm Wf base g v (cs.setIfInBounds 7 (.int .i64 (-1))) P ⟨D.s, -1, D.drop, D.next, D.count⟩ := by rw [hWf]; exact (HD2.out.setAbove (-1)).six n6 hvk _ _ _ _ _ _
  have htf : Trn w Wf g v v := by rw [hWf]; exact (((Trn.refl w g v).below HB2.out).set_ 7 _).six (Nat.le_refl _) _ _ _ _ _ _
  rw [HS.out] at hdf
  clear hWf
  obtain ⟨r0, r1, r2, r3, r4, r5, _, _, _, _, _, _⟩ := blk6 hkf
  exact bodyPost_ret (v := .tuple #[hdV Hd.zero, .bool false, .bool false]) (by simp [results, Try.results66, go_sem, hdV, Hd.zero, It.zero, r0, r1, r2, r3, r4, r5]) rfl ⟨rfl, v, _, hdf, htf⟩

set_option maxHeartbeats 4000000 in
set_option maxRecDepth 100000 in
theorem pull_some (base g : Nat) (v : Value) (cs : Array Value) (P : Pl.DP) (D : Pl.DS) (x : Hd) (r : List Hd) (now : Int) (w : World) (h : Dmm w base g v cs P D) (hs : D.s = x :: r) (hl : HdsOk D.s) (hP : Pl.DPOk P) (hn : 0 ≤ now ∧ now ≤ 1000000000) (hx : 0 ≤ x.it.at_ ∧ x.it.at_ ≤ 1000000000) (hab : -1 ≤ D.above ∧ D.above ≤ 1001000000) :
    Calls Try.prog 66 #[.pointer (some ⟨g, 0, none⟩), .int .i64 now] w (PullOut w base g v P (Pl.pullD P now D)) := by
  have hgl := h.blk.lt
  have hpd : Pl.pullD P now D = if now - x.it.at_ < P.target ∨ r.length = 0 then (some x, false, ⟨r, -1, D.drop, D.next, D.count⟩) else if D.above < 0 then (some x, false, ⟨r, now + P.span, D.drop, D.next, D.count⟩) else (some x, decide (D.above ≤ now), ⟨r, D.above, D.drop, D.next, D.count⟩) := by
    unfold Pl.pullD
    rw [hs]
  have HPD := Lib.hid hpd
  have hb0 : Below w.heap.size w (w.alloc (.cells #[.int .i64 0, .int .i64 0, .int .i64 0, .int .i64 0, .int .i64 0, .int .i64 0] 54)) := (Below.refl _ _).alloc (Nat.le_refl _) _
  have hls := h.f.lst
  rw [hs] at hls hl
  have hxl := hl.b x (by simp)
  have htl := hl.tot
  have hln := hl.n
  rw [List.length_cons] at hln
  have hnx := next_some base g 0 89 cs v x r (Pl.tot (x :: r)) _ (hls.below hb0) (by omega) htl.1 (by omega) hxl.1 (by omega)
  have hk := Blk.new w 54 #[.int .i64 0, .int .i64 0, .int .i64 0, .int .i64 0, .int .i64 0, .int .i64 0]
  have hof : ∀ w2 v2, LstTo (w.alloc (.cells #[.int .i64 0, .int .i64 0, .int .i64 0, .int .i64 0, .int .i64 0, .int .i64 0] 54)) w2 base g 0 89 cs v v2 r (Pl.tot (x :: r) - x.it.len) → ∃ cs', Dmm w2 base g v2 cs' P ⟨r, D.above, D.drop, D.next, D.count⟩ ∧ Trn w w2 g v v2 := fun w2 v2 h2 => by
    obtain ⟨cs', g1, g2⟩ := (h.below hb0).of_next hs h2 (by rw [Pl.tot_cons]; omega)
    exact ⟨cs', g1, Trn.behind hb0 g2⟩
  have hv := fun i hi => (h.vlt i hi).2
  have htg := hP.tg; have hsp := hP.sp
  obtain ⟨⟨xa, xl, xf, xb, xm⟩, xn⟩ := x
  unfold NextOut hdV at hnx
  dsimp only at hnx hx hof
  have HNX := Lib.hid hnx; have HK := Lib.hid hk; have HOF := Lib.hid hof; have HV := Lib.hid hv; have HB0 := Lib.hid hb0
  generalize Pl.pullD P now D = R at *
  obtain ⟨Ds, Da, Dd, Dn, Dc⟩ := D
  dsimp only at hab HOF HPD
  clear h hnx hb0 hk hof hv hpd hls hl hs hxl htl hP
  obtain ⟨hn0, hn1⟩ := hn; obtain ⟨hx0, hx1⟩ := hx; obtain ⟨hab0, hab1⟩ := hab; obtain ⟨htg0, htg1⟩ := htg; obtain ⟨hsp0, hsp1⟩ := hsp
  go_enter Try.func66, Try.ntmps66
  go_wp2_with fail
  (with_reducible refine HNX.out.mono ?_)
  rintro e w1 ⟨rfl, v', hl1⟩
  obtain ⟨cs', hd1, ht1⟩ := HOF.out _ _ hl1
  have hk1 := HK.out.chg hl1.chg (by
    rintro (e | e)
    · omega
    · have := HV.out _ e; omega)
  have hsz := ht1.chg.size
  have hsz2 := hl1.chg.size
  simp at hsz2
  have hvn : v'.ownBlock ≠ some w.heap.size := fun e => by
    rcases hl1.at_ with e2 | e2
    · have := HV.out _ (e2 ▸ e); omega
    · have := e2 _ e; simp at this; omega
  have HD1 := Lib.hid hd1; have HK1 := Lib.hid hk1; have HT1 := Lib.hid ht1; have HVN := Lib.hid hvn
  clear hd1 hk1 ht1 hl1 hvn
  go_upto_if 18 with fail
  have hd2 := HD1.out.below ((Below.refl _ _).alloc (Nat.le_refl _) (.cells #[.int .i64 xa, .int .i64 xl, .int .i64 xf, .int .i64 xb, .int .i64 xm, .int .i64 xn] 54))
  have hk2 := HK1.out.alloc (.cells #[.int .i64 xa, .int .i64 xl, .int .i64 xf, .int .i64 xb, .int .i64 xm, .int .i64 xn] 54)
  have hn2 := Blk.new w1 54 #[.int .i64 xa, .int .i64 xl, .int .i64 xf, .int .i64 xb, .int .i64 xm, .int .i64 xn]
  have ht2 := HT1.out.alloc (.cells #[.int .i64 xa, .int .i64 xl, .int .i64 xf, .int .i64 xb, .int .i64 xm, .int .i64 xn] 54)
  generalize w1.alloc (.cells #[.int .i64 xa, .int .i64 xl, .int .i64 xf, .int .i64 xb, .int .i64 xm, .int .i64 xn] 54) = w2 at *
  have hgl1 := HD1.out.blk.lt
  have hvg : v'.ownBlock ≠ some w1.heap.size := fun e => by have := (HD1.out.vlt _ e).2; omega
  generalize w1.heap.size = gn at *
  obtain ⟨z0, z1, z2, z3, z4, z5, f0, f1, f2, f3, f4, f5⟩ := blk6 hk2
  obtain ⟨t0, t1, t2, t3, t4, t5, s0, s1, s2, s3, s4, s5⟩ := blk6 hn2
  have y5 := hd2.cell hd2.c5; have y6 := hd2.cell hd2.c6; have y7 := hd2.cell hd2.c7; have x7 := hd2.blk.frozen 7
  obtain ⟨Al, cl, hvl, _, _, _⟩ := hd2.f.lst.own.reads
  have y0 : w2.cell? ⟨g, 0, none⟩ = some (.slice Al r.length cl) := by rw [← hvl]; exact hd2.cell hd2.f.lst.c0
  have HD2 := Lib.hid hd2; have HK2 := Lib.hid hk2; have HN2 := Lib.hid hn2; have HT2 := Lib.hid ht2; have HVG := Lib.hid hvg
  clear hd2 hk2 hn2 ht2 hvl hvg
  have n1 : g ≠ gn := by omega
  have n2 : gn ≠ g := Ne.symm n1
  have n3 : w.heap.size ≠ gn := by omega
  have n4 : gn ≠ w.heap.size := by omega
  have n5 : g ≠ w.heap.size := by omega
  have n6 : w.heap.size ≠ g := by omega
  have e1 : IntKind.i64.wrap (now - xa) = now - xa := IntWalk.i64_in _ (by omega)
  by_cases c1 : now - xa < P.target
  · have d1 : decide (now - xa < P.target) = true := by simpa using c1
    go_wp2_with fail
    go_quiet (fail)
    go_wp2_with fail
    refine bodyPost_as fun Wf hWf => ?_
    have hkf : Blk Wf w.heap.size 54 #[.int .i64 xa, .int .i64 xl, .int .i64 xf, .int .i64 xb, .int .i64 xm, .int .i64 xn] := by rw [hWf]; exact blk_six ((HK2.out.drewN _).far (p := ⟨g, 7, none⟩) n6 _) _ _ _ _ _ _
    have hdf : ∃ cs2, Dmm Wf base g v' cs2 P ⟨r, -1, Dd, Dn, Dc⟩ := by rw [hWf]; exact ⟨_, ((HD2.out.drewN _).setAbove (-1)).six n6 HVN.out _ _ _ _ _ _⟩
    have htf : Trn w Wf g v v' := by rw [hWf]; exact ((HT2.out.drewN _).set_ 7 _).six (Nat.le_refl _) _ _ _ _ _ _
    obtain ⟨cs2, hdf⟩ := hdf
    clear hWf
    obtain ⟨r0, r1, r2, r3, r4, r5, _, _, _, _, _, _⟩ := blk6 hkf
    have hR := HPD.out
    rw [if_pos (.inl c1)] at hR
    rw [hR]
    exact bodyPost_ret (v := .tuple #[hdV ⟨⟨xa, xl, xf, xb, xm⟩, xn⟩, .bool true, .bool false]) (by simp [results, Try.results66, go_sem, hdV, r0, r1, r2, r3, r4, r5]) rfl ⟨rfl, v', cs2, hdf, htf⟩
  · have d1 : decide (now - xa < P.target) = false := by simpa using c1
    by_cases c2 : r.length = 0
    · have d2 : ((r.length : Int) == 0) = true := by simpa using c2
      have HC2 := Lib.hid c2
      clear c2
      go_wp2_with fail
      go_quiet ((go_at_call 21; exact Calls.quiet_of_same ((len_any g 0 r.length cl Al _ (by exact y0)).mono fun e w' ⟨h1, h2⟩ => ⟨h1, h2.symm⟩)))
      go_wp2_with fail
      refine bodyPost_as fun Wf hWf => ?_
      have hkf : Blk Wf w.heap.size 54 #[.int .i64 xa, .int .i64 xl, .int .i64 xf, .int .i64 xb, .int .i64 xm, .int .i64 xn] := by rw [hWf]; exact blk_six ((HK2.out.drewN _).far (p := ⟨g, 7, none⟩) n6 _) _ _ _ _ _ _
      have hdf : ∃ cs2, Dmm Wf base g v' cs2 P ⟨r, -1, Dd, Dn, Dc⟩ := by rw [hWf]; exact ⟨_, ((HD2.out.drewN _).setAbove (-1)).six n6 HVN.out _ _ _ _ _ _⟩
      have htf : Trn w Wf g v v' := by rw [hWf]; exact ((HT2.out.drewN _).set_ 7 _).six (Nat.le_refl _) _ _ _ _ _ _
      obtain ⟨cs2, hdf⟩ := hdf
      clear hWf
      obtain ⟨r0, r1, r2, r3, r4, r5, _, _, _, _, _, _⟩ := blk6 hkf
      have hR := HPD.out
      rw [if_pos (.inr HC2.out)] at hR
      rw [hR]
      exact bodyPost_ret (v := .tuple #[hdV ⟨⟨xa, xl, xf, xb, xm⟩, xn⟩, .bool true, .bool false]) (by simp [results, Try.results66, go_sem, hdV, r0, r1, r2, r3, r4, r5]) rfl ⟨rfl, v', cs2, hdf, htf⟩
    · have d2 : ((r.length : Int) == 0) = false := by simpa using c2
      have HC2 := Lib.hid c2
      clear c2
      go_wp2_with fail
      go_quiet ((go_at_call 21; exact Calls.quiet_of_same ((len_any g 0 r.length cl Al _ (by exact y0)).mono fun e w' ⟨h1, h2⟩ => ⟨h1, h2.symm⟩)))
      by_cases c3 : Da < 0
      · go_wp2_with fail
        refine bodyPost_as fun Wf hWf => ?_
        have hkf : Blk Wf w.heap.size 54 #[.int .i64 xa, .int .i64 xl, .int .i64 xf, .int .i64 xb, .int .i64 xm, .int .i64 xn] := by rw [hWf]; exact blk_six ((HK2.out.drewN _).far (p := ⟨g, 7, none⟩) n6 _) _ _ _ _ _ _
        have hdf : ∃ cs2, Dmm Wf base g v' cs2 P ⟨r, now + P.span, Dd, Dn, Dc⟩ := by rw [hWf]; exact ⟨_, ((HD2.out.drewN _).setAbove (now + P.span)).six n6 HVN.out _ _ _ _ _ _⟩
        have htf : Trn w Wf g v v' := by rw [hWf]; exact ((HT2.out.drewN _).set_ 7 _).six (Nat.le_refl _) _ _ _ _ _ _
        obtain ⟨cs2, hdf⟩ := hdf
        clear hWf
        obtain ⟨r0, r1, r2, r3, r4, r5, _, _, _, _, _, _⟩ := blk6 hkf
        have hR := HPD.out
        rw [if_neg (by have := HC2.out; omega), if_pos c3] at hR
        rw [hR]
        exact bodyPost_ret (v := .tuple #[hdV ⟨⟨xa, xl, xf, xb, xm⟩, xn⟩, .bool true, .bool false]) (by simp [results, Try.results66, go_sem, hdV, r0, r1, r2, r3, r4, r5]) rfl ⟨rfl, v', cs2, hdf, htf⟩
      · go_wp2_with fail
        go_region
        all_goals
          go_wp2_with fail
          refine bodyPost_as fun Wf hWf => ?_
          have hkf : Blk Wf w.heap.size 54 #[.int .i64 xa, .int .i64 xl, .int .i64 xf, .int .i64 xb, .int .i64 xm, .int .i64 xn] := by rw [hWf]; exact blk_six (HK2.out.drewN _) _ _ _ _ _ _
          have hdf : ∃ cs2, Dmm Wf base g v' cs2 P ⟨r, Da, Dd, Dn, Dc⟩ := by rw [hWf]; exact ⟨_, (HD2.out.drewN _).six n6 HVN.out _ _ _ _ _ _⟩
          have htf : Trn w Wf g v v' := by rw [hWf]; exact (HT2.out.drewN _).six (Nat.le_refl _) _ _ _ _ _ _
          obtain ⟨cs2, hdf⟩ := hdf
          clear hWf
          obtain ⟨r0, r1, r2, r3, r4, r5, _, _, _, _, _, _⟩ := blk6 hkf
          have hR := HPD.out
          rw [if_neg (by have := HC2.out; omega), if_neg (show ¬ Da < 0 by omega)] at hR
          rw [hR]
          exact bodyPost_ret (v := .tuple #[hdV ⟨⟨xa, xl, xf, xb, xm⟩, xn⟩, .bool true, .bool (decide (Da ≤ now))]) (by simp [results, Try.results66, go_sem, hdV, r0, r1, r2, r3, r4, r5]) rfl ⟨rfl, v', cs2, hdf, htf⟩
/-- pull, in every way -/
theorem pull_any (base g : Nat) (v : Value) (cs : Array Value) (P : Pl.DP) (D : Pl.DS) (now : Int) (w : World) (h : Dmm w base g v cs P D) (hl : HdsOk D.s) (hP : Pl.DPOk P) (hn : 0 ≤ now ∧ now ≤ 1000000000) (hx : ∀ x ∈ D.s, 0 ≤ x.it.at_ ∧ x.it.at_ ≤ 1000000000) (hab : -1 ≤ D.above ∧ D.above ≤ 1001000000) :
    Calls Try.prog 66 #[.pointer (some ⟨g, 0, none⟩), .int .i64 now] w (PullOut w base g v P (Pl.pullD P now D)) := by
  cases hs : D.s with
  | nil =>
    have e : Pl.pullD P now D = (none, false, ⟨[], -1, D.drop, D.next, D.count⟩) := by unfold Pl.pullD; rw [hs]
    rw [e]
    exact pull_none base g v cs P D now w h hs
  | cons x r => exact pull_some base g v cs P D x r now w h hs hl hP hn (hx x (by rw [hs]; exact List.mem_cons_self)) hab
end Go.Proofs.Ythhgbpbaihgogaa
