/-
  Texts of this claim, one behind the other: CodPull, Red, RedPut, RedNew, RedImp, CodTake.
-/
import Derived.Test.YtgdijbaodfghjaaGreatDoorZ21
import Derived.Test.YtgdijbaodfghjaaGreatDoorZ13
import Derived.Deep.CutRange
import Derived.Deep.CutBlock
import Derived.Test.YtgdijbaodfghjaaGreatDoorZ02
import Derived.Test.YtgdijbaodfghjaaGreatDoorZ14
import Derived.Deep.AppendLies
/-
  Controlled delay in memory: pull.
-/
namespace Go.Proofs.YtgdijbaodfghjaaGreatDoor
open Go.RowKit Bkt
set_option linter.unusedVariables false

structure Dmm (w : World) (base g : Nat) (v : Value) (cs : Array Value) (P : Pl.DP) (D : Pl.DS) : Prop where
  f : Ffo w base g 0 123 cs v D.s P.p
  c5 : cs[5]? = some (.int .i64 P.target)
  c6 : cs[6]? = some (.int .i64 P.span)
  c7 : cs[7]? = some (.int .i64 D.above)
  c8 : cs[8]? = some (.bool D.drop)
  c9 : cs[9]? = some (.int .i64 D.next)
  c10 : cs[10]? = some (.int .i64 D.count)
structure Trn (w w' : World) (g : Nat) (v v' : Value) : Prop where
  chg : Chg w w' (fun i => i = g ∨ v.ownBlock = some i)
  at_ : v'.ownBlock = v.ownBlock ∨ ∀ i, v'.ownBlock = some i → w.heap.size ≤ i
section
variable {w w' w'' : World} {base g : Nat} {v v' v'' : Value} {cs : Array Value} {P : Pl.DP} {D D' : Pl.DS}
theorem Trn.refl (w : World) (g : Nat) (v : Value) : Trn w w g v v := ⟨Chg.refl _ _, .inl rfl⟩
theorem Trn.trans (h : Trn w w' g v v') (h' : Trn w' w'' g v' v'') (hg : g < w.heap.size) (hv : ∀ i, v'.ownBlock = some i → i < w'.heap.size) : Trn w w'' g v v'' := by
  refine ⟨h.chg.trans h'.chg (fun i hi hs => ?_), ?_⟩
  · rcases hs with e | e
    · exact .inl e
    · rcases h.at_ with e2 | e2
      · exact .inr (e2 ▸ e)
      · have := e2 i e; omega
  · rcases h'.at_ with e | e
    · rw [e]; exact h.at_
    · exact .inr fun i hi => Nat.le_trans h.chg.size (e i hi)
theorem Trn.below (h : Trn w w' g v v') (hb : Below w'.heap.size w' w'') : Trn w w'' g v v' := ⟨h.chg.trans (Chg.of_below hb) (fun i _ hs => hs), h.at_⟩
theorem Trn.behind (hb : Below w.heap.size w w') (h : Trn w' w'' g v v') : Trn w w'' g v v' := ⟨(Chg.of_below hb).trans h.chg (fun i _ hs => hs), h.at_.imp id (fun h i hi => Nat.le_trans hb.size (h i hi))⟩
theorem Trn.set_ (h : Trn w w' g v v') (i : Nat) (u : Value) : Trn w (w'.setCell ⟨g, i, none⟩ u) g v v' := ⟨h.chg.setCell (p := ⟨g, i, none⟩) (fun _ => .inl rfl) u, h.at_⟩
theorem Trn.setNew (h : Trn w w' g v v') {p : Addr} (hp : w.heap.size ≤ p.block) (u : Value) : Trn w (w'.setCell p u) g v v' := ⟨h.chg.setCell (p := p) (fun e => by omega) u, h.at_⟩
theorem Trn.drew (h : Trn w w' g v v') : Trn w w'.drew g v v' := ⟨h.chg.drew, h.at_⟩
theorem Trn.drewN (h : Trn w w' g v v') (n : Nat) : Trn w (w'.drewN n) g v v' := ⟨h.chg.drewN n, h.at_⟩
theorem Trn.alloc (h : Trn w w' g v v') (o : Obj) : Trn w (w'.alloc o) g v v' := ⟨h.chg.alloc o, h.at_⟩
theorem Dmm.blk (h : Dmm w base g v cs P D) : Blk w g 123 cs := h.f.lst.blk
theorem Dmm.cell {i : Nat} {u : Value} (h : Dmm w base g v cs P D) (hi : cs[i]? = some u) : w.cell? ⟨g, i, none⟩ = some u := (h.blk.cell i).trans hi
theorem Dmm.vlt (h : Dmm w base g v cs P D) : ∀ i, v.ownBlock = some i → base ≤ i ∧ i < w.heap.size := h.f.lst.own.lt
theorem Dmm.chg {S : Nat → Prop} (h : Dmm w base g v cs P D) (hc : Chg w w' S) (h1 : ¬ S g) (h2 : ∀ i, v.ownBlock = some i → ¬ S i) : Dmm w' base g v cs P D := ⟨h.f.chg hc h1 h2, h.c5, h.c6, h.c7, h.c8, h.c9, h.c10⟩
theorem Dmm.below (h : Dmm w base g v cs P D) (hb : Below w.heap.size w w') : Dmm w' base g v cs P D := ⟨h.f.below hb, h.c5, h.c6, h.c7, h.c8, h.c9, h.c10⟩
theorem Dmm.drewN (h : Dmm w base g v cs P D) (n : Nat) : Dmm (w.drewN n) base g v cs P D := h.below ⟨rfl, rfl, rfl, Nat.le_refl _, fun _ _ => rfl⟩
theorem Dmm.setNew (h : Dmm w base g v cs P D) {p : Addr} (hp : p.block ≠ g) (hv : v.ownBlock ≠ some p.block) (u : Value) : Dmm (w.setCell p u) base g v cs P D :=
  h.chg (Chg.setCell (S := fun i => i = p.block) (p := p) (Chg.refl w _) (fun _ => rfl) u) (fun e => hp e.symm) (fun i hi e => hv (by rw [hi, e]))
theorem Dmm.vne (h : Dmm w base g v cs P D) : v.ownBlock ≠ some g := h.f.lst.own.blk_ne h.blk (Ne.symm h.f.lst.ne)
theorem Dmm.size (h : Dmm w base g v cs P D) : 10 < cs.size := by
  rcases Nat.lt_or_ge 10 cs.size with h' | h'
  · exact h'
  · have := h.c10; rw [Array.getElem?_eq_none h'] at this; cases this
theorem Dmm.setF (h : Dmm w base g v cs P D) (i : Nat) (hi : 5 ≤ i) (u : Value) : Ffo (w.setCell ⟨g, i, none⟩ u) base g 0 123 (cs.setIfInBounds i u) v D.s P.p := by
  have hk : ∀ j, j ≠ i → (cs.setIfInBounds i u)[j]? = cs[j]? := fun j hj => by rw [Array.getElem?_setIfInBounds, if_neg (Ne.symm hj)]
  refine ⟨⟨h.blk.set_ i u, (hk 0 (by omega)).trans h.f.lst.c0, (hk (0 + 1) (by omega)).trans h.f.lst.c1, ?_, h.f.lst.ne⟩, (hk (0 + 2) (by omega)).trans h.f.c2, (hk (0 + 3) (by omega)).trans h.f.c3, (hk (0 + 4) (by omega)).trans h.f.c4⟩
  exact h.f.lst.own.chg (S := fun i => i = g) (Chg.setCell (S := fun i => i = g) (p := ⟨g, i, none⟩) (Chg.refl w _) (fun _ => rfl) u) (fun j hj e => h.vne (by rw [hj, e]))
theorem set_at {cs : Array Value} {i j : Nat} {u : Value} (hj : j ≠ i) : (cs.setIfInBounds i u)[j]? = cs[j]? := by rw [Array.getElem?_setIfInBounds, if_neg (Ne.symm hj)]
theorem set_is {cs : Array Value} {i : Nat} {u : Value} (h : i < cs.size) : (cs.setIfInBounds i u)[i]? = some u := by rw [Array.getElem?_setIfInBounds, if_pos rfl, if_pos h]
theorem Dmm.setAbove (h : Dmm w base g v cs P D) (x : Int) : Dmm (w.setCell ⟨g, 7, none⟩ (.int .i64 x)) base g v (cs.setIfInBounds 7 (.int .i64 x)) P ⟨D.s, x, D.drop, D.next, D.count⟩ :=
  ⟨h.setF 7 (by omega) _, (set_at (by omega)).trans h.c5, (set_at (by omega)).trans h.c6, set_is (by have := h.size; omega), (set_at (by omega)).trans h.c8, (set_at (by omega)).trans h.c9, (set_at (by omega)).trans h.c10⟩
theorem Dmm.setDrop (h : Dmm w base g v cs P D) (x : Bool) : Dmm (w.setCell ⟨g, 8, none⟩ (.bool x)) base g v (cs.setIfInBounds 8 (.bool x)) P ⟨D.s, D.above, x, D.next, D.count⟩ :=
  ⟨h.setF 8 (by omega) _, (set_at (by omega)).trans h.c5, (set_at (by omega)).trans h.c6, (set_at (by omega)).trans h.c7, set_is (by have := h.size; omega), (set_at (by omega)).trans h.c9, (set_at (by omega)).trans h.c10⟩
theorem Dmm.setNext (h : Dmm w base g v cs P D) (x : Int) : Dmm (w.setCell ⟨g, 9, none⟩ (.int .i64 x)) base g v (cs.setIfInBounds 9 (.int .i64 x)) P ⟨D.s, D.above, D.drop, x, D.count⟩ :=
  ⟨h.setF 9 (by omega) _, (set_at (by omega)).trans h.c5, (set_at (by omega)).trans h.c6, (set_at (by omega)).trans h.c7, (set_at (by omega)).trans h.c8, set_is (by have := h.size; omega), (set_at (by omega)).trans h.c10⟩
theorem Dmm.setCount (h : Dmm w base g v cs P D) (x : Int) : Dmm (w.setCell ⟨g, 10, none⟩ (.int .i64 x)) base g v (cs.setIfInBounds 10 (.int .i64 x)) P ⟨D.s, D.above, D.drop, D.next, x⟩ :=
  ⟨h.setF 10 (by omega) _, (set_at (by omega)).trans h.c5, (set_at (by omega)).trans h.c6, (set_at (by omega)).trans h.c7, (set_at (by omega)).trans h.c8, (set_at (by omega)).trans h.c9, set_is (by have := h.size; omega)⟩
theorem Dmm.of_fifo {s' : List Hd} (h : Dmm w base g v cs P D) (h' : FfoTo w w' base g 0 123 cs v s' P.p) : ∃ v' cs', Dmm w' base g v' cs' P ⟨s', D.above, D.drop, D.next, D.count⟩ ∧ Trn w w' g v v' := by
  obtain ⟨v', cs', f', c', a', e'⟩ := h'
  exact ⟨v', cs', ⟨f', (e' 5 (by omega) (by omega)).trans h.c5, (e' 6 (by omega) (by omega)).trans h.c6, (e' 7 (by omega) (by omega)).trans h.c7, (e' 8 (by omega) (by omega)).trans h.c8, (e' 9 (by omega) (by omega)).trans h.c9, (e' 10 (by omega) (by omega)).trans h.c10⟩, c', a'⟩
theorem Dmm.of_next {x : Hd} {r : List Hd} {b : Int} (h : Dmm w base g v cs P D) (hs : D.s = x :: r) (h' : LstTo w w' base g 0 123 cs v v' r b) (e : b = Pl.tot r) : ∃ cs', Dmm w' base g v' cs' P ⟨r, D.above, D.drop, D.next, D.count⟩ ∧ Trn w w' g v v' := by
  subst e
  have hk : ∀ j, j ≠ 0 → j ≠ 0 + 1 → ((cs.setIfInBounds 0 v').setIfInBounds (0 + 1) (.int .i64 (Pl.tot r)))[j]? = cs[j]? := fun j h0 h1 => by rw [set_at h1, set_at h0]
  exact ⟨_, ⟨⟨h'.lst, (hk _ (by omega) (by omega)).trans h.f.c2, (hk _ (by omega) (by omega)).trans h.f.c3, (hk _ (by omega) (by omega)).trans h.f.c4⟩, (hk 5 (by omega) (by omega)).trans h.c5, (hk 6 (by omega) (by omega)).trans h.c6, (hk 7 (by omega) (by omega)).trans h.c7, (hk 8 (by omega) (by omega)).trans h.c8, (hk 9 (by omega) (by omega)).trans h.c9, (hk 10 (by omega) (by omega)).trans h.c10⟩, h'.chg, h'.at_⟩
end

theorem blk6 {w : World} {g : Nat} {t : TypeId} {a0 a1 a2 a3 a4 a5 : Value} (h : Blk w g t #[a0, a1, a2, a3, a4, a5]) :
    w.cell? ⟨g, 0, none⟩ = some a0 ∧ w.cell? ⟨g, 1, none⟩ = some a1 ∧ w.cell? ⟨g, 2, none⟩ = some a2 ∧ w.cell? ⟨g, 3, none⟩ = some a3 ∧ w.cell? ⟨g, 4, none⟩ = some a4 ∧ w.cell? ⟨g, 5, none⟩ = some a5 ∧
    w.frozen? ⟨g, 0, none⟩ = false ∧ w.frozen? ⟨g, 1, none⟩ = false ∧ w.frozen? ⟨g, 2, none⟩ = false ∧ w.frozen? ⟨g, 3, none⟩ = false ∧ w.frozen? ⟨g, 4, none⟩ = false ∧ w.frozen? ⟨g, 5, none⟩ = false :=
  ⟨h.cell 0, h.cell 1, h.cell 2, h.cell 3, h.cell 4, h.cell 5, h.frozen 0, h.frozen 1, h.frozen 2, h.frozen 3, h.frozen 4, h.frozen 5⟩
section
variable {w w' w'' : World} {base g k : Nat} {v v' v'' : Value} {cs : Array Value} {P : Pl.DP} {D D' : Pl.DS}
theorem Dmm.six (h : Dmm w base g v cs P D) (hp : k ≠ g) (hv : v.ownBlock ≠ some k) (u0 u1 u2 u3 u4 u5 : Value) :
    Dmm ((((((w.setCell ⟨k, 0, none⟩ u0).setCell ⟨k, 1, none⟩ u1).setCell ⟨k, 2, none⟩ u2).setCell ⟨k, 3, none⟩ u3).setCell ⟨k, 4, none⟩ u4).setCell ⟨k, 5, none⟩ u5) base g v cs P D :=
  (((((h.setNew (p := ⟨k, 0, none⟩) hp hv u0).setNew (p := ⟨k, 1, none⟩) hp hv u1).setNew (p := ⟨k, 2, none⟩) hp hv u2).setNew (p := ⟨k, 3, none⟩) hp hv u3).setNew (p := ⟨k, 4, none⟩) hp hv u4).setNew (p := ⟨k, 5, none⟩) hp hv u5
theorem Trn.six (h : Trn w w' g v v') (hk : w.heap.size ≤ k) (u0 u1 u2 u3 u4 u5 : Value) :
    Trn w ((((((w'.setCell ⟨k, 0, none⟩ u0).setCell ⟨k, 1, none⟩ u1).setCell ⟨k, 2, none⟩ u2).setCell ⟨k, 3, none⟩ u3).setCell ⟨k, 4, none⟩ u4).setCell ⟨k, 5, none⟩ u5) g v v' :=
  (((((h.setNew (p := ⟨k, 0, none⟩) hk u0).setNew (p := ⟨k, 1, none⟩) hk u1).setNew (p := ⟨k, 2, none⟩) hk u2).setNew (p := ⟨k, 3, none⟩) hk u3).setNew (p := ⟨k, 4, none⟩) hk u4).setNew (p := ⟨k, 5, none⟩) hk u5
end
def PullOut (w : World) (base g : Nat) (v : Value) (P : Pl.DP) (r : Option Hd × Bool × Pl.DS) (e : Ending) (w' : World) : Prop :=
  e = .returned (.tuple #[optV r.1, .bool r.1.isSome, .bool r.2.1]) ∧ ∃ v' cs', Dmm w' base g v' cs' P r.2.2 ∧ Trn w w' g v v'

set_option maxHeartbeats 1000000 in
set_option maxRecDepth 100000 in
theorem pull_none (base g : Nat) (v : Value) (cs : Array Value) (P : Pl.DP) (D : Pl.DS) (now : Int) (w : World) (h : Dmm w base g v cs P D) (hs : D.s = []) :
    Calls Tryz.prog 120 #[.pointer (some ⟨g, 0, none⟩), .int .i64 now] w (PullOut w base g v P (none, false, ⟨[], -1, D.drop, D.next, D.count⟩)) := by
  have hgl := h.blk.lt
  have hb0 : Below w.heap.size w (w.alloc (.cells #[.int .i64 0, .int .i64 0, .int .i64 0, .int .i64 0, .int .i64 0, .int .i64 0] 78)) := (Below.refl _ _).alloc (Nat.le_refl _) _
  have hls := h.f.lst
  rw [hs] at hls
  have hnx := next_none base g 0 123 cs v (Pl.tot []) _ (hls.below hb0)
  have hk := Blk.new w 78 #[.int .i64 0, .int .i64 0, .int .i64 0, .int .i64 0, .int .i64 0, .int .i64 0]
  unfold PairOut hdV Hd.zero It.zero at hnx
  dsimp only at hnx
  have H := Lib.hid h; have HNX := Lib.hid hnx; have HB0 := Lib.hid hb0; have HK := Lib.hid hk; have HS := Lib.hid hs
  clear h hnx hb0 hk hls hs
  go_enter Tryz.func120, Tryz.ntmps120
  go_wp2_with fail
  (with_reducible refine HNX.out.mono ?_)
  rintro e w1 ⟨rfl, hb1⟩
  have hd1 := (H.out.below HB0.out).below hb1
  have hk1 := HK.out.below hb1 HK.out.lt
  have hsz := hb1.size
  simp at hsz
  have HD1 := Lib.hid hd1; have HK1 := Lib.hid hk1; have HB1 := Lib.hid (bl_next HB0.out hb1)
  clear hd1 hk1 hb1
  go_upto_if 18 with fail
  have hd2 := HD1.out.below ((Below.refl _ _).alloc (Nat.le_refl _) (.cells #[.int .i64 0, .int .i64 0, .int .i64 0, .int .i64 0, .int .i64 0, .int .i64 0] 78))
  have hk2 := HK1.out.alloc (.cells #[.int .i64 0, .int .i64 0, .int .i64 0, .int .i64 0, .int .i64 0, .int .i64 0] 78)
  have hn2 := Blk.new w1 78 #[.int .i64 0, .int .i64 0, .int .i64 0, .int .i64 0, .int .i64 0, .int .i64 0]
  have hb2 := HB1.out.alloc HB1.out.size (.cells #[.int .i64 0, .int .i64 0, .int .i64 0, .int .i64 0, .int .i64 0, .int .i64 0] 78)
  generalize w1.alloc (.cells #[.int .i64 0, .int .i64 0, .int .i64 0, .int .i64 0, .int .i64 0, .int .i64 0] 78) = w2 at *
  have hgl1 := HD1.out.blk.lt
  generalize w1.heap.size = gn at *
  obtain ⟨z0, z1, z2, z3, z4, z5, f0, f1, f2, f3, f4, f5⟩ := blk6 hk2
  obtain ⟨t0, t1, t2, t3, t4, t5, s0, s1, s2, s3, s4, s5⟩ := blk6 hn2
  have y7 := hd2.cell hd2.c7; have x7 := hd2.blk.frozen 7
  have HD2 := Lib.hid hd2; have HK2 := Lib.hid hk2; have HN2 := Lib.hid hn2; have HB2 := Lib.hid hb2
  clear hd2 hk2 hn2 hb2
  have n1 : g ≠ gn := by omega
  have n2 : gn ≠ g := Ne.symm n1
  have n3 : w.heap.size ≠ gn := by omega
  have n4 : gn ≠ w.heap.size := by omega
  have n5 : g ≠ w.heap.size := by omega
  have n6 : w.heap.size ≠ g := by omega
  go_wp2_with fail
  refine bodyPost_as fun Wf hWf => ?_
  have hkf : Blk Wf w.heap.size 78 #[.int .i64 0, .int .i64 0, .int .i64 0, .int .i64 0, .int .i64 0, .int .i64 0] := by rw [hWf]; exact blk_six (HK2.out.far (p := ⟨g, 7, none⟩) n6 _) _ _ _ _ _ _
  have hvk : v.ownBlock ≠ some w.heap.size := fun e => by have := (H.out.vlt _ e).2; omega
  have hdf : Dmm Wf base g v (cs.setIfInBounds 7 (.int .i64 (-1))) P ⟨D.s, -1, D.drop, D.next, D.count⟩ := by rw [hWf]; exact (HD2.out.setAbove (-1)).six n6 hvk _ _ _ _ _ _
  have htf : Trn w Wf g v v := by rw [hWf]; exact (((Trn.refl w g v).below HB2.out).set_ 7 _).six (Nat.le_refl _) _ _ _ _ _ _
  rw [HS.out] at hdf
  clear hWf
  obtain ⟨r0, r1, r2, r3, r4, r5, _, _, _, _, _, _⟩ := blk6 hkf
  exact bodyPost_ret (v := .tuple #[hdV Hd.zero, .bool false, .bool false]) (by simp [results, Tryz.results120, go_sem, hdV, Hd.zero, It.zero, r0, r1, r2, r3, r4, r5]) rfl ⟨rfl, v, _, hdf, htf⟩

set_option maxHeartbeats 4000000 in
set_option maxRecDepth 100000 in
theorem pull_some (base g : Nat) (v : Value) (cs : Array Value) (P : Pl.DP) (D : Pl.DS) (x : Hd) (r : List Hd) (now : Int) (w : World) (h : Dmm w base g v cs P D) (hs : D.s = x :: r) (hl : HdsOk D.s) (hP : Pl.DPOk P) (hn : 0 ≤ now ∧ now ≤ 1000000000) (hx : 0 ≤ x.it.at_ ∧ x.it.at_ ≤ 1000000000) (hab : -1 ≤ D.above ∧ D.above ≤ 1001000000) :
    Calls Tryz.prog 120 #[.pointer (some ⟨g, 0, none⟩), .int .i64 now] w (PullOut w base g v P (Pl.pullD P now D)) := by
  have hgl := h.blk.lt
  have hpd : Pl.pullD P now D = if now - x.it.at_ < P.target ∨ r.length = 0 then (some x, false, ⟨r, -1, D.drop, D.next, D.count⟩) else if D.above < 0 then (some x, false, ⟨r, now + P.span, D.drop, D.next, D.count⟩) else (some x, decide (D.above ≤ now), ⟨r, D.above, D.drop, D.next, D.count⟩) := by
    unfold Pl.pullD
    rw [hs]
  have HPD := Lib.hid hpd
  have hb0 : Below w.heap.size w (w.alloc (.cells #[.int .i64 0, .int .i64 0, .int .i64 0, .int .i64 0, .int .i64 0, .int .i64 0] 78)) := (Below.refl _ _).alloc (Nat.le_refl _) _
  have hls := h.f.lst
  rw [hs] at hls hl
  have hxl := hl.b x (by simp)
  have htl := hl.tot
  have hln := hl.n
  rw [List.length_cons] at hln
  have hnx := next_some base g 0 123 cs v x r (Pl.tot (x :: r)) _ (hls.below hb0) (by omega) htl.1 (by omega) hxl.1 (by omega)
  have hk := Blk.new w 78 #[.int .i64 0, .int .i64 0, .int .i64 0, .int .i64 0, .int .i64 0, .int .i64 0]
  have hof : ∀ w2 v2, LstTo (w.alloc (.cells #[.int .i64 0, .int .i64 0, .int .i64 0, .int .i64 0, .int .i64 0, .int .i64 0] 78)) w2 base g 0 123 cs v v2 r (Pl.tot (x :: r) - x.it.len) → ∃ cs', Dmm w2 base g v2 cs' P ⟨r, D.above, D.drop, D.next, D.count⟩ ∧ Trn w w2 g v v2 := fun w2 v2 h2 => by
    obtain ⟨cs', g1, g2⟩ := (h.below hb0).of_next hs h2 (by rw [Pl.tot_cons]; omega)
    exact ⟨cs', g1, Trn.behind hb0 g2⟩
  have hv := fun i hi => (h.vlt i hi).2
  have htg := hP.tg; have hsp := hP.sp
  obtain ⟨⟨xa, xl, xf, xb, xm⟩, xn⟩ := x
  unfold NextOut hdV at hnx
  dsimp only at hnx hx hof
  have HNX := Lib.hid hnx; have HK := Lib.hid hk; have HOF := Lib.hid hof; have HV := Lib.hid hv; have HB0 := Lib.hid hb0
  generalize Pl.pullD P now D = R at *
  obtain ⟨Ds, Da, Dd, Dn, Dc⟩ := D
  dsimp only at hab HOF HPD
  clear h hnx hb0 hk hof hv hpd hls hl hs hxl htl hP
  obtain ⟨hn0, hn1⟩ := hn; obtain ⟨hx0, hx1⟩ := hx; obtain ⟨hab0, hab1⟩ := hab; obtain ⟨htg0, htg1⟩ := htg; obtain ⟨hsp0, hsp1⟩ := hsp
  go_enter Tryz.func120, Tryz.ntmps120
  go_wp2_with fail
  (with_reducible refine HNX.out.mono ?_)
  rintro e w1 ⟨rfl, v', hl1⟩
  obtain ⟨cs', hd1, ht1⟩ := HOF.out _ _ hl1
  have hk1 := HK.out.chg hl1.chg (by
    rintro (e | e)
    · omega
    · have := HV.out _ e; omega)
  have hsz := ht1.chg.size
  have hsz2 := hl1.chg.size
  simp at hsz2
  have hvn : v'.ownBlock ≠ some w.heap.size := fun e => by
    rcases hl1.at_ with e2 | e2
    · have := HV.out _ (e2 ▸ e); omega
    · have := e2 _ e; simp at this; omega
  have HD1 := Lib.hid hd1; have HK1 := Lib.hid hk1; have HT1 := Lib.hid ht1; have HVN := Lib.hid hvn
  clear hd1 hk1 ht1 hl1 hvn
  go_upto_if 18 with fail
  have hd2 := HD1.out.below ((Below.refl _ _).alloc (Nat.le_refl _) (.cells #[.int .i64 xa, .int .i64 xl, .int .i64 xf, .int .i64 xb, .int .i64 xm, .int .i64 xn] 78))
  have hk2 := HK1.out.alloc (.cells #[.int .i64 xa, .int .i64 xl, .int .i64 xf, .int .i64 xb, .int .i64 xm, .int .i64 xn] 78)
  have hn2 := Blk.new w1 78 #[.int .i64 xa, .int .i64 xl, .int .i64 xf, .int .i64 xb, .int .i64 xm, .int .i64 xn]
  have ht2 := HT1.out.alloc (.cells #[.int .i64 xa, .int .i64 xl, .int .i64 xf, .int .i64 xb, .int .i64 xm, .int .i64 xn] 78)
  generalize w1.alloc (.cells #[.int .i64 xa, .int .i64 xl, .int .i64 xf, .int .i64 xb, .int .i64 xm, .int .i64 xn] 78) = w2 at *
  have hgl1 := HD1.out.blk.lt
  have hvg : v'.ownBlock ≠ some w1.heap.size := fun e => by have := (HD1.out.vlt _ e).2; omega
  generalize w1.heap.size = gn at *
  obtain ⟨z0, z1, z2, z3, z4, z5, f0, f1, f2, f3, f4, f5⟩ := blk6 hk2
  obtain ⟨t0, t1, t2, t3, t4, t5, s0, s1, s2, s3, s4, s5⟩ := blk6 hn2
  have y5 := hd2.cell hd2.c5; have y6 := hd2.cell hd2.c6; have y7 := hd2.cell hd2.c7; have x7 := hd2.blk.frozen 7
  obtain ⟨Al, cl, hvl, _, _, _⟩ := hd2.f.lst.own.reads
  have y0 : w2.cell? ⟨g, 0, none⟩ = some (.slice Al r.length cl) := by rw [← hvl]; exact hd2.cell hd2.f.lst.c0
  have HD2 := Lib.hid hd2; have HK2 := Lib.hid hk2; have HN2 := Lib.hid hn2; have HT2 := Lib.hid ht2; have HVG := Lib.hid hvg
  clear hd2 hk2 hn2 ht2 hvl hvg
  have n1 : g ≠ gn := by omega
  have n2 : gn ≠ g := Ne.symm n1
  have n3 : w.heap.size ≠ gn := by omega
  have n4 : gn ≠ w.heap.size := by omega
  have n5 : g ≠ w.heap.size := by omega
  have n6 : w.heap.size ≠ g := by omega
  have e1 : IntKind.i64.wrap (now - xa) = now - xa := IntWalk.i64_in _ (by omega)
  by_cases c1 : now - xa < P.target
  · have d1 : decide (now - xa < P.target) = true := by simpa using c1
    go_wp2_with fail
    go_quiet (fail)
    go_wp2_with fail
    refine bodyPost_as fun Wf hWf => ?_
    have hkf : Blk Wf w.heap.size 78 #[.int .i64 xa, .int .i64 xl, .int .i64 xf, .int .i64 xb, .int .i64 xm, .int .i64 xn] := by rw [hWf]; exact blk_six ((HK2.out.drewN _).far (p := ⟨g, 7, none⟩) n6 _) _ _ _ _ _ _
    have hdf : ∃ cs2, Dmm Wf base g v' cs2 P ⟨r, -1, Dd, Dn, Dc⟩ := by rw [hWf]; exact ⟨_, ((HD2.out.drewN _).setAbove (-1)).six n6 HVN.out _ _ _ _ _ _⟩
    have htf : Trn w Wf g v v' := by rw [hWf]; exact ((HT2.out.drewN _).set_ 7 _).six (Nat.le_refl _) _ _ _ _ _ _
    obtain ⟨cs2, hdf⟩ := hdf
    clear hWf
    obtain ⟨r0, r1, r2, r3, r4, r5, _, _, _, _, _, _⟩ := blk6 hkf
    have hR := HPD.out
    rw [if_pos (.inl c1)] at hR
    rw [hR]
    exact bodyPost_ret (v := .tuple #[hdV ⟨⟨xa, xl, xf, xb, xm⟩, xn⟩, .bool true, .bool false]) (by simp [results, Tryz.results120, go_sem, hdV, r0, r1, r2, r3, r4, r5]) rfl ⟨rfl, v', cs2, hdf, htf⟩
  · have d1 : decide (now - xa < P.target) = false := by simpa using c1
    by_cases c2 : r.length = 0
    · have d2 : ((r.length : Int) == 0) = true := by simpa using c2
      have HC2 := Lib.hid c2
      clear c2
      go_wp2_with fail
      go_quiet ((go_at_call 108; exact Calls.quiet_of_same ((len_any g 0 r.length cl Al _ (by exact y0)).mono fun e w' ⟨h1, h2⟩ => ⟨h1, h2.symm⟩)))
      go_wp2_with fail
      refine bodyPost_as fun Wf hWf => ?_
      have hkf : Blk Wf w.heap.size 78 #[.int .i64 xa, .int .i64 xl, .int .i64 xf, .int .i64 xb, .int .i64 xm, .int .i64 xn] := by rw [hWf]; exact blk_six ((HK2.out.drewN _).far (p := ⟨g, 7, none⟩) n6 _) _ _ _ _ _ _
      have hdf : ∃ cs2, Dmm Wf base g v' cs2 P ⟨r, -1, Dd, Dn, Dc⟩ := by rw [hWf]; exact ⟨_, ((HD2.out.drewN _).setAbove (-1)).six n6 HVN.out _ _ _ _ _ _⟩
      have htf : Trn w Wf g v v' := by rw [hWf]; exact ((HT2.out.drewN _).set_ 7 _).six (Nat.le_refl _) _ _ _ _ _ _
      obtain ⟨cs2, hdf⟩ := hdf
      clear hWf
      obtain ⟨r0, r1, r2, r3, r4, r5, _, _, _, _, _, _⟩ := blk6 hkf
      have hR := HPD.out
      rw [if_pos (.inr HC2.out)] at hR
      rw [hR]
      exact bodyPost_ret (v := .tuple #[hdV ⟨⟨xa, xl, xf, xb, xm⟩, xn⟩, .bool true, .bool false]) (by simp [results, Tryz.results120, go_sem, hdV, r0, r1, r2, r3, r4, r5]) rfl ⟨rfl, v', cs2, hdf, htf⟩
    · have d2 : ((r.length : Int) == 0) = false := by simpa using c2
      have HC2 := Lib.hid c2
      clear c2
      go_wp2_with fail
      go_quiet ((go_at_call 108; exact Calls.quiet_of_same ((len_any g 0 r.length cl Al _ (by exact y0)).mono fun e w' ⟨h1, h2⟩ => ⟨h1, h2.symm⟩)))
      by_cases c3 : Da < 0
      · go_wp2_with fail
        refine bodyPost_as fun Wf hWf => ?_
        have hkf : Blk Wf w.heap.size 78 #[.int .i64 xa, .int .i64 xl, .int .i64 xf, .int .i64 xb, .int .i64 xm, .int .i64 xn] := by rw [hWf]; exact blk_six ((HK2.out.drewN _).far (p := ⟨g, 7, none⟩) n6 _) _ _ _ _ _ _
        have hdf : ∃ cs2, Dmm Wf base g v' cs2 P ⟨r, now + P.span, Dd, Dn, Dc⟩ := by rw [hWf]; exact ⟨_, ((HD2.out.drewN _).setAbove (now + P.span)).six n6 HVN.out _ _ _ _ _ _⟩
        have htf : Trn w Wf g v v' := by rw [hWf]; exact ((HT2.out.drewN _).set_ 7 _).six (Nat.le_refl _) _ _ _ _ _ _
        obtain ⟨cs2, hdf⟩ := hdf
        clear hWf
        obtain ⟨r0, r1, r2, r3, r4, r5, _, _, _, _, _, _⟩ := blk6 hkf
        have hR := HPD.out
        rw [if_neg (by have := HC2.out; omega), if_pos c3] at hR
        rw [hR]
        exact bodyPost_ret (v := .tuple #[hdV ⟨⟨xa, xl, xf, xb, xm⟩, xn⟩, .bool true, .bool false]) (by simp [results, Tryz.results120, go_sem, hdV, r0, r1, r2, r3, r4, r5]) rfl ⟨rfl, v', cs2, hdf, htf⟩
      · go_wp2_with fail
        go_region
        all_goals
          go_wp2_with fail
          refine bodyPost_as fun Wf hWf => ?_
          have hkf : Blk Wf w.heap.size 78 #[.int .i64 xa, .int .i64 xl, .int .i64 xf, .int .i64 xb, .int .i64 xm, .int .i64 xn] := by rw [hWf]; exact blk_six (HK2.out.drewN _) _ _ _ _ _ _
          have hdf : ∃ cs2, Dmm Wf base g v' cs2 P ⟨r, Da, Dd, Dn, Dc⟩ := by rw [hWf]; exact ⟨_, (HD2.out.drewN _).six n6 HVN.out _ _ _ _ _ _⟩
          have htf : Trn w Wf g v v' := by rw [hWf]; exact (HT2.out.drewN _).six (Nat.le_refl _) _ _ _ _ _ _
          obtain ⟨cs2, hdf⟩ := hdf
          clear hWf
          obtain ⟨r0, r1, r2, r3, r4, r5, _, _, _, _, _, _⟩ := blk6 hkf
          have hR := HPD.out
          rw [if_neg (by have := HC2.out; omega), if_neg (show ¬ Da < 0 by omega)] at hR
          rw [hR]
          exact bodyPost_ret (v := .tuple #[hdV ⟨⟨xa, xl, xf, xb, xm⟩, xn⟩, .bool true, .bool (decide (Da ≤ now))]) (by simp [results, Tryz.results120, go_sem, hdV, r0, r1, r2, r3, r4, r5]) rfl ⟨rfl, v', cs2, hdf, htf⟩
theorem pull_any (base g : Nat) (v : Value) (cs : Array Value) (P : Pl.DP) (D : Pl.DS) (now : Int) (w : World) (h : Dmm w base g v cs P D) (hl : HdsOk D.s) (hP : Pl.DPOk P) (hn : 0 ≤ now ∧ now ≤ 1000000000) (hx : ∀ x ∈ D.s, 0 ≤ x.it.at_ ∧ x.it.at_ ≤ 1000000000) (hab : -1 ≤ D.above ∧ D.above ≤ 1001000000) :
    Calls Tryz.prog 120 #[.pointer (some ⟨g, 0, none⟩), .int .i64 now] w (PullOut w base g v P (Pl.pullD P now D)) := by
  cases hs : D.s with
  | nil =>
    have e : Pl.pullD P now D = (none, false, ⟨[], -1, D.drop, D.next, D.count⟩) := by unfold Pl.pullD; rw [hs]
    rw [e]
    exact pull_none base g v cs P D now w h hs
  | cons x r => exact pull_some base g v cs P D x r now w h hs hl hP hn (hx x (by rw [hs]; exact List.mem_cons_self)) hab
end Go.Proofs.YtgdijbaodfghjaaGreatDoor

/-
  Random early detection in memory, exactly: its mean, and a number of its tape.
-/
namespace Go.Proofs.YtgdijbaodfghjaaGreatDoor
open Go.RowKit Bkt
set_option linter.unusedVariables false

structure Rmm (w : World) (base g : Nat) (v : Value) (cs : Array Value) (U : Pl.SU) (p : Pl.FP) (s : List Hd) (M si : Int) (tv : Value) (zs : List Int) : Prop where
  f : Ffo w base g 0 121 cs v s p
  c5 : cs[5]? = some (.int .i64 U.low)
  c6 : cs[6]? = some (.int .i64 U.high)
  c7 : cs[7]? = some (.int .i64 U.often)
  c8 : cs[8]? = some (.int .i64 U.slow)
  c9 : cs[9]? = some (.bool U.mark)
  c10 : cs[10]? = some tv
  c11 : cs[11]? = some (.int .i64 M)
  c12 : cs[12]? = some (.int .i64 si)
  tp : OwnW w base 3 1 tv zs.length (zs.map (Value.int .i64))
  tn : ∀ i, tv.ownBlock = some i → v.ownBlock ≠ some i
  tg : tv.ownBlock ≠ some g
section
variable {w w' w'' : World} {base g : Nat} {v v' v'' tv : Value} {cs : Array Value} {U : Pl.SU} {p : Pl.FP} {s s' : List Hd} {M si : Int} {zs : List Int}
theorem Rmm.blk (h : Rmm w base g v cs U p s M si tv zs) : Blk w g 121 cs := h.f.lst.blk
theorem Rmm.cell {i : Nat} {u : Value} (h : Rmm w base g v cs U p s M si tv zs) (hi : cs[i]? = some u) : w.cell? ⟨g, i, none⟩ = some u := (h.blk.cell i).trans hi
theorem Rmm.vlt (h : Rmm w base g v cs U p s M si tv zs) : ∀ i, v.ownBlock = some i → base ≤ i ∧ i < w.heap.size := h.f.lst.own.lt
theorem Rmm.chg {S : Nat → Prop} (h : Rmm w base g v cs U p s M si tv zs) (hc : Chg w w' S) (h1 : ¬ S g) (h2 : ∀ i, v.ownBlock = some i → ¬ S i) (h3 : ∀ i, tv.ownBlock = some i → ¬ S i) : Rmm w' base g v cs U p s M si tv zs :=
  ⟨h.f.chg hc h1 h2, h.c5, h.c6, h.c7, h.c8, h.c9, h.c10, h.c11, h.c12, h.tp.chg hc h3, h.tn, h.tg⟩
theorem Rmm.below (h : Rmm w base g v cs U p s M si tv zs) (hb : Below w.heap.size w w') : Rmm w' base g v cs U p s M si tv zs :=
  h.chg (Chg.of_below hb) (fun h => h) (fun _ _ h => h) (fun _ _ h => h)
theorem Rmm.drewN (h : Rmm w base g v cs U p s M si tv zs) (n : Nat) : Rmm (w.drewN n) base g v cs U p s M si tv zs := h.below ⟨rfl, rfl, rfl, Nat.le_refl _, fun _ _ => rfl⟩
theorem Rmm.setNew (h : Rmm w base g v cs U p s M si tv zs) {q : Addr} (hp : q.block ≠ g) (hv : v.ownBlock ≠ some q.block) (ht : tv.ownBlock ≠ some q.block) (u : Value) : Rmm (w.setCell q u) base g v cs U p s M si tv zs :=
  h.chg (Chg.setCell (S := fun i => i = q.block) (p := q) (Chg.refl w _) (fun _ => rfl) u) (fun e => hp e.symm) (fun i hi e => hv (by rw [hi, e])) (fun i hi e => ht (by rw [hi, e]))
theorem Rmm.vne (h : Rmm w base g v cs U p s M si tv zs) : v.ownBlock ≠ some g := h.f.lst.own.blk_ne h.blk (Ne.symm h.f.lst.ne)
theorem Rmm.size (h : Rmm w base g v cs U p s M si tv zs) : 12 < cs.size := by
  rcases Nat.lt_or_ge 12 cs.size with h' | h'
  · exact h'
  · have hsi := h.c12; rw [Array.getElem?_eq_none h'] at hsi; cases hsi
theorem Rmm.setF (h : Rmm w base g v cs U p s M si tv zs) (i : Nat) (hi : 5 ≤ i) (u : Value) : Ffo (w.setCell ⟨g, i, none⟩ u) base g 0 121 (cs.setIfInBounds i u) v s p := by
  have hk : ∀ j, j ≠ i → (cs.setIfInBounds i u)[j]? = cs[j]? := fun j hj => by rw [Array.getElem?_setIfInBounds, if_neg (Ne.symm hj)]
  refine ⟨⟨h.blk.set_ i u, (hk 0 (by omega)).trans h.f.lst.c0, (hk (0 + 1) (by omega)).trans h.f.lst.c1, ?_, h.f.lst.ne⟩, (hk (0 + 2) (by omega)).trans h.f.c2, (hk (0 + 3) (by omega)).trans h.f.c3, (hk (0 + 4) (by omega)).trans h.f.c4⟩
  exact h.f.lst.own.chg (S := fun i => i = g) (Chg.setCell (S := fun i => i = g) (p := ⟨g, i, none⟩) (Chg.refl w _) (fun _ => rfl) u) (fun j hj e => h.vne (by rw [hj, e]))
theorem Rmm.setT (h : Rmm w base g v cs U p s M si tv zs) (i : Nat) (u : Value) : OwnW (w.setCell ⟨g, i, none⟩ u) base 3 1 tv zs.length (zs.map (Value.int .i64)) :=
  h.tp.chg (S := fun i => i = g) (Chg.setCell (S := fun i => i = g) (p := ⟨g, i, none⟩) (Chg.refl w _) (fun _ => rfl) u) (fun j hj e => h.tg (by rw [hj, e]))
theorem Rmm.setMean (h : Rmm w base g v cs U p s M si tv zs) (x : Int) : Rmm (w.setCell ⟨g, 11, none⟩ (.int .i64 x)) base g v (cs.setIfInBounds 11 (.int .i64 x)) U p s x si tv zs :=
  ⟨h.setF 11 (by omega) _, (set_at (by omega)).trans h.c5, (set_at (by omega)).trans h.c6, (set_at (by omega)).trans h.c7, (set_at (by omega)).trans h.c8, (set_at (by omega)).trans h.c9, (set_at (by omega)).trans h.c10, set_is (by have := h.size; omega), (set_at (by omega)).trans h.c12, h.setT 11 _, h.tn, h.tg⟩
theorem Rmm.setSince (h : Rmm w base g v cs U p s M si tv zs) (x : Int) : Rmm (w.setCell ⟨g, 12, none⟩ (.int .i64 x)) base g v (cs.setIfInBounds 12 (.int .i64 x)) U p s M x tv zs :=
  ⟨h.setF 12 (by omega) _, (set_at (by omega)).trans h.c5, (set_at (by omega)).trans h.c6, (set_at (by omega)).trans h.c7, (set_at (by omega)).trans h.c8, (set_at (by omega)).trans h.c9, (set_at (by omega)).trans h.c10, (set_at (by omega)).trans h.c11, set_is (by have := h.size; omega), h.setT 12 _, h.tn, h.tg⟩
theorem Rmm.setTape (h : Rmm w base g v cs U p s M si tv zs) (tv' : Value) (zs' : List Int) (ht : OwnW w base 3 1 tv' zs'.length (zs'.map (Value.int .i64))) (hb : ∀ i, tv'.ownBlock = some i → tv.ownBlock = some i) : Rmm (w.setCell ⟨g, 10, none⟩ tv') base g v (cs.setIfInBounds 10 tv') U p s M si tv' zs' :=
  ⟨h.setF 10 (by omega) _, (set_at (by omega)).trans h.c5, (set_at (by omega)).trans h.c6, (set_at (by omega)).trans h.c7, (set_at (by omega)).trans h.c8, (set_at (by omega)).trans h.c9, set_is (by have := h.size; omega), (set_at (by omega)).trans h.c11, (set_at (by omega)).trans h.c12,
    ht.chg (S := fun i => i = g) (Chg.setCell (S := fun i => i = g) (p := ⟨g, 10, none⟩) (Chg.refl w _) (fun _ => rfl) tv') (fun j hj e => h.tg (by rw [hb j hj, e])), fun i hi => h.tn i (hb i hi), fun e => h.tg (hb g e)⟩
theorem Rmm.of_fifo (h : Rmm w base g v cs U p s M si tv zs) (h' : FfoTo w w' base g 0 121 cs v s' p) : ∃ v' cs', Rmm w' base g v' cs' U p s' M si tv zs ∧ Trn w w' g v v' := by
  obtain ⟨v', cs', f', c', a', e'⟩ := h'
  refine ⟨v', cs', ⟨f', (e' 5 (by omega) (by omega)).trans h.c5, (e' 6 (by omega) (by omega)).trans h.c6, (e' 7 (by omega) (by omega)).trans h.c7, (e' 8 (by omega) (by omega)).trans h.c8, (e' 9 (by omega) (by omega)).trans h.c9, (e' 10 (by omega) (by omega)).trans h.c10, (e' 11 (by omega) (by omega)).trans h.c11, (e' 12 (by omega) (by omega)).trans h.c12, ?_, ?_, h.tg⟩, c', a'⟩
  · refine h.tp.chg c' (fun i hi hs => ?_)
    rcases hs with e | e
    · exact h.tg (by rw [hi, e])
    · exact h.tn i hi e
  · intro i hi e
    rcases a' with e2 | e2
    · exact h.tn i hi (e2 ▸ e)
    · have := e2 i e; have := (h.tp.lt i hi).2; omega
end

set_option maxHeartbeats 1000000 in
theorem rmean_any (base g : Nat) (v : Value) (cs : Array Value) (U : Pl.SU) (p : Pl.FP) (s : List Hd) (M si : Int) (tv : Value) (zs : List Int) (w : World) (h : Rmm w base g v cs U p s M si tv zs) (hs : 0 ≤ U.slow ∧ U.slow ≤ 10) :
    Calls Tryz.prog 117 #[.pointer (some ⟨g, 0, none⟩)] w fun e w' => e = .returned (.int .i64 (Pl.mnOf U M)) ∧ ∃ m, w' = w.drewN m := by
  have z8 := h.cell h.c8; have z11 := h.cell h.c11
  have hR : Hid (Pl.mnOf U M = M / 2 ^ U.slow.toNat) := Lib.hid rfl
  obtain ⟨hs0, hs1⟩ := hs
  clear h
  generalize U.slow = sl at *
  go_enter Tryz.func117, Tryz.ntmps117
  go_wp2_with fail
  go_quiet (fail)
  go_wp2_with fail
  go_ret
  exact ⟨by rw [hR.out]; rfl, _, rfl⟩

def DrawOut (w : World) (base g : Nat) (v : Value) (U : Pl.SU) (p : Pl.FP) (s : List Hd) (M si : Int) (tv : Value) (zs : List Int) (e : Ending) (w' : World) : Prop :=
  ∃ (cs' : Array Value) (tv' : Value), e = .returned (.int .i64 (Pl.drawZ zs).1) ∧ Rmm w' base g v cs' U p s M si tv' (Pl.drawZ zs).2 ∧ Trn w w' g v v ∧ (Pl.drawZ zs).2.length ≤ 1000 ∧ ∀ i, tv'.ownBlock = some i → tv.ownBlock = some i

set_option maxHeartbeats 1000000 in
set_option maxRecDepth 100000 in
theorem rdraw_any (base g : Nat) (v : Value) (cs : Array Value) (U : Pl.SU) (p : Pl.FP) (s : List Hd) (M si : Int) (tv : Value) (zs : List Int) (w : World) (h : Rmm w base g v cs U p s M si tv zs) (hz : zs.length ≤ 1000) :
    Calls Tryz.prog 118 #[.pointer (some ⟨g, 0, none⟩)] w (DrawOut w base g v U p s M si tv zs) := by
  obtain ⟨A, c, htv, hnc, _, hrd⟩ := h.tp.reads
  subst htv
  have z10 := h.cell h.c10; have x10 := h.blk.frozen 10
  cases zs with
  | nil =>
    have H := Lib.hid h
    clear h hrd
    go_enter Tryz.func118, Tryz.ntmps118
    go_wp2_with fail
    go_ret
    exact ⟨cs, _, rfl, H.out, Trn.refl _ _ _, Nat.zero_le _, fun i h => h⟩
  | cons z r =>
    have hrl : r.length ≤ 999 := by simp at hz; omega
    obtain ⟨hc1, gt, ot, hA, ht1, ht2⟩ := h.tp.tail (by simp)
    subst hA
    have ht1' : c = 1 → OwnW w base 3 1 (.slice (some ⟨gt, ot, none⟩) r.length (c - 1)) r.length (r.map (Value.int .i64)) := ht1
    have ht2' : OwnW w base 3 1 (.slice (some ⟨gt, ot + 1, none⟩) r.length (c - 1)) r.length (r.map (Value.int .i64)) := ht2
    clear ht1 ht2
    obtain ⟨i0, hi, hz0, hz1, hz2⟩ := info_parts Tryz.intInfo
    have hsl := run_tail1 (P := Tryz.prog) (s := 1) Tryz.underlying26 hi hz1 ⟨gt, ot, none⟩ r.length c (by unfold maxLen; omega)
    obtain ⟨A', hA', hown'⟩ : ∃ A', A' = (if c = 1 then (⟨gt, ot, none⟩ : Addr) else (⟨gt, ot, none⟩ : Addr).add 1) ∧ OwnW w base 3 1 (.slice (some A') r.length (c - 1)) r.length (r.map (Value.int .i64)) ∧ A'.block = gt := by
      refine ⟨_, rfl, ?_, ?_⟩
      · split
        · rename_i e; exact ht1' e
        · exact ht2'
      · split
        · rfl
        · rfl
    rw [← hA'] at hsl
    have q0 : w.cell? ⟨gt, ot, none⟩ = some (.int .i64 z) := by
      obtain ⟨ad, u, e1, _, e2, e3⟩ := hrd.at_ (k := 0) (by simp)
      injection e1 with e1
      subst e1
      simp at e2
      subst e2
      exact e3
    have hfin := h.setTape _ r hown'.1 (by intro i hi; simpa [Value.ownBlock, hown'.2] using hi)
    have htr : Trn w (w.setCell ⟨g, 10, none⟩ (.slice (some A') r.length (c - 1))) g v v := (Trn.refl w g v).set_ 10 _
    have hob : ∀ i, Value.ownBlock (.slice (some A') r.length (c - 1)) = some i → Value.ownBlock (.slice (some ⟨gt, ot, none⟩) (r.length + 1) c) = some i := by
      intro i hi; simpa [Value.ownBlock, hown'.2] using hi
    have HFIN := Lib.hid hfin; have HTR := Lib.hid htr; have HOB := Lib.hid hob
    clear hob hA' ht1' ht2' hz0 hz1 hz2 hi hrd h hfin htr hown'
    simp only [List.length_cons] at z10
    go_enter Tryz.func118, Tryz.ntmps118
    go_wp2_with fail
    go_ret
    exact ⟨_, _, rfl, HFIN.out, HTR.out, (by show r.length ≤ 1000; omega), HOB.out⟩
end Go.Proofs.YtgdijbaodfghjaaGreatDoor

/-
  Random early detection in memory: Put.
-/
namespace Go.Proofs.YtgdijbaodfghjaaGreatDoor
open Go.RowKit Bkt
set_option linter.unusedVariables false

def RPutOut (w : World) (base g : Nat) (v : Value) (U : Pl.SU) (p : Pl.FP) (tv : Value) (r : List Hd × Pl.RdS) (e : Ending) (w' : World) : Prop :=
  ∃ (A : Option Addr) (n c : Nat) (v' : Value) (cs' : Array Value) (tv' : Value),
    e = .returned (.slice A n c) ∧ RdR HdR w' w'.heap.size A n r.1 ∧ (∀ ad, A = some ad → w.heap.size ≤ ad.block) ∧ Rmm w' base g v' cs' U p r.2.s r.2.mean r.2.since tv' r.2.tape ∧ Trn w w' g v v' ∧ r.2.tape.length ≤ 1000 ∧ ∀ i, tv'.ownBlock = some i → tv.ownBlock = some i
structure RMid (w wx : World) (base g k : Nat) (v : Value) (U : Pl.SU) (p : Pl.FP) (s : List Hd) (M : Int) (tv : Value) (x : Hd) (hit : Bool) (si' : Int) (cs' : Array Value) (tv' : Value) (zs' : List Int) : Prop where
  r : Rmm wx base g v cs' U p s M si' tv' zs'
  t : Trn w wx g v v
  z : zs'.length ≤ 1000
  tk : tv'.ownBlock ≠ some k
  tb : ∀ i, tv'.ownBlock = some i → tv.ownBlock = some i
  b : Blk wx k 78 #[.int .i64 x.it.at_, .int .i64 x.it.len, .int .i64 x.it.flow, .int .i64 x.it.band, .int .i64 x.it.mark, .int .i64 x.num]
theorem RMid.put {w wx w2 : World} {base g : Nat} {v : Value} {U : Pl.SU} {p : Pl.FP} {s : List Hd} {M si' : Int} {x' : Hd} {cs' : Array Value} {tv tv' : Value} {zs' : List Int} {e : Ending} {r : List Hd × Pl.RdS} (htb : ∀ i, tv'.ownBlock = some i → tv.ownBlock = some i) (hr : Rmm wx base g v cs' U p s M si' tv' zs') (ht : Trn w wx g v v) (hz : zs'.length ≤ 1000) (hg : g < w.heap.size) (hv : ∀ i, v.ownBlock = some i → i < w.heap.size)
    (he : r = ((Pl.fputL p x' s).1, ⟨(Pl.fputL p x' s).2, M, si', zs'⟩))
    (h : FPutOut wx base g 0 121 cs' v (Pl.fputL p x' s) p e w2) : RPutOut w base g v U p tv r e w2 := by
  subst he
  obtain ⟨A, n, c, rfl, hrd, ha, hto⟩ := h
  obtain ⟨v', cs2, hr2, ht2⟩ := hr.of_fifo hto
  exact ⟨A, n, c, v', cs2, tv', rfl, hrd, fun ad e => Nat.le_trans ht.chg.size (ha ad e), hr2, ht.trans ht2 hg (fun i hi => Nat.lt_of_lt_of_le (hv i hi) ht.chg.size), hz, htb⟩

set_option maxHeartbeats 2000000 in
set_option maxRecDepth 100000 in
theorem rput_any (base g : Nat) (v : Value) (cs : Array Value) (U : Pl.SU) (p : Pl.FP) (s : List Hd) (M si : Int) (tv : Value) (zs : List Int) (now : Int) (x : Hd) (w : World) (h : Rmm w base g v cs U p s M si tv zs) (hl : HdsOk s) (hl2 : s.length < 1000) (hx : 0 ≤ x.it.len ∧ x.it.len ≤ 10000) (hbase : base ≤ w.heap.size) (hU : Pl.SUOk U) (hz : zs.length ≤ 1000) (hpk : Pl.FOk p) :
    Calls Tryz.prog 116 #[.pointer (some ⟨g, 0, none⟩), .int .i64 now, hdV x] w (RPutOut w base g v U p tv (Pl.putRd U p x ⟨s, M, si, zs⟩)) := by
  obtain ⟨R, hR⟩ : ∃ R, R = Pl.putRd U p x ⟨s, M, si, zs⟩ := ⟨_, rfl⟩
  rw [← hR]
  unfold Pl.putRd at hR
  dsimp only at hR
  have hgl := h.blk.lt
  have hbk : Blk (w.alloc (.cells #[.int .i64 x.it.at_, .int .i64 x.it.len, .int .i64 x.it.flow, .int .i64 x.it.band, .int .i64 x.it.mark, .int .i64 x.num] 78)) w.heap.size 78 #[.int .i64 x.it.at_, .int .i64 x.it.len, .int .i64 x.it.flow, .int .i64 x.it.band, .int .i64 x.it.mark, .int .i64 x.num] := Blk.new _ _ _
  have hb0 : Below w.heap.size w (w.alloc (.cells #[.int .i64 x.it.at_, .int .i64 x.it.len, .int .i64 x.it.flow, .int .i64 x.it.band, .int .i64 x.it.mark, .int .i64 x.num] 78)) := (Below.refl _ _).alloc (Nat.le_refl _) _
  have hm1 := fun W (hW : Below w.heap.size w W) => rmean_any base g v cs U p s M si tv zs W (h.below hW) hU.sl
  have hvk : ∀ i, v.ownBlock = some i → i < w.heap.size := fun i hi => (h.vlt i hi).2
  have htk : ∀ i, tv.ownBlock = some i → i < w.heap.size := fun i hi => (h.tp.lt i hi).2
  have z1 := fun W (hW : Below w.heap.size w W) => (h.below hW).cell h.f.lst.c1
  have z11 := fun W (hW : Below w.heap.size w W) => (h.below hW).cell h.c11
  have x11 := fun W (hW : Below w.heap.size w W) => (h.below hW).blk.frozen 11
  have HM1 := Lib.hid hm1; have H := Lib.hid h; have HBK := Lib.hid hbk; have HB0 := Lib.hid hb0; have HVK := Lib.hid hvk; have HTK := Lib.hid htk; have HL := Lib.hid hl; have HPK := Lib.hid hpk; have HU := Lib.hid hU
  have Z1 := Lib.hid z1; have Z11 := Lib.hid z11; have X11 := Lib.hid x11
  obtain ⟨⟨xa, xl, xf, xb, xm⟩, xn⟩ := x
  unfold hdV
  dsimp only at hx HBK HB0 ⊢
  have HR := Lib.hid hR
  clear hm1 h hbk hb0 hvk htk hl hpk hU z1 z11 x11 hR
  go_enter Tryz.func116, Tryz.ntmps116
  go_upto_region 1 with fail
  have z1 := Z1.out _ HB0.out; have z11 := Z11.out _ HB0.out; have x11 := X11.out _ HB0.out
  have hm2 := HM1.out _ (bl_drew HB0.out)
  have HM2 := Lib.hid hm2
  clear hm2
  simp only [Nat.zero_add] at z1
  generalize w.alloc (.cells #[.int .i64 xa, .int .i64 xl, .int .i64 xf, .int .i64 xb, .int .i64 xm, .int .i64 xn] 78) = W at *
  have hnm : IntKind.i64.wrap (M + IntKind.i64.wrap (Pl.tot s - Pl.mnOf U M)) = Pl.nextM U (Pl.tot s) M := rfl
  have HNM := Lib.hid hnm
  clear hnm
  generalize Pl.tot s = b at *
  generalize Pl.mnOf U M = mn at *
  have hbq := bytes_q g 0 b W.drew (by exact z1)
  have HBQ := Lib.hid hbq
  clear hbq
  go_cut [] from 12 (fun wx => ∃ m, wx = (W.setCell ⟨g, 11, none⟩ (.int .i64 (Pl.nextM U b M))).drewN m)
  case first =>
    go_region_law ((go_simp; first | (go_at_call 107; (with_reducible refine HBQ.out.mono ?_); rintro e w' ⟨rfl, rfl⟩) | (go_at_call 117; (with_reducible refine HM2.out.mono ?_); rintro e w' ⟨rfl, mq, rfl⟩)))
    all_goals
      go_wp2_with fail
      go_meet
      case rel => exact ⟨_, by rw [← HNM.out]; rfl⟩
  case rest =>
    obtain ⟨mq, rfl⟩ := hcut
    have hr1 := ((H.out.below HB0.out).setMean (Pl.nextM U b M)).drewN mq
    have hk1 := (HBK.out.far (p := ⟨g, 11, none⟩) (by simp only []; omega) (.int .i64 (Pl.nextM U b M))).drewN mq
    have ht1 : Trn w _ g v v := (((Trn.refl w g v).below HB0.out).set_ 11 (.int .i64 (Pl.nextM U b M))).drewN mq
    generalize cs.setIfInBounds 11 (.int .i64 (Pl.nextM U b M)) = cs1 at *
    generalize (W.setCell ⟨g, 11, none⟩ (.int .i64 (Pl.nextM U b M))).drewN mq = w1 at *
    generalize Pl.nextM U b M = M1 at *
    have hm1 := rmean_any base g v cs1 U p s M1 si tv zs w1 hr1 HU.out.sl
    generalize Pl.mnOf U M1 = m at *
    have HM1 := Lib.hid hm1; have HR1 := Lib.hid hr1; have HK1 := Lib.hid hk1; have HT1 := Lib.hid ht1
    clear hm1 hr1 hk1 ht1 HM2 HBQ z1 z11 x11 HNM
    go_wp2_with fail
    (with_reducible refine HM1.out.mono ?_)
    rintro e w2 ⟨rfl, mq2, rfl⟩
    have hr2 := HR1.out.drewN mq2
    have hk2 := HK1.out.drewN mq2
    have ht2 := HT1.out.drewN mq2
    generalize w1.drewN mq2 = w2 at *
    have y5 := hr2.cell hr2.c5; have y6 := hr2.cell hr2.c6; have y7 := hr2.cell hr2.c7; have x12 := hr2.blk.frozen 12
    have y12 := hr2.cell hr2.c12
    have HR2 := Lib.hid hr2; have HK2 := Lib.hid hk2; have HT2 := Lib.hid ht2
    clear hr2 hk2 ht2
    have hvk := HVK.out; have htk := HTK.out
    have n5 : w.heap.size ≠ g := by omega
    have hvn : v.ownBlock ≠ some w.heap.size := fun e => by have := hvk _ e; omega
    have htn : tv.ownBlock ≠ some w.heap.size := fun e => by have := htk _ e; omega
    have hvk2 : ∀ nq i, v.ownBlock = some i → i < (w2.drewN nq).heap.size := fun nq i hi => by have := hvk i hi; have h2 := HT2.out.chg.size; show i < w2.heap.size; omega
    have HVK2 := Lib.hid hvk2
    clear hvk2
    have HVN := Lib.hid hvn; have HTN := Lib.hid htn
    clear hvk htk hvn htn
    go_upto_block 0 with fail
    go_cut [7] from 9 (fun hv wx => ∃ hit si' cs' tv' zs', hv = .bool hit ∧ (hit, si', zs') = Pl.hitR U m si zs ∧ RMid w wx base g w.heap.size v U p s M1 tv ⟨⟨xa, xl, xf, xb, xm⟩, xn⟩ hit si' cs' tv' zs')
    case first =>
      by_cases c1 : m < U.low
      · go_wp2_with fail
        go_meet
        case rel => exact ⟨false, 0, _, tv, zs, rfl, by unfold Pl.hitR; rw [if_pos c1], HR2.out.setSince 0, HT2.out.set_ 12 _, hz, HTN.out, fun _ h => h, HK2.out.far n5 _⟩
      · by_cases c2 : U.high ≤ m
        · go_wp2_with fail
          go_meet
          case rel => exact ⟨true, si, _, tv, zs, rfl, by unfold Pl.hitR; rw [if_neg (Int.not_lt.2 c1), if_pos c2], HR2.out, HT2.out, hz, HTN.out, fun _ h => h, HK2.out⟩
        · obtain ⟨q1, hq1⟩ : ∃ q, IntKind.i64.wrap (m - U.low) = q := ⟨_, rfl⟩
          obtain ⟨q2, hq2⟩ : ∃ q, IntKind.i64.wrap (U.often * q1) = q := ⟨_, rfl⟩
          obtain ⟨q3, hq3⟩ : ∃ q, IntKind.i64.wrap (U.high - U.low) = q := ⟨_, rfl⟩
          obtain ⟨q4, hq4⟩ : ∃ q, IntKind.i64.wrap (1000 * q3) = q := ⟨_, rfl⟩
          obtain ⟨q5, hq5⟩ : ∃ q, IntKind.i64.wrap (si * q2) = q := ⟨_, rfl⟩
          obtain ⟨q6, hq6⟩ : ∃ q, IntKind.i64.wrap (q4 - q5) = q := ⟨_, rfl⟩
          have hex : Pl.hitR U m si zs = if q6 ≤ 0 then (true, wrap64 (si + 1), zs) else (decide (wrap64 ((Pl.drawZ zs).1 * q6) < wrap64 (1000 * q2)), wrap64 (si + 1), (Pl.drawZ zs).2) := by
            subst hq6 hq5 hq4 hq3 hq2 hq1
            unfold Pl.hitR; rw [if_neg c1, if_neg c2]
          have HEX := Lib.hid hex
          clear hex
          go_upto_region 4 with fail
          go_quiet (fail)
          go_upto_region 6 with fail
          have hdr := fun nq => rdraw_any base g v cs1 U p s M1 si tv zs (w2.drewN nq) (HR2.out.drewN nq) hz
          have HDR := Lib.hid hdr
          clear hdr
          by_cases c3 : q6 ≤ 0
          · have d3 : decide (q6 ≤ 0) = true := by simpa using c3
            go_wp2_with fail
            go_meet
            case rel => exact ⟨true, _, _, tv, zs, rfl, by rw [HEX.out, if_pos c3], (HR2.out.drewN _).setSince _, (HT2.out.drewN _).set_ 12 _, hz, HTN.out, fun _ h => h, (HK2.out.drewN _).far n5 _⟩
          · have d3 : decide (q6 ≤ 0) = false := by simpa using c3
            go_wp2_with (go_at_call 118; (with_reducible refine (HDR.out _).mono ?_); rintro e w3 ⟨cs3, tv3, rfl, hr3, ht3, hz3, hb3⟩; have y12' := hr3.blk.frozen 12; have z12' := hr3.cell hr3.c12; have HR3 := Lib.hid hr3; have HT3 := Lib.hid ht3; have HB3 := Lib.hid hb3; clear hr3 ht3 hb3)
            have ht3 := (HT2.out.drewN nq).trans HT3.out hgl (HVK2.out _)
            have hk3 := Blk.chg (HK2.out.drewN nq) HT3.out.chg (by rintro (e | e); exact n5 e; exact HVN.out e)
            go_meet
            case rel => exact ⟨_, _, _, tv3, _, rfl, by rw [HEX.out, if_neg (Int.not_le.2 c3)], HR3.out.setSince _, ht3.set_ 12 _, hz3, fun e => HTN.out (HB3.out _ e), HB3.out, hk3.far n5 _⟩
    case rest =>
      obtain ⟨hit, si3, cs3, tv3, zs3, rfl, hd, hmid⟩ := hcut
      obtain ⟨hr3, ht3, hz3, htk3, htb3, hk3⟩ := hmid
      have hRR : R = Pl.hitP U p M1 ⟨⟨xa, xl, xf, xb, xm⟩, xn⟩ s (hit, si3, zs3) := by rw [hd]; exact HR.out
      have HRR := Lib.hid hRR
      clear hRR hd
      have y9 := hr3.cell hr3.c9; have x12 := hr3.blk.frozen 12
      have y12 := hr3.cell hr3.c12
      obtain ⟨t0, t1, t2, t3, t4, t5, s0, s1, s2, s3, s4, s5⟩ := blk6 hk3
      have HR3 := Lib.hid hr3; have HT3 := Lib.hid ht3; have HK3 := Lib.hid hk3; have HTK3 := Lib.hid htk3; have HTB3 := Lib.hid htb3
      clear hr3 ht3 hk3 htk3 htb3
      have hsz3 := HT3.out.chg.size
      cases hit with
      | true =>
        by_cases hmk : U.mark = true
        · go_upto_region 17 with fail
          have hr4 := (HR3.out.setSince 0).setNew (q := ⟨w.heap.size, 4, none⟩) n5 HVN.out HTK3.out (.int .i64 255)
          have hk4 : Blk _ w.heap.size 78 #[.int .i64 xa, .int .i64 xl, .int .i64 xf, .int .i64 xb, .int .i64 255, .int .i64 xn] := (HK3.out.far (p := ⟨g, 12, none⟩) n5 (.int .i64 0)).set_ 4 (.int .i64 255)
          have ht4 := (HT3.out.set_ 12 (.int .i64 0)).setNew (p := ⟨w.heap.size, 4, none⟩) (Nat.le_refl _) (.int .i64 255)
          generalize cs3.setIfInBounds 12 (.int .i64 0) = cs4 at *
          generalize (wc.setCell ⟨g, 12, none⟩ (.int .i64 0)).setCell ⟨w.heap.size, 4, none⟩ (.int .i64 255) = w4 at *
          have hsz4 := ht4.chg.size
          have hx3 := fput_all base g 0 121 cs4 v s p now ⟨⟨xa, xl, xf, xb, 255⟩, xn⟩ w4.drew (hr4.drewN 1).f HL.out hx (by show base ≤ w4.heap.size; omega) (by omega) HPK.out
          obtain ⟨r0, r1, r2, r3, r4, r5, _, _, _, _, _, _⟩ := blk6 hk4
          unfold hdV at hx3
          have HX3 := Lib.hid hx3; have HR4 := Lib.hid hr4; have HT4 := Lib.hid ht4
          clear hx3 hr4 hk4 ht4 t0 t1 t2 t3 t4 t5 s0 s1 s2 s3 s4 s5 y9 x12 y12
          go_still_tail 5, (by kernel_rfl)
          change wpList _ _ _ _ _ w4.drew
          go_wp2_with fail
          (with_reducible refine HX3.out.mono ?_)
          rintro e w5 h5
          have hfin := RMid.put (r := R) (x' := ⟨⟨xa, xl, xf, xb, 255⟩, xn⟩) HTB3.out (HR4.out.drewN 1) (HT4.out.drewN 1) hz3 hgl HVK.out (by rw [HRR.out]; unfold Pl.hitP; rw [if_pos rfl, if_pos hmk]; rfl) h5
          have HFIN := Lib.hid hfin
          obtain ⟨A5, n5', c5, rfl, _, _, _⟩ := h5
          clear hfin
          go_wp2_with fail
          go_ret
          exact HFIN.out
        · have hmk' : U.mark = false := by simpa using hmk
          go_wp2_with fail
          go_ret
          obtain rfl : R = ([⟨⟨xa, xl, xf, xb, xm⟩, xn⟩], ⟨s, M1, 0, zs3⟩) := by rw [HRR.out]; unfold Pl.hitP; rw [if_pos rfl, if_neg hmk]
          exact ⟨_, 1, 1, v, _, tv3, rfl, (by
            have hnb := Blk.new (wc.setCell ⟨g, 12, none⟩ (.int .i64 0)) 78 #[.int .i64 xa, .int .i64 xl, .int .i64 xf, .int .i64 xb, .int .i64 xm, .int .i64 xn]
            rw [show (wc.setCell ⟨g, 12, none⟩ (.int .i64 0)).heap.size = wc.heap.size from by simp [World.setCell]] at hnb
            exact RdR.of_blk (R := HdR) (l := [⟨⟨xa, xl, xf, xb, xm⟩, xn⟩]) hnb rfl), fun ad e => by (injection e with e; subst e; simpa using hsz3), (HR3.out.setSince 0).below ((Below.refl _ _).alloc (Nat.le_refl _) _), (HT3.out.set_ 12 _).alloc _, hz3, HTB3.out⟩
      | false =>
        have hx3 := fput_all base g 0 121 cs3 v s p now ⟨⟨xa, xl, xf, xb, xm⟩, xn⟩ wc.drew (HR3.out.drewN 1).f HL.out hx (by show base ≤ wc.heap.size; omega) (by omega) HPK.out
        unfold hdV at hx3
        have HX3 := Lib.hid hx3
        clear hx3
        go_upto_region 17 with fail
        go_still_tail 5, (by kernel_rfl)
        change wpList _ _ _ _ _ wc.drew
        go_wp2_with fail
        (with_reducible refine HX3.out.mono ?_)
        rintro e w5 h5
        have hfin := RMid.put (r := R) (x' := ⟨⟨xa, xl, xf, xb, xm⟩, xn⟩) HTB3.out (HR3.out.drewN 1) (HT3.out.drewN 1) hz3 hgl HVK.out (by rw [HRR.out]; unfold Pl.hitP; rw [if_neg (by simp)]) h5
        have HFIN := Lib.hid hfin
        obtain ⟨A5, n5', c5, rfl, _, _, _⟩ := h5
        clear hfin
        go_wp2_with fail
        go_ret
        exact HFIN.out
end Go.Proofs.YtgdijbaodfghjaaGreatDoor

/-
  Random early detection in memory: how it is made.
-/
namespace Go.Proofs.YtgdijbaodfghjaaGreatDoor
open Go.RowKit Bkt
set_option linter.unusedVariables false

def suV (U : Pl.SU) : Value := .agg #[.int .i64 U.low, .int .i64 U.high, .int .i64 U.often, .int .i64 U.slow, .bool U.mark]
def NewRedOut (w : World) (U : Pl.SU) (p : Pl.FP) (zs : List Int) (e : Ending) (w' : World) : Prop :=
  ∃ g v cs tv, e = .returned (.tuple #[.pointer (some ⟨g, 0, none⟩), .nilIface]) ∧ w.heap.size ≤ g ∧ Below w.heap.size w w' ∧ Rmm w' w.heap.size g v cs U p [] 0 0 tv zs ∧ v = .slice none 0 0
def NewRedNo (w : World) (e : Ending) (w' : World) : Prop := (∃ k : Int, e = .returned (.tuple #[.pointer none, .iface 69 (.int .i64 k)])) ∧ Below w.heap.size w w'

set_option maxHeartbeats 1000000 in
set_option maxRecDepth 100000 in
theorem newRed_no (U : Pl.SU) (pk rm : Int) (A : Option Addr) (n c : Nat) (w : World) (hp : (0 ≤ pk ∧ pk ≤ 1000000) ∧ 0 ≤ rm ∧ rm ≤ 1000000) (hU : ¬ Pl.SUOk U) :
    Calls Tryz.prog 34 #[suV U, .int .i64 pk, .int .i64 rm, .slice A n c] w (NewRedNo w) := by
  have hnf := newFifo_yes ⟨pk, rm, false⟩ (w.alloc (.cells #[.int .i64 U.low, .int .i64 U.high, .int .i64 U.often, .int .i64 U.slow, .bool U.mark] 100)) ⟨hp.1, hp.2⟩
  have hb0 : Below w.heap.size w (w.alloc (.cells #[.int .i64 U.low, .int .i64 U.high, .int .i64 U.often, .int .i64 U.slow, .bool U.mark] 100)) := (Below.refl _ _).alloc (Nat.le_refl _) _
  have hk0 : Blk (w.alloc (.cells #[.int .i64 U.low, .int .i64 U.high, .int .i64 U.often, .int .i64 U.slow, .bool U.mark] 100)) w.heap.size 100 #[.int .i64 U.low, .int .i64 U.high, .int .i64 U.often, .int .i64 U.slow, .bool U.mark] := Blk.new _ _ _
  obtain ⟨lo, hi, of_, sl, mk⟩ := U
  unfold suV
  dsimp only at hnf hb0 hk0 ⊢
  have hno : lo < 0 ∨ (¬ lo < 0 ∧ hi ≤ lo) ∨ (¬ lo < 0 ∧ ¬ hi ≤ lo ∧ 1000000 < hi) ∨ (¬ lo < 0 ∧ ¬ hi ≤ lo ∧ ¬ 1000000 < hi ∧ of_ < 1) ∨ (¬ lo < 0 ∧ ¬ hi ≤ lo ∧ ¬ 1000000 < hi ∧ ¬ of_ < 1 ∧ 1000 < of_) ∨ (¬ lo < 0 ∧ ¬ hi ≤ lo ∧ ¬ 1000000 < hi ∧ ¬ of_ < 1 ∧ ¬ 1000 < of_ ∧ sl < 0) ∨ (¬ lo < 0 ∧ ¬ hi ≤ lo ∧ ¬ 1000000 < hi ∧ ¬ of_ < 1 ∧ ¬ 1000 < of_ ∧ ¬ sl < 0 ∧ 10 < sl) := by
    by_cases h : lo < 0 ∨ hi ≤ lo ∨ 1000000 < hi ∨ of_ < 1 ∨ 1000 < of_ ∨ sl < 0 ∨ 10 < sl
    · omega
    · exact absurd ⟨⟨by simp only []; omega, by simp only []; omega, by simp only []; omega⟩, ⟨by simp only []; omega, by simp only []; omega⟩, ⟨by simp only []; omega, by simp only []; omega⟩⟩ hU
  have HN := Lib.hid hnf; have HB0 := Lib.hid hb0; have HK0 := Lib.hid hk0; have HNO := Lib.hid hno
  clear hnf hb0 hk0 hU hno
  go_enter Tryz.func34, Tryz.ntmps34
  go_upto_region 1 with fail
  generalize w.alloc (.cells #[.int .i64 lo, .int .i64 hi, .int .i64 of_, .int .i64 sl, .bool mk] 100) = w0 at *
  go_wp2_with fail
  (with_reducible refine HN.out.mono ?_)
  rintro e w1 ⟨g, rfl, hg, hb1, _⟩
  have hsz := HB0.out.size
  have hk1 := HK0.out.below hb1 HK0.out.lt
  have hb2 := bl_next HB0.out hb1
  have z0 := hk1.cell 0; have z1 := hk1.cell 1; have z2 := hk1.cell 2; have z3 := hk1.cell 3; have z4 := hk1.cell 4
  simp at z0 z1 z2 z3 z4
  have HB2 := Lib.hid hb2
  clear hk1 hb1 hb2
  have hno := HNO.out
  clear HNO HN
  rcases hno with c1 | ⟨c1, c2⟩ | ⟨c1, c2, c3⟩ | ⟨c1, c2, c3, c4⟩ | ⟨c1, c2, c3, c4, c5⟩ | ⟨c1, c2, c3, c4, c5, c6⟩ | ⟨c1, c2, c3, c4, c5, c6, c7⟩
  all_goals
    go_wp2_with fail
    go_ret2
    exact ⟨⟨_, rfl⟩, HB2.out⟩

theorem newRed_fin {w w' : World} {U : Pl.SU} {pk rm : Int} {zs : List Int} {A' : Option Addr} {m c' B : Nat} (h1 : w'.ownsRow B 3 1 (.slice A' m c') m ([] ++ zs.map (Value.int .i64))) (hm : m = zs.length) (hb : Below w.heap.size w w') (hB : w.heap.size ≤ B) :
    NewRedOut w U ⟨pk, rm, false⟩ zs (.returned (.tuple #[.pointer (some ⟨w'.heap.size, 0, none⟩), .nilIface]))
      (w'.alloc (.cells #[.slice none 0 0, .int .i64 0, .int .i64 pk, .int .i64 rm, .bool false, .int .i64 U.low, .int .i64 U.high, .int .i64 U.often, .int .i64 U.slow, .bool U.mark, .slice A' m c', .int .i64 0, .int .i64 0] 121)) := by
  subst hm
  have ho := (OwnW.of_own h1).mono hB
  refine ⟨w'.heap.size, .slice none 0 0, _, _, rfl, hb.size, hb.alloc hb.size _, ⟨⟨⟨Blk.new _ _ _, rfl, rfl, OwnW.nil _ _ _ _, by decide⟩, rfl, rfl, rfl⟩, rfl, rfl, rfl, rfl, rfl, rfl, rfl, rfl, ho.alloc _, fun i _ e => by simp [Value.ownBlock] at e, fun e => by have := (ho.lt _ e).2; omega⟩, rfl⟩

set_option maxHeartbeats 1000000 in
set_option maxRecDepth 100000 in
theorem newRed_yes (U : Pl.SU) (pk rm : Int) (A : Option Addr) (n c : Nat) (zs : List Int) (w : World) (hr : RdI w w.heap.size A n zs) (hp : (0 ≤ pk ∧ pk ≤ 1000000) ∧ 0 ≤ rm ∧ rm ≤ 1000000) (hU : Pl.SUOk U) (hn : n ≤ 1000) :
    Calls Tryz.prog 34 #[suV U, .int .i64 pk, .int .i64 rm, .slice A n c] w (NewRedOut w U ⟨pk, rm, false⟩ zs) := by
  have hnf := newFifo_yes ⟨pk, rm, false⟩ (w.alloc (.cells #[.int .i64 U.low, .int .i64 U.high, .int .i64 U.often, .int .i64 U.slow, .bool U.mark] 100)) ⟨hp.1, hp.2⟩
  have hb0 : Below w.heap.size w (w.alloc (.cells #[.int .i64 U.low, .int .i64 U.high, .int .i64 U.often, .int .i64 U.slow, .bool U.mark] 100)) := (Below.refl _ _).alloc (Nat.le_refl _) _
  have hk0 : Blk (w.alloc (.cells #[.int .i64 U.low, .int .i64 U.high, .int .i64 U.often, .int .i64 U.slow, .bool U.mark] 100)) w.heap.size 100 #[.int .i64 U.low, .int .i64 U.high, .int .i64 U.often, .int .i64 U.slow, .bool U.mark] := Blk.new _ _ _
  have hsz0 : w.heap.size < (w.alloc (.cells #[.int .i64 U.low, .int .i64 U.high, .int .i64 U.often, .int .i64 U.slow, .bool U.mark] 100)).heap.size := by simp
  obtain ⟨lo, hi, of_, sl, mk⟩ := U
  obtain ⟨⟨u1, u2, u3⟩, ⟨u4, u5⟩, ⟨u6, u7⟩⟩ := hU
  unfold suV
  dsimp only at hnf hb0 hk0 hsz0 u1 u2 u3 u4 u5 u6 u7 ⊢
  have HN := Lib.hid hnf; have HB0 := Lib.hid hb0; have HK0 := Lib.hid hk0; have HR := Lib.hid hr
  clear hnf hb0 hk0 hr
  go_enter Tryz.func34, Tryz.ntmps34
  go_upto_region 1 with fail
  generalize w.alloc (.cells #[.int .i64 lo, .int .i64 hi, .int .i64 of_, .int .i64 sl, .bool mk] 100) = w0 at *
  go_wp2_with fail
  (with_reducible refine HN.out.mono ?_)
  rintro e w1 ⟨g, rfl, hg, hb1, hf⟩
  have hsz := HB0.out.size
  have hk1 := HK0.out.below hb1 HK0.out.lt
  have hb2 := bl_next HB0.out hb1
  have z0 := hk1.cell 0; have z1 := hk1.cell 1; have z2 := hk1.cell 2; have z3 := hk1.cell 3; have z4 := hk1.cell 4
  have hk := hf.lst.blk
  have q0 := hk.cell 0; have q1 := hk.cell 1; have q2 := hk.cell 2; have q3 := hk.cell 3; have q4 := hk.cell 4
  simp at z0 z1 z2 z3 z4 q0 q1 q2 q3 q4
  have hr2 := HR.out.below hb2
  have hzl := HR.out.len
  have hsz1 := hb1.size
  have hk1l := hk1.lt
  have hgl := hk.lt
  have hr3 : Reads (w1.alloc (.cells #[] 3)).drew w.heap.size 1 A n (zs.map (.int .i64)) := Reads.drew (Reads.alloc hr2 (by omega) _)
  have hgr : ∀ w', (w1.alloc (.cells #[] 3)).drew.grownBy w' (some w1.heap.size) → Blk w' w.heap.size 100 #[.int .i64 lo, .int .i64 hi, .int .i64 of_, .int .i64 sl, .bool mk] ∧ Blk w' g 92 #[.slice none 0 0, .int .i64 0, .int .i64 pk, .int .i64 rm, .bool false] ∧ Below w.heap.size w w' := fun w' h => by
    refine ⟨Blk.grown ((hk1.alloc _).drew) h (fun e => by injection e with e; omega), Blk.grown ((hk.alloc _).drew) h (fun e => by injection e with e; omega), ?_⟩
    exact Below.grown (B := w.heap.size) (bl_drew (bl_alloc hb2)) h (by simp; omega) (fun i hi => by injection hi with hi; omega)
  have hro : (w1.alloc (.cells #[] 3)).drew.ownsRow w1.heap.size 3 1 (.slice (some ⟨w1.heap.size, 0, none⟩) 0 0) 0 [] := by
    refine ⟨by simp, .inr ⟨w1.heap.size, 0, #[], rfl, Nat.le_refl _, ?_, Nat.le_refl _, by simp [maxLen], by simp, by simp⟩⟩
    exact Blk.drew (Blk.new w1 _ _)
  have hle : w1.heap.size ≤ (w1.alloc (.cells #[] 3)).drew.heap.size := by show w1.heap.size ≤ (w1.alloc (.cells #[] 3)).heap.size; simp
  have hoc : ∀ u ∈ zs.map (Value.int .i64), u.oneCell' = true := fun u hu => by obtain ⟨x, _, rfl⟩ := List.mem_map.1 hu; rfl
  have HOC := Lib.hid hoc; clear hoc
  have HSZ := Lib.hid (Nat.le_trans (Nat.le_of_lt hk1l) (Nat.le_refl _) : w.heap.size ≤ w1.heap.size)
  have HLE := Lib.hid hle; clear hle
  have HB2 := Lib.hid hb2; have HR3 := Lib.hid hr3; have HGR := Lib.hid hgr; have HRO := Lib.hid hro
  clear hk1 hb1 hb2 hk hf hr2 HN hr3 hgr hro
  go_upto_region 8 with fail
  obtain ⟨i0, hi0, hz0, hz1, hz2⟩ := info_parts Tryz.intInfo
  have I0 := Lib.hid hi0; have I1 := Lib.hid hz0; have I2 := Lib.hid hz1; have I3 := Lib.hid hz2
  clear hi0 hz0 hz1 hz2
  go_region_law ((refine step_append_any _ (by rfl) (.tmp 65) (.tmp 66) _ (by rfl) w1.heap.size 3 i0 (.int .i64 0) 1 8 Tryz.underlying26 I0.out I1.out I2.out I3.out rfl (by decide) _ 0 [] (by rfl) ?_ w.heap.size A n c (zs.map (.int .i64)) (by rfl) ?_ ?_ ?_ ?_ ?_ ?_; (exact HRO.out); (exact HR3.out); (exact HOC.out); (simp only [maxLen]; omega); (omega); (exact HLE.out); (intro v' w' h1 h2 _; obtain ⟨A', c', rfl, _⟩ := own_reads h1; obtain ⟨y1, y2, y3⟩ := HGR.out w' h2; have z0 := y1.cell 0; have z1 := y1.cell 1; have z2 := y1.cell 2; have z3 := y1.cell 3; have z4 := y1.cell 4; have q0 := y2.cell 0; have q1 := y2.cell 1; have q2 := y2.cell 2; have q3 := y2.cell 3; have q4 := y2.cell 4; (simp at z0 z1 z2 z3 z4 q0 q1 q2 q3 q4); have H1 := Lib.hid h1; have HB3 := Lib.hid y3; clear h1 h2 y1 y2 y3)))
  all_goals
    go_wp2_with fail
    go_ret2
    first
      | exact newRed_fin H1.out (by omega) HB3.out HSZ.out
      | (have e0 := H1.out; rw [Nat.zero_add] at e0; exact newRed_fin e0 (by omega) HB3.out HSZ.out)
end Go.Proofs.YtgdijbaodfghjaaGreatDoor

/-
  Random early detection is its machine.
-/
namespace Go.Proofs.YtgdijbaodfghjaaGreatDoor
open Go.RowKit Bkt
set_option linter.unusedVariables false

theorem red_put_meth (g : Nat) : Meth (.iface 96 (.pointer (some ⟨g, 0, none⟩))) "Put" 116 (.pointer (some ⟨g, 0, none⟩)) := by
  intro args w; kernel_rfl
theorem red_take_meth (g : Nat) : Meth (.iface 96 (.pointer (some ⟨g, 0, none⟩))) "Take" 110 (.pointer (some ⟨g, 0, none⟩)) := by
  intro args w; kernel_rfl
theorem red_when_meth (g : Nat) : Meth (.iface 96 (.pointer (some ⟨g, 0, none⟩))) "When" 111 (.pointer (some ⟨g, 0, none⟩)) := by
  intro args w; kernel_rfl
theorem red_len_meth (g : Nat) : Meth (.iface 96 (.pointer (some ⟨g, 0, none⟩))) "Len" 108 (.pointer (some ⟨g, 0, none⟩)) := by
  intro args w; kernel_rfl
theorem red_bytes_meth (g : Nat) : Meth (.iface 96 (.pointer (some ⟨g, 0, none⟩))) "Bytes" 107 (.pointer (some ⟨g, 0, none⟩)) := by
  intro args w; kernel_rfl

structure RdInv (base g : Nat) (U : Pl.SU) (p : Pl.FP) (r : Pl.RdS) (k : Nat) (F : Nat → Prop) (w : World) (v : Value) (cs : Array Value) (tv : Value) : Prop where
  d : Rmm w base g v cs U p r.s r.mean r.since tv r.tape
  n : r.s.length ≤ k
  b : ∀ x ∈ r.s, 0 ≤ x.it.len ∧ x.it.len ≤ 10000
  tp : r.tape.length ≤ 1000
  bs : base ≤ w.heap.size
  k1 : k ≤ 1000
  bg : base ≤ g
  mF : ∀ i, F i ↔ (i = g ∨ v.ownBlock = some i ∨ tv.ownBlock = some i)
def RdInv1 (base g : Nat) (U : Pl.SU) (p : Pl.FP) (r : Pl.RdS) (k : Nat) (F : Nat → Prop) (w : World) : Prop := ∃ v cs tv, RdInv base g U p r k F w v cs tv
section
variable {w w' : World} {base g k : Nat} {U : Pl.SU} {p : Pl.FP} {r r' : Pl.RdS} {F : Nat → Prop} {v v' tv tv' : Value} {cs cs' : Array Value}
theorem RdInv.to (h : RdInv base g U p r k F w v cs tv) (hd : Rmm w' base g v' cs' U p r'.s r'.mean r'.since tv' r'.tape) (ht : Trn w w' g v v') (hb : ∀ i, tv'.ownBlock = some i → tv.ownBlock = some i) {k' : Nat} (hk : k' ≤ 1000) (hn : r'.s.length ≤ k') (hs : ∀ x ∈ r'.s, 0 ≤ x.it.len ∧ x.it.len ≤ 10000) (hz : r'.tape.length ≤ 1000) :
    ∃ F', RdInv1 base g U p r' k' F' w' ∧ Chg w w' F ∧ ∀ i, F' i → F i ∨ w.heap.size ≤ i := by
  refine ⟨fun i => i = g ∨ v'.ownBlock = some i ∨ tv'.ownBlock = some i, ⟨v', cs', tv', hd, hn, hs, hz, Nat.le_trans h.bs ht.chg.size, hk, h.bg, fun i => Iff.rfl⟩, ht.chg.mono (fun i _ hi => (h.mF i).2 (hi.imp id .inl)), fun i hi => ?_⟩
  rcases hi with e | e | e
  · exact .inl ((h.mF i).2 (.inl e))
  · rcases ht.at_ with e2 | e2
    · exact .inl ((h.mF i).2 (.inr (.inl (e2 ▸ e))))
    · exact .inr (e2 i e)
  · exact .inl ((h.mF i).2 (.inr (.inr (hb i e))))
theorem RdInv.chg {S : Nat → Prop} (h : RdInv base g U p r k F w v cs tv) (hc : Chg w w' S) (hn : ∀ i, F i → ¬ S i) : RdInv base g U p r k F w' v cs tv :=
  ⟨h.d.chg hc (hn _ ((h.mF _).2 (.inl rfl))) (fun i hi => hn _ ((h.mF _).2 (.inr (.inl hi)))) (fun i hi => hn _ ((h.mF _).2 (.inr (.inr hi)))), h.n, h.b, h.tp, Nat.le_trans h.bs hc.size, h.k1, h.bg, h.mF⟩
theorem RdInv.lt (h : RdInv base g U p r k F w v cs tv) : ∀ i, F i → base ≤ i ∧ i < w.heap.size := fun i hi => by
  rcases (h.mF i).1 hi with e | e | e
  · subst e; exact ⟨h.bg, h.d.blk.lt⟩
  · exact h.d.vlt i e
  · exact h.d.tp.lt i e
theorem RdInv.hds (h : RdInv base g U p r k F w v cs tv) : HdsOk r.s := ⟨Nat.le_trans h.n h.k1, h.b⟩
end
theorem putRd_s (U : Pl.SU) (p : Pl.FP) (x : Hd) (r : Pl.RdS) : (∃ x' : Hd, x'.it.len = x.it.len ∧ (Pl.putRd U p x r).1 = (Pl.fputL p x' r.s).1 ∧ (Pl.putRd U p x r).2.s = (Pl.fputL p x' r.s).2) ∨ ((Pl.putRd U p x r).1 = [x] ∧ (Pl.putRd U p x r).2.s = r.s) := by
  unfold Pl.putRd
  generalize Pl.hitR U (Pl.mnOf U (Pl.nextM U (Pl.tot r.s) r.mean)) r.since r.tape = d
  unfold Pl.hitP
  split
  · split
    · exact .inl ⟨Pl.marked x, rfl, rfl, rfl⟩
    · exact .inr ⟨rfl, rfl⟩
  · exact .inl ⟨x, rfl, rfl, rfl⟩
theorem red_imp (base g : Nat) (U : Pl.SU) (p : Pl.FP) (hU : Pl.SUOk U) (hp : Pl.FOk p) : QImp (Pl.redM U p) (.iface 96 (.pointer (some ⟨g, 0, none⟩))) base (RdInv1 base g U p) where
  lt := fun s k F w ⟨v, cs, tv, h⟩ => h.lt
  base := fun s k F w ⟨v, cs, tv, h⟩ => h.bs
  chg := fun s k F w w' S ⟨v, cs, tv, h⟩ hc hn => ⟨v, cs, tv, h.chg hc hn⟩
  put := ⟨_, _, red_put_meth g, fun r k F w now x ⟨v, cs, tv, h⟩ hk hx => by
    have hxl := okB_len hx.ok
    have hn := h.n
    refine (rput_any base g v cs U p r.s r.mean r.since tv r.tape now x w h.d h.hds (by omega) hxl h.bs hU h.tp hp).mono fun e w' ho => ?_
    obtain ⟨A, n, c, v', cs', tv', e1, hr, ha, hd, ht, hz, hb⟩ := ho
    have hso := putRd_s U p x r
    have e2 : (⟨r.s, r.mean, r.since, r.tape⟩ : Pl.RdS) = r := rfl
    rw [e2] at hr hd hz
    have hl : (Pl.putRd U p x r).1.length + (Pl.putRd U p x r).2.s.length = r.s.length + 1 := by
      rcases hso with ⟨x', _, a1, a2⟩ | ⟨a1, a2⟩
      · rw [a1, a2]; exact fput_lens p x' r.s
      · rw [a1, a2]; simp; omega
    have hbb : ∀ y ∈ (Pl.putRd U p x r).2.s, 0 ≤ y.it.len ∧ y.it.len ≤ 10000 := fun y hy => by
      rcases hso with ⟨x', e3, _, a2⟩ | ⟨_, a2⟩
      · rw [a2] at hy
        rcases fput_mem p x' r.s y (.inr hy) with e | e
        · exact h.b y e
        · subst e; rw [e3]; exact hxl
      · rw [a2] at hy; exact h.b y hy
    obtain ⟨F', g1, g2, g3⟩ := h.to hd ht hb (k' := k + 1) (by omega) (by omega) hbb hz
    exact ⟨A, n, c, F', e1, by have := hr.len; omega, hr, fun ad e => .inr (ha ad e), g1, g2, g3⟩⟩
  take := ⟨_, _, red_take_meth g, fun r k F w now ⟨v, cs, tv, h⟩ _ _ => by
    have hn := h.n; have hk := h.k1
    refine (ftake_all base g 0 121 cs v r.s p now w h.d.f h.hds).mono fun e w' ho => ?_
    obtain ⟨e1, e2, hf⟩ := ho
    obtain ⟨h0, e3, e4⟩ := optV_is (Pl.ftakeL r.s).1
    obtain ⟨v', cs', hd, ht⟩ := h.d.of_fifo hf
    obtain ⟨F', g1, g2, g3⟩ := h.to (r' := ⟨(Pl.ftakeL r.s).2.2, r.mean, r.since, r.tape⟩) hd ht (fun _ h => h) hk (by
      show (Pl.ftakeL r.s).2.2.length ≤ k
      revert hn
      cases r.s with
      | nil => exact id
      | cons x l => intro hn; rw [List.length_cons] at hn; show l.length ≤ _; omega) (fun y hy => h.b y (by
      revert hy
      show y ∈ (Pl.ftakeL r.s).2.2 → y ∈ r.s
      cases r.s with
      | nil => exact id
      | cons x l => exact fun hy => List.mem_cons_of_mem _ hy)) h.tp
    refine ⟨h0, none, 0, 0, F', by rw [e1, e3]; rfl, e4, by omega, ?_, (fun ad e => by cases e), g1, g2, g3⟩
    show RdR HdR w' w'.heap.size none 0 (Pl.ftakeL r.s).2.1
    rw [e2]; exact RdR.nil⟩
  when_ := ⟨_, _, red_when_meth g, fun r k F w now ⟨v, cs, tv, h⟩ _ _ => by
    refine (fwhen_any base g 0 121 cs v r.s p now w h.d.f h.hds.n).mono fun e w' ⟨e1, e2⟩ => ?_
    subst e2
    refine ⟨now, F, ?_, ?_, ⟨v, cs, tv, h⟩, Chg.refl _ _, fun i hi => .inl hi⟩
    · rw [e1]
      show Ending.returned (.tuple #[.int .i64 now, .bool (decide (0 < r.s.length))]) = .returned (.tuple #[.int .i64 now, .bool (if 0 < r.s.length then some now else none).isSome])
      by_cases h0 : 0 < r.s.length
      · rw [if_pos h0, decide_eq_true h0]; rfl
      · rw [if_neg h0, decide_eq_false h0]; rfl
    · intro x hx
      have hx' : (if 0 < r.s.length then some now else none) = some x := hx
      by_cases h0 : 0 < r.s.length
      · rw [if_pos h0] at hx'; injection hx'
      · rw [if_neg h0] at hx'; cases hx'⟩
  len := ⟨_, _, red_len_meth g, fun r k F w ⟨v, cs, tv, h⟩ => by
    obtain ⟨A, c, rfl, hnc, _, _⟩ := h.d.f.lst.own.reads
    exact (len_any g 0 r.s.length c A w ((h.d.blk.cell 0).trans h.d.f.lst.c0)).mono fun e w' ⟨e1, e2⟩ => ⟨e1, by subst e2; exact Below.refl _ _⟩⟩
  bytes := ⟨_, _, red_bytes_meth g, fun r k F w ⟨v, cs, tv, h⟩ =>
    (bytes_any g 0 (Pl.tot r.s) w ((h.d.blk.cell 1).trans h.d.f.lst.c1)).mono fun e w' ⟨e1, e2⟩ => ⟨e1, by subst e2; exact Below.refl _ _⟩⟩
end Go.Proofs.YtgdijbaodfghjaaGreatDoor

/-
  Controlled delay in memory: Take.
-/
namespace Go.Proofs.YtgdijbaodfghjaaGreatDoor
open Go.RowKit Bkt
set_option linter.unusedVariables false

def hdC (x : Hd) : Array Value := #[.int .i64 x.it.at_, .int .i64 x.it.len, .int .i64 x.it.flow, .int .i64 x.it.band, .int .i64 x.it.mark, .int .i64 x.num]
structure Tl (w wi : World) (base g : Nat) (v vi : Value) (csi : Array Value) (P : Pl.DP) (D : Pl.DS) (x : Hd) (lo : Value) (lost : List Hd) : Prop where
  d : Dmm wi base g vi csi P D
  t : Trn w wi g v vi
  k : Blk wi w.heap.size 78 (hdC x)
  o : OwnW wi w.heap.size 78 HdR.sz lo lost.length (lost.flatMap HdR.cells)
  n1 : lo.ownBlock ≠ some w.heap.size
  n2 : ∀ i, lo.ownBlock = some i → vi.ownBlock ≠ some i
  n3 : vi.ownBlock ≠ some w.heap.size
  gl : g < w.heap.size
section
variable {w wi w' : World} {base g : Nat} {v vi vi' lo lo' : Value} {csi csi' : Array Value} {P : Pl.DP} {D D' : Pl.DS} {x y : Hd} {lost : List Hd}
theorem Tl.sz (h : Tl w wi base g v vi csi P D x lo lost) : w.heap.size ≤ wi.heap.size := h.t.chg.size
theorem Tl.pull (h : Tl w wi base g v vi csi P D x lo lost) (hd : Dmm w' base g vi' csi' P D') (ht : Trn wi w' g vi vi') : Tl w w' base g v vi' csi' P D' x lo lost := by
  have hk := h.k.lt
  have hnk : ¬ (w.heap.size = g ∨ vi.ownBlock = some w.heap.size) := by
    rintro (e | e)
    · have := h.gl; omega
    · exact h.n3 e
  refine ⟨hd, h.t.trans ht h.gl (fun i hi => (h.d.vlt i hi).2), h.k.chg ht.chg hnk, h.o.chg ht.chg (fun i hi e => ?_), h.n1, fun i hi e => ?_, fun e => ?_, h.gl⟩
  · have := (h.o.lt i hi).1; have := h.gl
    rcases e with e | e
    · omega
    · exact h.n2 i hi e
  · rcases ht.at_ with e2 | e2
    · exact h.n2 i hi (e2 ▸ e)
    · have := e2 i e; have := (h.o.lt i hi).2; omega
  · rcases ht.at_ with e2 | e2
    · exact h.n3 (e2 ▸ e)
    · have := e2 _ e; omega
theorem Tl.six (h : Tl w wi base g v vi csi P D x lo lost) (y : Hd) :
    Tl w ((((((wi.setCell ⟨w.heap.size, 0, none⟩ (.int .i64 y.it.at_)).setCell ⟨w.heap.size, 1, none⟩ (.int .i64 y.it.len)).setCell ⟨w.heap.size, 2, none⟩ (.int .i64 y.it.flow)).setCell ⟨w.heap.size, 3, none⟩ (.int .i64 y.it.band)).setCell ⟨w.heap.size, 4, none⟩ (.int .i64 y.it.mark)).setCell ⟨w.heap.size, 5, none⟩ (.int .i64 y.num)) base g v vi csi P D y lo lost := by
  have hne : w.heap.size ≠ g := by have := h.gl; omega
  exact ⟨h.d.six hne h.n3 _ _ _ _ _ _, h.t.six (Nat.le_refl _) _ _ _ _ _ _, blk_six h.k _ _ _ _ _ _,
    (((((h.o.setCell (p := ⟨w.heap.size, 0, none⟩) h.n1 _).setCell (p := ⟨w.heap.size, 1, none⟩) h.n1 _).setCell (p := ⟨w.heap.size, 2, none⟩) h.n1 _).setCell (p := ⟨w.heap.size, 3, none⟩) h.n1 _).setCell (p := ⟨w.heap.size, 4, none⟩) h.n1 _).setCell (p := ⟨w.heap.size, 5, none⟩) h.n1 _,
    h.n1, h.n2, h.n3, h.gl⟩
theorem Tl.log (h : Tl w wi base g v vi csi P D x lo lost) : lo.ownBlock ≠ some g := fun e => by have := (h.o.lt _ e).1; have := h.gl; omega
theorem Tl.at_g (h : Tl w wi base g v vi csi P D x lo lost) (i : Nat) (u : Value) (hd : Dmm (wi.setCell ⟨g, i, none⟩ u) base g vi csi' P D') : Tl w (wi.setCell ⟨g, i, none⟩ u) base g v vi csi' P D' x lo lost := by
  have hne : w.heap.size ≠ g := by have := h.gl; omega
  exact ⟨hd, h.t.set_ i u, h.k.far (p := ⟨g, i, none⟩) hne u, h.o.setCell (p := ⟨g, i, none⟩) h.log u, h.n1, h.n2, h.n3, h.gl⟩
theorem Tl.setDrop (h : Tl w wi base g v vi csi P D x lo lost) (b : Bool) : Tl w (wi.setCell ⟨g, 8, none⟩ (.bool b)) base g v vi (csi.setIfInBounds 8 (.bool b)) P ⟨D.s, D.above, b, D.next, D.count⟩ x lo lost := h.at_g 8 _ (h.d.setDrop b)
theorem Tl.setNext (h : Tl w wi base g v vi csi P D x lo lost) (b : Int) : Tl w (wi.setCell ⟨g, 9, none⟩ (.int .i64 b)) base g v vi (csi.setIfInBounds 9 (.int .i64 b)) P ⟨D.s, D.above, D.drop, b, D.count⟩ x lo lost := h.at_g 9 _ (h.d.setNext b)
theorem Tl.setCount (h : Tl w wi base g v vi csi P D x lo lost) (b : Int) : Tl w (wi.setCell ⟨g, 10, none⟩ (.int .i64 b)) base g v vi (csi.setIfInBounds 10 (.int .i64 b)) P ⟨D.s, D.above, D.drop, D.next, b⟩ x lo lost := h.at_g 10 _ (h.d.setCount b)
theorem Tl.below (h : Tl w wi base g v vi csi P D x lo lost) (hb : Below wi.heap.size wi w') : Tl w w' base g v vi csi P D x lo lost :=
  ⟨h.d.below hb, h.t.below hb, h.k.below hb h.k.lt, h.o.below hb, h.n1, h.n2, h.n3, h.gl⟩
theorem Tl.push (h : Tl w wi base g v vi csi P D x lo lost) (ho : OwnW w' w.heap.size 78 HdR.sz lo' (lost.length + 1) ((lost ++ [y]).flatMap HdR.cells)) (hg : wi.grownBy w' lo.ownBlock) (hat : lo'.ownBlock = lo.ownBlock ∨ ∀ i, lo'.ownBlock = some i → wi.heap.size < i) :
    Tl w w' base g v vi csi P D x lo' (lost ++ [y]) := by
  have hne : w.heap.size ≠ g := by have := h.gl; omega
  have hc : Chg wi w' (fun i => lo.ownBlock = some i) := Chg.of_grown hg (fun i hi => hi.symm)
  have hsz := h.sz
  refine ⟨h.d.chg hc h.log (fun i hi e => h.n2 i e hi), ?_, h.k.chg hc h.n1, by rw [List.length_append]; exact ho, fun e => ?_, fun i hi e => ?_, h.n3, h.gl⟩
  · refine ⟨h.t.chg.trans hc (fun i hi e => ?_), h.t.at_⟩
    have := (h.o.lt i e).1; omega
  · rcases hat with e2 | e2
    · exact h.n1 (e2 ▸ e)
    · have := e2 _ e; omega
  · rcases hat with e2 | e2
    · exact h.n2 i (e2 ▸ hi) e
    · have := e2 i hi; have := (h.d.vlt i e).2; omega
end
def PullsOut (w : World) (base g : Nat) (v : Value) (P : Pl.DP) (r : Option Hd × Bool × Pl.DS) (e : Ending) (w' : World) : Prop :=
  ∃ (ya yl yf yb ym yn : Int) (v' : Value) (cs' : Array Value), e = .returned (.tuple #[.agg #[.int .i64 ya, .int .i64 yl, .int .i64 yf, .int .i64 yb, .int .i64 ym, .int .i64 yn], .bool r.1.isSome, .bool r.2.1]) ∧ r.1.getD Hd.zero = ⟨⟨ya, yl, yf, yb, ym⟩, yn⟩ ∧ Dmm w' base g v' cs' P r.2.2 ∧ Trn w w' g v v'
theorem pulls_any (base g : Nat) (v : Value) (cs : Array Value) (P : Pl.DP) (D : Pl.DS) (now : Int) (w : World) (h : Dmm w base g v cs P D) (hl : HdsOk D.s) (hP : Pl.DPOk P) (hn : 0 ≤ now ∧ now ≤ 1000000000) (hx : ∀ x ∈ D.s, 0 ≤ x.it.at_ ∧ x.it.at_ ≤ 1000000000) (hab : -1 ≤ D.above ∧ D.above ≤ 1001000000) :
    Calls Tryz.prog 120 #[.pointer (some ⟨g, 0, none⟩), .int .i64 now] w (PullsOut w base g v P (Pl.pullD P now D)) := by
  refine (pull_any base g v cs P D now w h hl hP hn hx hab).mono ?_
  rintro e w' ⟨rfl, v', cs', h1, h2⟩
  generalize Pl.pullD P now D = r at *
  obtain ⟨xo, b, D'⟩ := r
  cases xo with
  | none => exact ⟨0, 0, 0, 0, 0, 0, v', cs', rfl, rfl, h1, h2⟩
  | some x =>
    obtain ⟨⟨ya, yl, yf, yb, ym⟩, yn⟩ := x
    exact ⟨ya, yl, yf, yb, ym, yn, v', cs', rfl, rfl, h1, h2⟩

def DTakeOut (w : World) (base g : Nat) (v : Value) (P : Pl.DP) (r : Option Hd × List Hd × Pl.DS) (e : Ending) (w' : World) : Prop :=
  ∃ h A c v' cs', e = .returned (.tuple #[hdV h, .slice A r.2.1.length c, .bool r.1.isSome]) ∧ (∀ x, r.1 = some x → h = x) ∧ RdR HdR w' w'.heap.size A r.2.1.length r.2.1 ∧ (∀ ad, A = some ad → w.heap.size ≤ ad.block) ∧ Dmm w' base g v' cs' P r.2.2 ∧ Trn w w' g v v'
structure HsOk (s : List Hd) : Prop where
  h : HdsOk s
  a : ∀ x ∈ s, 0 ≤ x.it.at_ ∧ x.it.at_ ≤ 1000000000
theorem HsOk.sub {s r : List Hd} (h : HsOk s) (hl : r.length ≤ s.length) (hm : ∀ x ∈ r, x ∈ s) : HsOk r := ⟨⟨Nat.le_trans hl h.h.n, fun x hx => h.h.b x (hm x hx)⟩, fun x hx => h.a x (hm x hx)⟩
theorem HsOk.pull {P : Pl.DP} {now : Int} {D : Pl.DS} (h : HsOk D.s) : HsOk (Pl.pullD P now D).2.2.s := by
  have ha := Pl.pullD_all P now D
  have hl := congrArg List.length ha
  rw [List.length_append] at hl
  exact h.sub (by omega) (fun x hx => by rw [← ha]; exact List.mem_append_right _ hx)

theorem Tl.out {w wi wf : World} {base g : Nat} {v vi lo : Value} {csi : Array Value} {P : Pl.DP} {D : Pl.DS} {x : Hd} {lost : List Hd} (h : Tl w wi base g v vi csi P D x lo lost) (xo : Option Hd) (hx : xo.getD Hd.zero = x) (r : Option Hd × List Hd × Pl.DS) (hr : r = (xo, lost, D))
    (hw : wf = ((((((wi.setCell ⟨w.heap.size, 0, none⟩ (.int .i64 x.it.at_)).setCell ⟨w.heap.size, 1, none⟩ (.int .i64 x.it.len)).setCell ⟨w.heap.size, 2, none⟩ (.int .i64 x.it.flow)).setCell ⟨w.heap.size, 3, none⟩ (.int .i64 x.it.band)).setCell ⟨w.heap.size, 4, none⟩ (.int .i64 x.it.mark)).setCell ⟨w.heap.size, 5, none⟩ (.int .i64 x.num))) :
    Blk wf w.heap.size 78 (hdC x) ∧ DTakeOut w base g v P r (.returned (.tuple #[hdV x, lo, .bool xo.isSome])) wf := by
  subst hr hw
  have h6 := h.six x
  obtain ⟨A, c, hlo, _, _, hrd⟩ := h6.o.reads
  refine ⟨h6.k, x, A, c, vi, csi, by rw [hlo], fun y hy => ?_, hrd, fun ad e => ?_, h6.d, h6.t⟩
  · subst hy; exact hx.symm
  · subst hlo
    subst e
    obtain ⟨b, o, sp⟩ := ad
    exact (h6.o.lt b rfl).1
theorem pullD_same (P : Pl.DP) (now : Int) (D : Pl.DS) : (Pl.pullD P now D).2.2.drop = D.drop ∧ (Pl.pullD P now D).2.2.next = D.next ∧ (Pl.pullD P now D).2.2.count = D.count := by
  unfold Pl.pullD
  split
  · exact ⟨rfl, rfl, rfl⟩
  · split
    · exact ⟨rfl, rfl, rfl⟩
    · split <;> exact ⟨rfl, rfl, rfl⟩
end Go.Proofs.YtgdijbaodfghjaaGreatDoor
