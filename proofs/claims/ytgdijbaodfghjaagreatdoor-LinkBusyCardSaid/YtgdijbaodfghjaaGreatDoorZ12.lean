/-
  Texts of this claim, one behind the other: QList.
-/
import Derived.Test.YtgdijbaodfghjaaGreatDoorZ11
import Derived.BigQuiet
import Derived.Deep.CutRange
import Derived.Deep.DeepCutAuto
/-
  What queue.List's First and Next do.
-/
namespace Go.Proofs.YtgdijbaodfghjaaGreatDoor
open Go.RowKit Bkt
set_option linter.unusedVariables false

def PairOut (w : World) (h : Hd) (b : Bool) (e : Ending) (w' : World) : Prop := e = .returned (.tuple #[hdV h, .bool b]) ∧ Below w.heap.size w w'
theorem Lst.below {w w' : World} {base g o : Nat} {t : TypeId} {cs : Array Value} {v : Value} {l : List Hd} {b : Int} (h : Lst w base g o t cs v l b) (hb : Below w.heap.size w w') : Lst w' base g o t cs v l b :=
  ⟨h.blk.below hb h.blk.lt, h.c0, h.c1, h.own.below hb, h.ne⟩
theorem Lst.head {w : World} {base g o : Nat} {t : TypeId} {cs : Array Value} {v : Value} {x : Hd} {r : List Hd} {b : Int} (h : Lst w base g o t cs v (x :: r) b) :
    ∃ gr off c, v = .slice (some ⟨gr, off, none⟩) (r.length + 1) c ∧ r.length + 1 ≤ c ∧ gr < w.heap.size ∧ base ≤ gr ∧ w.cell? ⟨gr, off, none⟩ = some (.int .i64 x.it.at_) ∧ w.cell? ⟨gr, off + 1, none⟩ = some (.int .i64 x.it.len) ∧ w.cell? ⟨gr, off + 2, none⟩ = some (.int .i64 x.it.flow) ∧
      w.cell? ⟨gr, off + 3, none⟩ = some (.int .i64 x.it.band) ∧ w.cell? ⟨gr, off + 4, none⟩ = some (.int .i64 x.it.mark) ∧ w.cell? ⟨gr, off + 5, none⟩ = some (.int .i64 x.num) := by
  obtain ⟨A, c, hv, hnc, _, hr⟩ := h.own.reads
  rw [List.length_cons] at hv hr hnc
  have hR : RdR HdR w w.heap.size A (r.length + 1) (x :: r) := hr
  obtain ⟨gr, off, rfl, hlt⟩ := hR.addr (show 0 < r.length + 1 by omega)
  have ha := hR.all (show 0 < r.length + 1 by omega)
  have hbg := (h.own.lt gr (by rw [hv]; rfl)).1
  refine ⟨gr, off, c, hv, hnc, hlt, hbg, ?_, ?_, ?_, ?_, ?_, ?_⟩
  · have := ha 0 (.int .i64 x.it.at_) rfl; rw [Nat.zero_mul, Nat.zero_add, Nat.add_zero] at this; exact this
  · have := ha 1 (.int .i64 x.it.len) rfl; rw [Nat.zero_mul, Nat.zero_add] at this; exact this
  · have := ha 2 (.int .i64 x.it.flow) rfl; rw [Nat.zero_mul, Nat.zero_add] at this; exact this
  · have := ha 3 (.int .i64 x.it.band) rfl; rw [Nat.zero_mul, Nat.zero_add] at this; exact this
  · have := ha 4 (.int .i64 x.it.mark) rfl; rw [Nat.zero_mul, Nat.zero_add] at this; exact this
  · have := ha 5 (.int .i64 x.num) rfl; rw [Nat.zero_mul, Nat.zero_add] at this; exact this
theorem Lst.none_ {w : World} {base g o : Nat} {t : TypeId} {cs : Array Value} {v : Value} {b : Int} (h : Lst w base g o t cs v [] b) : ∃ A c, v = .slice A 0 c := by
  obtain ⟨A, c, hv, _⟩ := h.own.reads
  exact ⟨A, c, hv⟩

set_option maxHeartbeats 1000000 in
theorem first_none (base g o : Nat) (t : TypeId) (cs : Array Value) (v : Value) (b : Int) (w : World) (h : Lst w base g o t cs v [] b) :
    Calls Tryz.prog 114 #[.pointer (some ⟨g, o, none⟩)] w (PairOut w Hd.zero false) := by
  have hgl := h.blk.lt
  have q0 : w.cell? ⟨g, o, none⟩ = some v := (h.blk.cell o).trans h.c0
  obtain ⟨A, c, rfl⟩ := h.none_
  have hne : w.heap.size ≠ g := by omega
  have hne2 : g ≠ w.heap.size := by omega
  clear h
  go_enter Tryz.func114, Tryz.ntmps114
  go_wp2_with fail
  exact bodyPost_ret (v := .tuple #[hdV Hd.zero, .bool false]) (by simp [results, Tryz.results114, go_sem, hdV, Hd.zero, It.zero]) rfl ⟨rfl, (Below.refl _ _).alloc (Nat.le_refl _) _⟩
set_option maxHeartbeats 1000000 in
theorem first_some (base g o : Nat) (t : TypeId) (cs : Array Value) (v : Value) (x : Hd) (r : List Hd) (b : Int) (w : World) (h : Lst w base g o t cs v (x :: r) b) (hn : r.length ≤ 100000) :
    Calls Tryz.prog 114 #[.pointer (some ⟨g, o, none⟩)] w (PairOut w x true) := by
  have hgl := h.blk.lt
  have q0 : w.cell? ⟨g, o, none⟩ = some v := (h.blk.cell o).trans h.c0
  obtain ⟨gr, off, c, rfl, hc, hgr, _, c0, c1, c2, c3, c4, c5⟩ := h.head
  have hne : w.heap.size ≠ g := by omega
  have hne2 : g ≠ w.heap.size := by omega
  have hne3 : w.heap.size ≠ gr := by omega
  have hne4 : gr ≠ w.heap.size := by omega
  obtain ⟨⟨xa, xl, xf, xb, xm⟩, xn⟩ := x
  dsimp only at c0 c1 c2 c3 c4 c5
  clear h
  go_enter Tryz.func114, Tryz.ntmps114
  go_wp2_with fail
  exact bodyPost_ret (v := .tuple #[hdV ⟨⟨xa, xl, xf, xb, xm⟩, xn⟩, .bool true]) (by simp [results, Tryz.results114, go_sem, hdV]) rfl ⟨rfl, (Below.refl _ _).alloc (Nat.le_refl _) _⟩

theorem blk_six {W : World} {g : Nat} {t : TypeId} {a0 a1 a2 a3 a4 a5 : Value} (h : Blk W g t #[a0, a1, a2, a3, a4, a5]) (u0 u1 u2 u3 u4 u5 : Value) :
    Blk ((((((W.setCell ⟨g, 0, none⟩ u0).setCell ⟨g, 1, none⟩ u1).setCell ⟨g, 2, none⟩ u2).setCell ⟨g, 3, none⟩ u3).setCell ⟨g, 4, none⟩ u4).setCell ⟨g, 5, none⟩ u5) g t #[u0, u1, u2, u3, u4, u5] :=
  (((((h.set_ 0 u0).set_ 1 u1).set_ 2 u2).set_ 3 u3).set_ 4 u4).set_ 5 u5
theorem blk_behind (w1 : World) (g o : Nat) (v : Value) (cs : Array Value) (t : TypeId) : Blk ((w1.setCell ⟨g, o, none⟩ v).alloc (.cells cs t)) w1.heap.size t cs := by
  have := Blk.new (w1.setCell ⟨g, o, none⟩ v) t cs
  rwa [show (w1.setCell ⟨g, o, none⟩ v).heap.size = w1.heap.size from by simp [World.setCell]] at this
def NextOut (w : World) (base g o : Nat) (t : TypeId) (cs : Array Value) (v : Value) (x : Hd) (r : List Hd) (b : Int) (e : Ending) (w' : World) : Prop := e = .returned (.tuple #[hdV x, .bool true]) ∧ ∃ v', LstTo w w' base g o t cs v v' r b
theorem next_fin {w w1 : World} {base g o : Nat} {t : TypeId} {cs : Array Value} {v v' : Value} {x : Hd} {r : List Hd} {b b' : Int} {ob : Obj} (h : Lst w base g o t cs v (x :: r) b) (h0 : Below w.heap.size w w1)
    (hown : OwnW w base 78 HdR.sz v' r.length (r.flatMap HdR.cells)) (hv : v'.ownBlock = v.ownBlock) :
    LstTo w (((w1.setCell ⟨g, o, none⟩ v').alloc ob).setCell ⟨g, o + 1, none⟩ (.int .i64 b')) base g o t cs v v' r b' := by
  have hgl := h.blk.lt
  have hcs1 : o + 1 < cs.size := by
    rcases Nat.lt_or_ge (o + 1) cs.size with h' | h'
    · exact h'
    · have := h.c1; rw [Array.getElem?_eq_none h'] at this; cases this
  have hk1 : Blk w1 g t cs := h.blk.below h0 hgl
  have hn' : v'.ownBlock ≠ some g := hown.blk_ne h.blk (Ne.symm h.ne)
  refine ⟨⟨Blk.set_ (Blk.alloc (Blk.set_ hk1 o v') ob) (o + 1) (.int .i64 b'), (set2_get hcs1).1, (set2_get hcs1).2, ?_, h.ne⟩, ?_, .inl hv⟩
  · have hc : Chg w1 (((w1.setCell ⟨g, o, none⟩ v').alloc ob).setCell ⟨g, o + 1, none⟩ (.int .i64 b')) (fun i => i = g) :=
      Chg.setCell (p := ⟨g, o + 1, none⟩) (Chg.alloc (Chg.setCell (p := ⟨g, o, none⟩) (Chg.refl w1 (fun i => i = g)) (fun _ => rfl) v') ob) (fun _ => rfl) (.int .i64 b')
    exact (hown.below h0).chg hc (fun i hi e => hn' (by rw [hi, e]))
  · have hc1 : Chg w w1 (fun i => i = g ∨ v.ownBlock = some i) := Chg.of_below h0
    exact Chg.setCell (p := ⟨g, o + 1, none⟩) (Chg.alloc (Chg.setCell (p := ⟨g, o, none⟩) hc1 (fun _ => .inl rfl) v') ob) (fun _ => .inl rfl) (.int .i64 b')
theorem LstTo.drew {w w' : World} {base g o : Nat} {t : TypeId} {cs : Array Value} {v v' : Value} {l : List Hd} {b : Int} (h : LstTo w w' base g o t cs v v' l b) : LstTo w w'.drew base g o t cs v v' l b :=
  ⟨⟨Blk.drew h.lst.blk, h.lst.c0, h.lst.c1, h.lst.own, h.lst.ne⟩, h.chg.drew, h.at_⟩
set_option maxHeartbeats 1000000 in
theorem next_none (base g o : Nat) (t : TypeId) (cs : Array Value) (v : Value) (b : Int) (w : World) (h : Lst w base g o t cs v [] b) :
    Calls Tryz.prog 113 #[.pointer (some ⟨g, o, none⟩)] w (PairOut w Hd.zero false) := by
  have hb1 : Below w.heap.size w (w.alloc (.cells #[.int .i64 0, .int .i64 0, .int .i64 0, .int .i64 0, .int .i64 0, .int .i64 0] 78)) := (Below.refl _ _).alloc (Nat.le_refl _) _
  have hf := first_none base g o t cs v b _ (h.below hb1)
  unfold PairOut hdV Hd.zero It.zero at hf
  dsimp only at hf
  have HF := Lib.hid hf; clear hf h
  go_enter Tryz.func113, Tryz.ntmps113
  go_wp2_with fail
  refine (HF.out).mono ?_
  rintro e w1 ⟨rfl, hb2⟩
  have hbw := hb1.trans (hb2.mono hb1.size)
  have hk := (Blk.new w 78 #[.int .i64 0, .int .i64 0, .int .i64 0, .int .i64 0, .int .i64 0, .int .i64 0]).below hb2 (by simp)
  have z0 := hk.cell 0; have z1 := hk.cell 1; have z2 := hk.cell 2; have z3 := hk.cell 3; have z4 := hk.cell 4; have z5 := hk.cell 5
  have f0 := hk.frozen 0; have f1 := hk.frozen 1; have f2 := hk.frozen 2; have f3 := hk.frozen 3; have f4 := hk.frozen 4; have f5 := hk.frozen 5
  have n0 := hk.lt
  have n1 : w.heap.size ≠ w1.heap.size := by omega
  have n2 : w1.heap.size ≠ w.heap.size := by omega
  simp at z0 z1 z2 z3 z4 z5
  have HBW := Lib.hid hbw
  have hkf := ((((((hk.set_ 0 (.int .i64 0)).set_ 1 (.int .i64 0)).set_ 2 (.int .i64 0)).set_ 3 (.int .i64 0)).set_ 4 (.int .i64 0)).set_ 5 (.int .i64 0)).alloc (.cells #[.int .i64 0, .int .i64 0, .int .i64 0, .int .i64 0, .int .i64 0, .int .i64 0] 78)
  have HKF := Lib.hid hkf
  clear hk hb1 hb2 hbw hkf
  go_wp2_with fail
  have r0 := HKF.out.cell 0; have r1 := HKF.out.cell 1; have r2 := HKF.out.cell 2; have r3 := HKF.out.cell 3; have r4 := HKF.out.cell 4; have r5 := HKF.out.cell 5
  simp at r0 r1 r2 r3 r4 r5
  have hb := fun (u : Value) (c : Nat) (W : World) (h : Below w.heap.size w W) => h.setCell (p := ⟨w.heap.size, c, none⟩) (Nat.le_refl _) u
  exact bodyPost_ret (v := .tuple #[hdV Hd.zero, .bool false]) (by simp [results, Tryz.results113, go_sem, hdV, Hd.zero, It.zero, r0, r1, r2, r3, r4, r5]) rfl
    ⟨rfl, bl_alloc (hb _ 5 _ (hb _ 4 _ (hb _ 3 _ (hb _ 2 _ (hb _ 1 _ (hb _ 0 _ HBW.out))))))⟩

theorem LstTo.setNew {w w' : World} {base g o : Nat} {t : TypeId} {cs : Array Value} {v v' : Value} {l : List Hd} {b : Int} (h : LstTo w w' base g o t cs v v' l b) (hg : g < w.heap.size) {p : Addr} (hp : w.heap.size ≤ p.block) (hne : v'.ownBlock ≠ some p.block) (u : Value) :
    LstTo w (w'.setCell p u) base g o t cs v v' l b :=
  ⟨⟨h.lst.blk.far (by omega) u, h.lst.c0, h.lst.c1, h.lst.own.chg (S := fun i => i = p.block) (Chg.setCell (p := p) (Chg.refl w' (fun i => i = p.block)) (fun _ => rfl) u) (fun i hi e => hne (by rw [hi, e])), h.lst.ne⟩, h.chg.setCell (fun hlt => absurd hlt (by omega)) u, h.at_⟩
theorem run_tail1 {P : Program} {t e : TypeId} {i : TypeInfo} {s : Nat} (ht : P.underlying t = some (.slice e)) (hi : P.info? e = some i) (hs : i.size = s) (ad : Addr) (n c : Nat) (hn : n + 1 ≤ maxLen) :
    ∀ w, (Instr.sliceAt t (.slice (some ad) (n + 1) c) (some (.int .i64 1)) none none).run P w = .ok (.slice (some (if c = 1 then ad else ad.add s)) n (c - 1)) w := fun w => by
  have he : P.elem t = e := by simp [Program.elem, ht]
  have ht' : P.underlying t = some (.slice (P.elem t)) := by rw [he]; exact ht
  rw [run_sliceAt_slice w t _ _ _ _ ht', run_slice_l w t (some ad) (n + 1) c ht' .i64 1 (by omega) (by omega), he]
  simp [sizeOf, typeInfo, hi, hs, Result.andThen, sliced]
  split <;> simp_all

set_option maxHeartbeats 2000000 in
set_option maxRecDepth 100000 in
theorem next_some (base g o : Nat) (t : TypeId) (cs : Array Value) (v : Value) (x : Hd) (r : List Hd) (b : Int) (w : World) (h : Lst w base g o t cs v (x :: r) b) (hn : r.length ≤ 1000) (hb0 : 0 ≤ b) (hb1 : b ≤ 1000000000) (hx0 : 0 ≤ x.it.len) (hx1 : x.it.len ≤ 1000000) :
    Calls Tryz.prog 113 #[.pointer (some ⟨g, o, none⟩)] w (NextOut w base g o t cs v x r (b - x.it.len)) := by
  have hgl := h.blk.lt
  have hba : Below w.heap.size w (w.alloc (.cells #[.int .i64 0, .int .i64 0, .int .i64 0, .int .i64 0, .int .i64 0, .int .i64 0] 78)) := (Below.refl _ _).alloc (Nat.le_refl _) _
  have hf := first_some base g o t cs v x r b _ (h.below hba) (by omega)
  obtain ⟨gr, off, c, rfl, hc, hgr, hgb, _⟩ := h.head
  have hown := h.own.tail (by simp)
  obtain ⟨hc1, g', o', e, ht1, ht2⟩ := hown
  injection e with e; injection e with e1 e2 e3
  subst e1 e2
  clear e3
  have ed : ((x :: r).flatMap HdR.cells).drop HdR.sz = r.flatMap HdR.cells := by rw [List.flatMap_cons, ← HdR.len x, List.drop_left]
  rw [ed, Nat.add_sub_cancel] at ht1 ht2
  obtain ⟨i0, hi, hz0, hz1, hz2⟩ := info_parts Tryz.heldInfo
  have hsl := run_tail1 (P := Tryz.prog) (s := 6) Tryz.underlying76 hi hz1 ⟨gr, off, none⟩ r.length c (by unfold maxLen; omega)
  obtain ⟨A', hA', hown'⟩ : ∃ A', A' = (if c = 1 then (⟨gr, off, none⟩ : Addr) else (⟨gr, off, none⟩ : Addr).add 6) ∧ OwnW w base 78 HdR.sz (.slice (some A') r.length (c - 1)) r.length (r.flatMap HdR.cells) ∧ A'.block = gr := by
    refine ⟨_, rfl, ?_, ?_⟩
    · split
      · rename_i e; exact ht1 e
      · exact ht2
    · split
      · rfl
      · rfl
  rw [← hA'] at hsl
  clear hA' ht1 ht2 ed hz0 hz1 hz2 hi
  have hfin := fun w1 ob (hb : Below w.heap.size w w1) b' => next_fin (ob := ob) (b' := b') h hb (v' := .slice (some A') r.length (c - 1)) hown'.1 (by simp [Value.ownBlock, hown'.2])
  have hl := h.blk
  have hc0 := h.c0; have hcc1 := h.c1
  have HC1 := Lib.hid hcc1
  have HFI2 := Lib.hid hfin; have HBL := Lib.hid hl
  have hbg : A'.block ≠ w.heap.size := by rw [hown'.2]; omega
  have HBG := Lib.hid hbg
  have q0 := fun w1 (hb : Below w.heap.size w w1) => ((hl.below hb hgl).cell o).trans hc0
  have q1 := fun w1 (hb : Below w.heap.size w w1) => ((hl.below hb hgl).cell (o + 1)).trans hcc1
  have q2 := fun w1 (hb : Below w.heap.size w w1) => (hl.below hb hgl).frozen
  have Q0 := Lib.hid q0; have Q1 := Lib.hid q1; have Q2 := Lib.hid q2; have HBA := Lib.hid hba
  have hab : A'.block = gr := hown'.2
  have HAB := Lib.hid hab
  obtain ⟨⟨xa, xl, xf, xb, xm⟩, xn⟩ := x
  unfold PairOut hdV at hf
  dsimp only at hf hx0 hx1 HFI2 ⊢
  have HF := Lib.hid hf
  clear hf h hl hc0 hcc1 q0 q1 q2 hba hfin hown' hbg hab
  go_enter Tryz.func113, Tryz.ntmps113
  go_wp2_with fail
  refine (HF.out).mono ?_
  rintro e w1 ⟨rfl, hb2⟩
  have hbw := HBA.out.trans (hb2.mono HBA.out.size)
  have hk := (Blk.new w 78 #[.int .i64 0, .int .i64 0, .int .i64 0, .int .i64 0, .int .i64 0, .int .i64 0]).below hb2 (by simp)
  have q0 := Q0.out _ hbw; have q1 := Q1.out _ hbw; have q2 := Q2.out _ hbw o; have q3 := Q2.out _ hbw (o + 1)
  have n0 := hk.lt
  have n1 : w.heap.size ≠ w1.heap.size := by omega
  have n2 : w1.heap.size ≠ w.heap.size := by omega
  have n3 : g ≠ w1.heap.size := by omega
  have n4 : w1.heap.size ≠ g := by omega
  have n5 : g ≠ w.heap.size := by omega
  have n6 : w.heap.size ≠ g := by omega
  have n7 : g < w1.heap.size := by omega
  have HK := Lib.hid hk; have HBW := Lib.hid hbw
  clear hk hb2 hbw
  go_upto_region 4 with fail
  have hL : ∀ b', LstTo w (((w1.setCell ⟨g, o, none⟩ (.slice (some A') r.length (c - 1))).alloc (.cells #[.int .i64 xa, .int .i64 xl, .int .i64 xf, .int .i64 xb, .int .i64 xm, .int .i64 xn] 78)).setCell ⟨g, o + 1, none⟩ (.int .i64 b')) base g o t cs (.slice (some ⟨gr, off, none⟩) (r.length + 1) c) (.slice (some A') r.length (c - 1)) r b' := fun b' => HFI2.out w1 (.cells #[.int .i64 xa, .int .i64 xl, .int .i64 xf, .int .i64 xb, .int .i64 xm, .int .i64 xn] 78) HBW.out b'
  have hg1 : Blk ((w1.setCell ⟨g, o, none⟩ (.slice (some A') r.length (c - 1))).alloc (.cells #[.int .i64 xa, .int .i64 xl, .int .i64 xf, .int .i64 xb, .int .i64 xm, .int .i64 xn] 78)) g t (cs.setIfInBounds o (.slice (some A') r.length (c - 1))) := Blk.alloc (Blk.set_ (HBL.out.below HBW.out hgl) o _) _
  have y1 : ((w1.setCell ⟨g, o, none⟩ (.slice (some A') r.length (c - 1))).alloc (.cells #[.int .i64 xa, .int .i64 xl, .int .i64 xf, .int .i64 xb, .int .i64 xm, .int .i64 xn] 78)).cell? ⟨g, o + 1, none⟩ = some (.int .i64 b) := (hg1.cell (o + 1)).trans (by rw [Array.getElem?_setIfInBounds, if_neg (by omega)]; exact HC1.out)
  have y2 : ((w1.setCell ⟨g, o, none⟩ (.slice (some A') r.length (c - 1))).alloc (.cells #[.int .i64 xa, .int .i64 xl, .int .i64 xf, .int .i64 xb, .int .i64 xm, .int .i64 xn] 78)).frozen? ⟨g, o + 1, none⟩ = false := hg1.frozen (o + 1)
  have hx1' : Blk ((w1.setCell ⟨g, o, none⟩ (.slice (some A') r.length (c - 1))).alloc (.cells #[.int .i64 xa, .int .i64 xl, .int .i64 xf, .int .i64 xb, .int .i64 xm, .int .i64 xn] 78)) w1.heap.size 78 #[.int .i64 xa, .int .i64 xl, .int .i64 xf, .int .i64 xb, .int .i64 xm, .int .i64 xn] := blk_behind w1 g o _ _ _
  have hz : Blk ((w1.setCell ⟨g, o, none⟩ (.slice (some A') r.length (c - 1))).alloc (.cells #[.int .i64 xa, .int .i64 xl, .int .i64 xf, .int .i64 xb, .int .i64 xm, .int .i64 xn] 78)) w.heap.size 78 #[.int .i64 0, .int .i64 0, .int .i64 0, .int .i64 0, .int .i64 0, .int .i64 0] := Blk.alloc (Blk.far HK.out (p := ⟨g, o, none⟩) n6 _) _
  clear q0 q1 q2 q3
  generalize ((w1.setCell ⟨g, o, none⟩ (.slice (some A') r.length (c - 1))).alloc (.cells #[.int .i64 xa, .int .i64 xl, .int .i64 xf, .int .i64 xb, .int .i64 xm, .int .i64 xn] 78)) = W2 at *
  have y3 : W2.cell? ⟨w1.heap.size, 0, none⟩ = some (.int .i64 xa) := hx1'.cell 0
  have y4 : W2.cell? ⟨w1.heap.size, 1, none⟩ = some (.int .i64 xl) := hx1'.cell 1
  have y5 : W2.cell? ⟨w1.heap.size, 2, none⟩ = some (.int .i64 xf) := hx1'.cell 2
  have y6 : W2.cell? ⟨w1.heap.size, 3, none⟩ = some (.int .i64 xb) := hx1'.cell 3
  have y7 : W2.cell? ⟨w1.heap.size, 4, none⟩ = some (.int .i64 xm) := hx1'.cell 4
  have y8 : W2.cell? ⟨w1.heap.size, 5, none⟩ = some (.int .i64 xn) := hx1'.cell 5
  have z0 : W2.cell? ⟨w.heap.size, 0, none⟩ = some (.int .i64 0) := hz.cell 0
  have z1 : W2.cell? ⟨w.heap.size, 1, none⟩ = some (.int .i64 0) := hz.cell 1
  have z2 : W2.cell? ⟨w.heap.size, 2, none⟩ = some (.int .i64 0) := hz.cell 2
  have z3 : W2.cell? ⟨w.heap.size, 3, none⟩ = some (.int .i64 0) := hz.cell 3
  have z4 : W2.cell? ⟨w.heap.size, 4, none⟩ = some (.int .i64 0) := hz.cell 4
  have z5 : W2.cell? ⟨w.heap.size, 5, none⟩ = some (.int .i64 0) := hz.cell 5
  have f0 := hz.frozen 0; have f1 := hz.frozen 1; have f2 := hz.frozen 2; have f3 := hz.frozen 3; have f4 := hz.frozen 4; have f5 := hz.frozen 5
  have HLL := Lib.hid hL
  have e1 : IntKind.i64.wrap (b - xl) = b - xl := IntWalk.i64_in _ (by omega)
  clear hL hg1 hx1' hz
  go_still_tail 10, (by kernel_rfl)
  change wpList _ _ _ _ _ W2.drew
  go_wp2_with fail
  have hb := fun (u : Value) (k : Nat) (W : World) (h : LstTo w W base g o t cs (.slice (some ⟨gr, off, none⟩) (r.length + 1) c) (.slice (some A') r.length (c - 1)) r (b - xl)) => h.setNew hgl (p := ⟨w.heap.size, k, none⟩) (Nat.le_refl _) (by simp [Value.ownBlock]; exact HBG.out) u
  exact bodyPost_ret (v := .tuple #[hdV ⟨⟨xa, xl, xf, xb, xm⟩, xn⟩, .bool true]) (by first | (simp [results, Tryz.results113, go_sem, hdV, z0, z1, z2, z3, z4, z5]; done) | simp [results, Tryz.results113, go_sem, hdV, z0, z1, z2, z3, z4, z5, n5]) rfl
    ⟨rfl, _, LstTo.drew (hb _ 5 _ (hb _ 4 _ (hb _ 3 _ (hb _ 2 _ (hb _ 1 _ (hb _ 0 _ (HLL.out _)))))))⟩
end Go.Proofs.YtgdijbaodfghjaaGreatDoor
