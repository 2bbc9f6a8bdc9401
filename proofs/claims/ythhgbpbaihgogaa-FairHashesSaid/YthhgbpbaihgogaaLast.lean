/-
  What queue.List's Last does.
-/
import Derived.Test.YthhgbpbaihgogaaQList
import Derived.Test.YthhgbpbaihgogaaFifo
import Derived.Test.YthhgbpbaihgogaaCodPull
namespace Go.Proofs.Ythhgbpbaihgogaa
open Go.RowKit Bkt
set_option linter.unusedVariables false

/-- 's[:k:k]' under one name -/
theorem run_init1 {P : Program} {t e : TypeId} {i : TypeInfo} {s : Nat} (ht : P.underlying t = some (.slice e)) (hi : P.info? e = some i) (hs : i.size = s) (g off n c k : Nat) (hk : k ≤ c) :
    ∀ w, (Instr.sliceAt t (.slice (some ⟨g, off, none⟩) n c) none (some (.int .i64 (k : Int))) (some (.int .i64 (k : Int)))).run P w = .ok (.slice (some ⟨g, off, none⟩) k k) w := fun w => by
  have he : P.elem t = e := by simp [Program.elem, ht]
  have ht' : P.underlying t = some (.slice (P.elem t)) := by rw [he]; exact ht
  rw [run_sliceAt_slice w t _ _ _ _ ht', run_slice_hm w t (some ⟨g, off, none⟩) n c ht' .i64 .i64 (k : Int) (k : Int) (by omega) (Int.le_refl _) (by omega), he]
  simp [sizeOf, typeInfo, hi, hs, Result.andThen, sliced]
  intro _
  simp [Addr.add]
/-- the last one's cells -/
theorem Lst.last {w : World} {base g o : Nat} {t : TypeId} {cs : Array Value} {v : Value} {x : Hd} {l : List Hd} {b : Int} (h : Lst w base g o t cs v (l ++ [x]) b) :
    ∃ gr off c, v = .slice (some ⟨gr, off, none⟩) (l.length + 1) c ∧ l.length + 1 ≤ c ∧ gr < w.heap.size ∧ base ≤ gr ∧ w.cell? ⟨gr, off + l.length * 6, none⟩ = some (.int .i64 x.it.at_) ∧ w.cell? ⟨gr, off + l.length * 6 + 1, none⟩ = some (.int .i64 x.it.len) ∧ w.cell? ⟨gr, off + l.length * 6 + 2, none⟩ = some (.int .i64 x.it.flow) ∧
      w.cell? ⟨gr, off + l.length * 6 + 3, none⟩ = some (.int .i64 x.it.band) ∧ w.cell? ⟨gr, off + l.length * 6 + 4, none⟩ = some (.int .i64 x.it.mark) ∧ w.cell? ⟨gr, off + l.length * 6 + 5, none⟩ = some (.int .i64 x.num) := by
  obtain ⟨A, c, hv, hnc, _, hr⟩ := h.own.reads
  rw [List.length_append, List.length_singleton] at hv hr hnc
  have hR : RdR HdR w w.heap.size A (l.length + 1) (l ++ [x]) := hr
  obtain ⟨gr, off, rfl, hlt⟩ := hR.addr (show 0 < l.length + 1 by omega)
  have ha := hR.all (show l.length < l.length + 1 by omega)
  have hbg := (h.own.lt gr (by rw [hv]; rfl)).1
  have hx : ixR HdR (l ++ [x]) l.length = x := by simp [ixR, List.getD]
  rw [hx] at ha
  refine ⟨gr, off, c, hv, hnc, hlt, hbg, ?_, ?_, ?_, ?_, ?_, ?_⟩
  · exact ha 0 _ rfl
  · exact ha 1 _ rfl
  · exact ha 2 _ rfl
  · exact ha 3 _ rfl
  · exact ha 4 _ rfl
  · exact ha 5 _ rfl
theorem last_fin {w w1 : World} {base g o : Nat} {t : TypeId} {cs : Array Value} {v v' : Value} {l l' : List Hd} {b b' : Int} (h : Lst w base g o t cs v l' b) (h0 : Below w.heap.size w w1)
    (hown : OwnW w base 54 HdR.sz v' l.length (l.flatMap HdR.cells)) (hv : v'.ownBlock = v.ownBlock) :
    LstTo w (((w1.setCell ⟨g, o, none⟩ v').setCell ⟨g, o + 1, none⟩ (.int .i64 b')).drew) base g o t cs v v' l b' := by
  have hgl := h.blk.lt
  have hcs1 : o + 1 < cs.size := by
    rcases Nat.lt_or_ge (o + 1) cs.size with h' | h'
    · exact h'
    · have := h.c1; rw [Array.getElem?_eq_none h'] at this; cases this
  have hk1 : Blk w1 g t cs := h.blk.below h0 hgl
  have hn' : v'.ownBlock ≠ some g := hown.blk_ne h.blk (Ne.symm h.ne)
  refine ⟨⟨Blk.drew (Blk.set_ (Blk.set_ hk1 o v') (o + 1) (.int .i64 b')), (set2_get hcs1).1, (set2_get hcs1).2, ?_, h.ne⟩, ?_, .inl hv⟩
  · have hc : Chg w1 (((w1.setCell ⟨g, o, none⟩ v').setCell ⟨g, o + 1, none⟩ (.int .i64 b')).drew) (fun i => i = g) :=
      Chg.drew (Chg.setCell (p := ⟨g, o + 1, none⟩) (Chg.setCell (p := ⟨g, o, none⟩) (Chg.refl w1 (fun i => i = g)) (fun _ => rfl) v') (fun _ => rfl) (.int .i64 b'))
    exact (hown.below h0).chg hc (fun i hi e => hn' (by rw [hi, e]))
  · have hc1 : Chg w w1 (fun i => i = g ∨ v.ownBlock = some i) := Chg.of_below h0
    exact Chg.drew (Chg.setCell (p := ⟨g, o + 1, none⟩) (Chg.setCell (p := ⟨g, o, none⟩) hc1 (fun _ => .inl rfl) v') (fun _ => .inl rfl) (.int .i64 b'))
def LastOut (w : World) (base g o : Nat) (t : TypeId) (cs : Array Value) (v : Value) (x : Hd) (l : List Hd) (b : Int) (e : Ending) (w' : World) : Prop := e = .returned (.tuple #[hdV x, .bool true]) ∧ ∃ v', LstTo w w' base g o t cs v v' l b
set_option maxHeartbeats 4000000 in
set_option maxRecDepth 100000 in
theorem last_some (base g o : Nat) (t : TypeId) (cs : Array Value) (v : Value) (x : Hd) (l : List Hd) (b : Int) (w : World) (h : Lst w base g o t cs v (l ++ [x]) b) (hn : l.length ≤ 1000) (hb0 : 0 ≤ b) (hb1 : b ≤ 1000000000) (hx0 : 0 ≤ x.it.len) (hx1 : x.it.len ≤ 1000000) :
    Calls Try.prog 82 #[.pointer (some ⟨g, o, none⟩)] w (LastOut w base g o t cs v x l (b - x.it.len)) := by
  have hgl := h.blk.lt
  have hba : Below w.heap.size w (w.alloc (.cells #[.int .i64 0, .int .i64 0, .int .i64 0, .int .i64 0, .int .i64 0, .int .i64 0] 54)) := (Below.refl _ _).alloc (Nat.le_refl _) _
  obtain ⟨gr, off, c, rfl, hc, hgr, hgb, c0, c1, c2, c3, c4, c5⟩ := h.last
  have hown := OwnW.init (k := l.length) (by have := h.own; rw [List.length_append, List.length_singleton] at this; exact this) (by omega) (by omega)
  have ed : ((l ++ [x]).flatMap HdR.cells).take (l.length * HdR.sz) = l.flatMap HdR.cells := by
    rw [List.flatMap_append]
    have hl : (l.flatMap HdR.cells).length = l.length * HdR.sz := flatR_len (R := HdR) l
    rw [← hl, List.take_left]
  rw [ed] at hown
  obtain ⟨i0, hi, hz0, hz1, hz2⟩ := info_parts Try.heldInfo
  have hsl := run_init1 (P := Try.prog) (s := 6) Try.underlying51 hi hz1 gr off (l.length + 1) c l.length (by omega)
  have HO := Lib.hid hown; have H := Lib.hid h; have HBA := Lib.hid hba
  have q0 := (hba.cell (p := ⟨g, o, none⟩) hgl).trans ((h.blk.cell o).trans h.c0)
  have hz := Blk.new w 54 #[.int .i64 0, .int .i64 0, .int .i64 0, .int .i64 0, .int .i64 0, .int .i64 0]
  have HZ := Lib.hid hz
  obtain ⟨⟨xa, xl, xf, xb, xm⟩, xn⟩ := x
  dsimp only at c0 c1 c2 c3 c4 c5 hx0 hx1 ⊢
  have d0 := (hba.cell (p := ⟨gr, off + l.length * 6, none⟩) hgr).trans c0
  have d1 := (hba.cell (p := ⟨gr, off + l.length * 6 + 1, none⟩) hgr).trans c1
  have d2 := (hba.cell (p := ⟨gr, off + l.length * 6 + 2, none⟩) hgr).trans c2
  have d3 := (hba.cell (p := ⟨gr, off + l.length * 6 + 3, none⟩) hgr).trans c3
  have d4 := (hba.cell (p := ⟨gr, off + l.length * 6 + 4, none⟩) hgr).trans c4
  have d5 := (hba.cell (p := ⟨gr, off + l.length * 6 + 5, none⟩) hgr).trans c5
  have n1 : w.heap.size ≠ g := by omega
  have n2 : g ≠ w.heap.size := by omega
  have n3 : w.heap.size ≠ gr := by omega
  have e0 : (((l.length : Int) + 1) == 0) = false := by simp; omega
  have e1 : IntKind.i64.wrap (l.length : Int) = (l.length : Int) := IntWalk.i64_in _ (by omega)
  clear h hown hba hz ed hi hz0 hz1 hz2 c0 c1 c2 c3 c4 c5
  have hln : l.length = l.length := rfl
  obtain ⟨n, hnl⟩ : ∃ n, n = l.length := ⟨_, rfl⟩
  rw [← hnl] at hsl hn e0 e1 q0 d0 d1 d2 d3 d4 d5 ⊢
  have HNL := Lib.hid hnl
  clear hnl hln
  go_enter Try.func82, Try.ntmps82
  go_upto_region 4 with fail
  have hs0 : w.heap.size < (w.alloc (.cells #[.int .i64 0, .int .i64 0, .int .i64 0, .int .i64 0, .int .i64 0, .int .i64 0] 54)).heap.size := by simp
  generalize w.alloc (.cells #[.int .i64 0, .int .i64 0, .int .i64 0, .int .i64 0, .int .i64 0, .int .i64 0] 54) = W0 at *
  have in1 : (n : Int) < (n : Int) + 1 := by omega
  go_upto_region 5 with fail
  have hx := Blk.new W0 54 #[.int .i64 xa, .int .i64 xl, .int .i64 xf, .int .i64 xb, .int .i64 xm, .int .i64 xn]
  have hb2 := HBA.out.alloc HBA.out.size (.cells #[.int .i64 xa, .int .i64 xl, .int .i64 xf, .int .i64 xb, .int .i64 xm, .int .i64 xn] 54)
  have hz2 := HZ.out.alloc (.cells #[.int .i64 xa, .int .i64 xl, .int .i64 xf, .int .i64 xb, .int .i64 xm, .int .i64 xn] 54)
  have HX := Lib.hid hx; have HB2 := Lib.hid hb2; have HZ2 := Lib.hid hz2
  have hkx : W0.heap.size ≠ g := by omega
  have hkw : W0.heap.size ≠ w.heap.size := by omega
  clear hx hb2 hz2 d0 d1 d2 d3 d4 d5 q0 HZ HBA
  generalize W0.heap.size = kx at *
  generalize W0.alloc (.cells #[.int .i64 xa, .int .i64 xl, .int .i64 xf, .int .i64 xb, .int .i64 xm, .int .i64 xn] 54) = w1 at *
  have q0 := (HB2.out.cell (p := ⟨g, o, none⟩) hgl).trans ((H.out.blk.cell o).trans H.out.c0)
  rw [← HNL.out] at q0
  have x0 := (H.out.blk.below HB2.out hgl).frozen o
  go_upto_region 6 with fail
  clear q0 x0
  have hk6 : Blk (w1.setCell ⟨g, o, none⟩ (.slice (some ⟨gr, off, none⟩) n n)) g t (cs.setIfInBounds o (.slice (some ⟨gr, off, none⟩) n n)) := Blk.set_ (H.out.blk.below HB2.out hgl) o _
  have y1 : (w1.setCell ⟨g, o, none⟩ (.slice (some ⟨gr, off, none⟩) n n)).cell? ⟨g, o + 1, none⟩ = some (.int .i64 b) := (hk6.cell (o + 1)).trans (by rw [Array.getElem?_setIfInBounds, if_neg (by omega)]; exact H.out.c1)
  have y2 := hk6.frozen (o + 1)
  have hx6 := HX.out.far (p := ⟨g, o, none⟩) hkx (.slice (some ⟨gr, off, none⟩) n n)
  have hz6 := HZ2.out.far (p := ⟨g, o, none⟩) n1 (.slice (some ⟨gr, off, none⟩) n n)
  have hfin := fun b' => last_fin (b' := b') H.out HB2.out (v' := .slice (some ⟨gr, off, none⟩) n n) (l := l) (by rw [HNL.out]; exact HO.out) (by rfl)
  have HFIN := Lib.hid hfin; have HX6 := Lib.hid hx6; have HZ6 := Lib.hid hz6
  obtain ⟨p0, p1, p2, p3, p4, p5, _, _, _, _, _, _⟩ := blk6 hx6
  have e2 : IntKind.i64.wrap (b - xl) = b - xl := IntWalk.i64_in _ (by omega)
  clear hk6 hx6 hz6 hfin
  generalize w1.setCell ⟨g, o, none⟩ (.slice (some ⟨gr, off, none⟩) n n) = w2 at *
  go_still_tail 10, (by kernel_rfl)
  change wpList _ _ _ _ _ w2.drew
  go_upto_region 7 with fail
  clear y1 y2 p0 p1 p2 p3 p4 p5 e2
  have hx7 := (HX6.out.far (p := ⟨g, o + 1, none⟩) hkx (.int .i64 (b - xl))).drew
  have hz7 := (HZ6.out.far (p := ⟨g, o + 1, none⟩) n1 (.int .i64 (b - xl))).drew
  have h7 := HFIN.out (b - xl)
  have H7 := Lib.hid h7
  obtain ⟨p0, p1, p2, p3, p4, p5, _, _, _, _, _, _⟩ := blk6 hx7
  obtain ⟨t0, t1, t2, t3, t4, t5, s0, s1, s2, s3, s4, s5⟩ := blk6 hz7
  have hkf := blk_six hz7 (.int .i64 xa) (.int .i64 xl) (.int .i64 xf) (.int .i64 xb) (.int .i64 xm) (.int .i64 xn)
  have HKF := Lib.hid hkf
  clear hx7 hz7 h7 hkf
  generalize (w2.setCell ⟨g, o + 1, none⟩ (.int .i64 (b - xl))).drew = w3 at *
  go_wp2_with fail
  have r0 := HKF.out.cell 0; have r1 := HKF.out.cell 1; have r2 := HKF.out.cell 2; have r3 := HKF.out.cell 3; have r4 := HKF.out.cell 4; have r5 := HKF.out.cell 5
  simp at r0 r1 r2 r3 r4 r5
  have hnew := fun (W : World) (k : Nat) (u : Value) (hl : LstTo w W base g o t cs (.slice (some ⟨gr, off, none⟩) (n + 1) c) (.slice (some ⟨gr, off, none⟩) n n) l (b - xl)) => hl.setNew hgl (p := ⟨w.heap.size, k, none⟩) (Nat.le_refl _) (by simp [Value.ownBlock]; omega) u
  exact bodyPost_ret (v := .tuple #[hdV ⟨⟨xa, xl, xf, xb, xm⟩, xn⟩, .bool true]) (by simp [results, Try.results82, go_sem, hdV, r0, r1, r2, r3, r4, r5]) rfl
    ⟨rfl, _, hnew _ 5 _ (hnew _ 4 _ (hnew _ 3 _ (hnew _ 2 _ (hnew _ 1 _ (hnew _ 0 _ (by rw [HNL.out] at *; exact H7.out))))))⟩
end Go.Proofs.Ythhgbpbaihgogaa
