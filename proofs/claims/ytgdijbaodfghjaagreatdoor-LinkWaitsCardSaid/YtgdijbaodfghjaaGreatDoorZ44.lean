/-
  Texts of this claim, one behind the other: Delays.
-/
import Derived.Test.YtgdijbaodfghjaaGreatDoorZ23
import Derived.Test.YtgdijbaodfghjaaGreatDoorZ43
/-
  link.Delays, where the packets went in order.
-/
namespace Go.Proofs.YtgdijbaodfghjaaGreatDoor
open Go.RowKit Bkt
set_option linter.unusedVariables false
def delV (l : List It) (s : List Pl.Snt) (k : Nat) (i : Nat) : Int := if i < k then (ixR SntR s i).to_ - (ix l i).at_ else -1
theorem rdSnt_4 {w : World} {B n : Nat} {b off : Nat} {l : List Pl.Snt} (h : RdR SntR w B (some ⟨b, off, none⟩) n l) {k : Nat} (hk : k < n) :
    w.cell? ⟨b, off + k * 4, none⟩ = some (.int .i64 (ixR SntR l k).num) ∧ w.cell? ⟨b, off + k * 4 + 1, none⟩ = some (.int .i64 (ixR SntR l k).from_) ∧ w.cell? ⟨b, off + k * 4 + 2, none⟩ = some (.int .i64 (ixR SntR l k).to_) ∧ w.cell? ⟨b, off + k * 4 + 3, none⟩ = some (.int .i64 (ixR SntR l k).mark) :=
  ⟨h.all hk 0 _ rfl, h.all hk 1 _ rfl, h.all hk 2 _ rfl, h.all hk 3 _ rfl⟩
structure DelR (w wr : World) (n : Nat) (lg : Array Value) (V : Nat → Int) : Prop where
  k : Blk wr w.heap.size 28 lg
  r : RowQ wr (w.heap.size + 1) n V
  b : Below w.heap.size w wr
set_option maxHeartbeats 4000000 in
set_option maxRecDepth 100000 in
theorem delays_w (A : Option Addr) (n c : Nat) (l : List It) (s : List Pl.Snt) (As Al : Option Addr) (cs nl cl : Nat) (wt ms : Int) (w : World) (hr : RdIt w w.heap.size A n l) (hs : RdR SntR w w.heap.size As s.length s) (hn : n ≤ 100) (hsl : s.length ≤ n)
    (hnum : ∀ j, j < s.length → (ixR SntR s j).num = j ∧ 0 ≤ (ixR SntR s j).to_ ∧ (ixR SntR s j).to_ ≤ 1000000000000) (hat : ∀ i, i < n → 0 ≤ (ix l i).at_ ∧ (ix l i).at_ ≤ 1000000000) :
    Calls Tryz.prog 10 #[.slice A n c, .agg #[.slice As s.length cs, .slice Al nl cl, .int .i64 wt, .int .i64 ms]] w fun e w' => ∃ g : Nat, e = .returned (.slice (some ⟨g, 0, none⟩) n n) ∧ Hid (RowQ w' g n (delV l s s.length) ∧ g < w'.heap.size ∧ w.heap.size ≤ g ∧ Below w.heap.size w w') := by
  have hll := hr.len
  have hmk := made_q n (by omega)
  have hst : DelR w ((w.alloc (.cells #[.slice As s.length cs, .slice Al nl cl, .int .i64 wt, .int .i64 ms] 28)).alloc (.cells (madeCells #[.int .i64 0] n) 3)) n #[.slice As s.length cs, .slice Al nl cl, .int .i64 wt, .int .i64 ms] (fun i => if i < 0 then -1 else 0) := by
    refine ⟨(Blk.new w _ _).alloc _, ?_, bl_alloc (bl_alloc (Below.refl _ _))⟩
    have := rowQ_made (w.alloc (.cells #[.slice As s.length cs, .slice Al nl cl, .int .i64 wt, .int .i64 ms] 28)) n
    simp only [World.size_alloc] at this
    exact this.congr (fun i _ => by simp)
  have HST := Lib.hid hst; have HR := Lib.hid hr; have HS := Lib.hid hs; have HNUM := Lib.hid hnum; have HAT := Lib.hid hat; have HLL := Lib.hid hll
  clear hst hr hs hnum hat hll
  go_enter Tryz.func10, Tryz.ntmps10
  go_upto_region 2 with fail
  generalize (w.alloc (.cells #[.slice As s.length cs, .slice Al nl cl, .int .i64 wt, .int .i64 ms] 28)).alloc (.cells (madeCells #[.int .i64 0] n) 3) = w2 at *
  go_wp2_with fail
  go_loopw [14] (fun iv wr => ∃ k : Nat, iv = .int .i64 k ∧ k ≤ n ∧ Hid (DelR w wr n #[.slice As s.length cs, .slice Al nl cl, .int .i64 wt, .int .i64 ms] (fun i => if i < k then -1 else 0))) (fun iv _ => n - (intOf iv).toNat)
  case atStart => exact ⟨0, rfl, Nat.zero_le _, HST.out⟩
  case round =>
    obtain ⟨k, rfl, hk, hd⟩ := hrel
    by_cases hlt : k < n
    · have ik : (k : Int) < (n : Int) := by omega
      have c0 := hd.out.r.cell hlt
      have f0 := hd.out.r.frozen k
      have hfin : DelR w (wr.setCell ⟨w.heap.size + 1, k, none⟩ (.int .i64 (-1))) n #[.slice As s.length cs, .slice Al nl cl, .int .i64 wt, .int .i64 ms] (fun i => if i < k + 1 then -1 else 0) := by
        refine ⟨hd.out.k.far (p := ⟨w.heap.size + 1, k, none⟩) (by show w.heap.size ≠ w.heap.size + 1; omega) _, (hd.out.r.set_ hlt (-1)).congr (fun i hi => ?_), hd.out.b.setCell (p := ⟨w.heap.size + 1, k, none⟩) (by show w.heap.size ≤ w.heap.size + 1; omega) _⟩
        by_cases e : i = k
        · subst e; rw [Pl.updf_same, if_pos (by omega)]
        · rw [Pl.updf_ne _ _ e]
          by_cases e2 : i < k
          · rw [if_pos e2, if_pos (by omega)]
          · rw [if_neg e2, if_neg (by omega)]
      have HFIN := Lib.hid hfin
      clear hfin hd
      go_wp2_with fail
      exact ⟨⟨k + 1, by go_num, by omega, HFIN.out⟩, by simp [intOf]; omega⟩
    · obtain rfl : k = n := by omega
      have hd2 : DelR w wr k #[.slice As s.length cs, .slice Al nl cl, .int .i64 wt, .int .i64 ms] (delV l s 0) := by
        refine ⟨hd.out.k, hd.out.r.congr (fun i hi => ?_), hd.out.b⟩
        unfold delV
        rw [if_pos hi, if_neg (by omega)]
      have HD := Lib.hid hd2
      have z0 := hd2.k.cell 0
      simp at z0
      clear hd hd2 HST
      go_wp2_with fail
      clear z0
      go_loopw [24] (fun iv wx => ∃ j : Nat, iv = .int .i64 j ∧ j ≤ s.length ∧ Hid (DelR w wx k #[.slice As s.length cs, .slice Al nl cl, .int .i64 wt, .int .i64 ms] (delV l s j))) (fun iv _ => s.length - (intOf iv).toNat)
      case atStart => exact ⟨0, rfl, Nat.zero_le _, HD.out⟩
      case round =>
        obtain ⟨j, rfl, hj, hd⟩ := hrel
        by_cases hjs : j < s.length
        · have ij : (j : Int) < (s.length : Int) := by omega
          have hsx := HS.out.over hd.out.b (Nat.le_refl _)
          obtain ⟨bs, os, rfl, hbs⟩ := HS.out.addr hjs
          obtain ⟨s0, s1, s2, s3⟩ := rdSnt_4 hsx hjs
          obtain ⟨e0, t0, t1⟩ := HNUM.out j hjs
          rw [e0] at s0
          have hjn : j < k := by omega
          obtain ⟨b, off, rfl, hbb⟩ := HR.out.addr hjn
          have x0 := ((HR.out.over hd.out.b (Nat.le_refl _)).cells hjn).1
          obtain ⟨a0, a1⟩ := HAT.out j hjn
          have r0 := hd.out.r.cell hjn
          have f0 := hd.out.r.frozen j
          have hlx := hd.out.r.lt
          have hbx := hd.out.b.size
          have hfin : ∀ (W : World), Below wr.heap.size wr W → DelR w (W.setCell ⟨w.heap.size + 1, j, none⟩ (.int .i64 ((ixR SntR s j).to_ - (ix l j).at_))) k #[.slice (some ⟨bs, os, none⟩) s.length cs, .slice Al nl cl, .int .i64 wt, .int .i64 ms] (delV l s (j + 1)) := fun W hW => by
            have hr := hd.out.r.below hW
            refine ⟨(hd.out.k.below hW hd.out.k.lt).far (p := ⟨w.heap.size + 1, j, none⟩) (by show w.heap.size ≠ w.heap.size + 1; omega) _, (hr.set_ hjn _).congr (fun i hi => ?_), (bl_next hd.out.b hW).setCell (p := ⟨w.heap.size + 1, j, none⟩) (by show w.heap.size ≤ w.heap.size + 1; omega) _⟩
            by_cases e : i = j
            · subst e; rw [Pl.updf_same]; unfold delV; rw [if_pos (by omega)]
            · rw [Pl.updf_ne _ _ e]
              unfold delV
              by_cases e2 : i < j
              · rw [if_pos e2, if_pos (by omega)]
              · rw [if_neg e2, if_neg (by omega)]
          have HFIN := Lib.hid hfin
          have i0 : decide ((0 : Int) ≤ (j : Int)) = true := decide_eq_true (by omega)
          have i1 : (j : Int) < (k : Int) := by omega
          clear hfin hd hsx
          generalize (ixR SntR s j).to_ = to_ at *
          generalize (ixR SntR s j).from_ = fr at *
          generalize (ixR SntR s j).mark = mk at *
          generalize (ix l j).at_ = at_ at *
          have ew : IntKind.i64.wrap (to_ - at_) = to_ - at_ := IntWalk.i64_in _ (by omega)
          go_upto_region 10 with fail
          have hz := Blk.new wr 37 #[.int .i64 j, .int .i64 fr, .int .i64 to_, .int .i64 mk]
          have hbz : Below wr.heap.size wr (wr.alloc (.cells #[.int .i64 j, .int .i64 fr, .int .i64 to_, .int .i64 mk] 37)) := bl_alloc (Below.refl _ _)
          have y0 : (wr.alloc (.cells #[.int .i64 j, .int .i64 fr, .int .i64 to_, .int .i64 mk] 37)).cell? ⟨wr.heap.size, 0, none⟩ = some (.int .i64 j) := hz.cell 0
          have y2 : (wr.alloc (.cells #[.int .i64 j, .int .i64 fr, .int .i64 to_, .int .i64 mk] 37)).cell? ⟨wr.heap.size, 2, none⟩ = some (.int .i64 to_) := hz.cell 2
          have x0' := (hbz.cell (p := ⟨b, off + j * 5, none⟩) (show b < wr.heap.size by omega)).trans x0
          have r0' := (hbz.cell (p := ⟨w.heap.size + 1, j, none⟩) hlx).trans r0
          have f0' : (wr.alloc (.cells #[.int .i64 j, .int .i64 fr, .int .i64 to_, .int .i64 mk] 37)).frozen? ⟨w.heap.size + 1, j, none⟩ = false := (World.frozen?_of_block (hbz.block _ hlx)).trans f0
          have HBZ := Lib.hid hbz
          have hne : w.heap.size + 1 ≠ wr.heap.size := by omega
          clear x0 r0 f0 hz hbz s0 s1 s2 s3
          generalize wr.alloc (.cells #[.int .i64 j, .int .i64 fr, .int .i64 to_, .int .i64 mk] 37) = wz at *
          go_upto_region 11 with fail
          go_still_tail 13, (by kernel_rfl)
          change wpList _ _ _ _ _ wz.drew
          go_wp2_with fail
          exact ⟨⟨j + 1, by go_num, by omega, Lib.hid (HFIN.out _ (bl_drew HBZ.out))⟩, by simp [intOf]; omega⟩
        · obtain rfl : j = s.length := by omega
          have hdo := hd.out
          have HD := Lib.hid (⟨hdo.r, hdo.r.lt, by omega, hdo.b⟩ : RowQ wr (w.heap.size + 1) k (delV l s s.length) ∧ w.heap.size + 1 < wr.heap.size ∧ w.heap.size ≤ w.heap.size + 1 ∧ Below w.heap.size w wr)
          clear hdo hd
          go_wp2_with fail
          go_ret
          exact ⟨w.heap.size + 1, rfl, HD.out⟩
end Go.Proofs.YtgdijbaodfghjaaGreatDoor
