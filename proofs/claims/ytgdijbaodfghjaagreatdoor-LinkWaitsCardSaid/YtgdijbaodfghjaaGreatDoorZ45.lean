/-
  Texts of this claim, one behind the other: LinkWaitsWalk.
-/
import Derived.Test.YtgdijbaodfghjaaGreatDoorZ42
import Derived.Test.YtgdijbaodfghjaaGreatDoorZ44
import Derived.Test.YtgdijbaodfghjaaGreatDoorZ23
import Derived.Test.YtgdijbaodfghjaaGreatDoorZ41
/-
  LinkWaits: the whole walk. (printed by gen_waits.py)
-/
namespace Go.Proofs.YtgdijbaodfghjaaGreatDoor
open Go.RowKit Bkt
set_option linter.unusedVariables false
def fifoText : List UInt8 := [102, 105, 102, 111, 32, 49, 48, 48, 48, 32, 49, 48, 48, 48, 48, 48, 48]
theorem fifo_parse : parseW [] fifoText = some (fifoPk Pl.wtP) := by kernel_rfl
namespace Pl
theorem takes_bd {rb rt n : Int} (hs : SpeedOk rb rt) (h0 : 1 ≤ n) (h1 : n ≤ 10000) : 1 ≤ takes rb rt n ∧ takes rb rt n ≤ 10001000000 := by
  refine ⟨takes_pos hs h0, ?_⟩
  obtain ⟨⟨a1, a2⟩, b1, b2⟩ := hs
  have h2 : n * rt ≤ 10000 * 1000000 := Int.mul_le_mul h1 b2 (by omega) (by omega)
  have h3 : 0 ≤ n * rt := Int.mul_nonneg (by omega) (by omega)
  unfold takes
  have := Int.ediv_le_self rb (a := n * rt + rb - 1) (by omega)
  omega
theorem freeI_bd {l : List It} {rb rt : Int} (hs : SpeedOk rb rt) (hf : ListFine l) : ∀ i, i ≤ l.length → 0 ≤ freeI l rb rt i ∧ freeI l rb rt i ≤ 1000000000 + 10001000000 * (i : Int)
  | 0, _ => by simp [freeI]
  | i + 1, h => by
    have h1 := freeI_bd hs hf i (by omega)
    have h2 := hf.2.1 i (by omega)
    have h3 := takes_bd hs h2.f1.1 h2.f1.2
    have h4 := h2.f0
    rw [freeI_succ]
    unfold fromI
    omega
theorem sentL_ix (l : List It) (rb rt : Int) {m i : Nat} (h : i < m) : ixR SntR (sentL l rb rt m) i = ⟨i, fromI l rb rt i, freeI l rb rt (i + 1), (ix l i).mark⟩ := by
  unfold ixR
  rw [List.getD, sentL_get l rb rt h]
  rfl
end Pl
set_option maxHeartbeats 1000000 in
set_option maxRecDepth 100000 in
theorem linkWaits_many (rb rt : Int) (A : Option Addr) (n c : Nat) (W : World) (h : 60 < n) :
    Calls Tryz.prog 3 #[.agg #[.int .i64 rb, .int .i64 rt], .slice A n c] W fun e w' => e = .returned (.bool true) ∧ Below W.heap.size W w' := by
  have i1 : decide ((60 : Int) < (n : Int)) = true := decide_eq_true (by omega)
  go_enter Tryz.func3, Tryz.ntmps3
  go_wp2_with fail
  go_ret
  exact ⟨rfl, bl_alloc (Below.refl _ _)⟩
set_option maxHeartbeats 2000000 in
set_option maxRecDepth 100000 in
theorem linkWaits_no (rb rt : Int) (A : Option Addr) (n c : Nat) (l : List It) (W : World) (hv : Pv W) (hr : RdIt W W.heap.size A n l) (h : n ≤ 60) (hbad : ¬ SpeedOk rb rt ∨ ¬ ListFine l) :
    Calls Tryz.prog 3 #[.agg #[.int .i64 rb, .int .i64 rt], .slice A n c] W fun e w' => e = .returned (.bool true) ∧ Below W.heap.size W w' := by
  have hb0 : Below W.heap.size W (W.alloc (.cells #[.int .i64 rb, .int .i64 rt] 23)) := bl_alloc (Below.refl _ _)
  have hrn := run_w_bad (P := fifoPk Pl.wtP) fifoText (by decide) rb rt 10000000 A n c l _ (hv.below hb0 hv.sz) (hr.over hb0 (Nat.le_refl _)) fifo_parse (.inl hbad)
  have HLK := Lib.hid (fun W' (hb : Below W.heap.size W W') => linked_yes W' (hv.below hb hv.sz).h)
  have HPL := Lib.hid (fun W' (hb : Below W.heap.size W W') => planted_yes W' (hv.below hb hv.sz))
  have HRN : Hid (Calls Tryz.prog 7 #[.string ⟨#[102, 105, 102, 111, 32, 49, 48, 48, 48, 32, 49, 48, 48, 48, 48, 48, 48]⟩, .agg #[.int .i64 rb, .int .i64 rt], .slice A n c, .int .i64 10000000] (W.alloc (.cells #[.int .i64 rb, .int .i64 rt] 23)) (RunWNo (W.alloc (.cells #[.int .i64 rb, .int .i64 rt] 23)))) := Lib.hid hrn
  have HB0 := Lib.hid hb0
  have i1 : decide ((60 : Int) < (n : Int)) = false := decide_eq_false (by omega)
  clear hb0 hrn hv hr hbad
  go_enter Tryz.func3, Tryz.ntmps3
  go_wp2_with fail
  (with_reducible refine HRN.out.mono ?_)
  rintro e w1 ⟨rfl, hb1⟩
  have HB1 := Lib.hid (bl_next HB0.out hb1)
  clear hb1
  unfold logN
  go_wp2_with fail
  (with_reducible refine (HLK.out _ (bl_alloc HB1.out)).mono ?_)
  rintro e w2 ⟨rfl, hb2⟩
  have HB2 := Lib.hid (bl_next (bl_alloc HB1.out) hb2)
  clear hb2
  go_wp2_with fail
  (with_reducible refine (HPL.out _ HB2.out).mono ?_)
  rintro e w3 ⟨rfl, hb3⟩
  have HB3 := Lib.hid (bl_next HB2.out hb3)
  clear hb3
  go_wp2_with fail
  (with_reducible refine (HLK.out _ HB3.out).mono ?_)
  rintro e w4 ⟨rfl, hb4⟩
  have HB4 := Lib.hid (bl_next HB3.out hb4)
  clear hb4
  go_wp2_with fail
  (with_reducible refine (HPL.out _ HB4.out).mono ?_)
  rintro e w5 ⟨rfl, hb5⟩
  have HB5 := Lib.hid (bl_next HB4.out hb5)
  clear hb5
  go_wp2_with fail
  go_ret
  exact ⟨rfl, HB5.out⟩
structure WsR (W wr : World) (rb rt : Int) (A : Option Addr) (n : Nat) (l : List It) (gz gd : Nat) (lg : Array Value) (As : Option Addr) (m : Nat) : Prop where
  rk : Blk wr W.heap.size 23 #[.int .i64 rb, .int .i64 rt]
  it : RdIt wr wr.heap.size A n l
  zk : Blk wr gz 28 lg
  sn : RdR SntR wr wr.heap.size As m (Pl.sentL l rb rt m)
  d : RowQ wr gd n (delV l (Pl.sentL l rb rt m) m)
  b : Below W.heap.size W wr
theorem WsR.below {W w w' : World} {rb rt : Int} {A : Option Addr} {n : Nat} {l : List It} {gz gd : Nat} {lg : Array Value} {As : Option Addr} {m : Nat} (h : WsR W w rb rt A n l gz gd lg As m) (hb : Below w.heap.size w w') : WsR W w' rb rt A n l gz gd lg As m :=
  ⟨h.rk.below hb h.rk.lt, h.it.over hb (Nat.le_refl _), h.zk.below hb h.zk.lt, h.sn.over hb (Nat.le_refl _), h.d.below hb, bl_next h.b hb⟩
theorem wt_len {l : List It} {rb rt : Int} {S : Pl.Lk (List Hd)} (hn : l.length ≤ 60) (hf : ListFine l) (h : Pl.WtP l rb rt S) : (∀ x, ((Pl.fifoM Pl.wtP).take S.now S.q).1 = some x → 0 ≤ x.it.len ∧ x.it.len ≤ 10000) ∧ S.lost.length ≤ 1000 ∧ S.sent.length ≤ 1000 := by
  obtain ⟨m, hb, _⟩ := h.b
  have h1 := hb.mn; have h2 := hb.nl
  refine ⟨fun x hx => ?_, by rw [hb.lo]; simp, by rw [hb.s, Pl.sentL_len]; omega⟩
  have e : ((Pl.fifoM Pl.wtP).take S.now S.q).1 = (Pl.ftakeL S.q).1 := rfl
  rw [e, hb.q] at hx
  by_cases hm : m < S.next
  · rw [Pl.waitL_cons l m S.next hm] at hx
    have hx' : some (⟨ix l m, m⟩ : Hd) = some x := hx
    injection hx' with hx'
    subst hx'
    have := (hf.2.1 m (by omega)).f1
    exact ⟨by show (0 : Int) ≤ (ix l m).len; omega, this.2⟩
  · rw [Pl.waitL_nil l (by omega)] at hx; cases hx
set_option maxHeartbeats 8000000 in
set_option maxRecDepth 100000 in
theorem linkWaits_yes (rb rt : Int) (A : Option Addr) (n c : Nat) (l : List It) (W : World) (hv : Pv W) (hr : RdIt W W.heap.size A n l) (h : n ≤ 60) (hs : SpeedOk rb rt) (hf : ListFine l) :
    Calls Tryz.prog 3 #[.agg #[.int .i64 rb, .int .i64 rt], .slice A n c] W fun e w' => e = .returned (.bool true) ∧ Below W.heap.size W w' := by
  have hll := hr.len
  have hb0 : Below W.heap.size W (W.alloc (.cells #[.int .i64 rb, .int .i64 rt] 23)) := bl_alloc (Below.refl _ _)
  have hk0 := Blk.new W 23 #[.int .i64 rb, .int .i64 rt]
  have hg := (fifoPk Pl.wtP).qb.good
  have hrn := run_w_yes (P := fifoPk Pl.wtP) fifoText (by decide) rb rt 10000000 A n c l _ (hv.below hb0 hv.sz) (hr.over hb0 (Nat.le_refl _)) fifo_parse hs hf (by decide) ((Pl.wt_inv hf (by omega) hs 10000000).and (Pl.kp_inv hg hf hs 10000000))
    ⟨Pl.wt_start l rb rt (fun i hi => (hf.2.1 i hi).f0.1), Pl.kp_start (fifoPk Pl.wtP).hI (fifoPk Pl.wtP).w0 l rb rt 10000000 (by decide)⟩ (fun S hS => wt_len (by omega) hf hS.1)
  have HLK := Lib.hid (fun W' (hb : Below W.heap.size W W') => linked_yes W' (hv.below hb hv.sz).h)
  have HPL := Lib.hid (fun W' (hb : Below W.heap.size W W') => planted_yes W' (hv.below hb hv.sz))
  have HRN : Hid (Calls Tryz.prog 7 #[.string ⟨#[102, 105, 102, 111, 32, 49, 48, 48, 48, 32, 49, 48, 48, 48, 48, 48, 48]⟩, .agg #[.int .i64 rb, .int .i64 rt], .slice A n c, .int .i64 10000000] (W.alloc (.cells #[.int .i64 rb, .int .i64 rt] 23)) _) := Lib.hid hrn
  have HB0 := Lib.hid hb0; have HK0 := Lib.hid hk0; have HR := Lib.hid hr; have HLL := Lib.hid hll; have HF := Lib.hid hf; have HS := Lib.hid hs
  have i1 : decide ((60 : Int) < (n : Int)) = false := decide_eq_false (by omega)
  clear hb0 hrn hv hr hk0 hg hll hf hs
  go_enter Tryz.func3, Tryz.ntmps3
  go_wp2_with fail
  (with_reducible refine HRN.out.mono ?_)
  rintro e w1 ⟨S, As, Al, cs, cl, he, h1⟩
  obtain ⟨⟨hw, hkp⟩, hrs, hrl, hb1⟩ := h1.out
  obtain ⟨m, hm, hse, hlo, hun, hq⟩ := hw.b
  have hsl : S.sent.length = m := by rw [hse, Pl.sentL_len]
  have hup : ∀ i, i < m → Pl.fromI l rb rt i ≤ 10000000 := fun i hi => by
    have h2 := (hkp.b.so i ⟨i, Pl.fromI l rb rt i, Pl.freeI l rb rt (i + 1), (ix l i).mark⟩ (by rw [hse]; exact Pl.sentL_get l rb rt hi)).2.2.1
    exact h2
  have hqz : m = n → (fifoPk Pl.wtP).M.len S.q = 0 := fun e => by
    have : S.q = ([] : List Hd) := hq (by have := HLL.out; omega)
    rw [this]; rfl
  rw [hsl, hlo, List.length_nil] at he
  rw [hsl, hse] at hrs
  generalize (fifoPk Pl.wtP).M.len S.q = Q at he hqz
  generalize S.most = ms at he
  subst he
  have hb1' := bl_next HB0.out hb1
  have hk1 := HK0.out.below hb1 HK0.out.lt
  have hsn1 := hrs
  have HB1 := Lib.hid hb1'; have HK1 := Lib.hid hk1; have HSN1 := Lib.hid hsn1; have HUN := Lib.hid hun; have HUP := Lib.hid hup; have HQZ := Lib.hid hqz
  have hmn : m ≤ n := by have := HLL.out; omega
  clear h1 hw hkp hrs hrl hb1 hb1' hse hlo hun hq hsl hk1 hsn1 hup hqz hm HRN
  have hz1 := Blk.new w1 28 #[.slice As m cs, .slice Al 0 cl, .int .i64 Q, .int .i64 ms]
  have hbz : Below w1.heap.size w1 (w1.alloc (.cells #[.slice As m cs, .slice Al 0 cl, .int .i64 Q, .int .i64 ms] 28)) := bl_alloc (Below.refl _ _)
  have HZ1 := Lib.hid hz1; have HBZ := Lib.hid hbz
  clear hz1 hbz
  go_wp2_with fail
  (with_reducible refine (HLK.out _ (bl_alloc HB1.out)).mono ?_)
  rintro e w2 ⟨rfl, hb2⟩
  have HB2 := Lib.hid (bl_next (bl_alloc HB1.out) hb2); have HC2 := Lib.hid (hb2 : Below _ _ w2)
  clear hb2
  go_wp2_with fail
  (with_reducible refine (HPL.out _ HB2.out).mono ?_)
  rintro e w3 ⟨rfl, hb3⟩
  have HB3 := Lib.hid (bl_next HB2.out hb3)
  have h13 : Below w1.heap.size w1 w3 := HBZ.out.trans ((HC2.out.trans (hb3.mono HC2.out.size)).mono HBZ.out.size)
  have hz3 := (HZ1.out.below HC2.out HZ1.out.lt).below hb3 (HZ1.out.below HC2.out HZ1.out.lt).lt
  have hk3 := HK1.out.below h13 HK1.out.lt
  have hs3 := HSN1.out.over h13 (Nat.le_refl _)
  have hr3 := HR.out.over HB3.out (Nat.le_refl _)
  have z0 := hz3.cell 0; have z1 := hz3.cell 1; have z2 := hz3.cell 2; have z3 := hz3.cell 3
  simp at z0 z1 z2 z3
  have hdl := delays_w A n c l (Pl.sentL l rb rt m) As Al cs 0 cl Q ms w3 hr3 (by rw [Pl.sentL_len]; exact hs3) (by omega) (by rw [Pl.sentL_len]; exact hmn) (fun j hj => by
      rw [Pl.sentL_len] at hj
      rw [Pl.sentL_ix l rb rt hj]
      have := Pl.freeI_bd HS.out HF.out (j + 1) (by have := HLL.out; omega)
      exact ⟨rfl, this.1, by show Pl.freeI l rb rt (j + 1) ≤ _; omega⟩) (fun i hi => (HF.out.2.1 i (by have := HLL.out; omega)).f0)
  rw [Pl.sentL_len] at hdl
  have HDL := Lib.hid hdl; have HZ3 := Lib.hid hz3; have HK3 := Lib.hid hk3; have HS3 := Lib.hid hs3; have HR3 := Lib.hid hr3
  clear hdl hz3 hk3 hs3 hr3 hb3 h13 HC2
  go_wp2_with fail
  (with_reducible refine HDL.out.mono ?_)
  rintro e w4 ⟨gd, rfl, h4⟩
  obtain ⟨hq4, hgd, hgd2, hb4⟩ := h4.out
  have hw4 : WsR W w4 rb rt A n l w1.heap.size gd #[.slice As m cs, .slice Al 0 cl, .int .i64 Q, .int .i64 ms] As m :=
    ⟨HK3.out.below hb4 HK3.out.lt, HR3.out.over hb4 (Nat.le_refl _), HZ3.out.below hb4 HZ3.out.lt, HS3.out.over hb4 (Nat.le_refl _), hq4, bl_next HB3.out hb4⟩
  have HW4 := Lib.hid hw4
  have z1 := hw4.zk.cell 1
  simp at z1
  clear h4 hq4 hgd hgd2 hb4 hw4 HDL z0 z2 z3
  go_wp2_with fail
  go_loopw [8, 9] (fun fv iv wr => ∃ i : Nat, iv = .int .i64 i ∧ fv = .int .i64 (Pl.freeI l rb rt i) ∧ i ≤ m ∧ Hid (WsR W wr rb rt A n l w1.heap.size gd #[.slice As m cs, .slice Al 0 cl, .int .i64 Q, .int .i64 ms] As m)) (fun _ iv _ => n - (intOf iv).toNat)
  case atStart => exact ⟨0, rfl, rfl, Nat.zero_le _, HW4.out⟩
  case round =>
    obtain ⟨i, rfl, rfl, him, hws⟩ := hrel
    clear z1
    have y0 := hws.out.zk.cell 0; have y2 := hws.out.zk.cell 2
    simp at y0 y2
    by_cases hin : i < n
    · have ii : (i : Int) < (n : Int) := by omega
      obtain ⟨b, off, rfl, hbb⟩ := HR.out.addr hin
      obtain ⟨x0, x1, _, _, _⟩ := hws.out.it.cells hin
      have r0 := hws.out.rk.cell 0; have r1 := hws.out.rk.cell 1
      simp at r0 r1
      have hfl := HF.out.2.1 i (by have := HLL.out; omega)
      have hfi := Pl.freeI_bd HS.out HF.out i (by have := HLL.out; omega)
      have htk := Pl.takes_bd HS.out hfl.f1.1 hfl.f1.2
      have hl0 := hfl.f0
      have HTK := Lib.hid (fun w => takes_any rb rt (ix l i).len w HS.out (by have := hfl.f1; omega) (by have := hfl.f1; omega))
      have hfs := Pl.freeI_succ l rb rt i
      have HFS := Lib.hid hfs
      have hfr : Pl.fromI l rb rt i = max (Pl.freeI l rb rt i) (ix l i).at_ := rfl
      have HFR := Lib.hid hfr
      clear hfs hfr hfl
      generalize hat : (ix l i).at_ = at_ at *
      generalize hln : (ix l i).len = ln at *
      generalize hfe : Pl.freeI l rb rt i = fr at *
      go_upto_region 13 with fail
      go_cut [10] from 54 to 61 (fun xv wx => xv = .int .i64 (Pl.fromI l rb rt i) ∧ wx = wr)
      case first =>
        by_cases hlt : fr < at_
        · have e1 : Pl.fromI l rb rt i = at_ := by rw [HFR.out]; omega
          have E1 := Lib.hid e1
          have hlt' : (fr < at_) = True := by simp [hlt]
          clear e1
          go_wp2_with fail
          go_meet
          case rel => exact ⟨by have h1 := E1.out; have h2 := HFR.out; congr 1; omega, by first | rfl | trivial⟩
        · have e1 : Pl.fromI l rb rt i = fr := by rw [HFR.out]; omega
          have E1 := Lib.hid e1
          have hlt' : (fr < at_) = False := by simp [hlt]
          clear e1
          go_wp2_with fail
          go_meet
          case rel => exact ⟨by have h1 := E1.out; have h2 := HFR.out; congr 1; omega, by first | rfl | trivial⟩
      case rest =>
        obtain ⟨rfl, hwc⟩ := hcut
        subst hwc
        have hf2 : 0 ≤ Pl.fromI l rb rt i ∧ Pl.fromI l rb rt i ≤ 1000000000000 := by rw [HFR.out]; omega
        have hup2 : i < m → Pl.fromI l rb rt i ≤ 10000000 := HUP.out i
        have hun2 : i = m → 10000000 < Pl.fromI l rb rt i := fun e => by have h1 := HUN.out (by have := HLL.out; omega); rw [e]; exact h1
        have ewr : IntKind.i64.wrap (Pl.fromI l rb rt i + takes rb rt ln) = Pl.fromI l rb rt i + takes rb rt ln := IntWalk.i64_in _ (by omega)
        generalize hfm : Pl.fromI l rb rt i = fm at *
        generalize htt : takes rb rt ln = tk at *
        have HSD : Hid (_ ∧ _ ∧ _) := Lib.hid ⟨r0, r1, x1⟩
        go_upto_region 14 with fail
        refine wp_till (fun wx => wx.cell? ⟨W.heap.size, 0, none⟩ = some (.int .i64 rb) ∧ wx.cell? ⟨W.heap.size, 1, none⟩ = some (.int .i64 rt) ∧ wx.cell? ⟨b, off + i * 5 + 1, none⟩ = some (.int .i64 ln)) [7] (by kernel_rfl) ?_
        refine till_take0 0 _ ?_ (by simp only [List.getElem?_toArray, List.getElem?_cons_zero]; rfl) (by kernel_rfl) (by kernel_rfl) (by kernel_rfl) (by kernel_rfl) (by intro _ _ _ _ h; exact h) (Or.inl ⟨by rfl, ?_⟩) (fun _ => HSD.out) ?_
        rotate_left 1; focus (intro wx _; go_simp; try with_reducible rfl)
        try simp only [Act.put, List.setIfInBounds_toArray, List.set_cons_zero, List.set_cons_succ]
        refine till_take 1 [] _ ?_ (by simp only [List.getElem?_toArray, List.getElem?_cons_succ, List.getElem?_cons_zero]; rfl) (by kernel_rfl) (by kernel_rfl) (by kernel_rfl) (by kernel_rfl) (by kernel_rfl) (by intro _ _ _ _ h; exact h) (Or.inl ⟨by rfl, ?_⟩) HSD.out ?_
        rotate_left 1; focus (intro wx hSw; (try dsimp only at hSw); obtain ⟨q0, q1, q2⟩ := hSw; go_simp; try with_reducible rfl)
        try simp only [Act.put, List.setIfInBounds_toArray, List.set_cons_zero, List.set_cons_succ]
        refine till_take 2 [4, 5, 6] _ ?_ (by simp only [List.getElem?_toArray, List.getElem?_cons_succ, List.getElem?_cons_zero]; rfl) (by kernel_rfl) (by kernel_rfl) (by kernel_rfl) (by kernel_rfl) (by kernel_rfl) (by intro _ _ _ _ h; exact h) (Or.inl ⟨by rfl, ?_⟩) HSD.out ?_
        rotate_left 1; focus (intro wx hSw; (try dsimp only at hSw); obtain ⟨q0, q1, q2⟩ := hSw; go_simp; try with_reducible rfl)
        try simp only [Act.put, List.setIfInBounds_toArray, List.set_cons_zero, List.set_cons_succ]
        refine till_take 3 [4, 5, 6] _ ?_ (by simp only [List.getElem?_toArray, List.getElem?_cons_succ, List.getElem?_cons_zero]; rfl) (by kernel_rfl) (by kernel_rfl) (by kernel_rfl) (by kernel_rfl) (by kernel_rfl) (by intro _ _ _ _ h; exact h) (Or.inl ⟨by rfl, ?_⟩) HSD.out ?_
        rotate_left 1; focus (intro wx hSw; (try dsimp only at hSw); obtain ⟨q0, q1, q2⟩ := hSw; go_simp; try with_reducible rfl)
        try simp only [Act.put, List.setIfInBounds_toArray, List.set_cons_zero, List.set_cons_succ]
        refine till_take 4 [5, 6] _ ?_ (by simp only [List.getElem?_toArray, List.getElem?_cons_succ, List.getElem?_cons_zero]; rfl) (by kernel_rfl) (by kernel_rfl) (by kernel_rfl) (by kernel_rfl) (by kernel_rfl) (by intro _ _ _ _ h; exact h) (Or.inl ⟨by rfl, ?_⟩) HSD.out ?_
        rotate_left 1; focus (intro wx hSw; (try dsimp only at hSw); obtain ⟨q0, q1, q2⟩ := hSw; go_simp; try with_reducible rfl)
        try simp only [Act.put, List.setIfInBounds_toArray, List.set_cons_zero, List.set_cons_succ]
        refine till_take 5 [6] _ ?_ (by simp only [List.getElem?_toArray, List.getElem?_cons_succ, List.getElem?_cons_zero]; rfl) (by kernel_rfl) (by kernel_rfl) (by kernel_rfl) (by kernel_rfl) (by kernel_rfl) (by intro _ _ _ _ h; exact h) (Or.inl ⟨by rfl, ?_⟩) HSD.out ?_
        rotate_left 1; focus (intro wx hSw; (try dsimp only at hSw); obtain ⟨q0, q1, q2⟩ := hSw; go_simp; try with_reducible rfl)
        try simp only [Act.put, List.setIfInBounds_toArray, List.set_cons_zero, List.set_cons_succ]
        refine till_take 6 [] _ ?_ (by simp only [List.getElem?_toArray, List.getElem?_cons_succ, List.getElem?_cons_zero]; rfl) (by kernel_rfl) (by kernel_rfl) (by kernel_rfl) (by kernel_rfl) (by kernel_rfl) (by intro _ _ _ _ h; exact h) (Or.inl ⟨by rfl, ?_⟩) HSD.out ?_
        rotate_left 1; focus (intro wx hSw; (try dsimp only at hSw); obtain ⟨q0, q1, q2⟩ := hSw; go_simp; try with_reducible rfl)
        try simp only [Act.put, List.setIfInBounds_toArray, List.set_cons_zero, List.set_cons_succ]
        refine till_ready [7] (by kernel_rfl) (by simp) ?_
        refine alls_cons (by simp only [List.getElem?_toArray, List.getElem?_cons_succ, List.getElem?_cons_zero]; rfl) (fun K hK => ?_) alls_nil
        go_simp
        go_at_call 11; (with_reducible refine (HTK.out _).mono ?_); rintro e w6 ⟨rfl, hb6⟩
        refine hK.out _ _ (fun h => Bool.noConfusion h) ?_
        clear hK K
        try simp only [Act.put, List.setIfInBounds_toArray, List.set_cons_zero, List.set_cons_succ]
        refine till_take0 8 _ ?_ (by simp only [List.getElem?_toArray, List.getElem?_cons_succ, List.getElem?_cons_zero]; rfl) (by kernel_rfl) (by kernel_rfl) (by kernel_rfl) (by kernel_rfl) (by intro _ _ _ _ h; exact h) (Or.inl ⟨by rfl, ?_⟩) (fun h => Bool.noConfusion h) ?_
        rotate_left 1; focus (intro wx _; go_simp; try with_reducible rfl)
        try simp only [Act.put, List.setIfInBounds_toArray, List.set_cons_zero, List.set_cons_succ]
        refine till_take0 9 _ ?_ (by simp only [List.getElem?_toArray, List.getElem?_cons_succ, List.getElem?_cons_zero]; rfl) (by kernel_rfl) (by kernel_rfl) (by kernel_rfl) (by kernel_rfl) (by intro _ _ _ _ h; exact h) (Or.inl ⟨by rfl, ?_⟩) (fun h => Bool.noConfusion h) ?_
        rotate_left 1; focus (intro wx _; go_simp; try with_reducible rfl)
        try simp only [Act.put, List.setIfInBounds_toArray, List.set_cons_zero, List.set_cons_succ]
        refine till_done (by kernel_rfl) ?_ _
        have hws6 := hws.out.below (bl_next (bl_drew (Below.refl _ _)) hb6)
        have HW6 := Lib.hid hws6
        clear hb6 x0 x1 r0 r1 y0 y2 HSD HTK
        have y0 := hws6.zk.cell 0
        simp at y0
        by_cases hc : i < m
        · have i2 : decide ((10000000 : Int) < fm) = false := decide_eq_false (by have := hup2 hc; omega)
          have dv := hws6.d.cell hin
          have edv : delV l (Pl.sentL l rb rt m) m i = fm + tk - at_ := by
            unfold delV
            rw [if_pos hc, Pl.sentL_ix l rb rt hc]
            show Pl.freeI l rb rt (i + 1) - (ix l i).at_ = _
            rw [HFS.out, hat]
          rw [edv] at dv
          obtain ⟨bs, os, rfl, hbs⟩ := hws6.sn.addr hc
          obtain ⟨s0, s1, _, _⟩ := rdSnt_4 hws6.sn hc
          rw [Pl.sentL_ix l rb rt hc] at s0 s1
          have s1 : w6.cell? ⟨bs, os + i * 4 + 1, none⟩ = some (.int .i64 fm) := by rw [← hfm]; exact s1
          have s0 : w6.cell? ⟨bs, os + i * 4, none⟩ = some (.int .i64 i) := s0
          have x0 := (hws6.it.cells hin).1
          rw [hat] at x0
          have im : (i : Int) < (m : Int) := by omega
          have i3 : decide ((m : Int) ≤ (i : Int)) = false := decide_eq_false (by omega)
          have ew2 : IntKind.i64.wrap (fm + tk - at_) = fm + tk - at_ := IntWalk.i64_in _ (by omega)
          clear hws6
          go_upto_region 17 with fail
          go_quiet (fail)
          go_wp2_with fail
          refine ⟨⟨i + 1, by go_num, by rw [HFS.out], by omega, Lib.hid (HW6.out.below (below_drewN (Below.refl _ _) _))⟩, by simp [intOf]; omega⟩
        · have e5 : i = m := by omega
          have i2 : decide ((10000000 : Int) < fm) = true := decide_eq_true (hun2 e5)
          have dv := hws6.d.cell hin
          have edv : delV l (Pl.sentL l rb rt m) m i = -1 := by unfold delV; rw [if_neg hc]
          rw [edv] at dv
          have E5 := Lib.hid e5
          clear hws6 e5
          go_wp2_with fail
          go_ret
          exact ⟨by simp [E5.out], HW6.out.b⟩
    · have e5 : i = n := by have := hmn; omega
      have e6 : m = n := by omega
      have hq0 := HQZ.out e6
      subst hq0
      subst e6
      have HWS := Lib.hid hws.out.b
      go_wp2_with fail
      go_ret
      exact ⟨rfl, HWS.out⟩
theorem linkWaits_core (rb rt : Int) (A : Option Addr) (n c : Nat) (l : List It) (W : World) (hv : Pv W) (hr : RdIt W W.heap.size A n l) :
    Calls Tryz.prog 3 #[.agg #[.int .i64 rb, .int .i64 rt], .slice A n c] W fun e w' => e = .returned (.bool true) ∧ Below W.heap.size W w' := by
  by_cases h : n ≤ 60
  · by_cases hs : SpeedOk rb rt
    · by_cases hf : ListFine l
      · exact linkWaits_yes rb rt A n c l W hv hr h hs hf
      · exact linkWaits_no rb rt A n c l W hv hr h (.inr hf)
    · exact linkWaits_no rb rt A n c l W hv hr h (.inl hs)
  · exact linkWaits_many rb rt A n c W (by omega)
end Go.Proofs.YtgdijbaodfghjaaGreatDoor
