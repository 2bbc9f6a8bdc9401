/-
  Texts of this claim, one behind the other: PlOne, PlLex, PlAll, PlParse, RunW.
-/
import Derived.Test.YtgdijbaodfghjaaGreatDoorZ32
import Derived.Test.YtgdijbaodfghjaaGreatDoorZ33
import Derived.Test.YtgdijbaodfghjaaGreatDoorZ34
import Derived.Test.YtgdijbaodfghjaaGreatDoorZ27
import Derived.Test.YtgdijbaodfghjaaGreatDoorZ18
/-
  plant's reader: one, by its depth. (printed by gen_one.py)
-/
namespace Go.Proofs.YtgdijbaodfghjaaGreatDoor
open Go.RowKit Bkt
set_option linter.unusedVariables false
theorem RdW.drewN {c : PRc} {w : World} {g k m : Nat} (h : RdW c w g k m) (q : Nat) : RdW c (w.drewN q) g k m := h.below (below_drewN (Below.refl _ _) _)
theorem RdW.more {c : PRc} {w : World} {g k m : Nat} (h : RdW c w g k m) : RdW c (w.setCell ⟨g, 5, none⟩ (.int .i64 ((m : Int) + 1))) g k (m + 1) ∧ Chg w (w.setCell ⟨g, 5, none⟩ (.int .i64 ((m : Int) + 1))) (fun i => i = g) := by
  have hc : Chg w (w.setCell ⟨g, 5, none⟩ (.int .i64 ((m : Int) + 1))) (fun i => i = g) := Chg.setCell (p := ⟨g, 5, none⟩) (Chg.refl w (fun i => i = g)) (fun _ => rfl) _
  have hb := h.rd.blk.set_ 5 (.int .i64 ((m : Int) + 1))
  refine ⟨h.to ⟨?_, ?_, ?_, h.rd.nw, h.rd.np, h.rd.le, h.rd.n⟩ hc, hc⟩
  · have e : ((m + 1 : Nat) : Int) = (m : Int) + 1 := by omega
    rw [e]
    exact hb
  · have := h.rd.rw_.chg (Nat.le_refl _) hc (fun b off e hg => h.rd.nw _ e hg)
    exact this.more hc.size
  · have := h.rd.rp.chg (Nat.le_refl _) hc (fun ad e hg => h.rd.np ad e hg)
    exact this.more hc.size
theorem RdW.word {c : PRc} {w : World} {g k m k0 : Nat} {s : ByteArray} (h : RdW c w g k m) (hs : c.ws[k0]? = some s) : ∃ b off, c.Aw = some ⟨b, off, none⟩ ∧ b < w.heap.size ∧ w.cell? ⟨b, off + k0, none⟩ = some (.string s) := by
  have hlt : k0 < c.ws.length := (List.getElem?_eq_some_iff.1 hs).1
  obtain ⟨b, off, hA, hb⟩ := h.rd.rw_.addr hlt
  have hr := h.rd.rw_
  rw [hA] at hr
  have x0 := hr.all hlt 0 _ rfl
  have hx : ixR StrR c.ws k0 = s := by
    unfold ixR; rw [List.getD, hs]; rfl
  have e1 : off + (k0 * StrR.sz + 0) = off + k0 := by show off + (k0 * 1 + 0) = _; omega
  rw [e1, hx] at x0
  exact ⟨b, off, hA, hb, x0⟩
def MadeV (c : PRc) (w : World) (g k m : Nat) (mk : Option Pk) (T : TypeId) (B : Nat) (a b : Value) (w' : World) : Prop :=
  RdW c w' g k m ∧ Below w.heap.size w w' ∧ ((∃ P g2 F, mk = some P ∧ a = .pointer (some ⟨g2, 0, none⟩) ∧ b = .nilIface ∧ PkM P (.iface T (.pointer (some ⟨g2, 0, none⟩))) 6 F w' ∧ ∀ i, F i → B ≤ i) ∨ (mk = none ∧ ∃ er : Int, a = .pointer none ∧ b = .iface 69 (.int .i64 er)))
def MadeC (c : PRc) (w : World) (g k m : Nat) (mk : Option Pk) (T : TypeId) (B : Nat) (e : Ending) (w' : World) : Prop := ∃ a b, e = .returned (.tuple #[a, b]) ∧ Hid (MadeV c w g k m mk T B a b w')
theorem MadeEnd.v {c : PRc} {w w1 w' : World} {g k m B : Nat} {mk : Option Pk} {T : TypeId} {Fq : Nat → Prop} {e : Ending} (h : MadeEnd mk T w1 Fq e w') (hr : RdW c w g k m) (hb : Below w.heap.size w w1) (hB : B ≤ w.heap.size) (hF : ∀ i, Fq i → B ≤ i) : MadeC c w g k m mk T B e w' := by
  rcases h with ⟨P, g2, F, h1, rfl, h2⟩ | ⟨h1, er, rfl, h2⟩
  · obtain ⟨q1, q2, q3⟩ := h2.out
    have hb2 := hb.trans (q2.mono hb.size)
    exact ⟨_, _, rfl, Lib.hid ⟨hr.below hb2, hb2, .inl ⟨P, g2, F, h1, rfl, rfl, q1, fun i hi => (q3 i hi).elim (hF i) (fun e => by have := hb.size; omega)⟩⟩⟩
  · have hb2 := hb.trans (h2.mono hb.size)
    exact ⟨_, _, rfl, Lib.hid ⟨hr.below hb2, hb2, .inr ⟨h1, er, rfl, rfl⟩⟩⟩
theorem afterN_none {ws : List ByteArray} {a k m : Nat} {f : List Int → Option Pk} (h : numsAt ws a k = none) : afterN ws a k m f = none := by unfold afterN; rw [h]
theorem afterN_some {ws : List ByteArray} {a k m : Nat} {f : List Int → Option Pk} {n : List Int} (h : numsAt ws a k = some n) : afterN ws a k m f = (f n).map fun P => (P, a + k, m) := by unfold afterN; rw [h]

set_option maxHeartbeats 8000000 in
set_option maxRecDepth 100000 in
theorem one_w (c : PRc) (g d : Nat) (hd : d < 100) (hone : RecC c g d) (k m : Nat) (w : World) (h : RdW c w g k m) (hm : m ≤ 20) :
    Calls Tryz.prog 22 #[.pointer (some ⟨g, 0, none⟩), .int .i64 ((d : Int) + 1)] w (OneEnd c w g (oneP c.tape c.ws (d + 1) k m)) := by
  have hgl := h.glt
  have hwd1 : IntKind.i64.wrap ((d : Int) + 1 - 1) = (d : Int) := by rw [IntWalk.i64_in _ (by omega)]; omega
  have hwm1 : IntKind.i64.wrap ((m : Int) + 1) = (m : Int) + 1 := IntWalk.i64_in _ (by omega)
  obtain ⟨hr1, hc1⟩ := h.more
  have d2 := h.rd.blk.cell 2; have d5 := h.rd.blk.cell 5; have f5 := h.rd.blk.frozen 5
  have y5 := hr1.rd.blk.cell 5
  simp at d2 d5 y5
  obtain ⟨res, hres⟩ : ∃ res, oneP c.tape c.ws (d + 1) k m = res := ⟨_, rfl⟩
  rw [hres]
  unfold oneP at hres
  have HRES := Lib.hid hres; have HR1 := Lib.hid hr1; have HC1 := Lib.hid hc1; have HONE := Lib.hid hone
  have id0 : decide ((d : Int) + 1 = 0) = false := decide_eq_false (by omega)
  clear hres hr1 hc1 hone h
  go_enter Tryz.func22, Tryz.ntmps22
  go_upto_region 3 with fail
  generalize w.setCell ⟨g, 5, none⟩ (.int .i64 ((m : Int) + 1)) = w1 at *
  by_cases hm2 : m = 20
  · have i20 : decide ((20 : Int) < (m : Int) + 1) = true := decide_eq_true (by omega)
    have hre : res = none := by rw [← HRES.out, if_pos (by omega)]
    have HRE := Lib.hid hre
    have HF := Lib.hid (fail_w c g k (m + 1) 4 w1 HR1.out)
    clear hre d2 d5 f5
    go_wp2_with fail
    (with_reducible refine HF.out.mono ?_)
    rintro e w3 ⟨q, rfl, hb⟩
    have HB := Lib.hid hb
    clear hb
    go_wp2_with fail
    go_ret2
    exact .inr ⟨HRE.out, _, _, rfl, Lib.hid (HC1.out.trans (Chg.of_below HB.out) (fun i _ e => e))⟩
  have i20 : decide ((20 : Int) < (m : Int) + 1) = false := decide_eq_false (by omega)
  have hre : res = armP c.tape c.ws (oneP c.tape c.ws d) k (m + 1) := by rw [← HRES.out, if_neg (by omega)]
  unfold armP at hre
  have HRS := Lib.hid hre
  have hm3 : m + 1 ≤ 20 := by omega
  clear hre HRES d2 d5 f5 hm2
  go_upto_region 5 with fail
  clear y5 i20 id0
  generalize w1 = wT at *
  have HT := Lib.hid (take_l c g k (m + 1) sFifo ⟨#[102, 105, 102, 111]⟩ rfl wT HR1.out)
  go_wp2_with fail
  (with_reducible refine HT.out.mono ?_)
  rintro e wU (⟨hwd, rfl, h2⟩ | ⟨hwd, rfl, h2⟩)
  · skip
    have hk : k < c.ws.length := (List.getElem?_eq_some_iff.1 hwd).1
    have hre := HRS.out
    rw [if_pos hwd] at hre
    have HCT := Lib.hid (HC1.out.trans h2.out.2 (fun i _ e => e)); have HRT := Lib.hid h2.out.1
    clear h2 HT HRS HR1
    have HRS := Lib.hid hre
    clear hre
    generalize wU = wT at *
    have HN := Lib.hid (numbers_l c g (k + 1) (m + 1) 2 2 rfl (by omega) (by omega) wT HRT.out)
    go_wp2_with fail
    (with_reducible refine HN.out.mono ?_)
    rintro e wn (⟨vs, b0, c0, hnm, rfl, hn⟩ | ⟨hnm, q, rfl, hn⟩)
    rotate_left
    · skip
      have hre : res = none := by rw [HRS.out]; exact afterN_none hnm
      have HRE := Lib.hid hre; have HCN := Lib.hid (HCT.out.trans hn.out (fun i _ e => e))
      clear hre hnm hn
      go_wp2_with fail
      go_ret2
      exact .inr ⟨HRE.out, _, _, rfl, Lib.hid HCN.out⟩
    obtain ⟨hcs, hb0, hb1, hrn, hcn⟩ := hn.out
    have hre := HRS.out.trans (afterN_some hnm)
    have HRE := Lib.hid hre; have HRN := Lib.hid hrn; have HCN := Lib.hid (HCT.out.trans hcn (fun i _ e => e))
    have hB : w.heap.size ≤ wn.heap.size := HCN.out.size
    have n0 := hcs 0 (by omega)
    have n1 := hcs 1 (by omega)
    have z0 := hrn.rd.blk.cell 0; have z4 := hrn.rd.blk.cell 4
    simp at z0 z4
    obtain ⟨bw, ow, hAw, hbw, hcw⟩ := hrn.word hwd
    rw [hAw] at z0
    have il : (k : Int) < (c.ws.length : Int) := by omega
    have hte : (sFifo.toList == [104, 101, 97, 100]) = false := by rw [ByteArray.toList_eq]; rfl
    clear hn hcs hcn hrn hre hnm HN
    generalize vs.getD 0 0 = x0 at *
    generalize vs.getD 1 0 = x1 at *
    have HMD := Lib.hid (fun W (hb : Below wn.heap.size wn W) => (made_fifo x0 x1 false W (Nat.le_trans HRN.out.sz6 hb.size)).mono fun e w' h => h.v HRN.out hb hB (fun i hi => hi.elim))
    go_upto_region 10 with fail
    have HSD : Hid (_ ∧ _ ∧ _ ∧ _) := Lib.hid ⟨n0, n1, z0, hcw⟩
    refine wp_till (fun wx => wx.cell? ⟨b0, 0, none⟩ = some (.int .i64 x0) ∧ wx.cell? ⟨b0, 1, none⟩ = some (.int .i64 x1) ∧ wx.cell? ⟨g, 0, none⟩ = some (.slice (some ⟨bw, ow, none⟩) c.ws.length c.cw) ∧ wx.cell? ⟨bw, ow + k, none⟩ = some (.string sFifo)) [14] (by kernel_rfl) ?_
    refine till_take 0 [1, 2] _ ?_ (by simp only [List.getElem?_toArray, List.getElem?_cons_zero]; rfl) (by kernel_rfl) (by kernel_rfl) (by kernel_rfl) (by kernel_rfl) (by kernel_rfl) (by intro _ _ _ _ h; exact h) (Or.inl ⟨by rfl, ?_⟩) HSD.out ?_
    rotate_left 1; focus (intro wx hSw; (try dsimp only at hSw); obtain ⟨q0, q1, q2, q3⟩ := hSw; go_simp; try with_reducible rfl)
    try simp only [Act.put, List.setIfInBounds_toArray, List.set_cons_zero, List.set_cons_succ]
    refine till_take 1 [2] _ ?_ (by simp only [List.getElem?_toArray, List.getElem?_cons_succ, List.getElem?_cons_zero]; rfl) (by kernel_rfl) (by kernel_rfl) (by kernel_rfl) (by kernel_rfl) (by kernel_rfl) (by intro _ _ _ _ h; exact h) (Or.inl ⟨by rfl, ?_⟩) HSD.out ?_
    rotate_left 1; focus (intro wx hSw; (try dsimp only at hSw); obtain ⟨q0, q1, q2, q3⟩ := hSw; go_simp; try with_reducible rfl)
    try simp only [Act.put, List.setIfInBounds_toArray, List.set_cons_zero, List.set_cons_succ]
    refine till_take 2 [] _ ?_ (by simp only [List.getElem?_toArray, List.getElem?_cons_succ, List.getElem?_cons_zero]; rfl) (by kernel_rfl) (by kernel_rfl) (by kernel_rfl) (by kernel_rfl) (by kernel_rfl) (by intro _ _ _ _ h; exact h) (Or.inl ⟨by rfl, ?_⟩) HSD.out ?_
    rotate_left 1; focus (intro wx hSw; (try dsimp only at hSw); obtain ⟨q0, q1, q2, q3⟩ := hSw; go_simp; try with_reducible rfl)
    try simp only [Act.put, List.setIfInBounds_toArray, List.set_cons_zero, List.set_cons_succ]
    refine till_take 3 [4, 5] _ ?_ (by simp only [List.getElem?_toArray, List.getElem?_cons_succ, List.getElem?_cons_zero]; rfl) (by kernel_rfl) (by kernel_rfl) (by kernel_rfl) (by kernel_rfl) (by kernel_rfl) (by intro _ _ _ _ h; exact h) (Or.inl ⟨by rfl, ?_⟩) HSD.out ?_
    rotate_left 1; focus (intro wx hSw; (try dsimp only at hSw); obtain ⟨q0, q1, q2, q3⟩ := hSw; go_simp; try with_reducible rfl)
    try simp only [Act.put, List.setIfInBounds_toArray, List.set_cons_zero, List.set_cons_succ]
    refine till_take 4 [5] _ ?_ (by simp only [List.getElem?_toArray, List.getElem?_cons_succ, List.getElem?_cons_zero]; rfl) (by kernel_rfl) (by kernel_rfl) (by kernel_rfl) (by kernel_rfl) (by kernel_rfl) (by intro _ _ _ _ h; exact h) (Or.inl ⟨by rfl, ?_⟩) HSD.out ?_
    rotate_left 1; focus (intro wx hSw; (try dsimp only at hSw); obtain ⟨q0, q1, q2, q3⟩ := hSw; go_simp; try with_reducible rfl)
    try simp only [Act.put, List.setIfInBounds_toArray, List.set_cons_zero, List.set_cons_succ]
    refine till_take 5 [] _ ?_ (by simp only [List.getElem?_toArray, List.getElem?_cons_succ, List.getElem?_cons_zero]; rfl) (by kernel_rfl) (by kernel_rfl) (by kernel_rfl) (by kernel_rfl) (by kernel_rfl) (by intro _ _ _ _ h; exact h) (Or.inl ⟨by rfl, ?_⟩) HSD.out ?_
    rotate_left 1; focus (intro wx hSw; (try dsimp only at hSw); obtain ⟨q0, q1, q2, q3⟩ := hSw; go_simp; try with_reducible rfl)
    try simp only [Act.put, List.setIfInBounds_toArray, List.set_cons_zero, List.set_cons_succ]
    refine till_take 6 [7, 8, 9, 11, 12, 13] _ ?_ (by simp only [List.getElem?_toArray, List.getElem?_cons_succ, List.getElem?_cons_zero]; rfl) (by kernel_rfl) (by kernel_rfl) (by kernel_rfl) (by kernel_rfl) (by kernel_rfl) (by intro _ _ _ _ h; exact h) (Or.inl ⟨by rfl, ?_⟩) HSD.out ?_
    rotate_left 1; focus (intro wx hSw; (try dsimp only at hSw); obtain ⟨q0, q1, q2, q3⟩ := hSw; go_simp; try with_reducible rfl)
    try simp only [Act.put, List.setIfInBounds_toArray, List.set_cons_zero, List.set_cons_succ]
    refine till_take 7 [8, 9, 11, 12, 13] _ ?_ (by simp only [List.getElem?_toArray, List.getElem?_cons_succ, List.getElem?_cons_zero]; rfl) (by kernel_rfl) (by kernel_rfl) (by kernel_rfl) (by kernel_rfl) (by kernel_rfl) (by intro _ _ _ _ h; exact h) (Or.inl ⟨by rfl, ?_⟩) HSD.out ?_
    rotate_left 1; focus (intro wx hSw; (try dsimp only at hSw); obtain ⟨q0, q1, q2, q3⟩ := hSw; go_simp; try with_reducible rfl)
    try simp only [Act.put, List.setIfInBounds_toArray, List.set_cons_zero, List.set_cons_succ]
    refine till_take 8 [9, 11, 12, 13] _ ?_ (by simp only [List.getElem?_toArray, List.getElem?_cons_succ, List.getElem?_cons_zero]; rfl) (by kernel_rfl) (by kernel_rfl) (by kernel_rfl) (by kernel_rfl) (by kernel_rfl) (by intro _ _ _ _ h; exact h) (Or.inl ⟨by rfl, ?_⟩) HSD.out ?_
    rotate_left 1; focus (intro wx hSw; (try dsimp only at hSw); obtain ⟨q0, q1, q2, q3⟩ := hSw; go_simp; try with_reducible rfl)
    try simp only [Act.put, List.setIfInBounds_toArray, List.set_cons_zero, List.set_cons_succ]
    refine till_take 9 [11, 12, 13] _ ?_ (by simp only [List.getElem?_toArray, List.getElem?_cons_succ, List.getElem?_cons_zero]; rfl) (by kernel_rfl) (by kernel_rfl) (by kernel_rfl) (by kernel_rfl) (by kernel_rfl) (by intro _ _ _ _ h; exact h) (Or.inl ⟨by rfl, ?_⟩) HSD.out ?_
    rotate_left 1; focus (intro wx hSw; (try dsimp only at hSw); obtain ⟨q0, q1, q2, q3⟩ := hSw; go_simp; try with_reducible rfl)
    try simp only [Act.put, List.setIfInBounds_toArray, List.set_cons_zero, List.set_cons_succ]
    refine till_take 10 [11, 12, 13] _ ?_ (by simp only [List.getElem?_toArray, List.getElem?_cons_succ, List.getElem?_cons_zero]; rfl) (by kernel_rfl) (by kernel_rfl) (by kernel_rfl) (by kernel_rfl) (by kernel_rfl) (by intro _ _ _ _ h; exact h) (Or.inl ⟨by rfl, ?_⟩) HSD.out ?_
    rotate_left 1; focus (intro wx hSw; (try dsimp only at hSw); obtain ⟨q0, q1, q2, q3⟩ := hSw; go_simp; try with_reducible rfl)
    try simp only [Act.put, List.setIfInBounds_toArray, List.set_cons_zero, List.set_cons_succ]
    refine till_take 11 [12, 13] _ ?_ (by simp only [List.getElem?_toArray, List.getElem?_cons_succ, List.getElem?_cons_zero]; rfl) (by kernel_rfl) (by kernel_rfl) (by kernel_rfl) (by kernel_rfl) (by kernel_rfl) (by intro _ _ _ _ h; exact h) (Or.inl ⟨by rfl, ?_⟩) HSD.out ?_
    rotate_left 1; focus (intro wx hSw; (try dsimp only at hSw); obtain ⟨q0, q1, q2, q3⟩ := hSw; go_simp; try with_reducible rfl)
    try simp only [Act.put, List.setIfInBounds_toArray, List.set_cons_zero, List.set_cons_succ]
    refine till_take 12 [13] _ ?_ (by simp only [List.getElem?_toArray, List.getElem?_cons_succ, List.getElem?_cons_zero]; rfl) (by kernel_rfl) (by kernel_rfl) (by kernel_rfl) (by kernel_rfl) (by kernel_rfl) (by intro _ _ _ _ h; exact h) (Or.inl ⟨by rfl, ?_⟩) HSD.out ?_
    rotate_left 1; focus (intro wx hSw; (try dsimp only at hSw); obtain ⟨q0, q1, q2, q3⟩ := hSw; go_simp; try with_reducible rfl)
    try simp only [Act.put, List.setIfInBounds_toArray, List.set_cons_zero, List.set_cons_succ]
    refine till_take 13 [] _ ?_ (by simp only [List.getElem?_toArray, List.getElem?_cons_succ, List.getElem?_cons_zero]; rfl) (by kernel_rfl) (by kernel_rfl) (by kernel_rfl) (by kernel_rfl) (by kernel_rfl) (by intro _ _ _ _ h; exact h) (Or.inl ⟨by rfl, ?_⟩) HSD.out ?_
    rotate_left 1; focus (intro wx hSw; (try dsimp only at hSw); obtain ⟨q0, q1, q2, q3⟩ := hSw; go_simp; try with_reducible rfl)
    try simp only [Act.put, List.setIfInBounds_toArray, List.set_cons_zero, List.set_cons_succ]
    refine till_ready [14] (by kernel_rfl) (by simp) ?_
    refine alls_cons (by simp only [List.getElem?_toArray, List.getElem?_cons_succ, List.getElem?_cons_zero]; rfl) (fun K hK => ?_) alls_nil
    go_simp
    go_at_call 21; (with_reducible refine (HMD.out _ (bl_drew (Below.refl _ _))).mono ?_); rintro e w3 ⟨a3, b3, rfl, h3⟩
    refine hK.out _ _ (fun h => Bool.noConfusion h) ?_
    clear hK K
    try simp only [Act.put, List.setIfInBounds_toArray, List.set_cons_zero, List.set_cons_succ]
    refine till_take0 15 _ ?_ (by simp only [List.getElem?_toArray, List.getElem?_cons_succ, List.getElem?_cons_zero]; rfl) (by kernel_rfl) (by kernel_rfl) (by kernel_rfl) (by kernel_rfl) (by intro _ _ _ _ h; exact h) (Or.inl ⟨by rfl, ?_⟩) (fun h => Bool.noConfusion h) ?_
    rotate_left 1; focus (intro wx _; go_simp; try with_reducible rfl)
    try simp only [Act.put, List.setIfInBounds_toArray, List.set_cons_zero, List.set_cons_succ]
    refine till_take0 16 _ ?_ (by simp only [List.getElem?_toArray, List.getElem?_cons_succ, List.getElem?_cons_zero]; rfl) (by kernel_rfl) (by kernel_rfl) (by kernel_rfl) (by kernel_rfl) (by intro _ _ _ _ h; exact h) (Or.inl ⟨by rfl, ?_⟩) (fun h => Bool.noConfusion h) ?_
    rotate_left 1; focus (intro wx _; go_simp; try with_reducible rfl)
    try simp only [Act.put, List.setIfInBounds_toArray, List.set_cons_zero, List.set_cons_succ]
    refine till_take0 17 _ ?_ (by simp only [List.getElem?_toArray, List.getElem?_cons_succ, List.getElem?_cons_zero]; rfl) (by kernel_rfl) (by kernel_rfl) (by kernel_rfl) (by kernel_rfl) (by intro _ _ _ _ h; exact h) (Or.inl ⟨by rfl, ?_⟩) (fun h => Bool.noConfusion h) ?_
    rotate_left 1; focus (intro wx _; go_simp; try with_reducible rfl)
    try simp only [Act.put, List.setIfInBounds_toArray, List.set_cons_zero, List.set_cons_succ]
    refine till_take0 18 _ ?_ (by simp only [List.getElem?_toArray, List.getElem?_cons_succ, List.getElem?_cons_zero]; rfl) (by kernel_rfl) (by kernel_rfl) (by kernel_rfl) (by kernel_rfl) (by intro _ _ _ _ h; exact h) (Or.inl ⟨by rfl, ?_⟩) (fun h => Bool.noConfusion h) ?_
    rotate_left 1; focus (intro wx _; go_simp; try with_reducible rfl)
    try simp only [Act.put, List.setIfInBounds_toArray, List.set_cons_zero, List.set_cons_succ]
    refine till_take0 19 _ ?_ (by simp only [List.getElem?_toArray, List.getElem?_cons_succ, List.getElem?_cons_zero]; rfl) (by kernel_rfl) (by kernel_rfl) (by kernel_rfl) (by kernel_rfl) (by intro _ _ _ _ h; exact h) (Or.inl ⟨by rfl, ?_⟩) (fun h => Bool.noConfusion h) ?_
    rotate_left 1; focus (intro wx _; go_simp; try with_reducible rfl)
    try simp only [Act.put, List.setIfInBounds_toArray, List.set_cons_zero, List.set_cons_succ]
    refine till_done (by kernel_rfl) ?_ _
    obtain ⟨hrd, hbl, hmv⟩ := h3.out
    have HRD := Lib.hid hrd; have HBL := Lib.hid hbl
    clear h3 hrd hbl
    rcases hmv with ⟨P, g2, F, hmk, rfl, rfl, hpk, hF⟩ | ⟨hmk, er, rfl, rfl⟩
    · have hmw := made_ok g k (.iface 61 (.pointer (some ⟨g2, 0, none⟩))) w3
      have HMW := Lib.hid hmw; have HMK := Lib.hid hmk; have HPK := Lib.hid hpk; have HF := Lib.hid hF
      clear hmw hmk hpk hF
      go_wp2_with fail
      (with_reducible refine HMW.out.mono ?_)
      rintro e w6 ⟨rfl, rfl⟩
      go_wp2_with fail
      go_ret2
      exact .inl ⟨P, _, _, _, F, by rw [HRE.out, HMK.out]; rfl, rfl, ⟨_, _, rfl⟩, Lib.hid ⟨HRD.out, HCN.out.trans (Chg.of_below HBL.out) (fun i _ e => e), HPK.out, HF.out⟩⟩
    · have hmw := made_n c g _ _ k (.iface 61 (.pointer none)) er w3 HRD.out hk
      have HMW := Lib.hid hmw; have HMK := Lib.hid hmk
      clear hmw hmk
      go_wp2_with fail
      (with_reducible refine HMW.out.mono ?_)
      rintro e w6 ⟨q, rfl, hb6⟩
      have HB6 := Lib.hid hb6
      clear hb6
      go_wp2_with fail
      go_ret2
      exact .inr ⟨by rw [HRE.out, HMK.out]; rfl, _, _, rfl, Lib.hid (HCN.out.trans (Chg.of_below (HBL.out.trans (HB6.out.mono HBL.out.size))) (fun i _ e => e))⟩
  have hre := HRS.out
  rw [if_neg hwd] at hre
  have HCT0 := Lib.hid (HC1.out.trans h2.out.2 (fun i _ e => e)); have HRT0 := Lib.hid h2.out.1
  clear h2 HT HRS hwd
  have HRS := Lib.hid hre
  clear hre
  have HRT := Lib.hid HRT0.out
  generalize wU = wT at *
  have HT := Lib.hid (take_l c g k (m + 1) sHead ⟨#[104, 101, 97, 100]⟩ rfl wT HRT.out)
  go_wp2_with fail
  (with_reducible refine HT.out.mono ?_)
  rintro e wU (⟨hwd, rfl, h2⟩ | ⟨hwd, rfl, h2⟩)
  · skip
    have hk : k < c.ws.length := (List.getElem?_eq_some_iff.1 hwd).1
    have hre := HRS.out
    rw [if_pos hwd] at hre
    have HCT := Lib.hid (HCT0.out.trans h2.out.2 (fun i _ e => e)); have HRT := Lib.hid h2.out.1
    clear h2 HT HRS HRT0
    have HRS := Lib.hid hre
    clear hre
    generalize wU = wT at *
    have HN := Lib.hid (numbers_l c g (k + 1) (m + 1) 2 2 rfl (by omega) (by omega) wT HRT.out)
    go_wp2_with fail
    (with_reducible refine HN.out.mono ?_)
    rintro e wn (⟨vs, b0, c0, hnm, rfl, hn⟩ | ⟨hnm, q, rfl, hn⟩)
    rotate_left
    · skip
      have hre : res = none := by rw [HRS.out]; exact afterN_none hnm
      have HRE := Lib.hid hre; have HCN := Lib.hid (HCT.out.trans hn.out (fun i _ e => e))
      clear hre hnm hn
      go_wp2_with fail
      go_ret2
      exact .inr ⟨HRE.out, _, _, rfl, Lib.hid HCN.out⟩
    obtain ⟨hcs, hb0, hb1, hrn, hcn⟩ := hn.out
    have hre := HRS.out.trans (afterN_some hnm)
    have HRE := Lib.hid hre; have HRN := Lib.hid hrn; have HCN := Lib.hid (HCT.out.trans hcn (fun i _ e => e))
    have hB : w.heap.size ≤ wn.heap.size := HCN.out.size
    have n0 := hcs 0 (by omega)
    have n1 := hcs 1 (by omega)
    have z0 := hrn.rd.blk.cell 0; have z4 := hrn.rd.blk.cell 4
    simp at z0 z4
    obtain ⟨bw, ow, hAw, hbw, hcw⟩ := hrn.word hwd
    rw [hAw] at z0
    have il : (k : Int) < (c.ws.length : Int) := by omega
    have hte : (sHead.toList == [104, 101, 97, 100]) = true := by rw [ByteArray.toList_eq]; rfl
    clear hn hcs hcn hrn hre hnm HN
    generalize vs.getD 0 0 = x0 at *
    generalize vs.getD 1 0 = x1 at *
    have HMD := Lib.hid (fun W (hb : Below wn.heap.size wn W) => (made_fifo x0 x1 true W (Nat.le_trans HRN.out.sz6 hb.size)).mono fun e w' h => h.v HRN.out hb hB (fun i hi => hi.elim))
    go_upto_region 10 with fail
    have HSD : Hid (_ ∧ _ ∧ _ ∧ _) := Lib.hid ⟨n0, n1, z0, hcw⟩
    refine wp_till (fun wx => wx.cell? ⟨b0, 0, none⟩ = some (.int .i64 x0) ∧ wx.cell? ⟨b0, 1, none⟩ = some (.int .i64 x1) ∧ wx.cell? ⟨g, 0, none⟩ = some (.slice (some ⟨bw, ow, none⟩) c.ws.length c.cw) ∧ wx.cell? ⟨bw, ow + k, none⟩ = some (.string sHead)) [14] (by kernel_rfl) ?_
    refine till_take 0 [1, 2] _ ?_ (by simp only [List.getElem?_toArray, List.getElem?_cons_zero]; rfl) (by kernel_rfl) (by kernel_rfl) (by kernel_rfl) (by kernel_rfl) (by kernel_rfl) (by intro _ _ _ _ h; exact h) (Or.inl ⟨by rfl, ?_⟩) HSD.out ?_
    rotate_left 1; focus (intro wx hSw; (try dsimp only at hSw); obtain ⟨q0, q1, q2, q3⟩ := hSw; go_simp; try with_reducible rfl)
    try simp only [Act.put, List.setIfInBounds_toArray, List.set_cons_zero, List.set_cons_succ]
    refine till_take 1 [2] _ ?_ (by simp only [List.getElem?_toArray, List.getElem?_cons_succ, List.getElem?_cons_zero]; rfl) (by kernel_rfl) (by kernel_rfl) (by kernel_rfl) (by kernel_rfl) (by kernel_rfl) (by intro _ _ _ _ h; exact h) (Or.inl ⟨by rfl, ?_⟩) HSD.out ?_
    rotate_left 1; focus (intro wx hSw; (try dsimp only at hSw); obtain ⟨q0, q1, q2, q3⟩ := hSw; go_simp; try with_reducible rfl)
    try simp only [Act.put, List.setIfInBounds_toArray, List.set_cons_zero, List.set_cons_succ]
    refine till_take 2 [] _ ?_ (by simp only [List.getElem?_toArray, List.getElem?_cons_succ, List.getElem?_cons_zero]; rfl) (by kernel_rfl) (by kernel_rfl) (by kernel_rfl) (by kernel_rfl) (by kernel_rfl) (by intro _ _ _ _ h; exact h) (Or.inl ⟨by rfl, ?_⟩) HSD.out ?_
    rotate_left 1; focus (intro wx hSw; (try dsimp only at hSw); obtain ⟨q0, q1, q2, q3⟩ := hSw; go_simp; try with_reducible rfl)
    try simp only [Act.put, List.setIfInBounds_toArray, List.set_cons_zero, List.set_cons_succ]
    refine till_take 3 [4, 5] _ ?_ (by simp only [List.getElem?_toArray, List.getElem?_cons_succ, List.getElem?_cons_zero]; rfl) (by kernel_rfl) (by kernel_rfl) (by kernel_rfl) (by kernel_rfl) (by kernel_rfl) (by intro _ _ _ _ h; exact h) (Or.inl ⟨by rfl, ?_⟩) HSD.out ?_
    rotate_left 1; focus (intro wx hSw; (try dsimp only at hSw); obtain ⟨q0, q1, q2, q3⟩ := hSw; go_simp; try with_reducible rfl)
    try simp only [Act.put, List.setIfInBounds_toArray, List.set_cons_zero, List.set_cons_succ]
    refine till_take 4 [5] _ ?_ (by simp only [List.getElem?_toArray, List.getElem?_cons_succ, List.getElem?_cons_zero]; rfl) (by kernel_rfl) (by kernel_rfl) (by kernel_rfl) (by kernel_rfl) (by kernel_rfl) (by intro _ _ _ _ h; exact h) (Or.inl ⟨by rfl, ?_⟩) HSD.out ?_
    rotate_left 1; focus (intro wx hSw; (try dsimp only at hSw); obtain ⟨q0, q1, q2, q3⟩ := hSw; go_simp; try with_reducible rfl)
    try simp only [Act.put, List.setIfInBounds_toArray, List.set_cons_zero, List.set_cons_succ]
    refine till_take 5 [] _ ?_ (by simp only [List.getElem?_toArray, List.getElem?_cons_succ, List.getElem?_cons_zero]; rfl) (by kernel_rfl) (by kernel_rfl) (by kernel_rfl) (by kernel_rfl) (by kernel_rfl) (by intro _ _ _ _ h; exact h) (Or.inl ⟨by rfl, ?_⟩) HSD.out ?_
    rotate_left 1; focus (intro wx hSw; (try dsimp only at hSw); obtain ⟨q0, q1, q2, q3⟩ := hSw; go_simp; try with_reducible rfl)
    try simp only [Act.put, List.setIfInBounds_toArray, List.set_cons_zero, List.set_cons_succ]
    refine till_take 6 [7, 8, 9, 11, 12, 13] _ ?_ (by simp only [List.getElem?_toArray, List.getElem?_cons_succ, List.getElem?_cons_zero]; rfl) (by kernel_rfl) (by kernel_rfl) (by kernel_rfl) (by kernel_rfl) (by kernel_rfl) (by intro _ _ _ _ h; exact h) (Or.inl ⟨by rfl, ?_⟩) HSD.out ?_
    rotate_left 1; focus (intro wx hSw; (try dsimp only at hSw); obtain ⟨q0, q1, q2, q3⟩ := hSw; go_simp; try with_reducible rfl)
    try simp only [Act.put, List.setIfInBounds_toArray, List.set_cons_zero, List.set_cons_succ]
    refine till_take 7 [8, 9, 11, 12, 13] _ ?_ (by simp only [List.getElem?_toArray, List.getElem?_cons_succ, List.getElem?_cons_zero]; rfl) (by kernel_rfl) (by kernel_rfl) (by kernel_rfl) (by kernel_rfl) (by kernel_rfl) (by intro _ _ _ _ h; exact h) (Or.inl ⟨by rfl, ?_⟩) HSD.out ?_
    rotate_left 1; focus (intro wx hSw; (try dsimp only at hSw); obtain ⟨q0, q1, q2, q3⟩ := hSw; go_simp; try with_reducible rfl)
    try simp only [Act.put, List.setIfInBounds_toArray, List.set_cons_zero, List.set_cons_succ]
    refine till_take 8 [9, 11, 12, 13] _ ?_ (by simp only [List.getElem?_toArray, List.getElem?_cons_succ, List.getElem?_cons_zero]; rfl) (by kernel_rfl) (by kernel_rfl) (by kernel_rfl) (by kernel_rfl) (by kernel_rfl) (by intro _ _ _ _ h; exact h) (Or.inl ⟨by rfl, ?_⟩) HSD.out ?_
    rotate_left 1; focus (intro wx hSw; (try dsimp only at hSw); obtain ⟨q0, q1, q2, q3⟩ := hSw; go_simp; try with_reducible rfl)
    try simp only [Act.put, List.setIfInBounds_toArray, List.set_cons_zero, List.set_cons_succ]
    refine till_take 9 [11, 12, 13] _ ?_ (by simp only [List.getElem?_toArray, List.getElem?_cons_succ, List.getElem?_cons_zero]; rfl) (by kernel_rfl) (by kernel_rfl) (by kernel_rfl) (by kernel_rfl) (by kernel_rfl) (by intro _ _ _ _ h; exact h) (Or.inl ⟨by rfl, ?_⟩) HSD.out ?_
    rotate_left 1; focus (intro wx hSw; (try dsimp only at hSw); obtain ⟨q0, q1, q2, q3⟩ := hSw; go_simp; try with_reducible rfl)
    try simp only [Act.put, List.setIfInBounds_toArray, List.set_cons_zero, List.set_cons_succ]
    refine till_take 10 [11, 12, 13] _ ?_ (by simp only [List.getElem?_toArray, List.getElem?_cons_succ, List.getElem?_cons_zero]; rfl) (by kernel_rfl) (by kernel_rfl) (by kernel_rfl) (by kernel_rfl) (by kernel_rfl) (by intro _ _ _ _ h; exact h) (Or.inl ⟨by rfl, ?_⟩) HSD.out ?_
    rotate_left 1; focus (intro wx hSw; (try dsimp only at hSw); obtain ⟨q0, q1, q2, q3⟩ := hSw; go_simp; try with_reducible rfl)
    try simp only [Act.put, List.setIfInBounds_toArray, List.set_cons_zero, List.set_cons_succ]
    refine till_take 11 [12, 13] _ ?_ (by simp only [List.getElem?_toArray, List.getElem?_cons_succ, List.getElem?_cons_zero]; rfl) (by kernel_rfl) (by kernel_rfl) (by kernel_rfl) (by kernel_rfl) (by kernel_rfl) (by intro _ _ _ _ h; exact h) (Or.inl ⟨by rfl, ?_⟩) HSD.out ?_
    rotate_left 1; focus (intro wx hSw; (try dsimp only at hSw); obtain ⟨q0, q1, q2, q3⟩ := hSw; go_simp; try with_reducible rfl)
    try simp only [Act.put, List.setIfInBounds_toArray, List.set_cons_zero, List.set_cons_succ]
    refine till_take 12 [13] _ ?_ (by simp only [List.getElem?_toArray, List.getElem?_cons_succ, List.getElem?_cons_zero]; rfl) (by kernel_rfl) (by kernel_rfl) (by kernel_rfl) (by kernel_rfl) (by kernel_rfl) (by intro _ _ _ _ h; exact h) (Or.inl ⟨by rfl, ?_⟩) HSD.out ?_
    rotate_left 1; focus (intro wx hSw; (try dsimp only at hSw); obtain ⟨q0, q1, q2, q3⟩ := hSw; go_simp; try with_reducible rfl)
    try simp only [Act.put, List.setIfInBounds_toArray, List.set_cons_zero, List.set_cons_succ]
    refine till_take 13 [] _ ?_ (by simp only [List.getElem?_toArray, List.getElem?_cons_succ, List.getElem?_cons_zero]; rfl) (by kernel_rfl) (by kernel_rfl) (by kernel_rfl) (by kernel_rfl) (by kernel_rfl) (by intro _ _ _ _ h; exact h) (Or.inl ⟨by rfl, ?_⟩) HSD.out ?_
    rotate_left 1; focus (intro wx hSw; (try dsimp only at hSw); obtain ⟨q0, q1, q2, q3⟩ := hSw; go_simp; try with_reducible rfl)
    try simp only [Act.put, List.setIfInBounds_toArray, List.set_cons_zero, List.set_cons_succ]
    refine till_ready [14] (by kernel_rfl) (by simp) ?_
    refine alls_cons (by simp only [List.getElem?_toArray, List.getElem?_cons_succ, List.getElem?_cons_zero]; rfl) (fun K hK => ?_) alls_nil
    go_simp
    go_at_call 21; (with_reducible refine (HMD.out _ (bl_drew (Below.refl _ _))).mono ?_); rintro e w3 ⟨a3, b3, rfl, h3⟩
    refine hK.out _ _ (fun h => Bool.noConfusion h) ?_
    clear hK K
    try simp only [Act.put, List.setIfInBounds_toArray, List.set_cons_zero, List.set_cons_succ]
    refine till_take0 15 _ ?_ (by simp only [List.getElem?_toArray, List.getElem?_cons_succ, List.getElem?_cons_zero]; rfl) (by kernel_rfl) (by kernel_rfl) (by kernel_rfl) (by kernel_rfl) (by intro _ _ _ _ h; exact h) (Or.inl ⟨by rfl, ?_⟩) (fun h => Bool.noConfusion h) ?_
    rotate_left 1; focus (intro wx _; go_simp; try with_reducible rfl)
    try simp only [Act.put, List.setIfInBounds_toArray, List.set_cons_zero, List.set_cons_succ]
    refine till_take0 16 _ ?_ (by simp only [List.getElem?_toArray, List.getElem?_cons_succ, List.getElem?_cons_zero]; rfl) (by kernel_rfl) (by kernel_rfl) (by kernel_rfl) (by kernel_rfl) (by intro _ _ _ _ h; exact h) (Or.inl ⟨by rfl, ?_⟩) (fun h => Bool.noConfusion h) ?_
    rotate_left 1; focus (intro wx _; go_simp; try with_reducible rfl)
    try simp only [Act.put, List.setIfInBounds_toArray, List.set_cons_zero, List.set_cons_succ]
    refine till_take0 17 _ ?_ (by simp only [List.getElem?_toArray, List.getElem?_cons_succ, List.getElem?_cons_zero]; rfl) (by kernel_rfl) (by kernel_rfl) (by kernel_rfl) (by kernel_rfl) (by intro _ _ _ _ h; exact h) (Or.inl ⟨by rfl, ?_⟩) (fun h => Bool.noConfusion h) ?_
    rotate_left 1; focus (intro wx _; go_simp; try with_reducible rfl)
    try simp only [Act.put, List.setIfInBounds_toArray, List.set_cons_zero, List.set_cons_succ]
    refine till_take0 18 _ ?_ (by simp only [List.getElem?_toArray, List.getElem?_cons_succ, List.getElem?_cons_zero]; rfl) (by kernel_rfl) (by kernel_rfl) (by kernel_rfl) (by kernel_rfl) (by intro _ _ _ _ h; exact h) (Or.inl ⟨by rfl, ?_⟩) (fun h => Bool.noConfusion h) ?_
    rotate_left 1; focus (intro wx _; go_simp; try with_reducible rfl)
    try simp only [Act.put, List.setIfInBounds_toArray, List.set_cons_zero, List.set_cons_succ]
    refine till_take0 19 _ ?_ (by simp only [List.getElem?_toArray, List.getElem?_cons_succ, List.getElem?_cons_zero]; rfl) (by kernel_rfl) (by kernel_rfl) (by kernel_rfl) (by kernel_rfl) (by intro _ _ _ _ h; exact h) (Or.inl ⟨by rfl, ?_⟩) (fun h => Bool.noConfusion h) ?_
    rotate_left 1; focus (intro wx _; go_simp; try with_reducible rfl)
    try simp only [Act.put, List.setIfInBounds_toArray, List.set_cons_zero, List.set_cons_succ]
    refine till_done (by kernel_rfl) ?_ _
    obtain ⟨hrd, hbl, hmv⟩ := h3.out
    have HRD := Lib.hid hrd; have HBL := Lib.hid hbl
    clear h3 hrd hbl
    rcases hmv with ⟨P, g2, F, hmk, rfl, rfl, hpk, hF⟩ | ⟨hmk, er, rfl, rfl⟩
    · have hmw := made_ok g k (.iface 61 (.pointer (some ⟨g2, 0, none⟩))) w3
      have HMW := Lib.hid hmw; have HMK := Lib.hid hmk; have HPK := Lib.hid hpk; have HF := Lib.hid hF
      clear hmw hmk hpk hF
      go_wp2_with fail
      (with_reducible refine HMW.out.mono ?_)
      rintro e w6 ⟨rfl, rfl⟩
      go_wp2_with fail
      go_ret2
      exact .inl ⟨P, _, _, _, F, by rw [HRE.out, HMK.out]; rfl, rfl, ⟨_, _, rfl⟩, Lib.hid ⟨HRD.out, HCN.out.trans (Chg.of_below HBL.out) (fun i _ e => e), HPK.out, HF.out⟩⟩
    · have hmw := made_n c g _ _ k (.iface 61 (.pointer none)) er w3 HRD.out hk
      have HMW := Lib.hid hmw; have HMK := Lib.hid hmk
      clear hmw hmk
      go_wp2_with fail
      (with_reducible refine HMW.out.mono ?_)
      rintro e w6 ⟨q, rfl, hb6⟩
      have HB6 := Lib.hid hb6
      clear hb6
      go_wp2_with fail
      go_ret2
      exact .inr ⟨by rw [HRE.out, HMK.out]; rfl, _, _, rfl, Lib.hid (HCN.out.trans (Chg.of_below (HBL.out.trans (HB6.out.mono HBL.out.size))) (fun i _ e => e))⟩
  have hre := HRS.out
  rw [if_neg hwd] at hre
  have HCT0 := Lib.hid (HCT0.out.trans h2.out.2 (fun i _ e => e)); have HRT0 := Lib.hid h2.out.1
  clear h2 HT HRS hwd
  have HRS := Lib.hid hre
  clear hre
  have HRT := Lib.hid HRT0.out
  generalize wU = wT at *
  have HT := Lib.hid (take_l c g k (m + 1) sRed ⟨#[114, 101, 100]⟩ rfl wT HRT.out)
  go_wp2_with fail
  (with_reducible refine HT.out.mono ?_)
  rintro e wU (⟨hwd, rfl, h2⟩ | ⟨hwd, rfl, h2⟩)
  · skip
    have hk : k < c.ws.length := (List.getElem?_eq_some_iff.1 hwd).1
    have hre := HRS.out
    rw [if_pos hwd] at hre
    have HCT := Lib.hid (HCT0.out.trans h2.out.2 (fun i _ e => e)); have HRT := Lib.hid h2.out.1
    clear h2 HT HRS HRT0
    have HRS := Lib.hid hre
    clear hre
    generalize wU = wT at *
    have HN := Lib.hid (numbers_l c g (k + 1) (m + 1) 6 6 rfl (by omega) (by omega) wT HRT.out)
    go_wp2_with fail
    (with_reducible refine HN.out.mono ?_)
    rintro e wn (⟨vs, b0, c0, hnm, rfl, hn⟩ | ⟨hnm, q, rfl, hn⟩)
    rotate_left
    · skip
      have hre : res = none := by rw [HRS.out]; exact afterN_none hnm
      have HRE := Lib.hid hre; have HCN := Lib.hid (HCT.out.trans hn.out (fun i _ e => e))
      clear hre hnm hn
      go_wp2_with fail
      go_ret2
      exact .inr ⟨HRE.out, _, _, rfl, Lib.hid HCN.out⟩
    obtain ⟨hcs, hb0, hb1, hrn, hcn⟩ := hn.out
    have hre := HRS.out.trans (afterN_some hnm)
    have HRE := Lib.hid hre; have HRN := Lib.hid hrn; have HCN := Lib.hid (HCT.out.trans hcn (fun i _ e => e))
    have hB : w.heap.size ≤ wn.heap.size := HCN.out.size
    have n0 := hcs 0 (by omega)
    have n1 := hcs 1 (by omega)
    have n2 := hcs 2 (by omega)
    have n3 := hcs 3 (by omega)
    have n4 := hcs 4 (by omega)
    have n5 := hcs 5 (by omega)
    have z0 := hrn.rd.blk.cell 0; have z4 := hrn.rd.blk.cell 4
    simp at z0 z4
    obtain ⟨bw, ow, hAw, hbw, hcw⟩ := hrn.word hwd
    rw [hAw] at z0
    have il : (k : Int) < (c.ws.length : Int) := by omega
    have hte : (sRed.toList == [109, 97, 114, 107]) = false := by rw [ByteArray.toList_eq]; rfl
    clear hn hcs hcn hrn hre hnm HN
    generalize vs.getD 0 0 = x0 at *
    generalize vs.getD 1 0 = x1 at *
    generalize vs.getD 2 0 = x2 at *
    generalize vs.getD 3 0 = x3 at *
    generalize vs.getD 4 0 = x4 at *
    generalize vs.getD 5 0 = x5 at *
    have HMD := Lib.hid (fun W (hb : Below wn.heap.size wn W) => (made_red ⟨x0, x1, x2, x3, false⟩ x4 x5 c.At c.tape.length c.ct c.tape W (HRN.out.below hb).tp HRN.out.tl (Nat.le_trans HRN.out.sz6 hb.size)).mono fun e w' h => h.v HRN.out hb hB (fun i hi => hi.elim))
    unfold suV at HMD
    dsimp only at HMD
    go_upto_region 17 with fail
    have HSD : Hid (_ ∧ _ ∧ _ ∧ _ ∧ _ ∧ _ ∧ _ ∧ _ ∧ _) := Lib.hid ⟨n0, n1, n2, n3, n4, n5, z0, hcw, z4⟩
    refine wp_till (fun wx => wx.cell? ⟨b0, 0, none⟩ = some (.int .i64 x0) ∧ wx.cell? ⟨b0, 1, none⟩ = some (.int .i64 x1) ∧ wx.cell? ⟨b0, 2, none⟩ = some (.int .i64 x2) ∧ wx.cell? ⟨b0, 3, none⟩ = some (.int .i64 x3) ∧ wx.cell? ⟨b0, 4, none⟩ = some (.int .i64 x4) ∧ wx.cell? ⟨b0, 5, none⟩ = some (.int .i64 x5) ∧ wx.cell? ⟨g, 0, none⟩ = some (.slice (some ⟨bw, ow, none⟩) c.ws.length c.cw) ∧ wx.cell? ⟨bw, ow + k, none⟩ = some (.string sRed) ∧ wx.cell? ⟨g, 4, none⟩ = some (.slice c.At c.tape.length c.ct)) [31] (by kernel_rfl) ?_
    refine till_take 0 [1, 2, 20] _ ?_ (by simp only [List.getElem?_toArray, List.getElem?_cons_zero]; rfl) (by kernel_rfl) (by kernel_rfl) (by kernel_rfl) (by kernel_rfl) (by kernel_rfl) (by intro _ _ _ _ h; exact h) (Or.inl ⟨by rfl, ?_⟩) HSD.out ?_
    rotate_left 1; focus (intro wx hSw; (try dsimp only at hSw); obtain ⟨q0, q1, q2, q3, q4, q5, q6, q7, q8⟩ := hSw; go_simp; try with_reducible rfl)
    try simp only [Act.put, List.setIfInBounds_toArray, List.set_cons_zero, List.set_cons_succ]
    refine till_take 1 [2, 20] _ ?_ (by simp only [List.getElem?_toArray, List.getElem?_cons_succ, List.getElem?_cons_zero]; rfl) (by kernel_rfl) (by kernel_rfl) (by kernel_rfl) (by kernel_rfl) (by kernel_rfl) (by intro _ _ _ _ h; exact h) (Or.inl ⟨by rfl, ?_⟩) HSD.out ?_
    rotate_left 1; focus (intro wx hSw; (try dsimp only at hSw); obtain ⟨q0, q1, q2, q3, q4, q5, q6, q7, q8⟩ := hSw; go_simp; try with_reducible rfl)
    try simp only [Act.put, List.setIfInBounds_toArray, List.set_cons_zero, List.set_cons_succ]
    refine till_take 2 [20] _ ?_ (by simp only [List.getElem?_toArray, List.getElem?_cons_succ, List.getElem?_cons_zero]; rfl) (by kernel_rfl) (by kernel_rfl) (by kernel_rfl) (by kernel_rfl) (by kernel_rfl) (by intro _ _ _ _ h; exact h) (Or.inl ⟨by rfl, ?_⟩) HSD.out ?_
    rotate_left 1; focus (intro wx hSw; (try dsimp only at hSw); obtain ⟨q0, q1, q2, q3, q4, q5, q6, q7, q8⟩ := hSw; go_simp; try with_reducible rfl)
    try simp only [Act.put, List.setIfInBounds_toArray, List.set_cons_zero, List.set_cons_succ]
    refine till_take 3 [4, 5, 20] _ ?_ (by simp only [List.getElem?_toArray, List.getElem?_cons_succ, List.getElem?_cons_zero]; rfl) (by kernel_rfl) (by kernel_rfl) (by kernel_rfl) (by kernel_rfl) (by kernel_rfl) (by intro _ _ _ _ h; exact h) (Or.inl ⟨by rfl, ?_⟩) HSD.out ?_
    rotate_left 1; focus (intro wx hSw; (try dsimp only at hSw); obtain ⟨q0, q1, q2, q3, q4, q5, q6, q7, q8⟩ := hSw; go_simp; try with_reducible rfl)
    try simp only [Act.put, List.setIfInBounds_toArray, List.set_cons_zero, List.set_cons_succ]
    refine till_take 4 [5, 20] _ ?_ (by simp only [List.getElem?_toArray, List.getElem?_cons_succ, List.getElem?_cons_zero]; rfl) (by kernel_rfl) (by kernel_rfl) (by kernel_rfl) (by kernel_rfl) (by kernel_rfl) (by intro _ _ _ _ h; exact h) (Or.inl ⟨by rfl, ?_⟩) HSD.out ?_
    rotate_left 1; focus (intro wx hSw; (try dsimp only at hSw); obtain ⟨q0, q1, q2, q3, q4, q5, q6, q7, q8⟩ := hSw; go_simp; try with_reducible rfl)
    try simp only [Act.put, List.setIfInBounds_toArray, List.set_cons_zero, List.set_cons_succ]
    refine till_take 5 [20] _ ?_ (by simp only [List.getElem?_toArray, List.getElem?_cons_succ, List.getElem?_cons_zero]; rfl) (by kernel_rfl) (by kernel_rfl) (by kernel_rfl) (by kernel_rfl) (by kernel_rfl) (by intro _ _ _ _ h; exact h) (Or.inl ⟨by rfl, ?_⟩) HSD.out ?_
    rotate_left 1; focus (intro wx hSw; (try dsimp only at hSw); obtain ⟨q0, q1, q2, q3, q4, q5, q6, q7, q8⟩ := hSw; go_simp; try with_reducible rfl)
    try simp only [Act.put, List.setIfInBounds_toArray, List.set_cons_zero, List.set_cons_succ]
    refine till_take 6 [7, 8, 20] _ ?_ (by simp only [List.getElem?_toArray, List.getElem?_cons_succ, List.getElem?_cons_zero]; rfl) (by kernel_rfl) (by kernel_rfl) (by kernel_rfl) (by kernel_rfl) (by kernel_rfl) (by intro _ _ _ _ h; exact h) (Or.inl ⟨by rfl, ?_⟩) HSD.out ?_
    rotate_left 1; focus (intro wx hSw; (try dsimp only at hSw); obtain ⟨q0, q1, q2, q3, q4, q5, q6, q7, q8⟩ := hSw; go_simp; try with_reducible rfl)
    try simp only [Act.put, List.setIfInBounds_toArray, List.set_cons_zero, List.set_cons_succ]
    refine till_take 7 [8, 20] _ ?_ (by simp only [List.getElem?_toArray, List.getElem?_cons_succ, List.getElem?_cons_zero]; rfl) (by kernel_rfl) (by kernel_rfl) (by kernel_rfl) (by kernel_rfl) (by kernel_rfl) (by intro _ _ _ _ h; exact h) (Or.inl ⟨by rfl, ?_⟩) HSD.out ?_
    rotate_left 1; focus (intro wx hSw; (try dsimp only at hSw); obtain ⟨q0, q1, q2, q3, q4, q5, q6, q7, q8⟩ := hSw; go_simp; try with_reducible rfl)
    try simp only [Act.put, List.setIfInBounds_toArray, List.set_cons_zero, List.set_cons_succ]
    refine till_take 8 [20] _ ?_ (by simp only [List.getElem?_toArray, List.getElem?_cons_succ, List.getElem?_cons_zero]; rfl) (by kernel_rfl) (by kernel_rfl) (by kernel_rfl) (by kernel_rfl) (by kernel_rfl) (by intro _ _ _ _ h; exact h) (Or.inl ⟨by rfl, ?_⟩) HSD.out ?_
    rotate_left 1; focus (intro wx hSw; (try dsimp only at hSw); obtain ⟨q0, q1, q2, q3, q4, q5, q6, q7, q8⟩ := hSw; go_simp; try with_reducible rfl)
    try simp only [Act.put, List.setIfInBounds_toArray, List.set_cons_zero, List.set_cons_succ]
    refine till_take 9 [10, 11, 20] _ ?_ (by simp only [List.getElem?_toArray, List.getElem?_cons_succ, List.getElem?_cons_zero]; rfl) (by kernel_rfl) (by kernel_rfl) (by kernel_rfl) (by kernel_rfl) (by kernel_rfl) (by intro _ _ _ _ h; exact h) (Or.inl ⟨by rfl, ?_⟩) HSD.out ?_
    rotate_left 1; focus (intro wx hSw; (try dsimp only at hSw); obtain ⟨q0, q1, q2, q3, q4, q5, q6, q7, q8⟩ := hSw; go_simp; try with_reducible rfl)
    try simp only [Act.put, List.setIfInBounds_toArray, List.set_cons_zero, List.set_cons_succ]
    refine till_take 10 [11, 20] _ ?_ (by simp only [List.getElem?_toArray, List.getElem?_cons_succ, List.getElem?_cons_zero]; rfl) (by kernel_rfl) (by kernel_rfl) (by kernel_rfl) (by kernel_rfl) (by kernel_rfl) (by intro _ _ _ _ h; exact h) (Or.inl ⟨by rfl, ?_⟩) HSD.out ?_
    rotate_left 1; focus (intro wx hSw; (try dsimp only at hSw); obtain ⟨q0, q1, q2, q3, q4, q5, q6, q7, q8⟩ := hSw; go_simp; try with_reducible rfl)
    try simp only [Act.put, List.setIfInBounds_toArray, List.set_cons_zero, List.set_cons_succ]
    refine till_take 11 [20] _ ?_ (by simp only [List.getElem?_toArray, List.getElem?_cons_succ, List.getElem?_cons_zero]; rfl) (by kernel_rfl) (by kernel_rfl) (by kernel_rfl) (by kernel_rfl) (by kernel_rfl) (by intro _ _ _ _ h; exact h) (Or.inl ⟨by rfl, ?_⟩) HSD.out ?_
    rotate_left 1; focus (intro wx hSw; (try dsimp only at hSw); obtain ⟨q0, q1, q2, q3, q4, q5, q6, q7, q8⟩ := hSw; go_simp; try with_reducible rfl)
    try simp only [Act.put, List.setIfInBounds_toArray, List.set_cons_zero, List.set_cons_succ]
    refine till_take 12 [13, 14, 15, 17, 18, 19, 20] _ ?_ (by simp only [List.getElem?_toArray, List.getElem?_cons_succ, List.getElem?_cons_zero]; rfl) (by kernel_rfl) (by kernel_rfl) (by kernel_rfl) (by kernel_rfl) (by kernel_rfl) (by intro _ _ _ _ h; exact h) (Or.inl ⟨by rfl, ?_⟩) HSD.out ?_
    rotate_left 1; focus (intro wx hSw; (try dsimp only at hSw); obtain ⟨q0, q1, q2, q3, q4, q5, q6, q7, q8⟩ := hSw; go_simp; try with_reducible rfl)
    try simp only [Act.put, List.setIfInBounds_toArray, List.set_cons_zero, List.set_cons_succ]
    refine till_take 13 [14, 15, 17, 18, 19, 20] _ ?_ (by simp only [List.getElem?_toArray, List.getElem?_cons_succ, List.getElem?_cons_zero]; rfl) (by kernel_rfl) (by kernel_rfl) (by kernel_rfl) (by kernel_rfl) (by kernel_rfl) (by intro _ _ _ _ h; exact h) (Or.inl ⟨by rfl, ?_⟩) HSD.out ?_
    rotate_left 1; focus (intro wx hSw; (try dsimp only at hSw); obtain ⟨q0, q1, q2, q3, q4, q5, q6, q7, q8⟩ := hSw; go_simp; try with_reducible rfl)
    try simp only [Act.put, List.setIfInBounds_toArray, List.set_cons_zero, List.set_cons_succ]
    refine till_take 14 [15, 17, 18, 19, 20] _ ?_ (by simp only [List.getElem?_toArray, List.getElem?_cons_succ, List.getElem?_cons_zero]; rfl) (by kernel_rfl) (by kernel_rfl) (by kernel_rfl) (by kernel_rfl) (by kernel_rfl) (by intro _ _ _ _ h; exact h) (Or.inl ⟨by rfl, ?_⟩) HSD.out ?_
    rotate_left 1; focus (intro wx hSw; (try dsimp only at hSw); obtain ⟨q0, q1, q2, q3, q4, q5, q6, q7, q8⟩ := hSw; go_simp; try with_reducible rfl)
    try simp only [Act.put, List.setIfInBounds_toArray, List.set_cons_zero, List.set_cons_succ]
    refine till_take 15 [17, 18, 19, 20] _ ?_ (by simp only [List.getElem?_toArray, List.getElem?_cons_succ, List.getElem?_cons_zero]; rfl) (by kernel_rfl) (by kernel_rfl) (by kernel_rfl) (by kernel_rfl) (by kernel_rfl) (by intro _ _ _ _ h; exact h) (Or.inl ⟨by rfl, ?_⟩) HSD.out ?_
    rotate_left 1; focus (intro wx hSw; (try dsimp only at hSw); obtain ⟨q0, q1, q2, q3, q4, q5, q6, q7, q8⟩ := hSw; go_simp; try with_reducible rfl)
    try simp only [Act.put, List.setIfInBounds_toArray, List.set_cons_zero, List.set_cons_succ]
    refine till_take 16 [17, 18, 19, 20] _ ?_ (by simp only [List.getElem?_toArray, List.getElem?_cons_succ, List.getElem?_cons_zero]; rfl) (by kernel_rfl) (by kernel_rfl) (by kernel_rfl) (by kernel_rfl) (by kernel_rfl) (by intro _ _ _ _ h; exact h) (Or.inl ⟨by rfl, ?_⟩) HSD.out ?_
    rotate_left 1; focus (intro wx hSw; (try dsimp only at hSw); obtain ⟨q0, q1, q2, q3, q4, q5, q6, q7, q8⟩ := hSw; go_simp; try with_reducible rfl)
    try simp only [Act.put, List.setIfInBounds_toArray, List.set_cons_zero, List.set_cons_succ]
    refine till_take 17 [18, 19, 20] _ ?_ (by simp only [List.getElem?_toArray, List.getElem?_cons_succ, List.getElem?_cons_zero]; rfl) (by kernel_rfl) (by kernel_rfl) (by kernel_rfl) (by kernel_rfl) (by kernel_rfl) (by intro _ _ _ _ h; exact h) (Or.inl ⟨by rfl, ?_⟩) HSD.out ?_
    rotate_left 1; focus (intro wx hSw; (try dsimp only at hSw); obtain ⟨q0, q1, q2, q3, q4, q5, q6, q7, q8⟩ := hSw; go_simp; try with_reducible rfl)
    try simp only [Act.put, List.setIfInBounds_toArray, List.set_cons_zero, List.set_cons_succ]
    refine till_take 18 [19, 20] _ ?_ (by simp only [List.getElem?_toArray, List.getElem?_cons_succ, List.getElem?_cons_zero]; rfl) (by kernel_rfl) (by kernel_rfl) (by kernel_rfl) (by kernel_rfl) (by kernel_rfl) (by intro _ _ _ _ h; exact h) (Or.inl ⟨by rfl, ?_⟩) HSD.out ?_
    rotate_left 1; focus (intro wx hSw; (try dsimp only at hSw); obtain ⟨q0, q1, q2, q3, q4, q5, q6, q7, q8⟩ := hSw; go_simp; try with_reducible rfl)
    try simp only [Act.put, List.setIfInBounds_toArray, List.set_cons_zero, List.set_cons_succ]
    refine till_take 19 [20] _ ?_ (by simp only [List.getElem?_toArray, List.getElem?_cons_succ, List.getElem?_cons_zero]; rfl) (by kernel_rfl) (by kernel_rfl) (by kernel_rfl) (by kernel_rfl) (by kernel_rfl) (by intro _ _ _ _ h; exact h) (Or.inl ⟨by rfl, ?_⟩) HSD.out ?_
    rotate_left 1; focus (intro wx hSw; (try dsimp only at hSw); obtain ⟨q0, q1, q2, q3, q4, q5, q6, q7, q8⟩ := hSw; go_simp; try with_reducible rfl)
    try simp only [Act.put, List.setIfInBounds_toArray, List.set_cons_zero, List.set_cons_succ]
    refine till_take 20 [] _ ?_ (by simp only [List.getElem?_toArray, List.getElem?_cons_succ, List.getElem?_cons_zero]; rfl) (by kernel_rfl) (by kernel_rfl) (by kernel_rfl) (by kernel_rfl) (by kernel_rfl) (by intro _ _ _ _ h; exact h) (Or.inl ⟨by rfl, ?_⟩) HSD.out ?_
    rotate_left 1; focus (intro wx hSw; (try dsimp only at hSw); obtain ⟨q0, q1, q2, q3, q4, q5, q6, q7, q8⟩ := hSw; go_simp; try with_reducible rfl)
    try simp only [Act.put, List.setIfInBounds_toArray, List.set_cons_zero, List.set_cons_succ]
    refine till_take 21 [22, 23] _ ?_ (by simp only [List.getElem?_toArray, List.getElem?_cons_succ, List.getElem?_cons_zero]; rfl) (by kernel_rfl) (by kernel_rfl) (by kernel_rfl) (by kernel_rfl) (by kernel_rfl) (by intro _ _ _ _ h; exact h) (Or.inl ⟨by rfl, ?_⟩) HSD.out ?_
    rotate_left 1; focus (intro wx hSw; (try dsimp only at hSw); obtain ⟨q0, q1, q2, q3, q4, q5, q6, q7, q8⟩ := hSw; go_simp; try with_reducible rfl)
    try simp only [Act.put, List.setIfInBounds_toArray, List.set_cons_zero, List.set_cons_succ]
    refine till_take 22 [23] _ ?_ (by simp only [List.getElem?_toArray, List.getElem?_cons_succ, List.getElem?_cons_zero]; rfl) (by kernel_rfl) (by kernel_rfl) (by kernel_rfl) (by kernel_rfl) (by kernel_rfl) (by intro _ _ _ _ h; exact h) (Or.inl ⟨by rfl, ?_⟩) HSD.out ?_
    rotate_left 1; focus (intro wx hSw; (try dsimp only at hSw); obtain ⟨q0, q1, q2, q3, q4, q5, q6, q7, q8⟩ := hSw; go_simp; try with_reducible rfl)
    try simp only [Act.put, List.setIfInBounds_toArray, List.set_cons_zero, List.set_cons_succ]
    refine till_take 23 [] _ ?_ (by simp only [List.getElem?_toArray, List.getElem?_cons_succ, List.getElem?_cons_zero]; rfl) (by kernel_rfl) (by kernel_rfl) (by kernel_rfl) (by kernel_rfl) (by kernel_rfl) (by intro _ _ _ _ h; exact h) (Or.inl ⟨by rfl, ?_⟩) HSD.out ?_
    rotate_left 1; focus (intro wx hSw; (try dsimp only at hSw); obtain ⟨q0, q1, q2, q3, q4, q5, q6, q7, q8⟩ := hSw; go_simp; try with_reducible rfl)
    try simp only [Act.put, List.setIfInBounds_toArray, List.set_cons_zero, List.set_cons_succ]
    refine till_take 24 [25, 26] _ ?_ (by simp only [List.getElem?_toArray, List.getElem?_cons_succ, List.getElem?_cons_zero]; rfl) (by kernel_rfl) (by kernel_rfl) (by kernel_rfl) (by kernel_rfl) (by kernel_rfl) (by intro _ _ _ _ h; exact h) (Or.inl ⟨by rfl, ?_⟩) HSD.out ?_
    rotate_left 1; focus (intro wx hSw; (try dsimp only at hSw); obtain ⟨q0, q1, q2, q3, q4, q5, q6, q7, q8⟩ := hSw; go_simp; try with_reducible rfl)
    try simp only [Act.put, List.setIfInBounds_toArray, List.set_cons_zero, List.set_cons_succ]
    refine till_take 25 [26] _ ?_ (by simp only [List.getElem?_toArray, List.getElem?_cons_succ, List.getElem?_cons_zero]; rfl) (by kernel_rfl) (by kernel_rfl) (by kernel_rfl) (by kernel_rfl) (by kernel_rfl) (by intro _ _ _ _ h; exact h) (Or.inl ⟨by rfl, ?_⟩) HSD.out ?_
    rotate_left 1; focus (intro wx hSw; (try dsimp only at hSw); obtain ⟨q0, q1, q2, q3, q4, q5, q6, q7, q8⟩ := hSw; go_simp; try with_reducible rfl)
    try simp only [Act.put, List.setIfInBounds_toArray, List.set_cons_zero, List.set_cons_succ]
    refine till_take 26 [] _ ?_ (by simp only [List.getElem?_toArray, List.getElem?_cons_succ, List.getElem?_cons_zero]; rfl) (by kernel_rfl) (by kernel_rfl) (by kernel_rfl) (by kernel_rfl) (by kernel_rfl) (by intro _ _ _ _ h; exact h) (Or.inl ⟨by rfl, ?_⟩) HSD.out ?_
    rotate_left 1; focus (intro wx hSw; (try dsimp only at hSw); obtain ⟨q0, q1, q2, q3, q4, q5, q6, q7, q8⟩ := hSw; go_simp; try with_reducible rfl)
    try simp only [Act.put, List.setIfInBounds_toArray, List.set_cons_zero, List.set_cons_succ]
    refine till_take 27 [28, 29, 30] _ ?_ (by simp only [List.getElem?_toArray, List.getElem?_cons_succ, List.getElem?_cons_zero]; rfl) (by kernel_rfl) (by kernel_rfl) (by kernel_rfl) (by kernel_rfl) (by kernel_rfl) (by intro _ _ _ _ h; exact h) (Or.inl ⟨by rfl, ?_⟩) HSD.out ?_
    rotate_left 1; focus (intro wx hSw; (try dsimp only at hSw); obtain ⟨q0, q1, q2, q3, q4, q5, q6, q7, q8⟩ := hSw; go_simp; try with_reducible rfl)
    try simp only [Act.put, List.setIfInBounds_toArray, List.set_cons_zero, List.set_cons_succ]
    refine till_take 28 [29, 30] _ ?_ (by simp only [List.getElem?_toArray, List.getElem?_cons_succ, List.getElem?_cons_zero]; rfl) (by kernel_rfl) (by kernel_rfl) (by kernel_rfl) (by kernel_rfl) (by kernel_rfl) (by intro _ _ _ _ h; exact h) (Or.inl ⟨by rfl, ?_⟩) HSD.out ?_
    rotate_left 1; focus (intro wx hSw; (try dsimp only at hSw); obtain ⟨q0, q1, q2, q3, q4, q5, q6, q7, q8⟩ := hSw; go_simp; try with_reducible rfl)
    try simp only [Act.put, List.setIfInBounds_toArray, List.set_cons_zero, List.set_cons_succ]
    refine till_take 29 [30] _ ?_ (by simp only [List.getElem?_toArray, List.getElem?_cons_succ, List.getElem?_cons_zero]; rfl) (by kernel_rfl) (by kernel_rfl) (by kernel_rfl) (by kernel_rfl) (by kernel_rfl) (by intro _ _ _ _ h; exact h) (Or.inl ⟨by rfl, ?_⟩) HSD.out ?_
    rotate_left 1; focus (intro wx hSw; (try dsimp only at hSw); obtain ⟨q0, q1, q2, q3, q4, q5, q6, q7, q8⟩ := hSw; go_simp; try with_reducible rfl)
    try simp only [Act.put, List.setIfInBounds_toArray, List.set_cons_zero, List.set_cons_succ]
    refine till_take 30 [] _ ?_ (by simp only [List.getElem?_toArray, List.getElem?_cons_succ, List.getElem?_cons_zero]; rfl) (by kernel_rfl) (by kernel_rfl) (by kernel_rfl) (by kernel_rfl) (by kernel_rfl) (by intro _ _ _ _ h; exact h) (Or.inl ⟨by rfl, ?_⟩) HSD.out ?_
    rotate_left 1; focus (intro wx hSw; (try dsimp only at hSw); obtain ⟨q0, q1, q2, q3, q4, q5, q6, q7, q8⟩ := hSw; go_simp; try with_reducible rfl)
    try simp only [Act.put, List.setIfInBounds_toArray, List.set_cons_zero, List.set_cons_succ]
    refine till_ready [31] (by kernel_rfl) (by simp) ?_
    refine alls_cons (by simp only [List.getElem?_toArray, List.getElem?_cons_succ, List.getElem?_cons_zero]; rfl) (fun K hK => ?_) alls_nil
    go_simp
    go_at_call 34; (with_reducible refine (HMD.out _ (bl_drew (Below.refl _ _))).mono ?_); rintro e w3 ⟨a3, b3, rfl, h3⟩
    refine hK.out _ _ (fun h => Bool.noConfusion h) ?_
    clear hK K
    try simp only [Act.put, List.setIfInBounds_toArray, List.set_cons_zero, List.set_cons_succ]
    refine till_take0 32 _ ?_ (by simp only [List.getElem?_toArray, List.getElem?_cons_succ, List.getElem?_cons_zero]; rfl) (by kernel_rfl) (by kernel_rfl) (by kernel_rfl) (by kernel_rfl) (by intro _ _ _ _ h; exact h) (Or.inl ⟨by rfl, ?_⟩) (fun h => Bool.noConfusion h) ?_
    rotate_left 1; focus (intro wx _; go_simp; try with_reducible rfl)
    try simp only [Act.put, List.setIfInBounds_toArray, List.set_cons_zero, List.set_cons_succ]
    refine till_take0 33 _ ?_ (by simp only [List.getElem?_toArray, List.getElem?_cons_succ, List.getElem?_cons_zero]; rfl) (by kernel_rfl) (by kernel_rfl) (by kernel_rfl) (by kernel_rfl) (by intro _ _ _ _ h; exact h) (Or.inl ⟨by rfl, ?_⟩) (fun h => Bool.noConfusion h) ?_
    rotate_left 1; focus (intro wx _; go_simp; try with_reducible rfl)
    try simp only [Act.put, List.setIfInBounds_toArray, List.set_cons_zero, List.set_cons_succ]
    refine till_take0 34 _ ?_ (by simp only [List.getElem?_toArray, List.getElem?_cons_succ, List.getElem?_cons_zero]; rfl) (by kernel_rfl) (by kernel_rfl) (by kernel_rfl) (by kernel_rfl) (by intro _ _ _ _ h; exact h) (Or.inl ⟨by rfl, ?_⟩) (fun h => Bool.noConfusion h) ?_
    rotate_left 1; focus (intro wx _; go_simp; try with_reducible rfl)
    try simp only [Act.put, List.setIfInBounds_toArray, List.set_cons_zero, List.set_cons_succ]
    refine till_take0 35 _ ?_ (by simp only [List.getElem?_toArray, List.getElem?_cons_succ, List.getElem?_cons_zero]; rfl) (by kernel_rfl) (by kernel_rfl) (by kernel_rfl) (by kernel_rfl) (by intro _ _ _ _ h; exact h) (Or.inl ⟨by rfl, ?_⟩) (fun h => Bool.noConfusion h) ?_
    rotate_left 1; focus (intro wx _; go_simp; try with_reducible rfl)
    try simp only [Act.put, List.setIfInBounds_toArray, List.set_cons_zero, List.set_cons_succ]
    refine till_take0 36 _ ?_ (by simp only [List.getElem?_toArray, List.getElem?_cons_succ, List.getElem?_cons_zero]; rfl) (by kernel_rfl) (by kernel_rfl) (by kernel_rfl) (by kernel_rfl) (by intro _ _ _ _ h; exact h) (Or.inl ⟨by rfl, ?_⟩) (fun h => Bool.noConfusion h) ?_
    rotate_left 1; focus (intro wx _; go_simp; try with_reducible rfl)
    try simp only [Act.put, List.setIfInBounds_toArray, List.set_cons_zero, List.set_cons_succ]
    refine till_done (by kernel_rfl) ?_ _
    obtain ⟨hrd, hbl, hmv⟩ := h3.out
    have HRD := Lib.hid hrd; have HBL := Lib.hid hbl
    clear h3 hrd hbl
    rcases hmv with ⟨P, g2, F, hmk, rfl, rfl, hpk, hF⟩ | ⟨hmk, er, rfl, rfl⟩
    · have hmw := made_ok g k (.iface 96 (.pointer (some ⟨g2, 0, none⟩))) w3
      have HMW := Lib.hid hmw; have HMK := Lib.hid hmk; have HPK := Lib.hid hpk; have HF := Lib.hid hF
      clear hmw hmk hpk hF
      go_wp2_with fail
      (with_reducible refine HMW.out.mono ?_)
      rintro e w6 ⟨rfl, rfl⟩
      go_wp2_with fail
      go_ret2
      exact .inl ⟨P, _, _, _, F, by rw [HRE.out, HMK.out]; rfl, rfl, ⟨_, _, rfl⟩, Lib.hid ⟨HRD.out, HCN.out.trans (Chg.of_below HBL.out) (fun i _ e => e), HPK.out, HF.out⟩⟩
    · have hmw := made_n c g _ _ k (.iface 96 (.pointer none)) er w3 HRD.out hk
      have HMW := Lib.hid hmw; have HMK := Lib.hid hmk
      clear hmw hmk
      go_wp2_with fail
      (with_reducible refine HMW.out.mono ?_)
      rintro e w6 ⟨q, rfl, hb6⟩
      have HB6 := Lib.hid hb6
      clear hb6
      go_wp2_with fail
      go_ret2
      exact .inr ⟨by rw [HRE.out, HMK.out]; rfl, _, _, rfl, Lib.hid (HCN.out.trans (Chg.of_below (HBL.out.trans (HB6.out.mono HBL.out.size))) (fun i _ e => e))⟩
  have hre := HRS.out
  rw [if_neg hwd] at hre
  have HCT0 := Lib.hid (HCT0.out.trans h2.out.2 (fun i _ e => e)); have HRT0 := Lib.hid h2.out.1
  clear h2 HT HRS hwd
  have HRS := Lib.hid hre
  clear hre
  have HRT := Lib.hid HRT0.out
  generalize wU = wT at *
  have HT := Lib.hid (take_l c g k (m + 1) sMark ⟨#[109, 97, 114, 107]⟩ rfl wT HRT.out)
  go_wp2_with fail
  (with_reducible refine HT.out.mono ?_)
  rintro e wU (⟨hwd, rfl, h2⟩ | ⟨hwd, rfl, h2⟩)
  · skip
    have hk : k < c.ws.length := (List.getElem?_eq_some_iff.1 hwd).1
    have hre := HRS.out
    rw [if_pos hwd] at hre
    have HCT := Lib.hid (HCT0.out.trans h2.out.2 (fun i _ e => e)); have HRT := Lib.hid h2.out.1
    clear h2 HT HRS HRT0
    have HRS := Lib.hid hre
    clear hre
    generalize wU = wT at *
    have HN := Lib.hid (numbers_l c g (k + 1) (m + 1) 6 6 rfl (by omega) (by omega) wT HRT.out)
    go_wp2_with fail
    (with_reducible refine HN.out.mono ?_)
    rintro e wn (⟨vs, b0, c0, hnm, rfl, hn⟩ | ⟨hnm, q, rfl, hn⟩)
    rotate_left
    · skip
      have hre : res = none := by rw [HRS.out]; exact afterN_none hnm
      have HRE := Lib.hid hre; have HCN := Lib.hid (HCT.out.trans hn.out (fun i _ e => e))
      clear hre hnm hn
      go_wp2_with fail
      go_ret2
      exact .inr ⟨HRE.out, _, _, rfl, Lib.hid HCN.out⟩
    obtain ⟨hcs, hb0, hb1, hrn, hcn⟩ := hn.out
    have hre := HRS.out.trans (afterN_some hnm)
    have HRE := Lib.hid hre; have HRN := Lib.hid hrn; have HCN := Lib.hid (HCT.out.trans hcn (fun i _ e => e))
    have hB : w.heap.size ≤ wn.heap.size := HCN.out.size
    have n0 := hcs 0 (by omega)
    have n1 := hcs 1 (by omega)
    have n2 := hcs 2 (by omega)
    have n3 := hcs 3 (by omega)
    have n4 := hcs 4 (by omega)
    have n5 := hcs 5 (by omega)
    have z0 := hrn.rd.blk.cell 0; have z4 := hrn.rd.blk.cell 4
    simp at z0 z4
    obtain ⟨bw, ow, hAw, hbw, hcw⟩ := hrn.word hwd
    rw [hAw] at z0
    have il : (k : Int) < (c.ws.length : Int) := by omega
    have hte : (sMark.toList == [109, 97, 114, 107]) = true := by rw [ByteArray.toList_eq]; rfl
    clear hn hcs hcn hrn hre hnm HN
    generalize vs.getD 0 0 = x0 at *
    generalize vs.getD 1 0 = x1 at *
    generalize vs.getD 2 0 = x2 at *
    generalize vs.getD 3 0 = x3 at *
    generalize vs.getD 4 0 = x4 at *
    generalize vs.getD 5 0 = x5 at *
    have HMD := Lib.hid (fun W (hb : Below wn.heap.size wn W) => (made_red ⟨x0, x1, x2, x3, true⟩ x4 x5 c.At c.tape.length c.ct c.tape W (HRN.out.below hb).tp HRN.out.tl (Nat.le_trans HRN.out.sz6 hb.size)).mono fun e w' h => h.v HRN.out hb hB (fun i hi => hi.elim))
    unfold suV at HMD
    dsimp only at HMD
    go_upto_region 17 with fail
    have HSD : Hid (_ ∧ _ ∧ _ ∧ _ ∧ _ ∧ _ ∧ _ ∧ _ ∧ _) := Lib.hid ⟨n0, n1, n2, n3, n4, n5, z0, hcw, z4⟩
    refine wp_till (fun wx => wx.cell? ⟨b0, 0, none⟩ = some (.int .i64 x0) ∧ wx.cell? ⟨b0, 1, none⟩ = some (.int .i64 x1) ∧ wx.cell? ⟨b0, 2, none⟩ = some (.int .i64 x2) ∧ wx.cell? ⟨b0, 3, none⟩ = some (.int .i64 x3) ∧ wx.cell? ⟨b0, 4, none⟩ = some (.int .i64 x4) ∧ wx.cell? ⟨b0, 5, none⟩ = some (.int .i64 x5) ∧ wx.cell? ⟨g, 0, none⟩ = some (.slice (some ⟨bw, ow, none⟩) c.ws.length c.cw) ∧ wx.cell? ⟨bw, ow + k, none⟩ = some (.string sMark) ∧ wx.cell? ⟨g, 4, none⟩ = some (.slice c.At c.tape.length c.ct)) [31] (by kernel_rfl) ?_
    refine till_take 0 [1, 2, 20] _ ?_ (by simp only [List.getElem?_toArray, List.getElem?_cons_zero]; rfl) (by kernel_rfl) (by kernel_rfl) (by kernel_rfl) (by kernel_rfl) (by kernel_rfl) (by intro _ _ _ _ h; exact h) (Or.inl ⟨by rfl, ?_⟩) HSD.out ?_
    rotate_left 1; focus (intro wx hSw; (try dsimp only at hSw); obtain ⟨q0, q1, q2, q3, q4, q5, q6, q7, q8⟩ := hSw; go_simp; try with_reducible rfl)
    try simp only [Act.put, List.setIfInBounds_toArray, List.set_cons_zero, List.set_cons_succ]
    refine till_take 1 [2, 20] _ ?_ (by simp only [List.getElem?_toArray, List.getElem?_cons_succ, List.getElem?_cons_zero]; rfl) (by kernel_rfl) (by kernel_rfl) (by kernel_rfl) (by kernel_rfl) (by kernel_rfl) (by intro _ _ _ _ h; exact h) (Or.inl ⟨by rfl, ?_⟩) HSD.out ?_
    rotate_left 1; focus (intro wx hSw; (try dsimp only at hSw); obtain ⟨q0, q1, q2, q3, q4, q5, q6, q7, q8⟩ := hSw; go_simp; try with_reducible rfl)
    try simp only [Act.put, List.setIfInBounds_toArray, List.set_cons_zero, List.set_cons_succ]
    refine till_take 2 [20] _ ?_ (by simp only [List.getElem?_toArray, List.getElem?_cons_succ, List.getElem?_cons_zero]; rfl) (by kernel_rfl) (by kernel_rfl) (by kernel_rfl) (by kernel_rfl) (by kernel_rfl) (by intro _ _ _ _ h; exact h) (Or.inl ⟨by rfl, ?_⟩) HSD.out ?_
    rotate_left 1; focus (intro wx hSw; (try dsimp only at hSw); obtain ⟨q0, q1, q2, q3, q4, q5, q6, q7, q8⟩ := hSw; go_simp; try with_reducible rfl)
    try simp only [Act.put, List.setIfInBounds_toArray, List.set_cons_zero, List.set_cons_succ]
    refine till_take 3 [4, 5, 20] _ ?_ (by simp only [List.getElem?_toArray, List.getElem?_cons_succ, List.getElem?_cons_zero]; rfl) (by kernel_rfl) (by kernel_rfl) (by kernel_rfl) (by kernel_rfl) (by kernel_rfl) (by intro _ _ _ _ h; exact h) (Or.inl ⟨by rfl, ?_⟩) HSD.out ?_
    rotate_left 1; focus (intro wx hSw; (try dsimp only at hSw); obtain ⟨q0, q1, q2, q3, q4, q5, q6, q7, q8⟩ := hSw; go_simp; try with_reducible rfl)
    try simp only [Act.put, List.setIfInBounds_toArray, List.set_cons_zero, List.set_cons_succ]
    refine till_take 4 [5, 20] _ ?_ (by simp only [List.getElem?_toArray, List.getElem?_cons_succ, List.getElem?_cons_zero]; rfl) (by kernel_rfl) (by kernel_rfl) (by kernel_rfl) (by kernel_rfl) (by kernel_rfl) (by intro _ _ _ _ h; exact h) (Or.inl ⟨by rfl, ?_⟩) HSD.out ?_
    rotate_left 1; focus (intro wx hSw; (try dsimp only at hSw); obtain ⟨q0, q1, q2, q3, q4, q5, q6, q7, q8⟩ := hSw; go_simp; try with_reducible rfl)
    try simp only [Act.put, List.setIfInBounds_toArray, List.set_cons_zero, List.set_cons_succ]
    refine till_take 5 [20] _ ?_ (by simp only [List.getElem?_toArray, List.getElem?_cons_succ, List.getElem?_cons_zero]; rfl) (by kernel_rfl) (by kernel_rfl) (by kernel_rfl) (by kernel_rfl) (by kernel_rfl) (by intro _ _ _ _ h; exact h) (Or.inl ⟨by rfl, ?_⟩) HSD.out ?_
    rotate_left 1; focus (intro wx hSw; (try dsimp only at hSw); obtain ⟨q0, q1, q2, q3, q4, q5, q6, q7, q8⟩ := hSw; go_simp; try with_reducible rfl)
    try simp only [Act.put, List.setIfInBounds_toArray, List.set_cons_zero, List.set_cons_succ]
    refine till_take 6 [7, 8, 20] _ ?_ (by simp only [List.getElem?_toArray, List.getElem?_cons_succ, List.getElem?_cons_zero]; rfl) (by kernel_rfl) (by kernel_rfl) (by kernel_rfl) (by kernel_rfl) (by kernel_rfl) (by intro _ _ _ _ h; exact h) (Or.inl ⟨by rfl, ?_⟩) HSD.out ?_
    rotate_left 1; focus (intro wx hSw; (try dsimp only at hSw); obtain ⟨q0, q1, q2, q3, q4, q5, q6, q7, q8⟩ := hSw; go_simp; try with_reducible rfl)
    try simp only [Act.put, List.setIfInBounds_toArray, List.set_cons_zero, List.set_cons_succ]
    refine till_take 7 [8, 20] _ ?_ (by simp only [List.getElem?_toArray, List.getElem?_cons_succ, List.getElem?_cons_zero]; rfl) (by kernel_rfl) (by kernel_rfl) (by kernel_rfl) (by kernel_rfl) (by kernel_rfl) (by intro _ _ _ _ h; exact h) (Or.inl ⟨by rfl, ?_⟩) HSD.out ?_
    rotate_left 1; focus (intro wx hSw; (try dsimp only at hSw); obtain ⟨q0, q1, q2, q3, q4, q5, q6, q7, q8⟩ := hSw; go_simp; try with_reducible rfl)
    try simp only [Act.put, List.setIfInBounds_toArray, List.set_cons_zero, List.set_cons_succ]
    refine till_take 8 [20] _ ?_ (by simp only [List.getElem?_toArray, List.getElem?_cons_succ, List.getElem?_cons_zero]; rfl) (by kernel_rfl) (by kernel_rfl) (by kernel_rfl) (by kernel_rfl) (by kernel_rfl) (by intro _ _ _ _ h; exact h) (Or.inl ⟨by rfl, ?_⟩) HSD.out ?_
    rotate_left 1; focus (intro wx hSw; (try dsimp only at hSw); obtain ⟨q0, q1, q2, q3, q4, q5, q6, q7, q8⟩ := hSw; go_simp; try with_reducible rfl)
    try simp only [Act.put, List.setIfInBounds_toArray, List.set_cons_zero, List.set_cons_succ]
    refine till_take 9 [10, 11, 20] _ ?_ (by simp only [List.getElem?_toArray, List.getElem?_cons_succ, List.getElem?_cons_zero]; rfl) (by kernel_rfl) (by kernel_rfl) (by kernel_rfl) (by kernel_rfl) (by kernel_rfl) (by intro _ _ _ _ h; exact h) (Or.inl ⟨by rfl, ?_⟩) HSD.out ?_
    rotate_left 1; focus (intro wx hSw; (try dsimp only at hSw); obtain ⟨q0, q1, q2, q3, q4, q5, q6, q7, q8⟩ := hSw; go_simp; try with_reducible rfl)
    try simp only [Act.put, List.setIfInBounds_toArray, List.set_cons_zero, List.set_cons_succ]
    refine till_take 10 [11, 20] _ ?_ (by simp only [List.getElem?_toArray, List.getElem?_cons_succ, List.getElem?_cons_zero]; rfl) (by kernel_rfl) (by kernel_rfl) (by kernel_rfl) (by kernel_rfl) (by kernel_rfl) (by intro _ _ _ _ h; exact h) (Or.inl ⟨by rfl, ?_⟩) HSD.out ?_
    rotate_left 1; focus (intro wx hSw; (try dsimp only at hSw); obtain ⟨q0, q1, q2, q3, q4, q5, q6, q7, q8⟩ := hSw; go_simp; try with_reducible rfl)
    try simp only [Act.put, List.setIfInBounds_toArray, List.set_cons_zero, List.set_cons_succ]
    refine till_take 11 [20] _ ?_ (by simp only [List.getElem?_toArray, List.getElem?_cons_succ, List.getElem?_cons_zero]; rfl) (by kernel_rfl) (by kernel_rfl) (by kernel_rfl) (by kernel_rfl) (by kernel_rfl) (by intro _ _ _ _ h; exact h) (Or.inl ⟨by rfl, ?_⟩) HSD.out ?_
    rotate_left 1; focus (intro wx hSw; (try dsimp only at hSw); obtain ⟨q0, q1, q2, q3, q4, q5, q6, q7, q8⟩ := hSw; go_simp; try with_reducible rfl)
    try simp only [Act.put, List.setIfInBounds_toArray, List.set_cons_zero, List.set_cons_succ]
    refine till_take 12 [13, 14, 15, 17, 18, 19, 20] _ ?_ (by simp only [List.getElem?_toArray, List.getElem?_cons_succ, List.getElem?_cons_zero]; rfl) (by kernel_rfl) (by kernel_rfl) (by kernel_rfl) (by kernel_rfl) (by kernel_rfl) (by intro _ _ _ _ h; exact h) (Or.inl ⟨by rfl, ?_⟩) HSD.out ?_
    rotate_left 1; focus (intro wx hSw; (try dsimp only at hSw); obtain ⟨q0, q1, q2, q3, q4, q5, q6, q7, q8⟩ := hSw; go_simp; try with_reducible rfl)
    try simp only [Act.put, List.setIfInBounds_toArray, List.set_cons_zero, List.set_cons_succ]
    refine till_take 13 [14, 15, 17, 18, 19, 20] _ ?_ (by simp only [List.getElem?_toArray, List.getElem?_cons_succ, List.getElem?_cons_zero]; rfl) (by kernel_rfl) (by kernel_rfl) (by kernel_rfl) (by kernel_rfl) (by kernel_rfl) (by intro _ _ _ _ h; exact h) (Or.inl ⟨by rfl, ?_⟩) HSD.out ?_
    rotate_left 1; focus (intro wx hSw; (try dsimp only at hSw); obtain ⟨q0, q1, q2, q3, q4, q5, q6, q7, q8⟩ := hSw; go_simp; try with_reducible rfl)
    try simp only [Act.put, List.setIfInBounds_toArray, List.set_cons_zero, List.set_cons_succ]
    refine till_take 14 [15, 17, 18, 19, 20] _ ?_ (by simp only [List.getElem?_toArray, List.getElem?_cons_succ, List.getElem?_cons_zero]; rfl) (by kernel_rfl) (by kernel_rfl) (by kernel_rfl) (by kernel_rfl) (by kernel_rfl) (by intro _ _ _ _ h; exact h) (Or.inl ⟨by rfl, ?_⟩) HSD.out ?_
    rotate_left 1; focus (intro wx hSw; (try dsimp only at hSw); obtain ⟨q0, q1, q2, q3, q4, q5, q6, q7, q8⟩ := hSw; go_simp; try with_reducible rfl)
    try simp only [Act.put, List.setIfInBounds_toArray, List.set_cons_zero, List.set_cons_succ]
    refine till_take 15 [17, 18, 19, 20] _ ?_ (by simp only [List.getElem?_toArray, List.getElem?_cons_succ, List.getElem?_cons_zero]; rfl) (by kernel_rfl) (by kernel_rfl) (by kernel_rfl) (by kernel_rfl) (by kernel_rfl) (by intro _ _ _ _ h; exact h) (Or.inl ⟨by rfl, ?_⟩) HSD.out ?_
    rotate_left 1; focus (intro wx hSw; (try dsimp only at hSw); obtain ⟨q0, q1, q2, q3, q4, q5, q6, q7, q8⟩ := hSw; go_simp; try with_reducible rfl)
    try simp only [Act.put, List.setIfInBounds_toArray, List.set_cons_zero, List.set_cons_succ]
    refine till_take 16 [17, 18, 19, 20] _ ?_ (by simp only [List.getElem?_toArray, List.getElem?_cons_succ, List.getElem?_cons_zero]; rfl) (by kernel_rfl) (by kernel_rfl) (by kernel_rfl) (by kernel_rfl) (by kernel_rfl) (by intro _ _ _ _ h; exact h) (Or.inl ⟨by rfl, ?_⟩) HSD.out ?_
    rotate_left 1; focus (intro wx hSw; (try dsimp only at hSw); obtain ⟨q0, q1, q2, q3, q4, q5, q6, q7, q8⟩ := hSw; go_simp; try with_reducible rfl)
    try simp only [Act.put, List.setIfInBounds_toArray, List.set_cons_zero, List.set_cons_succ]
    refine till_take 17 [18, 19, 20] _ ?_ (by simp only [List.getElem?_toArray, List.getElem?_cons_succ, List.getElem?_cons_zero]; rfl) (by kernel_rfl) (by kernel_rfl) (by kernel_rfl) (by kernel_rfl) (by kernel_rfl) (by intro _ _ _ _ h; exact h) (Or.inl ⟨by rfl, ?_⟩) HSD.out ?_
    rotate_left 1; focus (intro wx hSw; (try dsimp only at hSw); obtain ⟨q0, q1, q2, q3, q4, q5, q6, q7, q8⟩ := hSw; go_simp; try with_reducible rfl)
    try simp only [Act.put, List.setIfInBounds_toArray, List.set_cons_zero, List.set_cons_succ]
    refine till_take 18 [19, 20] _ ?_ (by simp only [List.getElem?_toArray, List.getElem?_cons_succ, List.getElem?_cons_zero]; rfl) (by kernel_rfl) (by kernel_rfl) (by kernel_rfl) (by kernel_rfl) (by kernel_rfl) (by intro _ _ _ _ h; exact h) (Or.inl ⟨by rfl, ?_⟩) HSD.out ?_
    rotate_left 1; focus (intro wx hSw; (try dsimp only at hSw); obtain ⟨q0, q1, q2, q3, q4, q5, q6, q7, q8⟩ := hSw; go_simp; try with_reducible rfl)
    try simp only [Act.put, List.setIfInBounds_toArray, List.set_cons_zero, List.set_cons_succ]
    refine till_take 19 [20] _ ?_ (by simp only [List.getElem?_toArray, List.getElem?_cons_succ, List.getElem?_cons_zero]; rfl) (by kernel_rfl) (by kernel_rfl) (by kernel_rfl) (by kernel_rfl) (by kernel_rfl) (by intro _ _ _ _ h; exact h) (Or.inl ⟨by rfl, ?_⟩) HSD.out ?_
    rotate_left 1; focus (intro wx hSw; (try dsimp only at hSw); obtain ⟨q0, q1, q2, q3, q4, q5, q6, q7, q8⟩ := hSw; go_simp; try with_reducible rfl)
    try simp only [Act.put, List.setIfInBounds_toArray, List.set_cons_zero, List.set_cons_succ]
    refine till_take 20 [] _ ?_ (by simp only [List.getElem?_toArray, List.getElem?_cons_succ, List.getElem?_cons_zero]; rfl) (by kernel_rfl) (by kernel_rfl) (by kernel_rfl) (by kernel_rfl) (by kernel_rfl) (by intro _ _ _ _ h; exact h) (Or.inl ⟨by rfl, ?_⟩) HSD.out ?_
    rotate_left 1; focus (intro wx hSw; (try dsimp only at hSw); obtain ⟨q0, q1, q2, q3, q4, q5, q6, q7, q8⟩ := hSw; go_simp; try with_reducible rfl)
    try simp only [Act.put, List.setIfInBounds_toArray, List.set_cons_zero, List.set_cons_succ]
    refine till_take 21 [22, 23] _ ?_ (by simp only [List.getElem?_toArray, List.getElem?_cons_succ, List.getElem?_cons_zero]; rfl) (by kernel_rfl) (by kernel_rfl) (by kernel_rfl) (by kernel_rfl) (by kernel_rfl) (by intro _ _ _ _ h; exact h) (Or.inl ⟨by rfl, ?_⟩) HSD.out ?_
    rotate_left 1; focus (intro wx hSw; (try dsimp only at hSw); obtain ⟨q0, q1, q2, q3, q4, q5, q6, q7, q8⟩ := hSw; go_simp; try with_reducible rfl)
    try simp only [Act.put, List.setIfInBounds_toArray, List.set_cons_zero, List.set_cons_succ]
    refine till_take 22 [23] _ ?_ (by simp only [List.getElem?_toArray, List.getElem?_cons_succ, List.getElem?_cons_zero]; rfl) (by kernel_rfl) (by kernel_rfl) (by kernel_rfl) (by kernel_rfl) (by kernel_rfl) (by intro _ _ _ _ h; exact h) (Or.inl ⟨by rfl, ?_⟩) HSD.out ?_
    rotate_left 1; focus (intro wx hSw; (try dsimp only at hSw); obtain ⟨q0, q1, q2, q3, q4, q5, q6, q7, q8⟩ := hSw; go_simp; try with_reducible rfl)
    try simp only [Act.put, List.setIfInBounds_toArray, List.set_cons_zero, List.set_cons_succ]
    refine till_take 23 [] _ ?_ (by simp only [List.getElem?_toArray, List.getElem?_cons_succ, List.getElem?_cons_zero]; rfl) (by kernel_rfl) (by kernel_rfl) (by kernel_rfl) (by kernel_rfl) (by kernel_rfl) (by intro _ _ _ _ h; exact h) (Or.inl ⟨by rfl, ?_⟩) HSD.out ?_
    rotate_left 1; focus (intro wx hSw; (try dsimp only at hSw); obtain ⟨q0, q1, q2, q3, q4, q5, q6, q7, q8⟩ := hSw; go_simp; try with_reducible rfl)
    try simp only [Act.put, List.setIfInBounds_toArray, List.set_cons_zero, List.set_cons_succ]
    refine till_take 24 [25, 26] _ ?_ (by simp only [List.getElem?_toArray, List.getElem?_cons_succ, List.getElem?_cons_zero]; rfl) (by kernel_rfl) (by kernel_rfl) (by kernel_rfl) (by kernel_rfl) (by kernel_rfl) (by intro _ _ _ _ h; exact h) (Or.inl ⟨by rfl, ?_⟩) HSD.out ?_
    rotate_left 1; focus (intro wx hSw; (try dsimp only at hSw); obtain ⟨q0, q1, q2, q3, q4, q5, q6, q7, q8⟩ := hSw; go_simp; try with_reducible rfl)
    try simp only [Act.put, List.setIfInBounds_toArray, List.set_cons_zero, List.set_cons_succ]
    refine till_take 25 [26] _ ?_ (by simp only [List.getElem?_toArray, List.getElem?_cons_succ, List.getElem?_cons_zero]; rfl) (by kernel_rfl) (by kernel_rfl) (by kernel_rfl) (by kernel_rfl) (by kernel_rfl) (by intro _ _ _ _ h; exact h) (Or.inl ⟨by rfl, ?_⟩) HSD.out ?_
    rotate_left 1; focus (intro wx hSw; (try dsimp only at hSw); obtain ⟨q0, q1, q2, q3, q4, q5, q6, q7, q8⟩ := hSw; go_simp; try with_reducible rfl)
    try simp only [Act.put, List.setIfInBounds_toArray, List.set_cons_zero, List.set_cons_succ]
    refine till_take 26 [] _ ?_ (by simp only [List.getElem?_toArray, List.getElem?_cons_succ, List.getElem?_cons_zero]; rfl) (by kernel_rfl) (by kernel_rfl) (by kernel_rfl) (by kernel_rfl) (by kernel_rfl) (by intro _ _ _ _ h; exact h) (Or.inl ⟨by rfl, ?_⟩) HSD.out ?_
    rotate_left 1; focus (intro wx hSw; (try dsimp only at hSw); obtain ⟨q0, q1, q2, q3, q4, q5, q6, q7, q8⟩ := hSw; go_simp; try with_reducible rfl)
    try simp only [Act.put, List.setIfInBounds_toArray, List.set_cons_zero, List.set_cons_succ]
    refine till_take 27 [28, 29, 30] _ ?_ (by simp only [List.getElem?_toArray, List.getElem?_cons_succ, List.getElem?_cons_zero]; rfl) (by kernel_rfl) (by kernel_rfl) (by kernel_rfl) (by kernel_rfl) (by kernel_rfl) (by intro _ _ _ _ h; exact h) (Or.inl ⟨by rfl, ?_⟩) HSD.out ?_
    rotate_left 1; focus (intro wx hSw; (try dsimp only at hSw); obtain ⟨q0, q1, q2, q3, q4, q5, q6, q7, q8⟩ := hSw; go_simp; try with_reducible rfl)
    try simp only [Act.put, List.setIfInBounds_toArray, List.set_cons_zero, List.set_cons_succ]
    refine till_take 28 [29, 30] _ ?_ (by simp only [List.getElem?_toArray, List.getElem?_cons_succ, List.getElem?_cons_zero]; rfl) (by kernel_rfl) (by kernel_rfl) (by kernel_rfl) (by kernel_rfl) (by kernel_rfl) (by intro _ _ _ _ h; exact h) (Or.inl ⟨by rfl, ?_⟩) HSD.out ?_
    rotate_left 1; focus (intro wx hSw; (try dsimp only at hSw); obtain ⟨q0, q1, q2, q3, q4, q5, q6, q7, q8⟩ := hSw; go_simp; try with_reducible rfl)
    try simp only [Act.put, List.setIfInBounds_toArray, List.set_cons_zero, List.set_cons_succ]
    refine till_take 29 [30] _ ?_ (by simp only [List.getElem?_toArray, List.getElem?_cons_succ, List.getElem?_cons_zero]; rfl) (by kernel_rfl) (by kernel_rfl) (by kernel_rfl) (by kernel_rfl) (by kernel_rfl) (by intro _ _ _ _ h; exact h) (Or.inl ⟨by rfl, ?_⟩) HSD.out ?_
    rotate_left 1; focus (intro wx hSw; (try dsimp only at hSw); obtain ⟨q0, q1, q2, q3, q4, q5, q6, q7, q8⟩ := hSw; go_simp; try with_reducible rfl)
    try simp only [Act.put, List.setIfInBounds_toArray, List.set_cons_zero, List.set_cons_succ]
    refine till_take 30 [] _ ?_ (by simp only [List.getElem?_toArray, List.getElem?_cons_succ, List.getElem?_cons_zero]; rfl) (by kernel_rfl) (by kernel_rfl) (by kernel_rfl) (by kernel_rfl) (by kernel_rfl) (by intro _ _ _ _ h; exact h) (Or.inl ⟨by rfl, ?_⟩) HSD.out ?_
    rotate_left 1; focus (intro wx hSw; (try dsimp only at hSw); obtain ⟨q0, q1, q2, q3, q4, q5, q6, q7, q8⟩ := hSw; go_simp; try with_reducible rfl)
    try simp only [Act.put, List.setIfInBounds_toArray, List.set_cons_zero, List.set_cons_succ]
    refine till_ready [31] (by kernel_rfl) (by simp) ?_
    refine alls_cons (by simp only [List.getElem?_toArray, List.getElem?_cons_succ, List.getElem?_cons_zero]; rfl) (fun K hK => ?_) alls_nil
    go_simp
    go_at_call 34; (with_reducible refine (HMD.out _ (bl_drew (Below.refl _ _))).mono ?_); rintro e w3 ⟨a3, b3, rfl, h3⟩
    refine hK.out _ _ (fun h => Bool.noConfusion h) ?_
    clear hK K
    try simp only [Act.put, List.setIfInBounds_toArray, List.set_cons_zero, List.set_cons_succ]
    refine till_take0 32 _ ?_ (by simp only [List.getElem?_toArray, List.getElem?_cons_succ, List.getElem?_cons_zero]; rfl) (by kernel_rfl) (by kernel_rfl) (by kernel_rfl) (by kernel_rfl) (by intro _ _ _ _ h; exact h) (Or.inl ⟨by rfl, ?_⟩) (fun h => Bool.noConfusion h) ?_
    rotate_left 1; focus (intro wx _; go_simp; try with_reducible rfl)
    try simp only [Act.put, List.setIfInBounds_toArray, List.set_cons_zero, List.set_cons_succ]
    refine till_take0 33 _ ?_ (by simp only [List.getElem?_toArray, List.getElem?_cons_succ, List.getElem?_cons_zero]; rfl) (by kernel_rfl) (by kernel_rfl) (by kernel_rfl) (by kernel_rfl) (by intro _ _ _ _ h; exact h) (Or.inl ⟨by rfl, ?_⟩) (fun h => Bool.noConfusion h) ?_
    rotate_left 1; focus (intro wx _; go_simp; try with_reducible rfl)
    try simp only [Act.put, List.setIfInBounds_toArray, List.set_cons_zero, List.set_cons_succ]
    refine till_take0 34 _ ?_ (by simp only [List.getElem?_toArray, List.getElem?_cons_succ, List.getElem?_cons_zero]; rfl) (by kernel_rfl) (by kernel_rfl) (by kernel_rfl) (by kernel_rfl) (by intro _ _ _ _ h; exact h) (Or.inl ⟨by rfl, ?_⟩) (fun h => Bool.noConfusion h) ?_
    rotate_left 1; focus (intro wx _; go_simp; try with_reducible rfl)
    try simp only [Act.put, List.setIfInBounds_toArray, List.set_cons_zero, List.set_cons_succ]
    refine till_take0 35 _ ?_ (by simp only [List.getElem?_toArray, List.getElem?_cons_succ, List.getElem?_cons_zero]; rfl) (by kernel_rfl) (by kernel_rfl) (by kernel_rfl) (by kernel_rfl) (by intro _ _ _ _ h; exact h) (Or.inl ⟨by rfl, ?_⟩) (fun h => Bool.noConfusion h) ?_
    rotate_left 1; focus (intro wx _; go_simp; try with_reducible rfl)
    try simp only [Act.put, List.setIfInBounds_toArray, List.set_cons_zero, List.set_cons_succ]
    refine till_take0 36 _ ?_ (by simp only [List.getElem?_toArray, List.getElem?_cons_succ, List.getElem?_cons_zero]; rfl) (by kernel_rfl) (by kernel_rfl) (by kernel_rfl) (by kernel_rfl) (by intro _ _ _ _ h; exact h) (Or.inl ⟨by rfl, ?_⟩) (fun h => Bool.noConfusion h) ?_
    rotate_left 1; focus (intro wx _; go_simp; try with_reducible rfl)
    try simp only [Act.put, List.setIfInBounds_toArray, List.set_cons_zero, List.set_cons_succ]
    refine till_done (by kernel_rfl) ?_ _
    obtain ⟨hrd, hbl, hmv⟩ := h3.out
    have HRD := Lib.hid hrd; have HBL := Lib.hid hbl
    clear h3 hrd hbl
    rcases hmv with ⟨P, g2, F, hmk, rfl, rfl, hpk, hF⟩ | ⟨hmk, er, rfl, rfl⟩
    · have hmw := made_ok g k (.iface 96 (.pointer (some ⟨g2, 0, none⟩))) w3
      have HMW := Lib.hid hmw; have HMK := Lib.hid hmk; have HPK := Lib.hid hpk; have HF := Lib.hid hF
      clear hmw hmk hpk hF
      go_wp2_with fail
      (with_reducible refine HMW.out.mono ?_)
      rintro e w6 ⟨rfl, rfl⟩
      go_wp2_with fail
      go_ret2
      exact .inl ⟨P, _, _, _, F, by rw [HRE.out, HMK.out]; rfl, rfl, ⟨_, _, rfl⟩, Lib.hid ⟨HRD.out, HCN.out.trans (Chg.of_below HBL.out) (fun i _ e => e), HPK.out, HF.out⟩⟩
    · have hmw := made_n c g _ _ k (.iface 96 (.pointer none)) er w3 HRD.out hk
      have HMW := Lib.hid hmw; have HMK := Lib.hid hmk
      clear hmw hmk
      go_wp2_with fail
      (with_reducible refine HMW.out.mono ?_)
      rintro e w6 ⟨q, rfl, hb6⟩
      have HB6 := Lib.hid hb6
      clear hb6
      go_wp2_with fail
      go_ret2
      exact .inr ⟨by rw [HRE.out, HMK.out]; rfl, _, _, rfl, Lib.hid (HCN.out.trans (Chg.of_below (HBL.out.trans (HB6.out.mono HBL.out.size))) (fun i _ e => e))⟩
  have hre := HRS.out
  rw [if_neg hwd] at hre
  have HCT0 := Lib.hid (HCT0.out.trans h2.out.2 (fun i _ e => e)); have HRT0 := Lib.hid h2.out.1
  clear h2 HT HRS hwd
  have HRS := Lib.hid hre
  clear hre
  have HRT := Lib.hid HRT0.out
  generalize wU = wT at *
  have HT := Lib.hid (take_l c g k (m + 1) sDelay ⟨#[100, 101, 108, 97, 121]⟩ rfl wT HRT.out)
  go_wp2_with fail
  (with_reducible refine HT.out.mono ?_)
  rintro e wU (⟨hwd, rfl, h2⟩ | ⟨hwd, rfl, h2⟩)
  · skip
    have hk : k < c.ws.length := (List.getElem?_eq_some_iff.1 hwd).1
    have hre := HRS.out
    rw [if_pos hwd] at hre
    have HCT := Lib.hid (HCT0.out.trans h2.out.2 (fun i _ e => e)); have HRT := Lib.hid h2.out.1
    clear h2 HT HRS HRT0
    have HRS := Lib.hid hre
    clear hre
    generalize wU = wT at *
    have HN := Lib.hid (numbers_l c g (k + 1) (m + 1) 3 3 rfl (by omega) (by omega) wT HRT.out)
    go_wp2_with fail
    (with_reducible refine HN.out.mono ?_)
    rintro e wn (⟨vs, b0, c0, hnm, rfl, hn⟩ | ⟨hnm, q, rfl, hn⟩)
    rotate_left
    · skip
      have hre : res = none := by rw [HRS.out]; exact afterN_none hnm
      have HRE := Lib.hid hre; have HCN := Lib.hid (HCT.out.trans hn.out (fun i _ e => e))
      clear hre hnm hn
      go_wp2_with fail
      go_ret2
      exact .inr ⟨HRE.out, _, _, rfl, Lib.hid HCN.out⟩
    obtain ⟨hcs, hb0, hb1, hrn, hcn⟩ := hn.out
    have hre := HRS.out.trans (afterN_some hnm)
    have HRE := Lib.hid hre; have HRN := Lib.hid hrn; have HCN := Lib.hid (HCT.out.trans hcn (fun i _ e => e))
    have hB : w.heap.size ≤ wn.heap.size := HCN.out.size
    have n0 := hcs 0 (by omega)
    have n1 := hcs 1 (by omega)
    have n2 := hcs 2 (by omega)
    clear hn hcs hcn hrn hre hnm HN
    generalize vs.getD 0 0 = x0 at *
    generalize vs.getD 1 0 = x1 at *
    generalize vs.getD 2 0 = x2 at *
    have HMD := Lib.hid (fun W (hb : Below wn.heap.size wn W) => (made_del x0 x1 x2 W (Nat.le_trans HRN.out.sz6 hb.size)).mono fun e w' h => h.v HRN.out hb hB (fun i hi => hi.elim))
    go_upto_region 23 with fail
    have HSD : Hid (_ ∧ _ ∧ _) := Lib.hid ⟨n0, n1, n2⟩
    refine wp_till (fun wx => wx.cell? ⟨b0, 0, none⟩ = some (.int .i64 x0) ∧ wx.cell? ⟨b0, 1, none⟩ = some (.int .i64 x1) ∧ wx.cell? ⟨b0, 2, none⟩ = some (.int .i64 x2)) [9] (by kernel_rfl) ?_
    refine till_take 0 [1, 2] _ ?_ (by simp only [List.getElem?_toArray, List.getElem?_cons_zero]; rfl) (by kernel_rfl) (by kernel_rfl) (by kernel_rfl) (by kernel_rfl) (by kernel_rfl) (by intro _ _ _ _ h; exact h) (Or.inl ⟨by rfl, ?_⟩) HSD.out ?_
    rotate_left 1; focus (intro wx hSw; (try dsimp only at hSw); obtain ⟨q0, q1, q2⟩ := hSw; go_simp; try with_reducible rfl)
    try simp only [Act.put, List.setIfInBounds_toArray, List.set_cons_zero, List.set_cons_succ]
    refine till_take 1 [2] _ ?_ (by simp only [List.getElem?_toArray, List.getElem?_cons_succ, List.getElem?_cons_zero]; rfl) (by kernel_rfl) (by kernel_rfl) (by kernel_rfl) (by kernel_rfl) (by kernel_rfl) (by intro _ _ _ _ h; exact h) (Or.inl ⟨by rfl, ?_⟩) HSD.out ?_
    rotate_left 1; focus (intro wx hSw; (try dsimp only at hSw); obtain ⟨q0, q1, q2⟩ := hSw; go_simp; try with_reducible rfl)
    try simp only [Act.put, List.setIfInBounds_toArray, List.set_cons_zero, List.set_cons_succ]
    refine till_take 2 [] _ ?_ (by simp only [List.getElem?_toArray, List.getElem?_cons_succ, List.getElem?_cons_zero]; rfl) (by kernel_rfl) (by kernel_rfl) (by kernel_rfl) (by kernel_rfl) (by kernel_rfl) (by intro _ _ _ _ h; exact h) (Or.inl ⟨by rfl, ?_⟩) HSD.out ?_
    rotate_left 1; focus (intro wx hSw; (try dsimp only at hSw); obtain ⟨q0, q1, q2⟩ := hSw; go_simp; try with_reducible rfl)
    try simp only [Act.put, List.setIfInBounds_toArray, List.set_cons_zero, List.set_cons_succ]
    refine till_take 3 [4, 5] _ ?_ (by simp only [List.getElem?_toArray, List.getElem?_cons_succ, List.getElem?_cons_zero]; rfl) (by kernel_rfl) (by kernel_rfl) (by kernel_rfl) (by kernel_rfl) (by kernel_rfl) (by intro _ _ _ _ h; exact h) (Or.inl ⟨by rfl, ?_⟩) HSD.out ?_
    rotate_left 1; focus (intro wx hSw; (try dsimp only at hSw); obtain ⟨q0, q1, q2⟩ := hSw; go_simp; try with_reducible rfl)
    try simp only [Act.put, List.setIfInBounds_toArray, List.set_cons_zero, List.set_cons_succ]
    refine till_take 4 [5] _ ?_ (by simp only [List.getElem?_toArray, List.getElem?_cons_succ, List.getElem?_cons_zero]; rfl) (by kernel_rfl) (by kernel_rfl) (by kernel_rfl) (by kernel_rfl) (by kernel_rfl) (by intro _ _ _ _ h; exact h) (Or.inl ⟨by rfl, ?_⟩) HSD.out ?_
    rotate_left 1; focus (intro wx hSw; (try dsimp only at hSw); obtain ⟨q0, q1, q2⟩ := hSw; go_simp; try with_reducible rfl)
    try simp only [Act.put, List.setIfInBounds_toArray, List.set_cons_zero, List.set_cons_succ]
    refine till_take 5 [] _ ?_ (by simp only [List.getElem?_toArray, List.getElem?_cons_succ, List.getElem?_cons_zero]; rfl) (by kernel_rfl) (by kernel_rfl) (by kernel_rfl) (by kernel_rfl) (by kernel_rfl) (by intro _ _ _ _ h; exact h) (Or.inl ⟨by rfl, ?_⟩) HSD.out ?_
    rotate_left 1; focus (intro wx hSw; (try dsimp only at hSw); obtain ⟨q0, q1, q2⟩ := hSw; go_simp; try with_reducible rfl)
    try simp only [Act.put, List.setIfInBounds_toArray, List.set_cons_zero, List.set_cons_succ]
    refine till_take 6 [7, 8] _ ?_ (by simp only [List.getElem?_toArray, List.getElem?_cons_succ, List.getElem?_cons_zero]; rfl) (by kernel_rfl) (by kernel_rfl) (by kernel_rfl) (by kernel_rfl) (by kernel_rfl) (by intro _ _ _ _ h; exact h) (Or.inl ⟨by rfl, ?_⟩) HSD.out ?_
    rotate_left 1; focus (intro wx hSw; (try dsimp only at hSw); obtain ⟨q0, q1, q2⟩ := hSw; go_simp; try with_reducible rfl)
    try simp only [Act.put, List.setIfInBounds_toArray, List.set_cons_zero, List.set_cons_succ]
    refine till_take 7 [8] _ ?_ (by simp only [List.getElem?_toArray, List.getElem?_cons_succ, List.getElem?_cons_zero]; rfl) (by kernel_rfl) (by kernel_rfl) (by kernel_rfl) (by kernel_rfl) (by kernel_rfl) (by intro _ _ _ _ h; exact h) (Or.inl ⟨by rfl, ?_⟩) HSD.out ?_
    rotate_left 1; focus (intro wx hSw; (try dsimp only at hSw); obtain ⟨q0, q1, q2⟩ := hSw; go_simp; try with_reducible rfl)
    try simp only [Act.put, List.setIfInBounds_toArray, List.set_cons_zero, List.set_cons_succ]
    refine till_take 8 [] _ ?_ (by simp only [List.getElem?_toArray, List.getElem?_cons_succ, List.getElem?_cons_zero]; rfl) (by kernel_rfl) (by kernel_rfl) (by kernel_rfl) (by kernel_rfl) (by kernel_rfl) (by intro _ _ _ _ h; exact h) (Or.inl ⟨by rfl, ?_⟩) HSD.out ?_
    rotate_left 1; focus (intro wx hSw; (try dsimp only at hSw); obtain ⟨q0, q1, q2⟩ := hSw; go_simp; try with_reducible rfl)
    try simp only [Act.put, List.setIfInBounds_toArray, List.set_cons_zero, List.set_cons_succ]
    refine till_ready [9] (by kernel_rfl) (by simp) ?_
    refine alls_cons (by simp only [List.getElem?_toArray, List.getElem?_cons_succ, List.getElem?_cons_zero]; rfl) (fun K hK => ?_) alls_nil
    go_simp
    go_at_call 35; (with_reducible refine (HMD.out _ (bl_drew (Below.refl _ _))).mono ?_); rintro e w3 ⟨a3, b3, rfl, h3⟩
    refine hK.out _ _ (fun h => Bool.noConfusion h) ?_
    clear hK K
    try simp only [Act.put, List.setIfInBounds_toArray, List.set_cons_zero, List.set_cons_succ]
    refine till_take0 10 _ ?_ (by simp only [List.getElem?_toArray, List.getElem?_cons_succ, List.getElem?_cons_zero]; rfl) (by kernel_rfl) (by kernel_rfl) (by kernel_rfl) (by kernel_rfl) (by intro _ _ _ _ h; exact h) (Or.inl ⟨by rfl, ?_⟩) (fun h => Bool.noConfusion h) ?_
    rotate_left 1; focus (intro wx _; go_simp; try with_reducible rfl)
    try simp only [Act.put, List.setIfInBounds_toArray, List.set_cons_zero, List.set_cons_succ]
    refine till_take0 11 _ ?_ (by simp only [List.getElem?_toArray, List.getElem?_cons_succ, List.getElem?_cons_zero]; rfl) (by kernel_rfl) (by kernel_rfl) (by kernel_rfl) (by kernel_rfl) (by intro _ _ _ _ h; exact h) (Or.inl ⟨by rfl, ?_⟩) (fun h => Bool.noConfusion h) ?_
    rotate_left 1; focus (intro wx _; go_simp; try with_reducible rfl)
    try simp only [Act.put, List.setIfInBounds_toArray, List.set_cons_zero, List.set_cons_succ]
    refine till_take0 12 _ ?_ (by simp only [List.getElem?_toArray, List.getElem?_cons_succ, List.getElem?_cons_zero]; rfl) (by kernel_rfl) (by kernel_rfl) (by kernel_rfl) (by kernel_rfl) (by intro _ _ _ _ h; exact h) (Or.inl ⟨by rfl, ?_⟩) (fun h => Bool.noConfusion h) ?_
    rotate_left 1; focus (intro wx _; go_simp; try with_reducible rfl)
    try simp only [Act.put, List.setIfInBounds_toArray, List.set_cons_zero, List.set_cons_succ]
    refine till_take0 13 _ ?_ (by simp only [List.getElem?_toArray, List.getElem?_cons_succ, List.getElem?_cons_zero]; rfl) (by kernel_rfl) (by kernel_rfl) (by kernel_rfl) (by kernel_rfl) (by intro _ _ _ _ h; exact h) (Or.inl ⟨by rfl, ?_⟩) (fun h => Bool.noConfusion h) ?_
    rotate_left 1; focus (intro wx _; go_simp; try with_reducible rfl)
    try simp only [Act.put, List.setIfInBounds_toArray, List.set_cons_zero, List.set_cons_succ]
    refine till_take0 14 _ ?_ (by simp only [List.getElem?_toArray, List.getElem?_cons_succ, List.getElem?_cons_zero]; rfl) (by kernel_rfl) (by kernel_rfl) (by kernel_rfl) (by kernel_rfl) (by intro _ _ _ _ h; exact h) (Or.inl ⟨by rfl, ?_⟩) (fun h => Bool.noConfusion h) ?_
    rotate_left 1; focus (intro wx _; go_simp; try with_reducible rfl)
    try simp only [Act.put, List.setIfInBounds_toArray, List.set_cons_zero, List.set_cons_succ]
    refine till_done (by kernel_rfl) ?_ _
    obtain ⟨hrd, hbl, hmv⟩ := h3.out
    have HRD := Lib.hid hrd; have HBL := Lib.hid hbl
    clear h3 hrd hbl
    rcases hmv with ⟨P, g2, F, hmk, rfl, rfl, hpk, hF⟩ | ⟨hmk, er, rfl, rfl⟩
    · have hmw := made_ok g k (.iface 101 (.pointer (some ⟨g2, 0, none⟩))) w3
      have HMW := Lib.hid hmw; have HMK := Lib.hid hmk; have HPK := Lib.hid hpk; have HF := Lib.hid hF
      clear hmw hmk hpk hF
      go_wp2_with fail
      (with_reducible refine HMW.out.mono ?_)
      rintro e w6 ⟨rfl, rfl⟩
      go_wp2_with fail
      go_ret2
      exact .inl ⟨P, _, _, _, F, by rw [HRE.out, HMK.out]; rfl, rfl, ⟨_, _, rfl⟩, Lib.hid ⟨HRD.out, HCN.out.trans (Chg.of_below HBL.out) (fun i _ e => e), HPK.out, HF.out⟩⟩
    · have hmw := made_n c g _ _ k (.iface 101 (.pointer none)) er w3 HRD.out hk
      have HMW := Lib.hid hmw; have HMK := Lib.hid hmk
      clear hmw hmk
      go_wp2_with fail
      (with_reducible refine HMW.out.mono ?_)
      rintro e w6 ⟨q, rfl, hb6⟩
      have HB6 := Lib.hid hb6
      clear hb6
      go_wp2_with fail
      go_ret2
      exact .inr ⟨by rw [HRE.out, HMK.out]; rfl, _, _, rfl, Lib.hid (HCN.out.trans (Chg.of_below (HBL.out.trans (HB6.out.mono HBL.out.size))) (fun i _ e => e))⟩
  have hre := HRS.out
  rw [if_neg hwd] at hre
  have HCT0 := Lib.hid (HCT0.out.trans h2.out.2 (fun i _ e => e)); have HRT0 := Lib.hid h2.out.1
  clear h2 HT HRS hwd
  have HRS := Lib.hid hre
  clear hre
  have HRT := Lib.hid HRT0.out
  generalize wU = wT at *
  have HT := Lib.hid (take_l c g k (m + 1) sHashed ⟨#[104, 97, 115, 104, 101, 100]⟩ rfl wT HRT.out)
  go_wp2_with fail
  (with_reducible refine HT.out.mono ?_)
  rintro e wU (⟨hwd, rfl, h2⟩ | ⟨hwd, rfl, h2⟩)
  · skip
    have hk : k < c.ws.length := (List.getElem?_eq_some_iff.1 hwd).1
    have hre := HRS.out
    rw [if_pos hwd] at hre
    have HCT := Lib.hid (HCT0.out.trans h2.out.2 (fun i _ e => e)); have HRT := Lib.hid h2.out.1
    clear h2 HT HRS HRT0
    have HRS := Lib.hid hre
    clear hre
    generalize wU = wT at *
    have HN := Lib.hid (numbers_l c g (k + 1) (m + 1) 3 3 rfl (by omega) (by omega) wT HRT.out)
    go_wp2_with fail
    (with_reducible refine HN.out.mono ?_)
    rintro e wn (⟨vs, b0, c0, hnm, rfl, hn⟩ | ⟨hnm, q, rfl, hn⟩)
    rotate_left
    · skip
      have hre : res = none := by rw [HRS.out]; exact afterN_none hnm
      have HRE := Lib.hid hre; have HCN := Lib.hid (HCT.out.trans hn.out (fun i _ e => e))
      clear hre hnm hn
      go_wp2_with fail
      go_ret2
      exact .inr ⟨HRE.out, _, _, rfl, Lib.hid HCN.out⟩
    obtain ⟨hcs, hb0, hb1, hrn, hcn⟩ := hn.out
    have hre := HRS.out.trans (afterN_some hnm)
    have HRE := Lib.hid hre; have HRN := Lib.hid hrn; have HCN := Lib.hid (HCT.out.trans hcn (fun i _ e => e))
    have hB : w.heap.size ≤ wn.heap.size := HCN.out.size
    have n0 := hcs 0 (by omega)
    have n1 := hcs 1 (by omega)
    have n2 := hcs 2 (by omega)
    clear hn hcs hcn hrn hre hnm HN
    generalize vs.getD 0 0 = x0 at *
    generalize vs.getD 1 0 = x1 at *
    generalize vs.getD 2 0 = x2 at *
    have HMD := Lib.hid (fun W (hb : Below wn.heap.size wn W) => (made_hsh x0 x1 x2 W (Nat.le_trans HRN.out.sz6 hb.size)).mono fun e w' h => h.v HRN.out hb hB (fun i hi => hi.elim))
    go_upto_region 29 with fail
    have HSD : Hid (_ ∧ _ ∧ _) := Lib.hid ⟨n0, n1, n2⟩
    refine wp_till (fun wx => wx.cell? ⟨b0, 0, none⟩ = some (.int .i64 x0) ∧ wx.cell? ⟨b0, 1, none⟩ = some (.int .i64 x1) ∧ wx.cell? ⟨b0, 2, none⟩ = some (.int .i64 x2)) [9] (by kernel_rfl) ?_
    refine till_take 0 [1, 2] _ ?_ (by simp only [List.getElem?_toArray, List.getElem?_cons_zero]; rfl) (by kernel_rfl) (by kernel_rfl) (by kernel_rfl) (by kernel_rfl) (by kernel_rfl) (by intro _ _ _ _ h; exact h) (Or.inl ⟨by rfl, ?_⟩) HSD.out ?_
    rotate_left 1; focus (intro wx hSw; (try dsimp only at hSw); obtain ⟨q0, q1, q2⟩ := hSw; go_simp; try with_reducible rfl)
    try simp only [Act.put, List.setIfInBounds_toArray, List.set_cons_zero, List.set_cons_succ]
    refine till_take 1 [2] _ ?_ (by simp only [List.getElem?_toArray, List.getElem?_cons_succ, List.getElem?_cons_zero]; rfl) (by kernel_rfl) (by kernel_rfl) (by kernel_rfl) (by kernel_rfl) (by kernel_rfl) (by intro _ _ _ _ h; exact h) (Or.inl ⟨by rfl, ?_⟩) HSD.out ?_
    rotate_left 1; focus (intro wx hSw; (try dsimp only at hSw); obtain ⟨q0, q1, q2⟩ := hSw; go_simp; try with_reducible rfl)
    try simp only [Act.put, List.setIfInBounds_toArray, List.set_cons_zero, List.set_cons_succ]
    refine till_take 2 [] _ ?_ (by simp only [List.getElem?_toArray, List.getElem?_cons_succ, List.getElem?_cons_zero]; rfl) (by kernel_rfl) (by kernel_rfl) (by kernel_rfl) (by kernel_rfl) (by kernel_rfl) (by intro _ _ _ _ h; exact h) (Or.inl ⟨by rfl, ?_⟩) HSD.out ?_
    rotate_left 1; focus (intro wx hSw; (try dsimp only at hSw); obtain ⟨q0, q1, q2⟩ := hSw; go_simp; try with_reducible rfl)
    try simp only [Act.put, List.setIfInBounds_toArray, List.set_cons_zero, List.set_cons_succ]
    refine till_take 3 [4, 5] _ ?_ (by simp only [List.getElem?_toArray, List.getElem?_cons_succ, List.getElem?_cons_zero]; rfl) (by kernel_rfl) (by kernel_rfl) (by kernel_rfl) (by kernel_rfl) (by kernel_rfl) (by intro _ _ _ _ h; exact h) (Or.inl ⟨by rfl, ?_⟩) HSD.out ?_
    rotate_left 1; focus (intro wx hSw; (try dsimp only at hSw); obtain ⟨q0, q1, q2⟩ := hSw; go_simp; try with_reducible rfl)
    try simp only [Act.put, List.setIfInBounds_toArray, List.set_cons_zero, List.set_cons_succ]
    refine till_take 4 [5] _ ?_ (by simp only [List.getElem?_toArray, List.getElem?_cons_succ, List.getElem?_cons_zero]; rfl) (by kernel_rfl) (by kernel_rfl) (by kernel_rfl) (by kernel_rfl) (by kernel_rfl) (by intro _ _ _ _ h; exact h) (Or.inl ⟨by rfl, ?_⟩) HSD.out ?_
    rotate_left 1; focus (intro wx hSw; (try dsimp only at hSw); obtain ⟨q0, q1, q2⟩ := hSw; go_simp; try with_reducible rfl)
    try simp only [Act.put, List.setIfInBounds_toArray, List.set_cons_zero, List.set_cons_succ]
    refine till_take 5 [] _ ?_ (by simp only [List.getElem?_toArray, List.getElem?_cons_succ, List.getElem?_cons_zero]; rfl) (by kernel_rfl) (by kernel_rfl) (by kernel_rfl) (by kernel_rfl) (by kernel_rfl) (by intro _ _ _ _ h; exact h) (Or.inl ⟨by rfl, ?_⟩) HSD.out ?_
    rotate_left 1; focus (intro wx hSw; (try dsimp only at hSw); obtain ⟨q0, q1, q2⟩ := hSw; go_simp; try with_reducible rfl)
    try simp only [Act.put, List.setIfInBounds_toArray, List.set_cons_zero, List.set_cons_succ]
    refine till_take 6 [7, 8] _ ?_ (by simp only [List.getElem?_toArray, List.getElem?_cons_succ, List.getElem?_cons_zero]; rfl) (by kernel_rfl) (by kernel_rfl) (by kernel_rfl) (by kernel_rfl) (by kernel_rfl) (by intro _ _ _ _ h; exact h) (Or.inl ⟨by rfl, ?_⟩) HSD.out ?_
    rotate_left 1; focus (intro wx hSw; (try dsimp only at hSw); obtain ⟨q0, q1, q2⟩ := hSw; go_simp; try with_reducible rfl)
    try simp only [Act.put, List.setIfInBounds_toArray, List.set_cons_zero, List.set_cons_succ]
    refine till_take 7 [8] _ ?_ (by simp only [List.getElem?_toArray, List.getElem?_cons_succ, List.getElem?_cons_zero]; rfl) (by kernel_rfl) (by kernel_rfl) (by kernel_rfl) (by kernel_rfl) (by kernel_rfl) (by intro _ _ _ _ h; exact h) (Or.inl ⟨by rfl, ?_⟩) HSD.out ?_
    rotate_left 1; focus (intro wx hSw; (try dsimp only at hSw); obtain ⟨q0, q1, q2⟩ := hSw; go_simp; try with_reducible rfl)
    try simp only [Act.put, List.setIfInBounds_toArray, List.set_cons_zero, List.set_cons_succ]
    refine till_take 8 [] _ ?_ (by simp only [List.getElem?_toArray, List.getElem?_cons_succ, List.getElem?_cons_zero]; rfl) (by kernel_rfl) (by kernel_rfl) (by kernel_rfl) (by kernel_rfl) (by kernel_rfl) (by intro _ _ _ _ h; exact h) (Or.inl ⟨by rfl, ?_⟩) HSD.out ?_
    rotate_left 1; focus (intro wx hSw; (try dsimp only at hSw); obtain ⟨q0, q1, q2⟩ := hSw; go_simp; try with_reducible rfl)
    try simp only [Act.put, List.setIfInBounds_toArray, List.set_cons_zero, List.set_cons_succ]
    refine till_ready [9] (by kernel_rfl) (by simp) ?_
    refine alls_cons (by simp only [List.getElem?_toArray, List.getElem?_cons_succ, List.getElem?_cons_zero]; rfl) (fun K hK => ?_) alls_nil
    go_simp
    go_at_call 36; (with_reducible refine (HMD.out _ (bl_drew (Below.refl _ _))).mono ?_); rintro e w3 ⟨a3, b3, rfl, h3⟩
    refine hK.out _ _ (fun h => Bool.noConfusion h) ?_
    clear hK K
    try simp only [Act.put, List.setIfInBounds_toArray, List.set_cons_zero, List.set_cons_succ]
    refine till_take0 10 _ ?_ (by simp only [List.getElem?_toArray, List.getElem?_cons_succ, List.getElem?_cons_zero]; rfl) (by kernel_rfl) (by kernel_rfl) (by kernel_rfl) (by kernel_rfl) (by intro _ _ _ _ h; exact h) (Or.inl ⟨by rfl, ?_⟩) (fun h => Bool.noConfusion h) ?_
    rotate_left 1; focus (intro wx _; go_simp; try with_reducible rfl)
    try simp only [Act.put, List.setIfInBounds_toArray, List.set_cons_zero, List.set_cons_succ]
    refine till_take0 11 _ ?_ (by simp only [List.getElem?_toArray, List.getElem?_cons_succ, List.getElem?_cons_zero]; rfl) (by kernel_rfl) (by kernel_rfl) (by kernel_rfl) (by kernel_rfl) (by intro _ _ _ _ h; exact h) (Or.inl ⟨by rfl, ?_⟩) (fun h => Bool.noConfusion h) ?_
    rotate_left 1; focus (intro wx _; go_simp; try with_reducible rfl)
    try simp only [Act.put, List.setIfInBounds_toArray, List.set_cons_zero, List.set_cons_succ]
    refine till_take0 12 _ ?_ (by simp only [List.getElem?_toArray, List.getElem?_cons_succ, List.getElem?_cons_zero]; rfl) (by kernel_rfl) (by kernel_rfl) (by kernel_rfl) (by kernel_rfl) (by intro _ _ _ _ h; exact h) (Or.inl ⟨by rfl, ?_⟩) (fun h => Bool.noConfusion h) ?_
    rotate_left 1; focus (intro wx _; go_simp; try with_reducible rfl)
    try simp only [Act.put, List.setIfInBounds_toArray, List.set_cons_zero, List.set_cons_succ]
    refine till_take0 13 _ ?_ (by simp only [List.getElem?_toArray, List.getElem?_cons_succ, List.getElem?_cons_zero]; rfl) (by kernel_rfl) (by kernel_rfl) (by kernel_rfl) (by kernel_rfl) (by intro _ _ _ _ h; exact h) (Or.inl ⟨by rfl, ?_⟩) (fun h => Bool.noConfusion h) ?_
    rotate_left 1; focus (intro wx _; go_simp; try with_reducible rfl)
    try simp only [Act.put, List.setIfInBounds_toArray, List.set_cons_zero, List.set_cons_succ]
    refine till_take0 14 _ ?_ (by simp only [List.getElem?_toArray, List.getElem?_cons_succ, List.getElem?_cons_zero]; rfl) (by kernel_rfl) (by kernel_rfl) (by kernel_rfl) (by kernel_rfl) (by intro _ _ _ _ h; exact h) (Or.inl ⟨by rfl, ?_⟩) (fun h => Bool.noConfusion h) ?_
    rotate_left 1; focus (intro wx _; go_simp; try with_reducible rfl)
    try simp only [Act.put, List.setIfInBounds_toArray, List.set_cons_zero, List.set_cons_succ]
    refine till_done (by kernel_rfl) ?_ _
    obtain ⟨hrd, hbl, hmv⟩ := h3.out
    have HRD := Lib.hid hrd; have HBL := Lib.hid hbl
    clear h3 hrd hbl
    rcases hmv with ⟨P, g2, F, hmk, rfl, rfl, hpk, hF⟩ | ⟨hmk, er, rfl, rfl⟩
    · have hmw := made_ok g k (.iface 104 (.pointer (some ⟨g2, 0, none⟩))) w3
      have HMW := Lib.hid hmw; have HMK := Lib.hid hmk; have HPK := Lib.hid hpk; have HF := Lib.hid hF
      clear hmw hmk hpk hF
      go_wp2_with fail
      (with_reducible refine HMW.out.mono ?_)
      rintro e w6 ⟨rfl, rfl⟩
      go_wp2_with fail
      go_ret2
      exact .inl ⟨P, _, _, _, F, by rw [HRE.out, HMK.out]; rfl, rfl, ⟨_, _, rfl⟩, Lib.hid ⟨HRD.out, HCN.out.trans (Chg.of_below HBL.out) (fun i _ e => e), HPK.out, HF.out⟩⟩
    · have hmw := made_n c g _ _ k (.iface 104 (.pointer none)) er w3 HRD.out hk
      have HMW := Lib.hid hmw; have HMK := Lib.hid hmk
      clear hmw hmk
      go_wp2_with fail
      (with_reducible refine HMW.out.mono ?_)
      rintro e w6 ⟨q, rfl, hb6⟩
      have HB6 := Lib.hid hb6
      clear hb6
      go_wp2_with fail
      go_ret2
      exact .inr ⟨by rw [HRE.out, HMK.out]; rfl, _, _, rfl, Lib.hid (HCN.out.trans (Chg.of_below (HBL.out.trans (HB6.out.mono HBL.out.size))) (fun i _ e => e))⟩
  have hre := HRS.out
  rw [if_neg hwd] at hre
  have HCT0 := Lib.hid (HCT0.out.trans h2.out.2 (fun i _ e => e)); have HRT0 := Lib.hid h2.out.1
  clear h2 HT HRS hwd
  have HRS := Lib.hid hre
  clear hre
  have HRT := Lib.hid HRT0.out
  generalize wU = wT at *
  have HT := Lib.hid (take_l c g k (m + 1) sRounds ⟨#[114, 111, 117, 110, 100, 115]⟩ rfl wT HRT.out)
  go_wp2_with fail
  (with_reducible refine HT.out.mono ?_)
  rintro e wU (⟨hwd, rfl, h2⟩ | ⟨hwd, rfl, h2⟩)
  · skip
    have hk : k < c.ws.length := (List.getElem?_eq_some_iff.1 hwd).1
    have hre := HRS.out
    rw [if_pos hwd] at hre
    have HCT := Lib.hid (HCT0.out.trans h2.out.2 (fun i _ e => e)); have HRT := Lib.hid h2.out.1
    clear h2 HT HRS HRT0
    have HRS := Lib.hid hre
    clear hre
    generalize wU = wT at *
    have hcl := rounds_w c g k (k + 1) (m + 1) wT HRT.out hk
    rw [← HRS.out] at hcl
    have HCL := Lib.hid hcl
    clear hcl
    go_wp2_with fail
    (with_reducible refine HCL.out.mono ?_)
    rintro e w3 (⟨P, a2, m2, v, F, hok, rfl, hqv, h3⟩ | ⟨hno, T, x, rfl, h3⟩)
    · obtain ⟨uT, ug, rfl⟩ := hqv
      have HOK := Lib.hid hok
      clear hok
      go_wp2_with fail
      go_ret2
      exact .inl ⟨P, a2, m2, _, F, HOK.out, rfl, ⟨_, _, rfl⟩, Lib.hid ⟨h3.out.1, HCT.out.trans h3.out.2.1 (fun i _ e => e), h3.out.2.2.1, fun i hi => Nat.le_trans HCT.out.size (h3.out.2.2.2 i hi)⟩⟩
    · have HNO := Lib.hid hno
      clear hno
      go_wp2_with fail
      go_ret2
      exact .inr ⟨HNO.out, _, _, rfl, Lib.hid (HCT.out.trans h3.out (fun i _ e => e))⟩
  have hre := HRS.out
  rw [if_neg hwd] at hre
  have HCT0 := Lib.hid (HCT0.out.trans h2.out.2 (fun i _ e => e)); have HRT0 := Lib.hid h2.out.1
  clear h2 HT HRS hwd
  have HRS := Lib.hid hre
  clear hre
  have HRT := Lib.hid HRT0.out
  generalize wU = wT at *
  have HT := Lib.hid (take_l c g k (m + 1) sShape ⟨#[115, 104, 97, 112, 101]⟩ rfl wT HRT.out)
  go_wp2_with fail
  (with_reducible refine HT.out.mono ?_)
  rintro e wU (⟨hwd, rfl, h2⟩ | ⟨hwd, rfl, h2⟩)
  · skip
    have hk : k < c.ws.length := (List.getElem?_eq_some_iff.1 hwd).1
    have hre := HRS.out
    rw [if_pos hwd] at hre
    have HCT := Lib.hid (HCT0.out.trans h2.out.2 (fun i _ e => e)); have HRT := Lib.hid h2.out.1
    clear h2 HT HRS HRT0
    have HRS := Lib.hid hre
    clear hre
    generalize wU = wT at *
    have HN := Lib.hid (numbers_l c g (k + 1) (m + 1) 3 3 rfl (by omega) (by omega) wT HRT.out)
    go_wp2_with fail
    (with_reducible refine HN.out.mono ?_)
    rintro e wn (⟨vs, b0, c0, hnm, rfl, hn⟩ | ⟨hnm, q, rfl, hn⟩)
    rotate_left
    · have hre : res = none := by rw [HRS.out]; unfold shapeP; rw [hnm]
      have HRE := Lib.hid hre; have HCN := Lib.hid (HCT.out.trans hn.out (fun i _ e => e))
      clear hre hnm hn
      go_wp2_with fail
      go_ret2
      exact .inr ⟨HRE.out, _, _, rfl, Lib.hid HCN.out⟩
    obtain ⟨hcs, hb0, hb1, hrn, hcn⟩ := hn.out
    have hre := HRS.out
    unfold shapeP at hre
    rw [hnm] at hre
    dsimp only at hre
    have HRE0 := Lib.hid hre; have HRN := Lib.hid hrn; have HCN0 := Lib.hid (HCT.out.trans hcn (fun i _ e => e))
    have hB : w.heap.size ≤ wn.heap.size := HCN0.out.size
    have n0 := hcs 0 (by omega)
    have n1 := hcs 1 (by omega)
    have n2 := hcs 2 (by omega)
    have HC := Lib.hid (HONE.out (k + 1 + 3) (m + 1) wn HRN.out (by omega))
    clear hn hcs hcn hrn hre hnm HN
    generalize vs.getD 0 0 = x0 at *
    generalize vs.getD 1 0 = x1 at *
    generalize vs.getD 2 0 = x2 at *
    have HN3 := Lib.hid (⟨n0, n1, n2⟩ : _ ∧ _ ∧ _)
    clear n0 n1 n2
    go_wp2_with fail
    (with_reducible refine HC.out.mono ?_)
    rintro e wo (⟨P1, k2, m2, u, F1, hok, rfl, hqv, h1⟩ | ⟨hno, T, x, rfl, h1⟩)
    rotate_left
    · have hre : res = none := by rw [HRE0.out, hno]
      have HRE := Lib.hid hre; have HC1 := Lib.hid h1.out
      clear hre hno h1
      go_wp2_with fail
      go_ret2
      exact .inr ⟨HRE.out, _, _, rfl, Lib.hid (HCN0.out.trans HC1.out (fun i _ e => e))⟩
    obtain ⟨hr1, hc1, hp1, hF1⟩ := h1.out
    have hre : res = (mkShp ⟨x0, x1, x2⟩ P1).map fun P => (P, k2, m2) := by rw [HRE0.out, hok]
    have HRE := Lib.hid hre; have HRN2 := Lib.hid hr1; have HCN := Lib.hid (HCN0.out.trans hc1 (fun i _ e => e)); have HP1 := Lib.hid hp1; have HF1 := Lib.hid hF1
    have hne : b0 ≠ g := by have := HCT.out.size; omega
    obtain ⟨n0, n1, n2⟩ := HN3.out
    have n0 := (hc1.cell (p := ⟨b0, 0, none⟩) hb0 hne).trans n0
    have n1 := (hc1.cell (p := ⟨b0, 1, none⟩) hb0 hne).trans n1
    have n2 := (hc1.cell (p := ⟨b0, 2, none⟩) hb0 hne).trans n2
    have hb0 : b0 < wo.heap.size := Nat.lt_of_lt_of_le hb0 hc1.size
    have hB2 : wn.heap.size ≤ wo.heap.size := hc1.size
    have HMD := Lib.hid (fun W (hb : Below wo.heap.size wo W) => (made_shp ⟨x0, x1, x2⟩ P1 u F1 W (HP1.out.below hb)).mono fun e w' h => h.v HRN2.out hb (Nat.le_trans hB hB2) (fun i hi => Nat.le_trans hB (HF1.out i hi)))
    obtain ⟨uT, ug, rfl⟩ := hqv
    unfold bkV at HMD
    dsimp only at HMD
    clear h1 hr1 hc1 hp1 hF1 hre hok HC HN3
    go_upto_region 40 with fail
    have HSD : Hid (_ ∧ _ ∧ _) := Lib.hid ⟨n0, n1, n2⟩
    refine wp_till (fun wx => wx.cell? ⟨b0, 0, none⟩ = some (.int .i64 x0) ∧ wx.cell? ⟨b0, 1, none⟩ = some (.int .i64 x1) ∧ wx.cell? ⟨b0, 2, none⟩ = some (.int .i64 x2)) [12] (by kernel_rfl) ?_
    refine till_take 0 [1, 2, 6, 10] _ ?_ (by simp only [List.getElem?_toArray, List.getElem?_cons_zero]; rfl) (by kernel_rfl) (by kernel_rfl) (by kernel_rfl) (by kernel_rfl) (by kernel_rfl) (by intro _ _ _ _ h; exact h) (Or.inl ⟨by rfl, ?_⟩) HSD.out ?_
    rotate_left 1; focus (intro wx hSw; (try dsimp only at hSw); obtain ⟨q0, q1, q2⟩ := hSw; go_simp; try with_reducible rfl)
    try simp only [Act.put, List.setIfInBounds_toArray, List.set_cons_zero, List.set_cons_succ]
    refine till_take 1 [2, 6, 10] _ ?_ (by simp only [List.getElem?_toArray, List.getElem?_cons_succ, List.getElem?_cons_zero]; rfl) (by kernel_rfl) (by kernel_rfl) (by kernel_rfl) (by kernel_rfl) (by kernel_rfl) (by intro _ _ _ _ h; exact h) (Or.inl ⟨by rfl, ?_⟩) HSD.out ?_
    rotate_left 1; focus (intro wx hSw; (try dsimp only at hSw); obtain ⟨q0, q1, q2⟩ := hSw; go_simp; try with_reducible rfl)
    try simp only [Act.put, List.setIfInBounds_toArray, List.set_cons_zero, List.set_cons_succ]
    refine till_take 2 [6, 10] _ ?_ (by simp only [List.getElem?_toArray, List.getElem?_cons_succ, List.getElem?_cons_zero]; rfl) (by kernel_rfl) (by kernel_rfl) (by kernel_rfl) (by kernel_rfl) (by kernel_rfl) (by intro _ _ _ _ h; exact h) (Or.inl ⟨by rfl, ?_⟩) HSD.out ?_
    rotate_left 1; focus (intro wx hSw; (try dsimp only at hSw); obtain ⟨q0, q1, q2⟩ := hSw; go_simp; try with_reducible rfl)
    try simp only [Act.put, List.setIfInBounds_toArray, List.set_cons_zero, List.set_cons_succ]
    refine till_take 3 [4, 5, 6, 10] _ ?_ (by simp only [List.getElem?_toArray, List.getElem?_cons_succ, List.getElem?_cons_zero]; rfl) (by kernel_rfl) (by kernel_rfl) (by kernel_rfl) (by kernel_rfl) (by kernel_rfl) (by intro _ _ _ _ h; exact h) (Or.inl ⟨by rfl, ?_⟩) HSD.out ?_
    rotate_left 1; focus (intro wx hSw; (try dsimp only at hSw); obtain ⟨q0, q1, q2⟩ := hSw; go_simp; try with_reducible rfl)
    try simp only [Act.put, List.setIfInBounds_toArray, List.set_cons_zero, List.set_cons_succ]
    refine till_take 4 [5, 6, 10] _ ?_ (by simp only [List.getElem?_toArray, List.getElem?_cons_succ, List.getElem?_cons_zero]; rfl) (by kernel_rfl) (by kernel_rfl) (by kernel_rfl) (by kernel_rfl) (by kernel_rfl) (by intro _ _ _ _ h; exact h) (Or.inl ⟨by rfl, ?_⟩) HSD.out ?_
    rotate_left 1; focus (intro wx hSw; (try dsimp only at hSw); obtain ⟨q0, q1, q2⟩ := hSw; go_simp; try with_reducible rfl)
    try simp only [Act.put, List.setIfInBounds_toArray, List.set_cons_zero, List.set_cons_succ]
    refine till_take 5 [6, 10] _ ?_ (by simp only [List.getElem?_toArray, List.getElem?_cons_succ, List.getElem?_cons_zero]; rfl) (by kernel_rfl) (by kernel_rfl) (by kernel_rfl) (by kernel_rfl) (by kernel_rfl) (by intro _ _ _ _ h; exact h) (Or.inl ⟨by rfl, ?_⟩) HSD.out ?_
    rotate_left 1; focus (intro wx hSw; (try dsimp only at hSw); obtain ⟨q0, q1, q2⟩ := hSw; go_simp; try with_reducible rfl)
    try simp only [Act.put, List.setIfInBounds_toArray, List.set_cons_zero, List.set_cons_succ]
    refine till_take 6 [10] _ ?_ (by simp only [List.getElem?_toArray, List.getElem?_cons_succ, List.getElem?_cons_zero]; rfl) (by kernel_rfl) (by kernel_rfl) (by kernel_rfl) (by kernel_rfl) (by kernel_rfl) (by intro _ _ _ _ h; exact h) (Or.inl ⟨by rfl, ?_⟩) HSD.out ?_
    rotate_left 1; focus (intro wx hSw; (try dsimp only at hSw); obtain ⟨q0, q1, q2⟩ := hSw; go_simp; try with_reducible rfl)
    try simp only [Act.put, List.setIfInBounds_toArray, List.set_cons_zero, List.set_cons_succ]
    refine till_take 7 [8, 9, 10] _ ?_ (by simp only [List.getElem?_toArray, List.getElem?_cons_succ, List.getElem?_cons_zero]; rfl) (by kernel_rfl) (by kernel_rfl) (by kernel_rfl) (by kernel_rfl) (by kernel_rfl) (by intro _ _ _ _ h; exact h) (Or.inl ⟨by rfl, ?_⟩) HSD.out ?_
    rotate_left 1; focus (intro wx hSw; (try dsimp only at hSw); obtain ⟨q0, q1, q2⟩ := hSw; go_simp; try with_reducible rfl)
    try simp only [Act.put, List.setIfInBounds_toArray, List.set_cons_zero, List.set_cons_succ]
    refine till_take 8 [9, 10] _ ?_ (by simp only [List.getElem?_toArray, List.getElem?_cons_succ, List.getElem?_cons_zero]; rfl) (by kernel_rfl) (by kernel_rfl) (by kernel_rfl) (by kernel_rfl) (by kernel_rfl) (by intro _ _ _ _ h; exact h) (Or.inl ⟨by rfl, ?_⟩) HSD.out ?_
    rotate_left 1; focus (intro wx hSw; (try dsimp only at hSw); obtain ⟨q0, q1, q2⟩ := hSw; go_simp; try with_reducible rfl)
    try simp only [Act.put, List.setIfInBounds_toArray, List.set_cons_zero, List.set_cons_succ]
    refine till_take 9 [10] _ ?_ (by simp only [List.getElem?_toArray, List.getElem?_cons_succ, List.getElem?_cons_zero]; rfl) (by kernel_rfl) (by kernel_rfl) (by kernel_rfl) (by kernel_rfl) (by kernel_rfl) (by intro _ _ _ _ h; exact h) (Or.inl ⟨by rfl, ?_⟩) HSD.out ?_
    rotate_left 1; focus (intro wx hSw; (try dsimp only at hSw); obtain ⟨q0, q1, q2⟩ := hSw; go_simp; try with_reducible rfl)
    try simp only [Act.put, List.setIfInBounds_toArray, List.set_cons_zero, List.set_cons_succ]
    refine till_take 10 [] _ ?_ (by simp only [List.getElem?_toArray, List.getElem?_cons_succ, List.getElem?_cons_zero]; rfl) (by kernel_rfl) (by kernel_rfl) (by kernel_rfl) (by kernel_rfl) (by kernel_rfl) (by intro _ _ _ _ h; exact h) (Or.inl ⟨by rfl, ?_⟩) HSD.out ?_
    rotate_left 1; focus (intro wx hSw; (try dsimp only at hSw); obtain ⟨q0, q1, q2⟩ := hSw; go_simp; try with_reducible rfl)
    try simp only [Act.put, List.setIfInBounds_toArray, List.set_cons_zero, List.set_cons_succ]
    refine till_take 11 [] _ ?_ (by simp only [List.getElem?_toArray, List.getElem?_cons_succ, List.getElem?_cons_zero]; rfl) (by kernel_rfl) (by kernel_rfl) (by kernel_rfl) (by kernel_rfl) (by kernel_rfl) (by intro _ _ _ _ h; exact h) (Or.inl ⟨by rfl, ?_⟩) HSD.out ?_
    rotate_left 1; focus (intro wx hSw; (try dsimp only at hSw); obtain ⟨q0, q1, q2⟩ := hSw; go_simp; try with_reducible rfl)
    try simp only [Act.put, List.setIfInBounds_toArray, List.set_cons_zero, List.set_cons_succ]
    refine till_ready [12] (by kernel_rfl) (by simp) ?_
    refine alls_cons (by simp only [List.getElem?_toArray, List.getElem?_cons_succ, List.getElem?_cons_zero]; rfl) (fun K hK => ?_) alls_nil
    go_simp
    go_at_call 38; (with_reducible refine (HMD.out _ (bl_drew (Below.refl _ _))).mono ?_); rintro e w3 ⟨a3, b3, rfl, h3⟩
    refine hK.out _ _ (fun h => Bool.noConfusion h) ?_
    clear hK K
    try simp only [Act.put, List.setIfInBounds_toArray, List.set_cons_zero, List.set_cons_succ]
    refine till_take0 13 _ ?_ (by simp only [List.getElem?_toArray, List.getElem?_cons_succ, List.getElem?_cons_zero]; rfl) (by kernel_rfl) (by kernel_rfl) (by kernel_rfl) (by kernel_rfl) (by intro _ _ _ _ h; exact h) (Or.inl ⟨by rfl, ?_⟩) (fun h => Bool.noConfusion h) ?_
    rotate_left 1; focus (intro wx _; go_simp; try with_reducible rfl)
    try simp only [Act.put, List.setIfInBounds_toArray, List.set_cons_zero, List.set_cons_succ]
    refine till_take0 14 _ ?_ (by simp only [List.getElem?_toArray, List.getElem?_cons_succ, List.getElem?_cons_zero]; rfl) (by kernel_rfl) (by kernel_rfl) (by kernel_rfl) (by kernel_rfl) (by intro _ _ _ _ h; exact h) (Or.inl ⟨by rfl, ?_⟩) (fun h => Bool.noConfusion h) ?_
    rotate_left 1; focus (intro wx _; go_simp; try with_reducible rfl)
    try simp only [Act.put, List.setIfInBounds_toArray, List.set_cons_zero, List.set_cons_succ]
    refine till_take0 15 _ ?_ (by simp only [List.getElem?_toArray, List.getElem?_cons_succ, List.getElem?_cons_zero]; rfl) (by kernel_rfl) (by kernel_rfl) (by kernel_rfl) (by kernel_rfl) (by intro _ _ _ _ h; exact h) (Or.inl ⟨by rfl, ?_⟩) (fun h => Bool.noConfusion h) ?_
    rotate_left 1; focus (intro wx _; go_simp; try with_reducible rfl)
    try simp only [Act.put, List.setIfInBounds_toArray, List.set_cons_zero, List.set_cons_succ]
    refine till_take0 16 _ ?_ (by simp only [List.getElem?_toArray, List.getElem?_cons_succ, List.getElem?_cons_zero]; rfl) (by kernel_rfl) (by kernel_rfl) (by kernel_rfl) (by kernel_rfl) (by intro _ _ _ _ h; exact h) (Or.inl ⟨by rfl, ?_⟩) (fun h => Bool.noConfusion h) ?_
    rotate_left 1; focus (intro wx _; go_simp; try with_reducible rfl)
    try simp only [Act.put, List.setIfInBounds_toArray, List.set_cons_zero, List.set_cons_succ]
    refine till_take0 17 _ ?_ (by simp only [List.getElem?_toArray, List.getElem?_cons_succ, List.getElem?_cons_zero]; rfl) (by kernel_rfl) (by kernel_rfl) (by kernel_rfl) (by kernel_rfl) (by intro _ _ _ _ h; exact h) (Or.inl ⟨by rfl, ?_⟩) (fun h => Bool.noConfusion h) ?_
    rotate_left 1; focus (intro wx _; go_simp; try with_reducible rfl)
    try simp only [Act.put, List.setIfInBounds_toArray, List.set_cons_zero, List.set_cons_succ]
    refine till_done (by kernel_rfl) ?_ _
    obtain ⟨hrd, hbl, hmv⟩ := h3.out
    have HRD := Lib.hid hrd; have HBL := Lib.hid hbl
    clear h3 hrd hbl
    rcases hmv with ⟨P, g2, F, hmk, rfl, rfl, hpk, hF⟩ | ⟨hmk, er, rfl, rfl⟩
    · have hmw := made_ok g k (.iface 107 (.pointer (some ⟨g2, 0, none⟩))) w3
      have HMW := Lib.hid hmw; have HMK := Lib.hid hmk; have HPK := Lib.hid hpk; have HF := Lib.hid hF
      clear hmw hmk hpk hF
      go_wp2_with fail
      (with_reducible refine HMW.out.mono ?_)
      rintro e w6 ⟨rfl, rfl⟩
      go_wp2_with fail
      go_ret2
      exact .inl ⟨P, _, _, _, F, by rw [HRE.out, HMK.out]; rfl, rfl, ⟨_, _, rfl⟩, Lib.hid ⟨HRD.out, HCN.out.trans (Chg.of_below HBL.out) (fun i _ e => e), HPK.out, HF.out⟩⟩
    · have hmw := made_n c g _ _ k (.iface 107 (.pointer none)) er w3 HRD.out hk
      have HMW := Lib.hid hmw; have HMK := Lib.hid hmk
      clear hmw hmk
      go_wp2_with fail
      (with_reducible refine HMW.out.mono ?_)
      rintro e w6 ⟨q, rfl, hb6⟩
      have HB6 := Lib.hid hb6
      clear hb6
      go_wp2_with fail
      go_ret2
      exact .inr ⟨by rw [HRE.out, HMK.out]; rfl, _, _, rfl, Lib.hid (HCN.out.trans (Chg.of_below (HBL.out.trans (HB6.out.mono HBL.out.size))) (fun i _ e => e))⟩
  have hre := HRS.out
  rw [if_neg hwd] at hre
  have HCT0 := Lib.hid (HCT0.out.trans h2.out.2 (fun i _ e => e)); have HRT0 := Lib.hid h2.out.1
  clear h2 HT HRS hwd
  have HRS := Lib.hid hre
  clear hre
  have HRT := Lib.hid HRT0.out
  generalize wU = wT at *
  have HT := Lib.hid (take_l c g k (m + 1) sBands ⟨#[98, 97, 110, 100, 115]⟩ rfl wT HRT.out)
  go_wp2_with fail
  (with_reducible refine HT.out.mono ?_)
  rintro e wU (⟨hwd, rfl, h2⟩ | ⟨hwd, rfl, h2⟩)
  · skip
    have hk : k < c.ws.length := (List.getElem?_eq_some_iff.1 hwd).1
    have hre := HRS.out
    rw [if_pos hwd] at hre
    have HCT := Lib.hid (HCT0.out.trans h2.out.2 (fun i _ e => e)); have HRT := Lib.hid h2.out.1
    clear h2 HT HRS HRT0
    have HRS := Lib.hid hre
    clear hre
    generalize wU = wT at *
    have hcl := bands_w c g d hd HONE.out k (k + 1) (m + 1) wT HRT.out (by omega) hk
    rw [← HRS.out] at hcl
    have HCL := Lib.hid hcl
    clear hcl
    go_wp2_with fail
    (with_reducible refine HCL.out.mono ?_)
    rintro e w3 (⟨P, a2, m2, v, F, hok, rfl, hqv, h3⟩ | ⟨hno, T, x, rfl, h3⟩)
    · obtain ⟨uT, ug, rfl⟩ := hqv
      have HOK := Lib.hid hok
      clear hok
      go_wp2_with fail
      go_ret2
      exact .inl ⟨P, a2, m2, _, F, HOK.out, rfl, ⟨_, _, rfl⟩, Lib.hid ⟨h3.out.1, HCT.out.trans h3.out.2.1 (fun i _ e => e), h3.out.2.2.1, fun i hi => Nat.le_trans HCT.out.size (h3.out.2.2.2 i hi)⟩⟩
    · have HNO := Lib.hid hno
      clear hno
      go_wp2_with fail
      go_ret2
      exact .inr ⟨HNO.out, _, _, rfl, Lib.hid (HCT.out.trans h3.out (fun i _ e => e))⟩
  have hre := HRS.out
  rw [if_neg hwd] at hre
  have HCT0 := Lib.hid (HCT0.out.trans h2.out.2 (fun i _ e => e)); have HRT0 := Lib.hid h2.out.1
  clear h2 HT HRS hwd
  have HRS := Lib.hid hre
  clear hre
  have HRT := Lib.hid HRT0.out
  generalize wU = wT at *
  have hre : res = none := HRS.out
  have HRE := Lib.hid hre
  have HF := Lib.hid (fail_w c g k (m + 1) 3 wT HRT.out)
  clear hre
  go_wp2_with fail
  (with_reducible refine HF.out.mono ?_)
  rintro e w3 ⟨q, rfl, hb⟩
  have HB := Lib.hid hb
  clear hb
  go_wp2_with fail
  go_ret2
  exact .inr ⟨HRE.out, _, _, rfl, Lib.hid (HCT0.out.trans (Chg.of_below HB.out) (fun i _ e => e))⟩
end Go.Proofs.YtgdijbaodfghjaaGreatDoor

/-
  plant's reader: the words of a text.
-/
namespace Go.Proofs.YtgdijbaodfghjaaGreatDoor
open Go.RowKit Bkt
set_option linter.unusedVariables false
namespace Pl
def flushW (a : List UInt8) : List (List UInt8) := if a = [] then [] else [a]
def lexW : List UInt8 → List UInt8 → List (List UInt8)
  | a, [] => flushW a
  | a, c :: r => if c = 32 then flushW a ++ lexW [] r else if c = 40 ∨ c = 41 ∨ c = 44 then flushW a ++ ([c] :: lexW [] r) else lexW (a ++ [c]) r
end Pl
def sv (s : List UInt8) : Value := .string ⟨s.toArray⟩
def baW (s : List UInt8) : ByteArray := ⟨s.toArray⟩
def parseW (tape : List Int) (text : List UInt8) : Option Pk := if 2000 < text.length ∨ 1000 < tape.length then none else parseP tape ((Pl.lexW [] text).map baW)
theorem Tryz.strInfo : (Tryz.prog.info? 9).map (fun i => (i.zero, i.size, i.bytes)) = some (some (.string ⟨#[]⟩), 1, 16) := by kernel_rfl
theorem OwnW.apart {w : World} {b1 b2 e1 e2 n1 n2 m1 m2 : Nat} {v1 v2 : Value} {xs ys : List Value} (h : OwnW w b1 e1 n1 v1 m1 xs) (h' : OwnW w b2 e2 n2 v2 m2 ys) (hne : e1 ≠ e2) : ∀ j, v1.ownBlock = some j → v2.ownBlock ≠ some j := by
  intro j hj
  rcases h.2 with ⟨rfl, _⟩ | ⟨g, o, c, cur, rfl, _, hg, _⟩
  · simp [Value.ownBlock] at hj
  · have e : g = j := by simpa [Value.ownBlock] using hj
    subst e
    exact h'.blk_ne hg (Ne.symm hne)
structure LxM (w0 w : World) (len : Nat) (tv us ut vs vt : Value) (ws : List (List UInt8)) (ps : List Int) : Prop where
  blk : Blk w w0.heap.size 72 #[us, ut, .int .i64 0, .int .i64 len, tv, .int .i64 0]
  oS : OwnW w (w0.heap.size + 1) 9 1 vs ws.length (ws.map sv)
  oT : OwnW w (w0.heap.size + 1) 3 1 vt ps.length (ps.map (Value.int .i64))
  bel : Below w0.heap.size w0 w
structure PendV (w : World) (b : Nat) (x : Value) (vs vt : Value) : Prop where
  c : w.cell? ⟨b, 0, none⟩ = some x
  lt : b < w.heap.size
  n1 : vs.ownBlock ≠ some b
  n2 : vt.ownBlock ≠ some b
theorem val_cellsAt {W : World} {b : Nat} {x : Value} (h : W.cell? ⟨b, 0, none⟩ = some x) : ∀ j u, (ValR.cells x)[j]? = some u → W.cell? ((⟨b, 0, none⟩ : Addr).add j) = some u := by
  intro j u hu
  rcases j with _ | j
  · simp [ValR] at hu
    subst hu
    simpa [Addr.add] using h
  · simp [ValR] at hu
section
variable {w0 w w' : World} {len : Nat} {tv us ut vs vt v' : Value} {ws : List (List UInt8)} {ps : List Int} {s : List UInt8} {x : Int}
theorem LxM.drew (h : LxM w0 w len tv us ut vs vt ws ps) : LxM w0 w.drew len tv us ut vs vt ws ps := ⟨h.blk, h.oS, h.oT, h.bel.drew⟩
theorem LxM.szle (h : LxM w0 w len tv us ut vs vt ws ps) : w0.heap.size + 1 ≤ w.heap.size := h.blk.lt
theorem LxM.alloc (h : LxM w0 w len tv us ut vs vt ws ps) (o : Obj) : LxM w0 (w.alloc o) len tv us ut vs vt ws ps := ⟨h.blk.alloc o, h.oS.alloc o, h.oT.alloc o, h.bel.alloc (by have := h.szle; omega) o⟩
theorem LxM.sees (h : LxM w0 w len tv us ut vs vt ws ps) : w.cell? ⟨w0.heap.size, 0, none⟩ = some us ∧ w.cell? ⟨w0.heap.size, 1, none⟩ = some ut := ⟨h.blk.cell 0, h.blk.cell 1⟩
theorem LxM.push1 (h : LxM w0 w len tv us ut vs vt ws ps) (ho : OwnW w' (w0.heap.size + 1) 9 1 v' (ws.length + 1) (ws.map sv ++ [sv s])) (hg : w.grownBy w' vs.ownBlock) : LxM w0 w' len tv us ut v' vt (ws ++ [s]) ps := by
  refine ⟨h.blk.grown hg (fun e => by have := (h.oS.lt _ e.symm).1; omega), by simpa using ho, h.oT.kept hg ?_, h.bel.grown hg (by have := h.szle; omega) (fun i hi => by have := (h.oS.lt i hi).1; omega)⟩
  cases e : vt.ownBlock with
  | none => exact .inl rfl
  | some i => exact .inr fun e2 => h.oS.apart h.oT (by decide) i e2.symm e
theorem LxM.push2 (h : LxM w0 w len tv us ut vs vt ws ps) (ho : OwnW w' (w0.heap.size + 1) 3 1 v' (ps.length + 1) (ps.map (Value.int .i64) ++ [.int .i64 x])) (hg : w.grownBy w' vt.ownBlock) : LxM w0 w' len tv us ut vs v' ws (ps ++ [x]) := by
  refine ⟨h.blk.grown hg (fun e => by have := (h.oT.lt _ e.symm).1; omega), h.oS.kept hg ?_, by simpa using ho, h.bel.grown hg (by have := h.szle; omega) (fun i hi => by have := (h.oT.lt i hi).1; omega)⟩
  cases e : vs.ownBlock with
  | none => exact .inl rfl
  | some i => exact .inr fun e2 => h.oS.apart h.oT (by decide) i e e2.symm
theorem LxM.lay (h : LxM w0 w len tv us ut vs vt ws ps) (y : Value) (t : TypeId) : LxM w0 (w.alloc (.cells #[y] t)) len tv us ut vs vt ws ps ∧ PendV (w.alloc (.cells #[y] t)) w.heap.size y vs vt :=
  ⟨h.alloc _, (Blk.new w _ _).cell 0, by simp, fun e => by have := (h.oS.lt _ e).2; omega, fun e => by have := (h.oT.lt _ e).2; omega⟩
theorem PendV.alloc {b : Nat} {y : Value} (h : PendV w b y vs vt) (o : Obj) : PendV (w.alloc o) b y vs vt :=
  ⟨(World.cell?_alloc_lt w o _ h.lt).trans h.c, by have := h.lt; simp; omega, h.n1, h.n2⟩
theorem PendV.grown1 {b : Nat} {y : Value} (h : PendV w b y vs vt) (hg : w.grownBy w' vs.ownBlock) (hat : v'.ownBlock = vs.ownBlock ∨ ∀ g, v'.ownBlock = some g → w.heap.size ≤ g) : PendV w' b y v' vt := by
  refine ⟨(World.cell?_of_block (hg.block b h.lt (fun e => h.n1 e.symm))).trans h.c, Nat.lt_of_lt_of_le h.lt hg.size, fun e => ?_, h.n2⟩
  rcases hat with e2 | e2
  · exact h.n1 (e2 ▸ e)
  · have := e2 _ e; have := h.lt; omega
theorem LxM.store1 (h : LxM w0 w len tv us ut vs vt ws ps) : LxM w0 (w.setCell ⟨w0.heap.size, 0, none⟩ vs) len tv vs ut vs vt ws ps := by
  have hc : Chg w (w.setCell ⟨w0.heap.size, 0, none⟩ vs) (fun i => i = w0.heap.size) := Chg.setCell (p := ⟨w0.heap.size, 0, none⟩) (Chg.refl w (fun i => i = w0.heap.size)) (fun _ => rfl) _
  exact ⟨h.blk.set_ 0 vs, h.oS.chg hc (fun j hj e => by have := (h.oS.lt j hj).1; omega), h.oT.chg hc (fun j hj e => by have := (h.oT.lt j hj).1; omega), h.bel.setCell (p := ⟨w0.heap.size, 0, none⟩) (Nat.le_refl _) _⟩
theorem LxM.store2 (h : LxM w0 w len tv us ut vs vt ws ps) : LxM w0 (w.setCell ⟨w0.heap.size, 1, none⟩ vt) len tv us vt vs vt ws ps := by
  have hc : Chg w (w.setCell ⟨w0.heap.size, 1, none⟩ vt) (fun i => i = w0.heap.size) := Chg.setCell (p := ⟨w0.heap.size, 1, none⟩) (Chg.refl w (fun i => i = w0.heap.size)) (fun _ => rfl) _
  exact ⟨h.blk.set_ 1 vt, h.oS.chg hc (fun j hj e => by have := (h.oS.lt j hj).1; omega), h.oT.chg hc (fun j hj e => by have := (h.oT.lt j hj).1; omega), h.bel.setCell (p := ⟨w0.heap.size, 1, none⟩) (Nat.le_refl _) _⟩
end
theorem ba_len (l : List UInt8) : (⟨l.toArray⟩ : ByteArray).size = l.length := by show l.toArray.size = _; simp
theorem ba_get (l : List UInt8) (i : Nat) (h : i < l.length) : (⟨l.toArray⟩ : ByteArray)[i]'(by rw [ba_len]; exact h) = l[i] := rfl
theorem ba_ext (l : List UInt8) (i k : Nat) : (⟨l.toArray⟩ : ByteArray).extract i k = ⟨((l.drop i).take (k - i)).toArray⟩ := by
  apply ByteArray.ext
  simp
theorem take_more {l : List UInt8} {i k : Nat} (hik : i ≤ k) (hk : k < l.length) : (l.drop i).take (k + 1 - i) = (l.drop i).take (k - i) ++ [l[k]] := by
  rw [show k + 1 - i = (k - i) + 1 by omega, List.take_succ_eq_append_getElem (by rw [List.length_drop]; omega)]
  congr 2
  rw [List.getElem_drop]
  congr 1
  omega
def brk (c : UInt8) : Bool := c == 32 || c == 40 || c == 41 || c == 44
theorem brk_no {c : UInt8} (h : brk c = false) : c ≠ 32 ∧ c ≠ 40 ∧ c ≠ 41 ∧ c ≠ 44 := by
  unfold brk at h
  simp at h
  exact ⟨h.1.1.1, h.1.1.2, h.1.2, h.2⟩
theorem brk_yes {c : UInt8} (h : brk c = true) : c = 32 ∨ c = 40 ∨ c = 41 ∨ c = 44 := by
  unfold brk at h
  simp at h
  rcases h with ((h | h) | h) | h <;> simp [h]
theorem lex_go {a : List UInt8} {c : UInt8} {r : List UInt8} (h : brk c = false) : Pl.lexW a (c :: r) = Pl.lexW (a ++ [c]) r := by
  obtain ⟨h1, h2, h3, h4⟩ := brk_no h
  rw [Pl.lexW, if_neg h1, if_neg (by simp [h2, h3, h4])]
theorem lex_stop {a : List UInt8} {c : UInt8} {r : List UInt8} (h : brk c = true) : Pl.lexW a (c :: r) = Pl.flushW a ++ Pl.lexW [] (c :: r) := by
  rw [Pl.lexW, Pl.lexW]
  simp only [Pl.flushW, if_true, List.nil_append]
  split
  · rfl
  · split
    · rfl
    · rename_i h1 h2
      rcases brk_yes h with e | e | e | e
      · exact absurd e h1
      · exact absurd (.inl e) h2
      · exact absurd (.inr (.inl e)) h2
      · exact absurd (.inr (.inr e)) h2
end Go.Proofs.YtgdijbaodfghjaaGreatDoor

/-
  plant's reader: one, at every depth.
-/
namespace Go.Proofs.YtgdijbaodfghjaaGreatDoor
open Go.RowKit Bkt
set_option linter.unusedVariables false
set_option maxHeartbeats 2000000 in
set_option maxRecDepth 100000 in
theorem one_0 (c : PRc) (g k m : Nat) (w : World) (h : RdW c w g k m) (hm : m ≤ 20) :
    Calls Tryz.prog 22 #[.pointer (some ⟨g, 0, none⟩), .int .i64 0] w (OneEnd c w g none) := by
  have hwm1 : IntKind.i64.wrap ((m : Int) + 1) = (m : Int) + 1 := IntWalk.i64_in _ (by omega)
  obtain ⟨hr1, hc1⟩ := h.more
  have d2 := h.rd.blk.cell 2; have d5 := h.rd.blk.cell 5; have f5 := h.rd.blk.frozen 5
  simp at d2 d5
  have HR1 := Lib.hid hr1; have HC1 := Lib.hid hc1
  clear hr1 hc1 h
  go_enter Tryz.func22, Tryz.ntmps22
  go_upto_region 3 with fail
  generalize w.setCell ⟨g, 5, none⟩ (.int .i64 ((m : Int) + 1)) = w1 at *
  have HF := Lib.hid (fail_w c g k (m + 1) 4 w1 HR1.out)
  clear d2 d5 f5
  go_wp2_with fail
  (with_reducible refine HF.out.mono ?_)
  rintro e w3 ⟨q, rfl, hb⟩
  have HB := Lib.hid hb
  clear hb
  go_wp2_with fail
  go_ret2
  exact .inr ⟨rfl, _, _, rfl, Lib.hid (HC1.out.trans (Chg.of_below HB.out) (fun i _ e => e))⟩
theorem one_all (c : PRc) (g : Nat) : ∀ d, d < 100 → RecC c g d
  | 0, _ => fun k m W h hm => one_0 c g k m W h hm
  | d + 1, hd => fun k m W h hm => by
    have := one_w c g d (by omega) (one_all c g d (by omega)) k m W h hm
    rw [show ((d + 1 : Nat) : Int) = (d : Int) + 1 by omega]
    exact this
end Go.Proofs.YtgdijbaodfghjaaGreatDoor

/-
  plant.Parse. (printed by gen_plparse.py)
-/
namespace Go.Proofs.YtgdijbaodfghjaaGreatDoor
open Go.RowKit Bkt
set_option linter.unusedVariables false
def ParseEnd (w : World) (res : Option Pk) (e : Ending) (w' : World) : Prop :=
  (∃ P v F, res = some P ∧ e = .returned (.tuple #[v, .nilIface]) ∧ QV v ∧ Hid (PkM P v 6 F w' ∧ Below w.heap.size w w' ∧ ∀ i, F i → w.heap.size ≤ i)) ∨
  (res = none ∧ ∃ T x, e = .returned (.tuple #[.nilIface, .iface T x]) ∧ Hid (Below w.heap.size w w'))
theorem baW_cells : ∀ ws : List (List UInt8), (ws.map baW).flatMap StrR.cells = ws.map sv
  | [] => rfl
  | x :: r => by rw [List.map_cons, List.flatMap_cons, List.map_cons, baW_cells r]; rfl
set_option maxHeartbeats 8000000 in
set_option maxRecDepth 100000 in
theorem parse_p (text : List UInt8) (hlm : text.length ≤ 1000000) (Ax : Option Addr) (cx : Nat) (tape : List Int) (w : World) (hv : Pv w) (htp : RdI w w.heap.size Ax tape.length tape) (htl : tape.length ≤ 1000000) :
    Calls Tryz.prog 17 #[.string ⟨text.toArray⟩, .slice Ax tape.length cx] w (ParseEnd w (parseW tape text)) := by
  by_cases hl : text.length ≤ 2000
  rotate_left
  · have d0 : decide ((2000 : Int) < (text.length : Int)) = true := decide_eq_true (by omega)
    have hre : parseW tape text = none := if_pos (by omega)
    have HRE := Lib.hid hre
    clear hre hv htp
    go_enter Tryz.func17, Tryz.ntmps17
    go_wp2_with fail
    go_ret2
    exact .inr ⟨HRE.out, _, _, rfl, Lib.hid (Below.refl _ _)⟩
  have d0 : decide ((2000 : Int) < (text.length : Int)) = false := decide_eq_false (by omega)
  by_cases hl2 : tape.length ≤ 1000
  rotate_left
  · have d1 : decide ((1000 : Int) < (tape.length : Int)) = true := decide_eq_true (by omega)
    have hre : parseW tape text = none := if_pos (by omega)
    have HRE := Lib.hid hre
    clear hre hv htp
    go_enter Tryz.func17, Tryz.ntmps17
    go_wp2_with fail
    go_ret2
    exact .inr ⟨HRE.out, _, _, rfl, Lib.hid (Below.refl _ _)⟩
  have d1 : decide ((1000 : Int) < (tape.length : Int)) = false := decide_eq_false (by omega)
  obtain ⟨res, hres⟩ : ∃ res, parseW tape text = res := ⟨_, rfl⟩
  have hre : res = parseP tape ((Pl.lexW [] text).map baW) := by rw [← hres]; exact if_neg (by omega)
  rw [hres]
  have HRE := Lib.hid hre; have HV := Lib.hid hv; have HTP := Lib.hid htp
  clear hre hres hv htp
  go_enter Tryz.func17, Tryz.ntmps17
  go_wp2_with fail
  go_loopw [7] (fun iv wr => ∃ (i : Nat) (ws : List (List UInt8)) (ps : List Int) (As : Option Addr) (cs : Nat) (At : Option Addr) (ct : Nat), iv = .int .i64 i ∧ i ≤ text.length ∧
    Hid (LxM w wr text.length (.slice Ax tape.length cx) (.slice As ws.length cs) (.slice At ps.length ct) (.slice As ws.length cs) (.slice At ps.length ct) ws ps ∧ Pl.lexW [] text = ws ++ Pl.lexW [] (text.drop i) ∧ ws.length ≤ i ∧ ps.length = ws.length ∧ ∀ s ∈ ws, s.length ≤ 2000)) (fun iv _ => text.length - (intOf iv).toNat)
  case atStart =>
    refine ⟨0, [], [], none, 0, none, 0, rfl, Nat.zero_le _, Lib.hid ⟨⟨Blk.new _ _ _, OwnW.nil _ _ _ _, OwnW.nil _ _ _ _, (Below.refl _ _).alloc (Nat.le_refl _) _⟩, rfl, Nat.le_refl _, rfl, fun s hs => by cases hs⟩⟩
  case round =>
    obtain ⟨i, ws, ps, As, cs, At, ct, rfl, hi, hx⟩ := hrel
    by_cases hlt : i < text.length
    · have ii : (i : Int) < (text.length : Int) := by omega
      have hdr : text.drop i = text[i] :: text.drop (i + 1) := List.drop_eq_getElem_cons hlt
      have HDR := Lib.hid hdr
      clear hdr
      have hbx := ba_get text i hlt
      have hlex0 : Pl.lexW [] (text.drop i) = Pl.lexW [] (text[i] :: text.drop (i + 1)) := by rw [HDR.out]
      generalize hc : text[i] = c at *
      by_cases h32 : c = 32
      · have m1 : ((c.toNat : Int) == 32) = true := by rw [h32]; rfl
        have n1 : (c.toNat : Int) = 32 := by rw [h32]; rfl
        have HL0 := Lib.hid hlex0
        clear hlex0
        go_wp2_with fail
        obtain ⟨hm, hlex, hlen, hpl, hsz⟩ := hx.out
        refine ⟨⟨i + 1, ws, ps, As, cs, At, ct, by go_num, by omega, Lib.hid ⟨hm, ?_, by omega, hpl, hsz⟩⟩, by simp [intOf]; omega⟩
        rw [hlex, HL0.out, Pl.lexW, if_pos h32]
        rfl
      · have n1 : ¬ (c.toNat : Int) = 32 := fun e => h32 (UInt8.toNat_inj.1 (by rw [show c.toNat = 32 by omega]; rfl))
        have m1 : ((c.toNat : Int) == 32) = false := beq_eq_false_iff_ne.mpr n1
        have HL0 := Lib.hid hlex0
        clear hlex0
        go_upto_block 2 with fail
        go_cut [7, 8] from 33 to 73 (fun iv kv wx => iv = .int .i64 i ∧ ∃ k : Nat, kv = .int .i64 k ∧ i < k ∧ k ≤ text.length ∧ wx = wr ∧ Hid (Pl.lexW [] (text.drop i) = (text.drop i).take (k - i) :: Pl.lexW [] (text.drop k)))
        case first =>
          by_cases hp : c = 40 ∨ c = 41 ∨ c = 44
          · have hre : Hid (Pl.lexW [] (text.drop i) = (text.drop i).take (i + 1 - i) :: Pl.lexW [] (text.drop (i + 1))) := by
              refine Lib.hid ?_
              have e1 : (text.drop i).take (i + 1 - i) = [c] := by rw [HDR.out, show i + 1 - i = 1 by omega]; rfl
              rw [HL0.out, Pl.lexW, if_neg h32, if_pos hp, e1]
              rfl
            rcases hp with hp | hp | hp
            · skip
              have n2 : (c.toNat : Int) = 40 := by rw [hp]; rfl
              have m2 : ((c.toNat : Int) == 40) = true := by rw [hp]; rfl
              go_wp2_with fail
              go_meet
              case rel => exact ⟨rfl, i + 1, by go_num, by omega, by omega, rfl, hre⟩
            · skip
              have n2 : ¬ (c.toNat : Int) = 40 := by rw [hp]; decide
              have m2 : ((c.toNat : Int) == 40) = false := by rw [hp]; rfl
              have n3 : (c.toNat : Int) = 41 := by rw [hp]; rfl
              have m3 : ((c.toNat : Int) == 41) = true := by rw [hp]; rfl
              go_wp2_with fail
              go_meet
              case rel => exact ⟨rfl, i + 1, by go_num, by omega, by omega, rfl, hre⟩
            · skip
              have n2 : ¬ (c.toNat : Int) = 40 := by rw [hp]; decide
              have m2 : ((c.toNat : Int) == 40) = false := by rw [hp]; rfl
              have n3 : ¬ (c.toNat : Int) = 41 := by rw [hp]; decide
              have m3 : ((c.toNat : Int) == 41) = false := by rw [hp]; rfl
              have n4 : (c.toNat : Int) = 44 := by rw [hp]; rfl
              have m4 : ((c.toNat : Int) == 44) = true := by rw [hp]; rfl
              go_wp2_with fail
              go_meet
              case rel => exact ⟨rfl, i + 1, by go_num, by omega, by omega, rfl, hre⟩
          · have n2 : ¬ (c.toNat : Int) = 40 := fun e => hp (.inl (UInt8.toNat_inj.1 (by rw [show c.toNat = 40 by omega]; rfl)))
            have m2 : ((c.toNat : Int) == 40) = false := beq_eq_false_iff_ne.mpr n2
            have n3 : ¬ (c.toNat : Int) = 41 := fun e => hp (.inr (.inl (UInt8.toNat_inj.1 (by rw [show c.toNat = 41 by omega]; rfl))))
            have m3 : ((c.toNat : Int) == 41) = false := beq_eq_false_iff_ne.mpr n3
            have n4 : ¬ (c.toNat : Int) = 44 := fun e => hp (.inr (.inr (UInt8.toNat_inj.1 (by rw [show c.toNat = 44 by omega]; rfl))))
            have m4 : ((c.toNat : Int) == 44) = false := beq_eq_false_iff_ne.mpr n4
            have hbrk : brk c = false := by
              cases hb : brk c with
              | false => rfl
              | true => rcases brk_yes hb with e | e | e | e
                        · exact absurd e h32
                        · exact absurd (.inl e) hp
                        · exact absurd (.inr (.inl e)) hp
                        · exact absurd (.inr (.inr e)) hp
            have HBK := Lib.hid hbrk
            clear hbrk
            go_wp2_with fail
            clear n1 m1 n2 m2 n3 m3 n4 m4 hbx
            go_loopw [8] (fun kv wx => ∃ k : Nat, kv = .int .i64 k ∧ i ≤ k ∧ k ≤ text.length ∧ wx = wr ∧ Hid (Pl.lexW [] (text.drop i) = Pl.lexW ((text.drop i).take (k - i)) (text.drop k))) (fun kv _ => text.length - (intOf kv).toNat)
            case atStart => exact ⟨i, rfl, Nat.le_refl _, by omega, rfl, Lib.hid (by simp)⟩
            case round =>
              obtain ⟨k, rfl, hik, hkl, hwx, hlk⟩ := hrel
              subst hwx
              by_cases hk : k < text.length
              · have kk : (k : Int) < (text.length : Int) := by omega
                have hbk := ba_get text k hk
                have htk := take_more hik hk
                have hdk : text.drop k = text[k] :: text.drop (k + 1) := List.drop_eq_getElem_cons hk
                have hci : k = i → text[k] = c := fun e => by subst e; exact hc
                have HTK := Lib.hid htk; have HDK := Lib.hid hdk; have HCI := Lib.hid hci
                clear htk hdk hci
                generalize hcc : text[k] = b at *
                cases hb : brk b with
                | false =>
                  have hq := brk_no hb
                  have m1 : ((b.toNat : Int) == 32) = false := beq_eq_false_iff_ne.mpr (fun e => hq.1 (UInt8.toNat_inj.1 (by rw [show b.toNat = 32 by omega]; rfl)))
                  have m2 : ((b.toNat : Int) == 40) = false := beq_eq_false_iff_ne.mpr (fun e => hq.2.1 (UInt8.toNat_inj.1 (by rw [show b.toNat = 40 by omega]; rfl)))
                  have m3 : ((b.toNat : Int) == 41) = false := beq_eq_false_iff_ne.mpr (fun e => hq.2.2.1 (UInt8.toNat_inj.1 (by rw [show b.toNat = 41 by omega]; rfl)))
                  have m4 : ((b.toNat : Int) == 44) = false := beq_eq_false_iff_ne.mpr (fun e => hq.2.2.2 (UInt8.toNat_inj.1 (by rw [show b.toNat = 44 by omega]; rfl)))
                  have n1 : ¬ (b.toNat : Int) = 32 := ne_of_beq_false m1
                  have n2 : ¬ (b.toNat : Int) = 40 := ne_of_beq_false m2
                  have n3 : ¬ (b.toNat : Int) = 41 := ne_of_beq_false m3
                  have n4 : ¬ (b.toNat : Int) = 44 := ne_of_beq_false m4
                  have HB := Lib.hid hb
                  clear hq hb
                  have p1 : ((b.toNat : Int) != 32) = true := by rw [bne, m1]; rfl
                  have p2 : ((b.toNat : Int) != 40) = true := by rw [bne, m2]; rfl
                  have p3 : ((b.toNat : Int) != 41) = true := by rw [bne, m3]; rfl
                  have p4 : ((b.toNat : Int) != 44) = true := by rw [bne, m4]; rfl
                  go_wp2_with fail
                  refine ⟨⟨k + 1, by go_num, by omega, by omega, by first | rfl | trivial, Lib.hid ?_⟩, by simp [intOf]; omega⟩
                  rw [hlk.out, HDK.out, lex_go HB.out, HTK.out]
                | true =>
                  have hik2 : i < k := by
                    rcases Nat.lt_or_ge i k with h | h
                    · exact h
                    · exfalso
                      have := HCI.out (by omega)
                      rw [this, HBK.out] at hb
                      cases hb
                  have hre : Hid (Pl.lexW [] (text.drop i) = (text.drop i).take (k - i) :: Pl.lexW [] (text.drop k)) := by
                    refine Lib.hid ?_
                    rw [hlk.out, HDK.out, lex_stop hb]
                    have hne : (text.drop i).take (k - i) ≠ [] := fun e => by
                      have := congrArg List.length e
                      rw [List.length_take, List.length_drop] at this
                      simp at this
                      omega
                    unfold Pl.flushW
                    rw [if_neg hne]
                    rfl
                  have hq := brk_yes hb
                  clear hb
                  rcases hq with hq | hq | hq | hq
                  · skip
                    have m1 : ((b.toNat : Int) == 32) = true := by rw [hq]; rfl
                    have n1 : (b.toNat : Int) = 32 := by rw [hq]; rfl
                    have p1 : ((b.toNat : Int) != 32) = false := by rw [bne, m1]; rfl
                    go_wp2_with fail
                    go_meet
                    case rel => exact ⟨rfl, k, rfl, hik2, by omega, rfl, hre⟩
                  · skip
                    have m1 : ((b.toNat : Int) == 32) = false := by rw [hq]; rfl
                    have n1 : ¬ (b.toNat : Int) = 32 := by rw [hq]; decide
                    have m2 : ((b.toNat : Int) == 40) = true := by rw [hq]; rfl
                    have n2 : (b.toNat : Int) = 40 := by rw [hq]; rfl
                    have p1 : ((b.toNat : Int) != 32) = true := by rw [bne, m1]; rfl
                    have p2 : ((b.toNat : Int) != 40) = false := by rw [bne, m2]; rfl
                    go_wp2_with fail
                    go_meet
                    case rel => exact ⟨rfl, k, rfl, hik2, by omega, rfl, hre⟩
                  · skip
                    have m1 : ((b.toNat : Int) == 32) = false := by rw [hq]; rfl
                    have n1 : ¬ (b.toNat : Int) = 32 := by rw [hq]; decide
                    have m2 : ((b.toNat : Int) == 40) = false := by rw [hq]; rfl
                    have n2 : ¬ (b.toNat : Int) = 40 := by rw [hq]; decide
                    have m3 : ((b.toNat : Int) == 41) = true := by rw [hq]; rfl
                    have n3 : (b.toNat : Int) = 41 := by rw [hq]; rfl
                    have p1 : ((b.toNat : Int) != 32) = true := by rw [bne, m1]; rfl
                    have p2 : ((b.toNat : Int) != 40) = true := by rw [bne, m2]; rfl
                    have p3 : ((b.toNat : Int) != 41) = false := by rw [bne, m3]; rfl
                    go_wp2_with fail
                    go_meet
                    case rel => exact ⟨rfl, k, rfl, hik2, by omega, rfl, hre⟩
                  · skip
                    have m1 : ((b.toNat : Int) == 32) = false := by rw [hq]; rfl
                    have n1 : ¬ (b.toNat : Int) = 32 := by rw [hq]; decide
                    have m2 : ((b.toNat : Int) == 40) = false := by rw [hq]; rfl
                    have n2 : ¬ (b.toNat : Int) = 40 := by rw [hq]; decide
                    have m3 : ((b.toNat : Int) == 41) = false := by rw [hq]; rfl
                    have n3 : ¬ (b.toNat : Int) = 41 := by rw [hq]; decide
                    have m4 : ((b.toNat : Int) == 44) = true := by rw [hq]; rfl
                    have n4 : (b.toNat : Int) = 44 := by rw [hq]; rfl
                    have p1 : ((b.toNat : Int) != 32) = true := by rw [bne, m1]; rfl
                    have p2 : ((b.toNat : Int) != 40) = true := by rw [bne, m2]; rfl
                    have p3 : ((b.toNat : Int) != 41) = true := by rw [bne, m3]; rfl
                    have p4 : ((b.toNat : Int) != 44) = false := by rw [bne, m4]; rfl
                    go_wp2_with fail
                    go_meet
                    case rel => exact ⟨rfl, k, rfl, hik2, by omega, rfl, hre⟩
              · obtain rfl : k = text.length := by omega
                have hre : Hid (Pl.lexW [] (text.drop i) = (text.drop i).take (text.length - i) :: Pl.lexW [] (text.drop text.length)) := by
                  refine Lib.hid ?_
                  rw [hlk.out, List.drop_length, Pl.lexW, Pl.lexW]
                  have hne : (text.drop i).take (text.length - i) ≠ [] := fun e => by
                    have := congrArg List.length e
                    rw [List.length_take, List.length_drop] at this
                    simp at this
                    omega
                  unfold Pl.flushW
                  rw [if_neg hne, if_pos rfl]
                go_wp2_with fail
                go_meet
                case rel => exact ⟨rfl, text.length, rfl, by omega, by omega, rfl, hre⟩
        case rest =>
          obtain ⟨rfl, k, rfl, hik, hkl, hwc, hre⟩ := hcut
          subst hwc
          obtain ⟨hm, hlex, hlen, hpl, hsz⟩ := hx.out
          have hex := ba_ext text i k
          have hpc : ((text.drop i).take (k - i)).length ≤ 2000 := by rw [List.length_take, List.length_drop]; omega
          have hlx : Pl.lexW [] text = (ws ++ [(text.drop i).take (k - i)]) ++ Pl.lexW [] (text.drop k) ∧ (ws ++ [(text.drop i).take (k - i)]).length ≤ k ∧ (ps ++ [(i : Int)]).length = (ws ++ [(text.drop i).take (k - i)]).length ∧ ∀ s ∈ ws ++ [(text.drop i).take (k - i)], s.length ≤ 2000 := by
            refine ⟨by rw [hlex, hre.out]; simp, by simp; omega, by simp [hpl], fun s hs => ?_⟩
            rcases List.mem_append.1 hs with h | h
            · exact hsz s h
            · rw [List.mem_singleton.1 h]; exact hpc
          have HLX := Lib.hid hlx
          have hwl : ws.length ≤ 1000000 := by omega
          have hpl2 : ps.length ≤ 1000000 := by omega
          have ik : (i : Int) ≤ (k : Int) := by omega
          have kl : (k : Int) ≤ (text.length : Int) := by omega
          have hb0 := hm.drew
          have HB0 := Lib.hid hb0
          clear hlx hpc hm hlex hlen hpl hsz hx hre hb0 hbx n1 m1
          generalize (text.drop i).take (k - i) = piece at *
          go_upto_region 16 with fail
          refine wp_till (fun wx => wx.cell? ⟨w.heap.size, 0, none⟩ = some (.slice As ws.length cs) ∧ wx.cell? ⟨w.heap.size, 1, none⟩ = some (.slice At ps.length ct)) [21, 24] (by kernel_rfl) ?_
          refine till_take0 1 _ ?_ (by simp only [List.getElem?_toArray, List.getElem?_cons_succ, List.getElem?_cons_zero]; rfl) (by kernel_rfl) (by kernel_rfl) (by kernel_rfl) (by kernel_rfl) (by intro _ _ _ _ h; exact h) (Or.inl ⟨by rfl, ?_⟩) (fun _ => HB0.out.sees) ?_
          rotate_left 1; focus (intro wx hSw; go_simp; try with_reducible rfl)
          try simp only [Act.put, List.setIfInBounds_toArray, List.set_cons_zero, List.set_cons_succ]
          refine till_take 0 [] _ ?_ (by simp only [List.getElem?_toArray, List.getElem?_cons_zero]; rfl) (by kernel_rfl) (by kernel_rfl) (by kernel_rfl) (by kernel_rfl) (by kernel_rfl) (by intro _ _ _ _ h; exact h) (Or.inl ⟨by rfl, ?_⟩) (HB0.out.sees) ?_
          rotate_left 1; focus (intro wx hSw; (try dsimp only at hSw); obtain ⟨q1, q2⟩ := hSw; go_simp; try with_reducible rfl)
          try simp only [Act.put, List.setIfInBounds_toArray, List.set_cons_zero, List.set_cons_succ]
          refine till_take 2 [] _ ?_ (by simp only [List.getElem?_toArray, List.getElem?_cons_succ, List.getElem?_cons_zero]; rfl) (by kernel_rfl) (by kernel_rfl) (by kernel_rfl) (by kernel_rfl) (by kernel_rfl) (by intro _ _ _ _ h; exact h) (Or.inl ⟨by rfl, ?_⟩) (HB0.out.sees) ?_
          rotate_left 1; focus (intro wx hSw; (try dsimp only at hSw); obtain ⟨q1, q2⟩ := hSw; go_simp; try with_reducible rfl)
          try simp only [Act.put, List.setIfInBounds_toArray, List.set_cons_zero, List.set_cons_succ]
          refine till_take 3 [] _ ?_ (by simp only [List.getElem?_toArray, List.getElem?_cons_succ, List.getElem?_cons_zero]; rfl) (by kernel_rfl) (by kernel_rfl) (by kernel_rfl) (by kernel_rfl) (by kernel_rfl) (by intro _ _ _ _ h; exact h) (Or.inl ⟨by rfl, ?_⟩) (HB0.out.sees) ?_
          rotate_left 1; focus (intro wx hSw; (try dsimp only at hSw); obtain ⟨q1, q2⟩ := hSw; go_simp; try with_reducible rfl)
          try simp only [Act.put, List.setIfInBounds_toArray, List.set_cons_zero, List.set_cons_succ]
          refine till_take 4 [] _ ?_ (by simp only [List.getElem?_toArray, List.getElem?_cons_succ, List.getElem?_cons_zero]; rfl) (by kernel_rfl) (by kernel_rfl) (by kernel_rfl) (by kernel_rfl) (by kernel_rfl) (by intro _ _ _ _ h; exact h) (Or.inl ⟨by rfl, ?_⟩) (HB0.out.sees) ?_
          rotate_left 1; focus (intro wx hSw; (try dsimp only at hSw); obtain ⟨q1, q2⟩ := hSw; go_simp; try with_reducible rfl)
          try simp only [Act.put, List.setIfInBounds_toArray, List.set_cons_zero, List.set_cons_succ]
          refine till_take 5 [] _ ?_ (by simp only [List.getElem?_toArray, List.getElem?_cons_succ, List.getElem?_cons_zero]; rfl) (by kernel_rfl) (by kernel_rfl) (by kernel_rfl) (by kernel_rfl) (by kernel_rfl) (by intro _ _ _ _ h; exact h) (Or.inl ⟨by rfl, ?_⟩) (HB0.out.sees) ?_
          rotate_left 1; focus (intro wx hSw; (try dsimp only at hSw); obtain ⟨q1, q2⟩ := hSw; go_simp; try with_reducible rfl)
          try simp only [Act.put, List.setIfInBounds_toArray, List.set_cons_zero, List.set_cons_succ]
          refine till_take 6 [] _ ?_ (by simp only [List.getElem?_toArray, List.getElem?_cons_succ, List.getElem?_cons_zero]; rfl) (by kernel_rfl) (by kernel_rfl) (by kernel_rfl) (by kernel_rfl) (by kernel_rfl) (by intro _ _ _ _ h; exact h) (Or.inl ⟨by rfl, ?_⟩) (HB0.out.sees) ?_
          rotate_left 1; focus (intro wx hSw; (try dsimp only at hSw); obtain ⟨q1, q2⟩ := hSw; go_simp; try with_reducible rfl)
          try simp only [Act.put, List.setIfInBounds_toArray, List.set_cons_zero, List.set_cons_succ]
          refine till_take 7 [] _ ?_ (by simp only [List.getElem?_toArray, List.getElem?_cons_succ, List.getElem?_cons_zero]; rfl) (by kernel_rfl) (by kernel_rfl) (by kernel_rfl) (by kernel_rfl) (by kernel_rfl) (by intro _ _ _ _ h; exact h) (Or.inl ⟨by rfl, ?_⟩) (HB0.out.sees) ?_
          rotate_left 1; focus (intro wx hSw; (try dsimp only at hSw); obtain ⟨q1, q2⟩ := hSw; go_simp; try with_reducible rfl)
          try simp only [Act.put, List.setIfInBounds_toArray, List.set_cons_zero, List.set_cons_succ]
          refine till_take 8 [] _ ?_ (by simp only [List.getElem?_toArray, List.getElem?_cons_succ, List.getElem?_cons_zero]; rfl) (by kernel_rfl) (by kernel_rfl) (by kernel_rfl) (by kernel_rfl) (by kernel_rfl) (by intro _ _ _ _ h; exact h) (Or.inl ⟨by rfl, ?_⟩) (HB0.out.sees) ?_
          rotate_left 1; focus (intro wx hSw; (try dsimp only at hSw); obtain ⟨q1, q2⟩ := hSw; go_simp; try with_reducible rfl)
          try simp only [Act.put, List.setIfInBounds_toArray, List.set_cons_zero, List.set_cons_succ]
          refine till_take 9 [] _ ?_ (by simp only [List.getElem?_toArray, List.getElem?_cons_succ, List.getElem?_cons_zero]; rfl) (by kernel_rfl) (by kernel_rfl) (by kernel_rfl) (by kernel_rfl) (by kernel_rfl) (by intro _ _ _ _ h; exact h) (Or.inl ⟨by rfl, ?_⟩) (HB0.out.sees) ?_
          rotate_left 1; focus (intro wx hSw; (try dsimp only at hSw); obtain ⟨q1, q2⟩ := hSw; go_simp; try with_reducible rfl)
          try simp only [Act.put, List.setIfInBounds_toArray, List.set_cons_zero, List.set_cons_succ]
          refine till_take 12 [13, 14, 15] _ ?_ (by simp only [List.getElem?_toArray, List.getElem?_cons_succ, List.getElem?_cons_zero]; rfl) (by kernel_rfl) (by kernel_rfl) (by kernel_rfl) (by kernel_rfl) (by kernel_rfl) (by intro _ _ _ _ h; exact h) (Or.inl ⟨by rfl, ?_⟩) (HB0.out.sees) ?_
          rotate_left 1; focus (intro wx hSw; (try dsimp only at hSw); obtain ⟨q1, q2⟩ := hSw; go_simp; try with_reducible rfl)
          try simp only [Act.put, List.setIfInBounds_toArray, List.set_cons_zero, List.set_cons_succ]
          refine till_take 13 [14, 15] _ ?_ (by simp only [List.getElem?_toArray, List.getElem?_cons_succ, List.getElem?_cons_zero]; rfl) (by kernel_rfl) (by kernel_rfl) (by kernel_rfl) (by kernel_rfl) (by kernel_rfl) (by intro _ _ _ _ h; exact h) (Or.inl ⟨by rfl, ?_⟩) (HB0.out.sees) ?_
          rotate_left 1; focus (intro wx hSw; (try dsimp only at hSw); obtain ⟨q1, q2⟩ := hSw; go_simp; try with_reducible rfl)
          try simp only [Act.put, List.setIfInBounds_toArray, List.set_cons_zero, List.set_cons_succ]
          refine till_take 14 [15] _ ?_ (by simp only [List.getElem?_toArray, List.getElem?_cons_succ, List.getElem?_cons_zero]; rfl) (by kernel_rfl) (by kernel_rfl) (by kernel_rfl) (by kernel_rfl) (by kernel_rfl) (by intro _ _ _ _ h; exact h) (Or.inl ⟨by rfl, ?_⟩) (HB0.out.sees) ?_
          rotate_left 1; focus (intro wx hSw; (try dsimp only at hSw); obtain ⟨q1, q2⟩ := hSw; go_simp; try with_reducible rfl)
          try simp only [Act.put, List.setIfInBounds_toArray, List.set_cons_zero, List.set_cons_succ]
          refine till_take 15 [] _ ?_ (by simp only [List.getElem?_toArray, List.getElem?_cons_succ, List.getElem?_cons_zero]; rfl) (by kernel_rfl) (by kernel_rfl) (by kernel_rfl) (by kernel_rfl) (by kernel_rfl) (by intro _ _ _ _ h; exact h) (Or.inl ⟨by rfl, ?_⟩) (HB0.out.sees) ?_
          rotate_left 1; focus (intro wx hSw; (try dsimp only at hSw); obtain ⟨q1, q2⟩ := hSw; go_simp; try with_reducible rfl)
          try simp only [Act.put, List.setIfInBounds_toArray, List.set_cons_zero, List.set_cons_succ]
          refine till_take 16 [17, 18] _ ?_ (by simp only [List.getElem?_toArray, List.getElem?_cons_succ, List.getElem?_cons_zero]; rfl) (by kernel_rfl) (by kernel_rfl) (by kernel_rfl) (by kernel_rfl) (by kernel_rfl) (by intro _ _ _ _ h; exact h) (Or.inl ⟨by rfl, ?_⟩) (HB0.out.sees) ?_
          rotate_left 1; focus (intro wx hSw; (try dsimp only at hSw); obtain ⟨q1, q2⟩ := hSw; go_simp; try with_reducible rfl)
          try simp only [Act.put, List.setIfInBounds_toArray, List.set_cons_zero, List.set_cons_succ]
          refine till_ready [10, 17] (by kernel_rfl) (by simp) ?_
          refine alls_cons (by simp only [List.getElem?_toArray, List.getElem?_cons_succ, List.getElem?_cons_zero]; rfl) (fun K hK => ?_) ?_
          focus
            go_simp
            refine hK.out _ _ (fun _ => (HB0.out.alloc _).sees) ?_
            clear hK K
            try simp only [Act.put, List.setIfInBounds_toArray, List.set_cons_zero, List.set_cons_succ]
            obtain ⟨hb2, hp2⟩ := LxM.lay HB0.out (sv piece) 9
            have HB_1 := Lib.hid hb2; have P1_2 := Lib.hid hp2; clear hb2 hp2
            clear HB0
            refine till_ready [11, 17] (by kernel_rfl) (by simp) ?_
            refine alls_cons (by simp only [List.getElem?_toArray, List.getElem?_cons_succ, List.getElem?_cons_zero]; rfl) (fun K hK => ?_) ?_
            focus
              refine step_addW ValR (by rfl) (.tmp 78) (.tmp 83) _ (w.heap.size + 1) 9 (.string ⟨#[]⟩) 16 Tryz.underlying39 Tryz.strInfo (by rfl) rfl _ _ (ws.map sv) (sv piece) (by rw [val_cells]; exact HB_1.out.oS) (by rfl) ⟨_, (by first | rfl | (show Value.slice _ _ _ = _; simp; done)), val_cellsAt P1_2.out.c⟩ (fun u hu => by rw [List.mem_singleton.1 hu]; rfl) (by omega) (by omega) HB_1.out.szle ?_
              intro v11 w11 h1 h2 h3
              rw [val_cells] at h1
              obtain ⟨A11, c11, rfl, _, _, _⟩ := h1.reads
              have hb2 := HB_1.out.push1 h1 h2
              have HB_3 := Lib.hid hb2; clear hb2
              clear HB_1 P1_2 h1 h2 h3
              refine hK.out _ _ (fun _ => HB_3.out.sees) ?_
              clear hK K
              try simp only [Act.put, List.setIfInBounds_toArray, List.set_cons_zero, List.set_cons_succ]
              refine till_ready [17] (by kernel_rfl) (by simp) ?_
              refine alls_cons (by simp only [List.getElem?_toArray, List.getElem?_cons_succ, List.getElem?_cons_zero]; rfl) (fun K hK => ?_) alls_nil
              go_simp
              refine hK.out _ _ (fun _ => (HB_3.out.alloc _).sees) ?_
              clear hK K
              try simp only [Act.put, List.setIfInBounds_toArray, List.set_cons_zero, List.set_cons_succ]
              obtain ⟨hb2, hp2⟩ := LxM.lay HB_3.out (.int .i64 i) 3
              have HB_4 := Lib.hid hb2; have P2_5 := Lib.hid hp2; clear hb2 hp2
              clear HB_3
              refine till_ready [18] (by kernel_rfl) (by simp) ?_
              refine alls_cons (by simp only [List.getElem?_toArray, List.getElem?_cons_succ, List.getElem?_cons_zero]; rfl) (fun K hK => ?_) alls_nil
              refine step_addW ValR (by rfl) (.tmp 88) (.tmp 90) _ (w.heap.size + 1) 3 (.int .i64 0) 8 Tryz.underlying26 Tryz.intInfo (by rfl) rfl _ _ (ps.map (Value.int .i64)) (.int .i64 i) (by rw [val_cells]; exact HB_4.out.oT) (by rfl) ⟨_, (by first | rfl | (show Value.slice _ _ _ = _; simp; done)), val_cellsAt P2_5.out.c⟩ (fun u hu => by rw [List.mem_singleton.1 hu]; rfl) (by omega) (by omega) HB_4.out.szle ?_
              intro v18 w18 h1 h2 h3
              rw [val_cells] at h1
              obtain ⟨A18, c18, rfl, _, _, _⟩ := h1.reads
              have hb2 := HB_4.out.push2 h1 h2
              have HB_6 := Lib.hid hb2; clear hb2
              clear HB_4 P2_5 h1 h2 h3
              refine hK.out _ _ (fun _ => HB_6.out.sees) ?_
              clear hK K
              try simp only [Act.put, List.setIfInBounds_toArray, List.set_cons_zero, List.set_cons_succ]
              refine till_ready [19] (by kernel_rfl) (by simp) ?_
              refine alls_cons (by simp only [List.getElem?_toArray, List.getElem?_cons_succ, List.getElem?_cons_zero]; rfl) (fun K hK => ?_) alls_nil
              go_simp
              refine hK.out _ _ (fun _ => HB_6.out.sees) ?_
              clear hK K
              try simp only [Act.put, List.setIfInBounds_toArray, List.set_cons_zero, List.set_cons_succ]
              refine till_ready [20] (by kernel_rfl) (by simp) ?_
              refine alls_cons (by simp only [List.getElem?_toArray, List.getElem?_cons_succ, List.getElem?_cons_zero]; rfl) (fun K hK => ?_) alls_nil
              go_simp
              refine hK.out _ _ (fun _ => HB_6.out.sees) ?_
              clear hK K
              try simp only [Act.put, List.setIfInBounds_toArray, List.set_cons_zero, List.set_cons_succ]
              refine till_ready [21] (by kernel_rfl) (by simp) ?_
              refine alls_cons (by simp only [List.getElem?_toArray, List.getElem?_cons_succ, List.getElem?_cons_zero]; rfl) (fun K hK => ?_) alls_nil
              have y8 := HB_6.out.blk.cell 0; have x8 := HB_6.out.blk.frozen 0; simp at y8
              go_simp
              refine hK.out _ _ (fun h => Bool.noConfusion h) ?_
              clear hK K y8 x8
              try simp only [Act.put, List.setIfInBounds_toArray, List.set_cons_zero, List.set_cons_succ]
              have hs1 := HB_6.out.store1
              have HS1 := Lib.hid hs1; clear hs1
              refine till_ready [22] (by kernel_rfl) (by simp) ?_
              refine alls_cons (by simp only [List.getElem?_toArray, List.getElem?_cons_succ, List.getElem?_cons_zero]; rfl) (fun K hK => ?_) alls_nil
              go_simp
              refine hK.out _ _ (fun h => Bool.noConfusion h) ?_
              clear hK K
              try simp only [Act.put, List.setIfInBounds_toArray, List.set_cons_zero, List.set_cons_succ]
              refine till_ready [23] (by kernel_rfl) (by simp) ?_
              refine alls_cons (by simp only [List.getElem?_toArray, List.getElem?_cons_succ, List.getElem?_cons_zero]; rfl) (fun K hK => ?_) alls_nil
              go_simp
              refine hK.out _ _ (fun h => Bool.noConfusion h) ?_
              clear hK K
              try simp only [Act.put, List.setIfInBounds_toArray, List.set_cons_zero, List.set_cons_succ]
              refine till_ready [24] (by kernel_rfl) (by simp) ?_
              refine alls_cons (by simp only [List.getElem?_toArray, List.getElem?_cons_succ, List.getElem?_cons_zero]; rfl) (fun K hK => ?_) alls_nil
              have y9 := HS1.out.blk.cell 1; have x9 := HS1.out.blk.frozen 1; simp at y9
              go_simp
              refine hK.out _ _ (fun h => Bool.noConfusion h) ?_
              clear hK K y9 x9
              try simp only [Act.put, List.setIfInBounds_toArray, List.set_cons_zero, List.set_cons_succ]
              refine till_done (by kernel_rfl) ?_ _
              have hs2 := HS1.out.store2
              have hfin : LxM w ((w18.setCell ⟨w.heap.size, 0, none⟩ (.slice A11 (ws.length + 1) c11)).setCell ⟨w.heap.size, 1, none⟩ (.slice A18 (ps.length + 1) c18)) text.length (.slice Ax tape.length cx) (.slice A11 (ws ++ [piece]).length c11) (.slice A18 (ps ++ [(i : Int)]).length c18) (.slice A11 (ws ++ [piece]).length c11) (.slice A18 (ps ++ [(i : Int)]).length c18) (ws ++ [piece]) (ps ++ [(i : Int)]) := by
                rw [show (ws ++ [piece]).length = ws.length + 1 by simp, show (ps ++ [(i : Int)]).length = ps.length + 1 by simp]
                exact hs2
              have HFIN := Lib.hid hfin
              clear hs2 hfin HS1
              go_wp2_with fail
              exact ⟨⟨k, ws ++ [piece], ps ++ [(i : Int)], A11, c11, A18, c18, rfl, hkl, Lib.hid ⟨HFIN.out, HLX.out.1, HLX.out.2.1, HLX.out.2.2.1, HLX.out.2.2.2⟩⟩, by simp [intOf]; omega⟩
            refine alls_cons (by simp only [List.getElem?_toArray, List.getElem?_cons_succ, List.getElem?_cons_zero]; rfl) (fun K hK => ?_) alls_nil
            go_simp
            refine hK.out _ _ (fun _ => (HB_1.out.alloc _).sees) ?_
            clear hK K
            try simp only [Act.put, List.setIfInBounds_toArray, List.set_cons_zero, List.set_cons_succ]
            obtain ⟨hb2, hp2⟩ := LxM.lay HB_1.out (.int .i64 i) 3
            have HB_7 := Lib.hid hb2; have P2_8 := Lib.hid hp2; clear hb2 hp2
            have hp3 := PendV.alloc P1_2.out (.cells #[.int .i64 i] 3)
            have P1_9 := Lib.hid hp3; clear hp3 P1_2
            clear HB_1
            refine till_ready [11] (by kernel_rfl) (by simp) ?_
            refine alls_cons (by simp only [List.getElem?_toArray, List.getElem?_cons_succ, List.getElem?_cons_zero]; rfl) (fun K hK => ?_) alls_nil
            refine step_addW ValR (by rfl) (.tmp 78) (.tmp 83) _ (w.heap.size + 1) 9 (.string ⟨#[]⟩) 16 Tryz.underlying39 Tryz.strInfo (by rfl) rfl _ _ (ws.map sv) (sv piece) (by rw [val_cells]; exact HB_7.out.oS) (by rfl) ⟨_, (by first | rfl | (show Value.slice _ _ _ = _; simp; done)), val_cellsAt P1_9.out.c⟩ (fun u hu => by rw [List.mem_singleton.1 hu]; rfl) (by omega) (by omega) HB_7.out.szle ?_
            intro v11 w11 h1 h2 h3
            rw [val_cells] at h1
            obtain ⟨A11, c11, rfl, _, _, _⟩ := h1.reads
            have hb2 := HB_7.out.push1 h1 h2
            have HB_10 := Lib.hid hb2; clear hb2
            have hp3 := P2_8.out.grown1 h2 h3
            have P2_11 := Lib.hid hp3; clear hp3 P2_8
            clear HB_7 P1_9 h1 h2 h3
            refine hK.out _ _ (fun _ => HB_10.out.sees) ?_
            clear hK K
            try simp only [Act.put, List.setIfInBounds_toArray, List.set_cons_zero, List.set_cons_succ]
            refine till_ready [18] (by kernel_rfl) (by simp) ?_
            refine alls_cons (by simp only [List.getElem?_toArray, List.getElem?_cons_succ, List.getElem?_cons_zero]; rfl) (fun K hK => ?_) alls_nil
            refine step_addW ValR (by rfl) (.tmp 88) (.tmp 90) _ (w.heap.size + 1) 3 (.int .i64 0) 8 Tryz.underlying26 Tryz.intInfo (by rfl) rfl _ _ (ps.map (Value.int .i64)) (.int .i64 i) (by rw [val_cells]; exact HB_10.out.oT) (by rfl) ⟨_, (by first | rfl | (show Value.slice _ _ _ = _; simp; done)), val_cellsAt P2_11.out.c⟩ (fun u hu => by rw [List.mem_singleton.1 hu]; rfl) (by omega) (by omega) HB_10.out.szle ?_
            intro v18 w18 h1 h2 h3
            rw [val_cells] at h1
            obtain ⟨A18, c18, rfl, _, _, _⟩ := h1.reads
            have hb2 := HB_10.out.push2 h1 h2
            have HB_12 := Lib.hid hb2; clear hb2
            clear HB_10 P2_11 h1 h2 h3
            refine hK.out _ _ (fun _ => HB_12.out.sees) ?_
            clear hK K
            try simp only [Act.put, List.setIfInBounds_toArray, List.set_cons_zero, List.set_cons_succ]
            refine till_ready [19] (by kernel_rfl) (by simp) ?_
            refine alls_cons (by simp only [List.getElem?_toArray, List.getElem?_cons_succ, List.getElem?_cons_zero]; rfl) (fun K hK => ?_) alls_nil
            go_simp
            refine hK.out _ _ (fun _ => HB_12.out.sees) ?_
            clear hK K
            try simp only [Act.put, List.setIfInBounds_toArray, List.set_cons_zero, List.set_cons_succ]
            refine till_ready [20] (by kernel_rfl) (by simp) ?_
            refine alls_cons (by simp only [List.getElem?_toArray, List.getElem?_cons_succ, List.getElem?_cons_zero]; rfl) (fun K hK => ?_) alls_nil
            go_simp
            refine hK.out _ _ (fun _ => HB_12.out.sees) ?_
            clear hK K
            try simp only [Act.put, List.setIfInBounds_toArray, List.set_cons_zero, List.set_cons_succ]
            refine till_ready [21] (by kernel_rfl) (by simp) ?_
            refine alls_cons (by simp only [List.getElem?_toArray, List.getElem?_cons_succ, List.getElem?_cons_zero]; rfl) (fun K hK => ?_) alls_nil
            have y8 := HB_12.out.blk.cell 0; have x8 := HB_12.out.blk.frozen 0; simp at y8
            go_simp
            refine hK.out _ _ (fun h => Bool.noConfusion h) ?_
            clear hK K y8 x8
            try simp only [Act.put, List.setIfInBounds_toArray, List.set_cons_zero, List.set_cons_succ]
            have hs1 := HB_12.out.store1
            have HS1 := Lib.hid hs1; clear hs1
            refine till_ready [22] (by kernel_rfl) (by simp) ?_
            refine alls_cons (by simp only [List.getElem?_toArray, List.getElem?_cons_succ, List.getElem?_cons_zero]; rfl) (fun K hK => ?_) alls_nil
            go_simp
            refine hK.out _ _ (fun h => Bool.noConfusion h) ?_
            clear hK K
            try simp only [Act.put, List.setIfInBounds_toArray, List.set_cons_zero, List.set_cons_succ]
            refine till_ready [23] (by kernel_rfl) (by simp) ?_
            refine alls_cons (by simp only [List.getElem?_toArray, List.getElem?_cons_succ, List.getElem?_cons_zero]; rfl) (fun K hK => ?_) alls_nil
            go_simp
            refine hK.out _ _ (fun h => Bool.noConfusion h) ?_
            clear hK K
            try simp only [Act.put, List.setIfInBounds_toArray, List.set_cons_zero, List.set_cons_succ]
            refine till_ready [24] (by kernel_rfl) (by simp) ?_
            refine alls_cons (by simp only [List.getElem?_toArray, List.getElem?_cons_succ, List.getElem?_cons_zero]; rfl) (fun K hK => ?_) alls_nil
            have y9 := HS1.out.blk.cell 1; have x9 := HS1.out.blk.frozen 1; simp at y9
            go_simp
            refine hK.out _ _ (fun h => Bool.noConfusion h) ?_
            clear hK K y9 x9
            try simp only [Act.put, List.setIfInBounds_toArray, List.set_cons_zero, List.set_cons_succ]
            refine till_done (by kernel_rfl) ?_ _
            have hs2 := HS1.out.store2
            have hfin : LxM w ((w18.setCell ⟨w.heap.size, 0, none⟩ (.slice A11 (ws.length + 1) c11)).setCell ⟨w.heap.size, 1, none⟩ (.slice A18 (ps.length + 1) c18)) text.length (.slice Ax tape.length cx) (.slice A11 (ws ++ [piece]).length c11) (.slice A18 (ps ++ [(i : Int)]).length c18) (.slice A11 (ws ++ [piece]).length c11) (.slice A18 (ps ++ [(i : Int)]).length c18) (ws ++ [piece]) (ps ++ [(i : Int)]) := by
              rw [show (ws ++ [piece]).length = ws.length + 1 by simp, show (ps ++ [(i : Int)]).length = ps.length + 1 by simp]
              exact hs2
            have HFIN := Lib.hid hfin
            clear hs2 hfin HS1
            go_wp2_with fail
            exact ⟨⟨k, ws ++ [piece], ps ++ [(i : Int)], A11, c11, A18, c18, rfl, hkl, Lib.hid ⟨HFIN.out, HLX.out.1, HLX.out.2.1, HLX.out.2.2.1, HLX.out.2.2.2⟩⟩, by simp [intOf]; omega⟩
          refine alls_cons (by simp only [List.getElem?_toArray, List.getElem?_cons_succ, List.getElem?_cons_zero]; rfl) (fun K hK => ?_) alls_nil
          go_simp
          refine hK.out _ _ (fun _ => (HB0.out.alloc _).sees) ?_
          clear hK K
          try simp only [Act.put, List.setIfInBounds_toArray, List.set_cons_zero, List.set_cons_succ]
          obtain ⟨hb2, hp2⟩ := LxM.lay HB0.out (.int .i64 i) 3
          have HB_13 := Lib.hid hb2; have P2_14 := Lib.hid hp2; clear hb2 hp2
          clear HB0
          refine till_ready [10] (by kernel_rfl) (by simp) ?_
          refine alls_cons (by simp only [List.getElem?_toArray, List.getElem?_cons_succ, List.getElem?_cons_zero]; rfl) (fun K hK => ?_) alls_nil
          go_simp
          refine hK.out _ _ (fun _ => (HB_13.out.alloc _).sees) ?_
          clear hK K
          try simp only [Act.put, List.setIfInBounds_toArray, List.set_cons_zero, List.set_cons_succ]
          obtain ⟨hb2, hp2⟩ := LxM.lay HB_13.out (sv piece) 9
          have HB_15 := Lib.hid hb2; have P1_16 := Lib.hid hp2; clear hb2 hp2
          have hp3 := PendV.alloc P2_14.out (.cells #[sv piece] 9)
          have P2_17 := Lib.hid hp3; clear hp3 P2_14
          clear HB_13
          refine till_ready [11] (by kernel_rfl) (by simp) ?_
          refine alls_cons (by simp only [List.getElem?_toArray, List.getElem?_cons_succ, List.getElem?_cons_zero]; rfl) (fun K hK => ?_) alls_nil
          refine step_addW ValR (by rfl) (.tmp 78) (.tmp 83) _ (w.heap.size + 1) 9 (.string ⟨#[]⟩) 16 Tryz.underlying39 Tryz.strInfo (by rfl) rfl _ _ (ws.map sv) (sv piece) (by rw [val_cells]; exact HB_15.out.oS) (by rfl) ⟨_, (by first | rfl | (show Value.slice _ _ _ = _; simp; done)), val_cellsAt P1_16.out.c⟩ (fun u hu => by rw [List.mem_singleton.1 hu]; rfl) (by omega) (by omega) HB_15.out.szle ?_
          intro v11 w11 h1 h2 h3
          rw [val_cells] at h1
          obtain ⟨A11, c11, rfl, _, _, _⟩ := h1.reads
          have hb2 := HB_15.out.push1 h1 h2
          have HB_18 := Lib.hid hb2; clear hb2
          have hp3 := P2_17.out.grown1 h2 h3
          have P2_19 := Lib.hid hp3; clear hp3 P2_17
          clear HB_15 P1_16 h1 h2 h3
          refine hK.out _ _ (fun _ => HB_18.out.sees) ?_
          clear hK K
          try simp only [Act.put, List.setIfInBounds_toArray, List.set_cons_zero, List.set_cons_succ]
          refine till_ready [18] (by kernel_rfl) (by simp) ?_
          refine alls_cons (by simp only [List.getElem?_toArray, List.getElem?_cons_succ, List.getElem?_cons_zero]; rfl) (fun K hK => ?_) alls_nil
          refine step_addW ValR (by rfl) (.tmp 88) (.tmp 90) _ (w.heap.size + 1) 3 (.int .i64 0) 8 Tryz.underlying26 Tryz.intInfo (by rfl) rfl _ _ (ps.map (Value.int .i64)) (.int .i64 i) (by rw [val_cells]; exact HB_18.out.oT) (by rfl) ⟨_, (by first | rfl | (show Value.slice _ _ _ = _; simp; done)), val_cellsAt P2_19.out.c⟩ (fun u hu => by rw [List.mem_singleton.1 hu]; rfl) (by omega) (by omega) HB_18.out.szle ?_
          intro v18 w18 h1 h2 h3
          rw [val_cells] at h1
          obtain ⟨A18, c18, rfl, _, _, _⟩ := h1.reads
          have hb2 := HB_18.out.push2 h1 h2
          have HB_20 := Lib.hid hb2; clear hb2
          clear HB_18 P2_19 h1 h2 h3
          refine hK.out _ _ (fun _ => HB_20.out.sees) ?_
          clear hK K
          try simp only [Act.put, List.setIfInBounds_toArray, List.set_cons_zero, List.set_cons_succ]
          refine till_ready [19] (by kernel_rfl) (by simp) ?_
          refine alls_cons (by simp only [List.getElem?_toArray, List.getElem?_cons_succ, List.getElem?_cons_zero]; rfl) (fun K hK => ?_) alls_nil
          go_simp
          refine hK.out _ _ (fun _ => HB_20.out.sees) ?_
          clear hK K
          try simp only [Act.put, List.setIfInBounds_toArray, List.set_cons_zero, List.set_cons_succ]
          refine till_ready [20] (by kernel_rfl) (by simp) ?_
          refine alls_cons (by simp only [List.getElem?_toArray, List.getElem?_cons_succ, List.getElem?_cons_zero]; rfl) (fun K hK => ?_) alls_nil
          go_simp
          refine hK.out _ _ (fun _ => HB_20.out.sees) ?_
          clear hK K
          try simp only [Act.put, List.setIfInBounds_toArray, List.set_cons_zero, List.set_cons_succ]
          refine till_ready [21] (by kernel_rfl) (by simp) ?_
          refine alls_cons (by simp only [List.getElem?_toArray, List.getElem?_cons_succ, List.getElem?_cons_zero]; rfl) (fun K hK => ?_) alls_nil
          have y8 := HB_20.out.blk.cell 0; have x8 := HB_20.out.blk.frozen 0; simp at y8
          go_simp
          refine hK.out _ _ (fun h => Bool.noConfusion h) ?_
          clear hK K y8 x8
          try simp only [Act.put, List.setIfInBounds_toArray, List.set_cons_zero, List.set_cons_succ]
          have hs1 := HB_20.out.store1
          have HS1 := Lib.hid hs1; clear hs1
          refine till_ready [22] (by kernel_rfl) (by simp) ?_
          refine alls_cons (by simp only [List.getElem?_toArray, List.getElem?_cons_succ, List.getElem?_cons_zero]; rfl) (fun K hK => ?_) alls_nil
          go_simp
          refine hK.out _ _ (fun h => Bool.noConfusion h) ?_
          clear hK K
          try simp only [Act.put, List.setIfInBounds_toArray, List.set_cons_zero, List.set_cons_succ]
          refine till_ready [23] (by kernel_rfl) (by simp) ?_
          refine alls_cons (by simp only [List.getElem?_toArray, List.getElem?_cons_succ, List.getElem?_cons_zero]; rfl) (fun K hK => ?_) alls_nil
          go_simp
          refine hK.out _ _ (fun h => Bool.noConfusion h) ?_
          clear hK K
          try simp only [Act.put, List.setIfInBounds_toArray, List.set_cons_zero, List.set_cons_succ]
          refine till_ready [24] (by kernel_rfl) (by simp) ?_
          refine alls_cons (by simp only [List.getElem?_toArray, List.getElem?_cons_succ, List.getElem?_cons_zero]; rfl) (fun K hK => ?_) alls_nil
          have y9 := HS1.out.blk.cell 1; have x9 := HS1.out.blk.frozen 1; simp at y9
          go_simp
          refine hK.out _ _ (fun h => Bool.noConfusion h) ?_
          clear hK K y9 x9
          try simp only [Act.put, List.setIfInBounds_toArray, List.set_cons_zero, List.set_cons_succ]
          refine till_done (by kernel_rfl) ?_ _
          have hs2 := HS1.out.store2
          have hfin : LxM w ((w18.setCell ⟨w.heap.size, 0, none⟩ (.slice A11 (ws.length + 1) c11)).setCell ⟨w.heap.size, 1, none⟩ (.slice A18 (ps.length + 1) c18)) text.length (.slice Ax tape.length cx) (.slice A11 (ws ++ [piece]).length c11) (.slice A18 (ps ++ [(i : Int)]).length c18) (.slice A11 (ws ++ [piece]).length c11) (.slice A18 (ps ++ [(i : Int)]).length c18) (ws ++ [piece]) (ps ++ [(i : Int)]) := by
            rw [show (ws ++ [piece]).length = ws.length + 1 by simp, show (ps ++ [(i : Int)]).length = ps.length + 1 by simp]
            exact hs2
          have HFIN := Lib.hid hfin
          clear hs2 hfin HS1
          go_wp2_with fail
          exact ⟨⟨k, ws ++ [piece], ps ++ [(i : Int)], A11, c11, A18, c18, rfl, hkl, Lib.hid ⟨HFIN.out, HLX.out.1, HLX.out.2.1, HLX.out.2.2.1, HLX.out.2.2.2⟩⟩, by simp [intOf]; omega⟩
    · obtain rfl : i = text.length := by omega
      obtain ⟨hm, hlex, hlen, hpl, hsz⟩ := hx.out
      have hlex2 : Pl.lexW [] text = ws := by rw [hlex, List.drop_length, Pl.lexW]; simp [Pl.flushW]
      have hg6 := HV.out.sz
      have hwl : (ws.map baW).length = ws.length := by simp
      have hrd : RdW ⟨As, cs, At, ct, ws.map baW, ps, text.length, Ax, cx, tape⟩ wr w.heap.size 0 0 := by
        obtain ⟨A1, c1, e1, _, _, hr1⟩ := hm.oS.reads
        injection e1 with e1 _ e2
        subst e1; subst e2
        obtain ⟨A2, c2, e3, _, _, hr2⟩ := hm.oT.reads
        injection e3 with e3 _ e4
        subst e3; subst e4
        refine ⟨⟨?_, ?_, ?_, fun ad e => ?_, fun ad e => ?_, Nat.zero_le _, by show (ws.map baW).length ≤ 2000; omega⟩, HV.out.below hm.bel hg6, HTP.out.over hm.bel (Nat.le_refl _), fun h0 ad e => ?_, hg6, fun s hs => ?_, hl2⟩
        · have := hm.blk
          rw [hpl] at this
          show Blk wr w.heap.size 72 #[.slice As (ws.map baW).length cs, .slice At (ws.map baW).length ct, _, _, _, _]
          rw [hwl]
          exact this
        · show Reads wr wr.heap.size 1 As (ws.map baW).length ((ws.map baW).flatMap StrR.cells)
          rw [baW_cells, hwl]
          exact hr1
        · show Reads wr wr.heap.size 1 At (ws.map baW).length _
          rw [hwl, ← hpl]
          exact hr2
        · have := (hm.oS.lt ad.block (by rw [show As = some ad from e]; rfl)).1
          omega
        · have := (hm.oT.lt ad.block (by rw [show At = some ad from e]; rfl)).1
          omega
        · obtain ⟨b, off, hA, hb⟩ := HTP.out.addr h0
          have : ad = ⟨b, off, none⟩ := by
            have e' : Ax = some ad := e
            rw [hA] at e'
            injection e' with e'
            exact e'.symm
          rw [this]
          exact Nat.ne_of_lt hb
        · obtain ⟨t, ht, rfl⟩ := List.mem_map.1 hs
          show t.toArray.size ≤ 2000
          have := hsz t ht
          simpa using this
      have hbw := hm.bel
      have ho : Calls Tryz.prog 22 #[.pointer (some ⟨w.heap.size, 0, none⟩), .int .i64 8] wr (OneEnd ⟨As, cs, At, ct, ws.map baW, ps, text.length, Ax, cx, tape⟩ wr w.heap.size (oneP tape (ws.map baW) 8 0 0)) :=
        one_all ⟨As, cs, At, ct, ws.map baW, ps, text.length, Ax, cx, tape⟩ w.heap.size 8 (by omega) 0 0 wr hrd (by omega)
      have hre2 : res = (match oneP tape (ws.map baW) 8 0 0 with
        | none => none
        | some (P, a, _) => if a < (ws.map baW).length then none else some P) := by rw [HRE.out, hlex2]; rfl
      have HO := Lib.hid ho; have HR2 := Lib.hid hre2; have HBW := Lib.hid hbw
      clear hm hlex hlen hpl hsz hx hlex2 hrd ho hre2 hbw HRE
      go_wp2_with fail
      (with_reducible refine HO.out.mono ?_)
      rintro e w2 (⟨P, k, m2, v, F, hok, rfl, hqv, h2⟩ | ⟨herr, T, x, rfl, h2⟩)
      · obtain ⟨hrd2, hc2, hpk, hF⟩ := h2.out
        have hb2 : Below w.heap.size w w2 := HBW.out.trans (hc2.below HBW.out.size (fun i hi e => by omega))
        have hle := hrd2.rd.le
        have c0 := hrd2.rd.blk.cell 0; have c2 := hrd2.rd.blk.cell 2
        simp at c0 c2
        obtain ⟨uT, ug, rfl⟩ := hqv
        have HRD := Lib.hid hrd2; have HB2 := Lib.hid hb2; have HPK := Lib.hid hpk; have HF := Lib.hid hF
        have hsz2 := HBW.out.size
        clear hrd2 hc2 hb2 hpk hF h2 HO
        dsimp only at hle c0 c2
        rw [hwl] at hle
        by_cases hk : k < ws.length
        · have il : (k : Int) < (ws.length : Int) := by omega
          have hre : res = none := by
            rw [HR2.out, hok]
            dsimp only
            rw [if_pos (by omega)]
          have HFL := Lib.hid (fun nq => fail_w _ _ _ _ 3 (w2.drewN nq) (HRD.out.drewN nq))
          have HRE := Lib.hid hre
          clear hre hok HR2
          go_upto_region 21 with fail
          go_quiet (fail)
          go_wp2_with fail
          (with_reducible refine (HFL.out _).mono ?_)
          rintro e w9 ⟨q, rfl, h9⟩
          go_wp2_with fail
          go_ret2
          exact .inr ⟨HRE.out, _, _, rfl, Lib.hid (HB2.out.trans (((below_drewN (Below.refl _ _) _).trans h9).mono HB2.out.size))⟩
        · have il : decide ((k : Int) < (ws.length : Int)) = false := decide_eq_false (by omega)
          have hre : res = some P := by
            rw [HR2.out, hok]
            dsimp only
            rw [if_neg (by omega)]
          have HRE := Lib.hid hre
          clear hre hok HR2
          go_upto_region 21 with fail
          go_quiet (fail)
          go_wp2_with fail
          go_ret2
          exact .inl ⟨P, _, F, HRE.out, rfl, ⟨_, _, rfl⟩, Lib.hid ⟨HPK.out.below (below_drewN (Below.refl _ _) _), below_drewN HB2.out _, fun i hi => Nat.le_trans hsz2 (HF.out i hi)⟩⟩
      · have hre : res = none := by rw [HR2.out, herr]
        have HRE := Lib.hid hre
        clear hre herr HR2 HO
        go_wp2_with fail
        go_ret2
        exact .inr ⟨HRE.out, _, _, rfl, Lib.hid (HBW.out.trans (h2.out.below HBW.out.size (fun i hi e => by omega)))⟩
end Go.Proofs.YtgdijbaodfghjaaGreatDoor

/-
  What goes over a wire from a text's queue (run).
-/
namespace Go.Proofs.YtgdijbaodfghjaaGreatDoor
open Go.RowKit Bkt
set_option linter.unusedVariables false
theorem parse_nil (text : List UInt8) (hlm : text.length ≤ 1000000) (w : World) (hv : Pv w) : Calls Tryz.prog 17 #[.string ⟨text.toArray⟩, .slice none 0 0] w (ParseEnd w (parseW [] text)) :=
  parse_p text hlm none 0 [] w hv Reads.none_ (by decide)
def RunWNo (w : World) (e : Ending) (w' : World) : Prop := e = .returned (.tuple #[logN, .bool false]) ∧ Below w.heap.size w w'
def RunWYes {M : Pl.QM} (R : Pl.Lk M.σ → Prop) (w : World) (e : Ending) (w' : World) : Prop :=
  ∃ (S : Pl.Lk M.σ) (As Al : Option Addr) (cs cl : Nat), e = .returned (.tuple #[.agg #[.slice As S.sent.length cs, .slice Al S.lost.length cl, .int .i64 (M.len S.q), .int .i64 S.most], .bool true]) ∧ Hid (R S ∧ RdR SntR w' w'.heap.size As S.sent.length S.sent ∧ RdR IntR w' w'.heap.size Al S.lost.length S.lost ∧ Below w.heap.size w w')
theorem rn_two (w : World) (a b : Value) : Blk ((w.alloc (.cells #[a, b] 23)).alloc (.cells logZ 28)) w.heap.size 23 #[a, b] ∧ Blk ((w.alloc (.cells #[a, b] 23)).alloc (.cells logZ 28)) (w.heap.size + 1) 28 logZ ∧ Below w.heap.size w ((w.alloc (.cells #[a, b] 23)).alloc (.cells logZ 28)) := by
  refine ⟨(Blk.new w _ _).alloc _, ?_, bl_alloc (bl_alloc (Below.refl _ _))⟩
  have := Blk.new (w.alloc (.cells #[a, b] 23)) 28 logZ
  simpa using this
theorem rn_fin {w w2 W Wf : World} (b0 b1 b2 b3 a0 a1 a2 a3 : Value) (HB2 : Below w.heap.size w w2) (hk2 : Blk w2 (w.heap.size + 1) 28 #[b0, b1, b2, b3]) (hW : Below w2.heap.size w2 W)
    (hWf : Wf = (((W.setCell ⟨w.heap.size + 1, 0, none⟩ a0).setCell ⟨w.heap.size + 1, 1, none⟩ a1).setCell ⟨w.heap.size + 1, 2, none⟩ a2).setCell ⟨w.heap.size + 1, 3, none⟩ a3) :
    Blk Wf (w.heap.size + 1) 28 #[a0, a1, a2, a3] ∧ Chg w2 Wf (fun i => i = w.heap.size + 1) ∧ Below w.heap.size w Wf := by
  have hk := hk2.below hW hk2.lt
  have hc := chg_4L W (w.heap.size + 1) a0 a1 a2 a3
  have hkf := blk_4L hk a0 a1 a2 a3
  rw [← hWf] at hc hkf
  have hb : Below w.heap.size w W := HB2.trans (hW.mono HB2.size)
  exact ⟨hkf, (Chg.of_below hW).trans hc (fun i _ e => e), hb.trans (hc.below hb.size (fun i hi e => by omega))⟩
set_option maxHeartbeats 2000000 in
set_option maxRecDepth 100000 in
theorem run_w_bad {P : Pk} (text : List UInt8) (hlm : text.length ≤ 1000000) (rb rt until_ : Int) (A : Option Addr) (n c : Nat) (l : List It) (w : World) (hv : Pv w) (hr : RdIt w w.heap.size A n l) (hp : parseW [] text = some P) (hbad : (¬ SpeedOk rb rt ∨ ¬ ListFine l) ∨ (SpeedOk rb rt ∧ ListFine l ∧ ¬ (0 ≤ until_ ∧ until_ ≤ 10000000))) :
    Calls Tryz.prog 7 #[.string ⟨text.toArray⟩, .agg #[.int .i64 rb, .int .i64 rt], .slice A n c, .int .i64 until_] w (RunWNo w) := by
  obtain ⟨hk0, hk1, hb0⟩ := rn_two w (.int .i64 rb) (.int .i64 rt)
  have hpa := parse_nil text hlm _ (hv.below hb0 hv.sz)
  rw [hp] at hpa
  have hrn : ∀ T v W, RdIt W W.heap.size A n l → Handle W → Calls Tryz.prog 20 #[.iface T v, .agg #[.int .i64 rb, .int .i64 rt], .slice A n c, .int .i64 until_] W (RunNo W) := fun T v W h1 h2 => by
    rcases hbad with h | ⟨h3, h4, h5⟩
    · exact run_no T v rb rt until_ A n c l W h1 h2 h
    · exact run_bad T v rb rt until_ A n c l W h1 h2 h3 h4 h5
  have HPA := Lib.hid hpa; have HB0 := Lib.hid hb0; have HK0 := Lib.hid hk0; have HK1 := Lib.hid hk1; have HRN := Lib.hid hrn; have HR := Lib.hid hr; have HV := Lib.hid hv
  clear hpa hb0 hk0 hk1 hv hrn hr hbad
  unfold logZ at *
  go_enter Tryz.func7, Tryz.ntmps7
  go_wp2_with fail
  (with_reducible refine HPA.out.mono ?_)
  rintro e w2 (⟨P2, v, F, hP, rfl, hqv, h2⟩ | ⟨hno, _⟩)
  rotate_left
  · cases hno
  obtain ⟨T, gv, rfl⟩ := hqv
  have hb2 := bl_next HB0.out h2.out.2.1
  have hk2 := HK1.out.below h2.out.2.1 HK1.out.lt
  have hr2 := HK0.out.below h2.out.2.1 HK0.out.lt
  have c0 := hr2.cell 0; have c1 := hr2.cell 1
  simp at c0 c1
  have hcall := HRN.out T (.pointer (some ⟨gv, 0, none⟩)) w2 (HR.out.over hb2 (Nat.le_refl _)) (HV.out.below hb2 HV.out.sz).h
  have HB2 := Lib.hid hb2; have HK2 := Lib.hid hk2; have HC := Lib.hid hcall
  clear h2 hb2 hk2 hr2 hcall hP HPA HRN
  go_wp2_with fail
  (with_reducible refine HC.out.mono ?_)
  rintro e w3 ⟨⟨Te, ve, rfl⟩, hb3⟩
  have hb3' := bl_next HB2.out hb3
  have hk3 := HK2.out.below hb3 HK2.out.lt
  have z0 := hk3.cell 0; have z1 := hk3.cell 1; have z2 := hk3.cell 2; have z3 := hk3.cell 3
  have fz0 := hk3.frozen 0; have fz1 := hk3.frozen 1; have fz2 := hk3.frozen 2; have fz3 := hk3.frozen 3
  simp at z0 z1 z2 z3
  have HB3 := Lib.hid hb3'; have HK3 := Lib.hid hk3
  have hlt3 := hk3.lt
  have hz := Blk.new w3 28 #[.slice none 0 0, .slice none 0 0, .int .i64 0, .int .i64 0]
  have hbz : Below w3.heap.size w3 (w3.alloc (.cells #[.slice none 0 0, .slice none 0 0, .int .i64 0, .int .i64 0] 28)) := bl_alloc (Below.refl _ _)
  have HZ := Lib.hid hz; have HBZ := Lib.hid hbz
  have hsz3 : w.heap.size + 1 ≠ w3.heap.size := by omega
  clear hb3 hb3' hk3 c0 c1 HC hz hbz z0 z1 z2 z3 fz0 fz1 fz2 fz3
  unfold logN
  go_upto_region 5 with fail
  generalize w3.alloc (.cells #[.slice none 0 0, .slice none 0 0, .int .i64 0, .int .i64 0] 28) = wz at *
  have hk4 := HK3.out.below HBZ.out HK3.out.lt
  have z0 := hk4.cell 0; have z1 := hk4.cell 1; have z2 := hk4.cell 2; have z3 := hk4.cell 3
  have fz0 := hk4.frozen 0; have fz1 := hk4.frozen 1; have fz2 := hk4.frozen 2; have fz3 := hk4.frozen 3
  have y0 := HZ.out.cell 0; have y1 := HZ.out.cell 1; have y2 := HZ.out.cell 2; have y3 := HZ.out.cell 3
  simp at z0 z1 z2 z3 y0 y1 y2 y3
  clear hk4
  have HY := Lib.hid (⟨y0, y1, y2, y3⟩ : _ ∧ _ ∧ _ ∧ _)
  refine wp_till (fun wx => wx.cell? ⟨w3.heap.size, 0, none⟩ = some (.slice none 0 0) ∧ wx.cell? ⟨w3.heap.size, 1, none⟩ = some (.slice none 0 0) ∧ wx.cell? ⟨w3.heap.size, 2, none⟩ = some (.int .i64 0) ∧ wx.cell? ⟨w3.heap.size, 3, none⟩ = some (.int .i64 0)) [3] (by kernel_rfl) ?_
  refine till_take 0 [] _ ?_ (by simp only [List.getElem?_toArray, List.getElem?_cons_zero]; rfl) (by kernel_rfl) (by kernel_rfl) (by kernel_rfl) (by kernel_rfl) (by kernel_rfl) (by intro _ _ _ _ h; exact h) (Or.inl ⟨by rfl, ?_⟩) HY.out ?_
  rotate_left 1; focus (intro wx hSw; (try dsimp only at hSw); obtain ⟨q0, q1, q2, q3⟩ := hSw; go_simp; try with_reducible rfl)
  try simp only [Act.put, List.setIfInBounds_toArray, List.set_cons_zero, List.set_cons_succ]
  refine till_take0 1 _ ?_ (by simp only [List.getElem?_toArray, List.getElem?_cons_succ, List.getElem?_cons_zero]; rfl) (by kernel_rfl) (by kernel_rfl) (by kernel_rfl) (by kernel_rfl) (by intro _ _ _ _ h; exact h) (Or.inl ⟨by rfl, ?_⟩) (fun _ => HY.out) ?_
  rotate_left 1; focus (intro wx _; go_simp; try with_reducible rfl)
  try simp only [Act.put, List.setIfInBounds_toArray, List.set_cons_zero, List.set_cons_succ]
  refine till_take0 2 _ ?_ (by simp only [List.getElem?_toArray, List.getElem?_cons_succ, List.getElem?_cons_zero]; rfl) (by kernel_rfl) (by kernel_rfl) (by kernel_rfl) (by kernel_rfl) (by intro _ _ _ _ h; exact h) (Or.inl ⟨by rfl, ?_⟩) (fun _ => HY.out) ?_
  rotate_left 1; focus (intro wx _; go_simp; try with_reducible rfl)
  try simp only [Act.put, List.setIfInBounds_toArray, List.set_cons_zero, List.set_cons_succ]
  refine till_ready [3] (by kernel_rfl) (by simp) ?_
  refine alls_cons (by simp only [List.getElem?_toArray, List.getElem?_cons_succ, List.getElem?_cons_zero]; rfl) (fun K hK => ?_) alls_nil
  go_simp
  refine hK.out _ _ (fun h => Bool.noConfusion h) ?_
  clear hK K
  try simp only [Act.put, List.setIfInBounds_toArray, List.set_cons_zero, List.set_cons_succ]
  refine till_take0 4 _ ?_ (by simp only [List.getElem?_toArray, List.getElem?_cons_succ, List.getElem?_cons_zero]; rfl) (by kernel_rfl) (by kernel_rfl) (by kernel_rfl) (by kernel_rfl) (by intro _ _ _ _ h; exact h) (Or.inl ⟨by rfl, ?_⟩) (fun h => Bool.noConfusion h) ?_
  rotate_left 1; focus (intro wx _; go_simp; try with_reducible rfl)
  try simp only [Act.put, List.setIfInBounds_toArray, List.set_cons_zero, List.set_cons_succ]
  refine till_done (by kernel_rfl) ?_ _
  go_wp2_with fail
  refine bodyPost_isL fun Wf hWf => ?_
  obtain ⟨hkf, _, hbf⟩ := rn_fin (w := w) (w2 := w3) _ _ _ _ _ _ _ _ HB3.out HK3.out (bl_drew HBZ.out) hWf
  have r0 := hkf.cell 0; have r1 := hkf.cell 1; have r2 := hkf.cell 2; have r3 := hkf.cell 3
  simp at r0 r1 r2 r3
  clear hWf
  refine bodyPost_ret (v := .tuple #[logN, .bool false]) (by simp [results, Tryz.results7, go_sem, logN, r0, r1, r2, r3]) rfl ?_
  exact ⟨rfl, hbf⟩
set_option maxHeartbeats 2000000 in
set_option maxRecDepth 100000 in
theorem run_w_yes {P : Pk} (text : List UInt8) (hlm : text.length ≤ 1000000) (rb rt until_ : Int) (A : Option Addr) (n c : Nat) (l : List It) (w : World) (hv : Pv w) (hr : RdIt w w.heap.size A n l) (hp : parseW [] text = some P) (hs : SpeedOk rb rt) (hf : ListFine l) (hu : 0 ≤ until_ ∧ until_ ≤ 10000000)
    {Pi Q R : Pl.Lk P.M.σ → Prop} (J : Pl.LnkInv P.M l rb rt until_ Pi Q R) (hP : Pi (Pl.Lk.start P.s0)) (hbd : ∀ S, Pi S → (∀ x, (P.M.take S.now S.q).1 = some x → 0 ≤ x.it.len ∧ x.it.len ≤ 10000) ∧ S.lost.length ≤ 1000 ∧ S.sent.length ≤ 1000) :
    Calls Tryz.prog 7 #[.string ⟨text.toArray⟩, .agg #[.int .i64 rb, .int .i64 rt], .slice A n c, .int .i64 until_] w (RunWYes R w) := by
  obtain ⟨hk0, hk1, hb0⟩ := rn_two w (.int .i64 rb) (.int .i64 rt)
  have hpa := parse_nil text hlm _ (hv.below hb0 hv.sz)
  rw [hp] at hpa
  have hrn : ∀ T gv F W, Below w.heap.size w W → PkM P (.iface T (.pointer (some ⟨gv, 0, none⟩))) 6 F W → (∀ i, F i → w.heap.size ≤ i) → Calls Tryz.prog 20 #[.iface T (.pointer (some ⟨gv, 0, none⟩)), .agg #[.int .i64 rb, .int .i64 rt], .slice A n c, .int .i64 until_] W (RunOut R until_ W F) := fun T gv F W hb hpk hF => by
    obtain ⟨inv, qi, hi⟩ := hpk.ex
    exact run_yes qi l rb rt until_ J (fun S h => (hbd S h).1) A n c P.s0 F W (hr.over hb (Nat.le_refl _)) (hv.below hb hv.sz).h (fun hn ad e hFa => by
      obtain ⟨b, off, e2, hb2⟩ := hr.addr hn
      rw [e2] at e
      obtain rfl := Option.some.inj e
      have := hF _ hFa
      dsimp only at this
      omega) hf hs hu hi hP (fun i hi2 => (qi.lt _ _ _ _ hi i hi2).2) (fun S h => (hbd S h).2) hpk.na
  have HPA := Lib.hid hpa; have HB0 := Lib.hid hb0; have HK0 := Lib.hid hk0; have HK1 := Lib.hid hk1; have HRN := Lib.hid hrn
  clear hpa hb0 hk0 hk1 hv hrn hr hs hf hu J hP hbd
  unfold logZ at *
  go_enter Tryz.func7, Tryz.ntmps7
  go_wp2_with fail
  (with_reducible refine HPA.out.mono ?_)
  rintro e w2 (⟨P2, v, F, hP, rfl, hqv, h2⟩ | ⟨hno, _⟩)
  rotate_left
  · cases hno
  injection hP with hP
  subst hP
  obtain ⟨T, gv, rfl⟩ := hqv
  have hb2 := bl_next HB0.out h2.out.2.1
  have hsz0 : w.heap.size + 2 = ((w.alloc (.cells #[.int .i64 rb, .int .i64 rt] 23)).alloc (.cells #[.slice none 0 0, .slice none 0 0, .int .i64 0, .int .i64 0] 28)).heap.size := by simp
  have hFi : ∀ i, F i → w.heap.size + 2 ≤ i := fun i hi => by have := h2.out.2.2 i hi; omega
  have hk2 := HK1.out.below h2.out.2.1 HK1.out.lt
  have hr2 := HK0.out.below h2.out.2.1 HK0.out.lt
  have c0 := hr2.cell 0; have c1 := hr2.cell 1
  simp at c0 c1
  have hcall := HRN.out T gv F w2 hb2 h2.out.1 (fun i hi => by have := hFi i hi; omega)
  have hk2lt := hk2.lt
  have HB2 := Lib.hid hb2; have HK2 := Lib.hid hk2; have HC := Lib.hid hcall; have HFI := Lib.hid hFi
  clear h2 hb2 hk2 hr2 hcall HPA HRN hsz0 hFi
  go_wp2_with fail
  (with_reducible refine HC.out.mono ?_)
  rintro e w3 ⟨S, As, Al, cs, cl, rfl, h3⟩
  obtain ⟨hR, hnow, hrs, hrl, hch, has, hal⟩ := h3.out
  have hb3' : Below w.heap.size w w3 := HB2.out.trans (hch.below HB2.out.size (fun i hi e => by have := HFI.out i e; omega))
  have hk3 := HK2.out.chg hch (fun e => by have := HFI.out _ e; omega)
  have hlt3 := hk3.lt
  have hz := Blk.new w3 28 #[.slice As S.sent.length cs, .slice Al S.lost.length cl, .int .i64 (P.M.len S.q), .int .i64 S.most]
  have hbz : Below w3.heap.size w3 (w3.alloc (.cells #[.slice As S.sent.length cs, .slice Al S.lost.length cl, .int .i64 (P.M.len S.q), .int .i64 S.most] 28)) := bl_alloc (Below.refl _ _)
  have hsz2 := hk2lt
  have HAS := Lib.hid (fun (b off : Nat) (e : As = some ⟨b, off, none⟩) (e2 : b = w.heap.size + 1) => by have h9 := has _ e; dsimp only at h9; omega : ∀ b off : Nat, As = some ⟨b, off, none⟩ → ¬ b = w.heap.size + 1)
  have HAL := Lib.hid (fun (b off : Nat) (e : Al = some ⟨b, off, none⟩) (e2 : b = w.heap.size + 1) => by have h9 := hal _ e; dsimp only at h9; omega : ∀ b off : Nat, Al = some ⟨b, off, none⟩ → ¬ b = w.heap.size + 1)
  have HZ := Lib.hid hz; have HBZ := Lib.hid hbz; have HB3 := Lib.hid hb3'; have HK3 := Lib.hid hk3; have HRR := Lib.hid hR; have HRS := Lib.hid hrs; have HRL := Lib.hid hrl
  have hsz3 : w.heap.size + 1 ≠ w3.heap.size := by omega
  clear h3 hR hnow hrs hrl hch has hal hb3' hk3 c0 c1 HC hz hbz
  obtain ⟨nQ, hQ⟩ : ∃ nQ, nQ = P.M.len S.q := ⟨_, rfl⟩
  obtain ⟨nS, hS⟩ : ∃ nS, nS = S.sent.length := ⟨_, rfl⟩
  obtain ⟨nL, hL⟩ : ∃ nL, nL = S.lost.length := ⟨_, rfl⟩
  obtain ⟨nM, hM⟩ : ∃ nM, nM = S.most := ⟨_, rfl⟩
  rw [← hQ, ← hS, ← hL, ← hM] at HZ HBZ
  have HQ := Lib.hid hQ; have HS := Lib.hid hS; have HL := Lib.hid hL; have HM := Lib.hid hM
  rw [← hQ, ← hS, ← hL, ← hM]
  clear hQ hS hL hM
  go_upto_region 5 with fail
  generalize w3.alloc (.cells #[.slice As nS cs, .slice Al nL cl, .int .i64 nQ, .int .i64 nM] 28) = wz at *
  have hk4 := HK3.out.below HBZ.out HK3.out.lt
  have z0 := hk4.cell 0; have z1 := hk4.cell 1; have z2 := hk4.cell 2; have z3 := hk4.cell 3
  have fz0 := hk4.frozen 0; have fz1 := hk4.frozen 1; have fz2 := hk4.frozen 2; have fz3 := hk4.frozen 3
  have y0 := HZ.out.cell 0; have y1 := HZ.out.cell 1; have y2 := HZ.out.cell 2; have y3 := HZ.out.cell 3
  simp at z0 z1 z2 z3 y0 y1 y2 y3
  clear hk4
  have HY := Lib.hid (⟨y0, y1, y2, y3⟩ : _ ∧ _ ∧ _ ∧ _)
  refine wp_till (fun wx => wx.cell? ⟨w3.heap.size, 0, none⟩ = some (.slice As nS cs) ∧ wx.cell? ⟨w3.heap.size, 1, none⟩ = some (.slice Al nL cl) ∧ wx.cell? ⟨w3.heap.size, 2, none⟩ = some (.int .i64 nQ) ∧ wx.cell? ⟨w3.heap.size, 3, none⟩ = some (.int .i64 nM)) [3] (by kernel_rfl) ?_
  refine till_take 0 [] _ ?_ (by simp only [List.getElem?_toArray, List.getElem?_cons_zero]; rfl) (by kernel_rfl) (by kernel_rfl) (by kernel_rfl) (by kernel_rfl) (by kernel_rfl) (by intro _ _ _ _ h; exact h) (Or.inl ⟨by rfl, ?_⟩) HY.out ?_
  rotate_left 1; focus (intro wx hSw; (try dsimp only at hSw); obtain ⟨q0, q1, q2, q3⟩ := hSw; go_simp; try with_reducible rfl)
  try simp only [Act.put, List.setIfInBounds_toArray, List.set_cons_zero, List.set_cons_succ]
  refine till_take0 1 _ ?_ (by simp only [List.getElem?_toArray, List.getElem?_cons_succ, List.getElem?_cons_zero]; rfl) (by kernel_rfl) (by kernel_rfl) (by kernel_rfl) (by kernel_rfl) (by intro _ _ _ _ h; exact h) (Or.inl ⟨by rfl, ?_⟩) (fun _ => HY.out) ?_
  rotate_left 1; focus (intro wx _; go_simp; try with_reducible rfl)
  try simp only [Act.put, List.setIfInBounds_toArray, List.set_cons_zero, List.set_cons_succ]
  refine till_take0 2 _ ?_ (by simp only [List.getElem?_toArray, List.getElem?_cons_succ, List.getElem?_cons_zero]; rfl) (by kernel_rfl) (by kernel_rfl) (by kernel_rfl) (by kernel_rfl) (by intro _ _ _ _ h; exact h) (Or.inl ⟨by rfl, ?_⟩) (fun _ => HY.out) ?_
  rotate_left 1; focus (intro wx _; go_simp; try with_reducible rfl)
  try simp only [Act.put, List.setIfInBounds_toArray, List.set_cons_zero, List.set_cons_succ]
  refine till_ready [3] (by kernel_rfl) (by simp) ?_
  refine alls_cons (by simp only [List.getElem?_toArray, List.getElem?_cons_succ, List.getElem?_cons_zero]; rfl) (fun K hK => ?_) alls_nil
  go_simp
  refine hK.out _ _ (fun h => Bool.noConfusion h) ?_
  clear hK K
  try simp only [Act.put, List.setIfInBounds_toArray, List.set_cons_zero, List.set_cons_succ]
  refine till_take0 4 _ ?_ (by simp only [List.getElem?_toArray, List.getElem?_cons_succ, List.getElem?_cons_zero]; rfl) (by kernel_rfl) (by kernel_rfl) (by kernel_rfl) (by kernel_rfl) (by intro _ _ _ _ h; exact h) (Or.inl ⟨by rfl, ?_⟩) (fun h => Bool.noConfusion h) ?_
  rotate_left 1; focus (intro wx _; go_simp; try with_reducible rfl)
  try simp only [Act.put, List.setIfInBounds_toArray, List.set_cons_zero, List.set_cons_succ]
  refine till_done (by kernel_rfl) ?_ _
  go_wp2_with fail
  refine bodyPost_isL fun Wf hWf => ?_
  obtain ⟨hkf, hcf, hbf⟩ := rn_fin (w := w) (w2 := w3) _ _ _ _ _ _ _ _ HB3.out HK3.out (bl_drew HBZ.out) hWf
  have r0 := hkf.cell 0; have r1 := hkf.cell 1; have r2 := hkf.cell 2; have r3 := hkf.cell 3
  simp at r0 r1 r2 r3
  clear hWf
  refine bodyPost_ret (v := .tuple #[.agg #[.slice As nS cs, .slice Al nL cl, .int .i64 nQ, .int .i64 nM], .bool true]) (by simp [results, Tryz.results7, go_sem, r0, r1, r2, r3]) rfl ?_
  refine ⟨S, As, Al, cs, cl, by rw [HQ.out, HS.out, HL.out, HM.out], Lib.hid ⟨HRR.out, ?_, ?_, hbf⟩⟩
  · exact (HRS.out.chg (Nat.le_refl _) hcf HAS.out).more hcf.size
  · exact (HRL.out.chg (Nat.le_refl _) hcf HAL.out).more hcf.size
end Go.Proofs.YtgdijbaodfghjaaGreatDoor
