/-
  Texts of this claim, one behind the other: SgPut, SgLen, SgBytes, SgImp, SgNew.
-/
import Derived.Test.YtgdijbaodfghjaaGreatDoorZ27
import Derived.Lib.QuietBelow
/-
  What a shaper's Put, Len, Bytes do, over whatever queue.
-/
namespace Go.Proofs.YtgdijbaodfghjaaGreatDoor
open Go.RowKit Bkt
set_option linter.unusedVariables false

theorem rdH_one {w : World} {g : Nat} {x : Hd} (h : Blk w g 78 (hdArr x)) : RdR HdR w w.heap.size (some ⟨g, 0, none⟩) 1 [x] := by
  refine ⟨rfl, fun _ => ⟨_, rfl, h.lt, fun j u hu => ?_⟩⟩
  rw [Addr.add_lit, Nat.zero_add, h.cell, ← hu]
  simp [hdArr, HdR, hdCells]
def SgPutOut {M : Pl.QM} (V : Value) (Inv : M.σ → Nat → (Nat → Prop) → World → Prop) (base : Nat) (b : Bk) (g gt : Nat) (r : List Hd × Pl.ShS M.σ) (k : Nat) (F : Nat → Prop) (w : World) (e : Ending) (w' : World) : Prop :=
  ∃ A n c, e = .returned (.slice A n c) ∧ Hid (n ≤ 100000 ∧ RdR HdR w' w'.heap.size A n r.1 ∧ (∀ ad, A = some ad → F ad.block ∨ w.heap.size ≤ ad.block) ∧ ∃ F' Fq vn vl, SgI V Inv base b g gt r.2 k F' Fq w' vn vl ∧ Chg w w' F ∧ ∀ i, F' i → F i ∨ w.heap.size ≤ i)
set_option maxHeartbeats 4000000 in
set_option maxRecDepth 100000 in
theorem sgput_any {M : Pl.QM} {V : Value} {Inv : M.σ → Nat → (Nat → Prop) → World → Prop} (base : Nat) (b : Bk) (qi : QImp M V base Inv) (g gt : Nat) (s : Pl.ShS M.σ) (k : Nat) (F Fq : Nat → Prop) (w : World) (vn vl : Value) (now : Int) (x : Hd) (h : SgI V Inv base b g gt s k F Fq w vn vl) (hk : k < 1000) (hx : InOk now x) (hB : base ≤ w.heap.size) :
    Calls Tryz.prog 134 #[.pointer (some ⟨g, 0, none⟩), .int .i64 now, hdV x] w (SgPutOut V Inv base b g gt ((Pl.shgM b M).put now x s) (k + 1) F w) := by
  have hov := h.over qi (w' := w.alloc (.cells (hdArr x) 78)) (bl_alloc (Below.refl _ _))
  have hnb := Blk.new w 78 (hdArr x)
  have c0 := hov.blk.cell 0
  have c1 := hov.blk.cell 1
  have s2 := hov.st.cell 2
  have hF : ∀ i, F i → i < w.heap.size := fun i hi => (h.lt i hi).2
  obtain ⟨fp, rp, hmp, hcp⟩ := qi.put
  have hput : ∀ W kq, kq ≤ k → Inv s.q kq Fq W → Calls Tryz.prog fp #[rp, .int .i64 now, hdV x] W (PutOut Inv W Fq (kq + 1) (M.put now x s.q)) := fun W kq hkq hW => hcp s.q kq Fq W now x hW (by omega) hx
  have HM := Lib.hid hmp; have HOV := Lib.hid hov; have HF := Lib.hid hF; have HP := Lib.hid qi; have HPUT := Lib.hid hput; have HNB := Lib.hid hnb
  have hcw : Chg w (w.alloc (.cells (hdArr x) 78)) F := (Chg.refl _ _).alloc _
  have hws : w.heap.size < (w.alloc (.cells (hdArr x) 78)).heap.size := by simp
  have HCW := Lib.hid hcw; have HWS := Lib.hid hws
  clear hcp hmp hov hF hput h hx hcw hws qi
  obtain ⟨⟨xa, xl, xf, xb, xm⟩, xn⟩ := x
  unfold hdV at *
  unfold hdArr at *
  dsimp only at *
  simp at c0 c1 s2
  have t0 : (w.alloc (.cells #[.int .i64 xa, .int .i64 xl, .int .i64 xf, .int .i64 xb, .int .i64 xm, .int .i64 xn] 78)).cell? ⟨w.heap.size, 0, none⟩ = some (.int .i64 xa) := hnb.cell 0
  have t1 : (w.alloc (.cells #[.int .i64 xa, .int .i64 xl, .int .i64 xf, .int .i64 xb, .int .i64 xm, .int .i64 xn] 78)).cell? ⟨w.heap.size, 1, none⟩ = some (.int .i64 xl) := hnb.cell 1
  have t2 : (w.alloc (.cells #[.int .i64 xa, .int .i64 xl, .int .i64 xf, .int .i64 xb, .int .i64 xm, .int .i64 xn] 78)).cell? ⟨w.heap.size, 2, none⟩ = some (.int .i64 xf) := hnb.cell 2
  have t3 : (w.alloc (.cells #[.int .i64 xa, .int .i64 xl, .int .i64 xf, .int .i64 xb, .int .i64 xm, .int .i64 xn] 78)).cell? ⟨w.heap.size, 3, none⟩ = some (.int .i64 xb) := hnb.cell 3
  have t4 : (w.alloc (.cells #[.int .i64 xa, .int .i64 xl, .int .i64 xf, .int .i64 xb, .int .i64 xm, .int .i64 xn] 78)).cell? ⟨w.heap.size, 4, none⟩ = some (.int .i64 xm) := hnb.cell 4
  have t5 : (w.alloc (.cells #[.int .i64 xa, .int .i64 xl, .int .i64 xf, .int .i64 xb, .int .i64 xm, .int .i64 xn] 78)).cell? ⟨w.heap.size, 5, none⟩ = some (.int .i64 xn) := hnb.cell 5
  by_cases hr : b.r < xl
  · have hres : (Pl.shgM b M).put now ⟨⟨xa, xl, xf, xb, xm⟩, xn⟩ s = ([⟨⟨xa, xl, xf, xb, xm⟩, xn⟩], s) := if_pos hr
    have HRES := Lib.hid hres
    have ir : decide (b.r < xl) = true := decide_eq_true hr
    clear hres hnb
    go_enter Tryz.func134, Tryz.ntmps134
    go_upto_region 1 with fail
    generalize w.alloc (.cells #[.int .i64 xa, .int .i64 xl, .int .i64 xf, .int .i64 xb, .int .i64 xm, .int .i64 xn] 78) = W at *
    go_quiet (fail)
    go_wp2_with fail
    go_ret
    rw [HRES.out]
    have hnew := Blk.new (W.drewN nq) 78 (hdArr ⟨⟨xa, xl, xf, xb, xm⟩, xn⟩)
    have hbl : Below W.heap.size W ((W.drewN nq).alloc (.cells (hdArr ⟨⟨xa, xl, xf, xb, xm⟩, xn⟩) 78)) := bl_alloc (bl_drewN (Below.refl _ _))
    refine ⟨some ⟨W.heap.size, 0, none⟩, 1, 1, rfl, Lib.hid ⟨by omega, rdH_one hnew, fun ad e => .inr ?_, F, Fq, vn, vl, (HOV.out.over HP.out hbl).more (Nat.le_succ k), HCW.out.trans (S' := F) (Chg.of_below hbl) (fun _ _ h => h), fun i hi => .inl hi⟩⟩
    injection e with e
    subst e
    exact Nat.le_of_lt HWS.out
  · have hres : (Pl.shgM b M).put now ⟨⟨xa, xl, xf, xb, xm⟩, xn⟩ s = ((M.put now ⟨⟨xa, xl, xf, xb, xm⟩, xn⟩ s.q).1, ⟨(M.put now ⟨⟨xa, xl, xf, xb, xm⟩, xn⟩ s.q).2, s.st, s.next, s.lost⟩) := if_neg hr
    have HRES := Lib.hid hres
    have ir : decide (b.r < xl) = false := decide_eq_false hr
    clear hres hnb
    go_enter Tryz.func134, Tryz.ntmps134
    go_upto_region 1 with fail
    generalize w.alloc (.cells #[.int .i64 xa, .int .i64 xl, .int .i64 xf, .int .i64 xb, .int .i64 xm, .int .i64 xn] 78) = W at *
    go_quiet (fail)
    have hovn : SgI V Inv base b g gt s k F Fq (W.drewN nq) vn vl := HOV.out.over HP.out (bl_drewN (Below.refl _ _))
    have hcwn := HCW.out.drewN nq
    have c0' : (W.drewN nq).cell? ⟨g, 0, none⟩ = some V := c0
    have t0' : (W.drewN nq).cell? ⟨w.heap.size, 0, none⟩ = some (.int .i64 xa) := t0
    have t1' : (W.drewN nq).cell? ⟨w.heap.size, 1, none⟩ = some (.int .i64 xl) := t1
    have t2' : (W.drewN nq).cell? ⟨w.heap.size, 2, none⟩ = some (.int .i64 xf) := t2
    have t3' : (W.drewN nq).cell? ⟨w.heap.size, 3, none⟩ = some (.int .i64 xb) := t3
    have t4' : (W.drewN nq).cell? ⟨w.heap.size, 4, none⟩ = some (.int .i64 xm) := t4
    have t5' : (W.drewN nq).cell? ⟨w.heap.size, 5, none⟩ = some (.int .i64 xn) := t5
    obtain ⟨kq, hkq, hq0⟩ := (hovn.over HP.out (bl_drew (w1 := W.drewN nq) (Below.refl _ _))).q
    have hput := HPUT.out (W.drewN nq).drew kq hkq hq0
    have HKQ := Lib.hid hkq
    have HPU := Lib.hid hput; have HOVN := Lib.hid hovn; have HCWN := Lib.hid hcwn; have HWSN : Hid (w.heap.size < (W.drewN nq).heap.size) := HWS
    clear hput hovn hcwn hq0 hkq c0 c1 s2 t0 t1 t2 t3 t4 t5 HOV HCW HWS HPUT HNB
    generalize W.drewN nq = V at *
    go_upto_region 3 with fail
    go_still_tail 6, (by kernel_rfl)
    change wpList _ _ _ _ _ (World.drew _)
    go_wp2_with (refine wpList_invoke2 (vx := .int .i64 now) (vy := .agg #[.int .i64 xa, .int .i64 xl, .int .i64 xf, .int .i64 xb, .int .i64 xm, .int .i64 xn]) rfl (.tmp 24) (.tmp 25) (.tmp 26) #[3, 78] rfl HM.out rfl rfl rfl HPU.out (fun e w' ⟨_, _, _, _, h, _⟩ => ⟨_, h⟩) ?_; rintro v3 w3 ⟨A, n, c', F', e3, h3⟩; injection e3 with e3; subst e3; have H3 := Lib.hid h3; clear h3)
    go_ret
    rw [HRES.out]
    obtain ⟨e1, e2, e3, e4, e5, e6⟩ := H3.out
    have hs3 := (HOVN.out.over HP.out (bl_drew (Below.refl _ _))).queue HP.out (k' := k + 1) (q' := (M.put now ⟨⟨xa, xl, xf, xb, xm⟩, xn⟩ s.q).2) ⟨kq + 1, by have := HKQ.out; omega, e4⟩ e5 e6
    refine ⟨A, n, c', rfl, Lib.hid ⟨e1, e2, fun ad e => ?_, _, _, _, _, hs3, (HCWN.out.drew).trans (S' := Fq) e5 (fun i _ h => HOVN.out.mF.2.2 i h), fun i hi => ?_⟩⟩
    · rcases e3 ad e with h | h
      · exact .inl (HOVN.out.mF.2.2 _ h)
      · exact .inr (by have h1 := HWSN.out; have h2 : V.heap.size ≤ ad.block := h; omega)
    · rcases hi with hi | hi
      · exact .inl hi
      · rcases e6 i hi with h | h
        · exact .inl (HOVN.out.mF.2.2 _ h)
        · exact .inr (by have h1 := HWSN.out; have h2 : V.heap.size ≤ i := h; omega)

end Go.Proofs.YtgdijbaodfghjaaGreatDoor

/-
  What a shaper's Len, Bytes do, over whatever queue.
-/
namespace Go.Proofs.YtgdijbaodfghjaaGreatDoor
open Go.RowKit Bkt
set_option linter.unusedVariables false

set_option maxHeartbeats 1000000 in
set_option maxRecDepth 100000 in
theorem sglen_any {M : Pl.QM} {V : Value} {Inv : M.σ → Nat → (Nat → Prop) → World → Prop} (base : Nat) (b : Bk) (qi : QImp M V base Inv) (g gt : Nat) (s : Pl.ShS M.σ) (k : Nat) (F Fq : Nat → Prop) (w : World) (vn vl : Value) (h : SgI V Inv base b g gt s k F Fq w vn vl) (hb : 0 ≤ M.len s.q ∧ M.len s.q ≤ 1000) :
    Calls Tryz.prog 133 #[.pointer (some ⟨g, 0, none⟩)] w fun e w' => e = .returned (.int .i64 ((Pl.shgM b M).len s)) ∧ Below w.heap.size w w' := by
  obtain ⟨fl, rl, hml, hcl⟩ := qi.len
  obtain ⟨kq, _, hq⟩ := h.q
  have hlen := hcl s.q kq Fq w hq
  have c0 := h.blk.cell 0
  have c2 := h.blk.cell 2
  have HM := Lib.hid hml; have HL := Lib.hid hlen
  obtain ⟨q, st, nx, lo⟩ := s
  have hR : (Pl.shgM b M).len ⟨q, st, nx, lo⟩ = M.len q + Pl.oneN nx := rfl
  rw [hR]
  dsimp only at hb HL
  simp at c0 c2
  obtain ⟨hb0, hb1⟩ := hb
  cases nx with
  | none =>
    obtain rfl := h.none_ rfl
    clear h hcl hml hlen hq hR
    generalize M.len q = n at *
    go_enter Tryz.func133, Tryz.ntmps133
    go_wp2_with (refine wpList_invoke0 rfl (.tmp 17) #[] rfl HM.out rfl HL.out (fun e w' ⟨h, _⟩ => ⟨_, h⟩) ?_; rintro v3 w3 ⟨e3, h3⟩; injection e3 with e3; subst e3; have H3 := Lib.hid h3; clear h3)
    go_ret
    exact ⟨by show Ending.returned (.int .i64 n) = .returned (.int .i64 (n + 0)); rw [Int.add_zero], H3.out⟩
  | some x =>
    obtain ⟨gn, rfl, _⟩ := h.some_ rfl
    clear h hcl hml hlen hq hR
    generalize M.len q = n at *
    have e1 : IntKind.i64.wrap (n + 1) = n + 1 := IntWalk.i64_in _ (by omega)
    go_enter Tryz.func133, Tryz.ntmps133
    go_wp2_with (refine wpList_invoke0 rfl (.tmp 11) #[] rfl HM.out rfl HL.out (fun e w' ⟨h, _⟩ => ⟨_, h⟩) ?_; rintro v3 w3 ⟨e3, h3⟩; injection e3 with e3; subst e3; have H3 := Lib.hid h3; clear h3)
    go_ret
    exact ⟨rfl, H3.out⟩
theorem wpQuiet_invokeC {C : World → Prop} {q : Value} {name : String} {f : FuncId} {r : Value} {ops : Array Oper} {rest : List Oper} {o : Oper} {a : Act} {Q : Act → Prop} (hgd : o.guard = none) (rv : Operand) (tys : Array TypeId)
    (ho : o.op = .call { callee := .invoke rv name, args := #[], argTypes := tys }) (hm : Meth q name f r) (hq : a.eval rv = q) {v : Value} (hc : ∀ w, C w → Calls Tryz.prog f #[r] w fun e w'' => e = .returned v ∧ C w'')
    (h : wpQuiet Tryz.prog ops C Q rest (a.put o.dst v)) : wpQuiet Tryz.prog ops C Q (o :: rest) a := by
  have hw : Region.wanted o (yielded ops a.tmps) = true := by simp [Region.wanted, hgd]
  unfold wpQuiet
  rw [if_pos hw]
  refine ⟨v, fun w' hw' => ?_, h⟩
  unfold Oper.quietAt execOp
  simp only [ho, resolve, invoke, Sem.run_bind, Sem.run_pure, Result.andThen_ok]
  rw [hq]
  have e1 : (#[q] ++ (#[] : Array Operand).map a.eval)[0]? = some q := by rw [Array.getElem?_append_left (by simp)]; rfl
  have e2 : (#[q] ++ (#[] : Array Operand).map a.eval).extract 1 = (#[] : Array Operand).map a.eval := extract_one q _
  rw [e1]
  dsimp only
  rw [e2, hm _ w']
  refine ⟨rfl, ?_⟩
  have e3 : #[r] ++ (#[] : Array Operand).map a.eval = #[r] := by simp
  rw [e3]
  exact (hc w' hw').mono fun e w'' ⟨h1, h2⟩ => ⟨h1, h2⟩
end Go.Proofs.YtgdijbaodfghjaaGreatDoor

/-
  What a shaper's Bytes does, over whatever queue.
-/
namespace Go.Proofs.YtgdijbaodfghjaaGreatDoor
open Go.RowKit Bkt
set_option linter.unusedVariables false

set_option maxHeartbeats 2000000 in
set_option maxRecDepth 100000 in
theorem sgbytes_any {M : Pl.QM} {V : Value} {Inv : M.σ → Nat → (Nat → Prop) → World → Prop} (base : Nat) (b : Bk) (qi : QImp M V base Inv) (g gt : Nat) (s : Pl.ShS M.σ) (k : Nat) (F Fq : Nat → Prop) (w : World) (vn vl : Value) (h : SgI V Inv base b g gt s k F Fq w vn vl) (hb : 0 ≤ M.bytes s.q ∧ M.bytes s.q ≤ 10000000) (hx : ∀ x, s.next = some x → 0 ≤ x.it.len ∧ x.it.len ≤ 10000) :
    Calls Tryz.prog 132 #[.pointer (some ⟨g, 0, none⟩)] w fun e w' => e = .returned (.int .i64 ((Pl.shgM b M).bytes s)) ∧ Below w.heap.size w w' := by
  obtain ⟨fl, rl, hml, hcl⟩ := qi.bytes
  have c0 := h.blk.cell 0
  have c2 := h.blk.cell 2
  have hby : ∀ W, Below w.heap.size w W → Calls Tryz.prog fl #[rl] W fun e w' => e = .returned (.int .i64 (M.bytes s.q)) ∧ Below W.heap.size W w' := fun W hW => by
    obtain ⟨kq, _, hq⟩ := (h.over qi hW).q
    exact hcl s.q kq Fq W hq
  have HM := Lib.hid hml; have HB := Lib.hid hby
  obtain ⟨q, st, nx, lo⟩ := s
  have hR : (Pl.shgM b M).bytes ⟨q, st, nx, lo⟩ = M.bytes q + Pl.oneL nx := rfl
  rw [hR]
  dsimp only at hb HB
  simp at c0 c2
  obtain ⟨hb0, hb1⟩ := hb
  cases nx with
  | none =>
    obtain rfl := h.none_ rfl
    have HBW := Lib.hid (HB.out w (Below.refl _ _))
    clear h hcl hml hby hR hx
    generalize M.bytes q = n at *
    go_enter Tryz.func132, Tryz.ntmps132
    go_wp2_with (refine wpList_invoke0 rfl (.tmp 25) #[] rfl HM.out rfl HBW.out (fun e w' ⟨h, _⟩ => ⟨_, h⟩) ?_; rintro v3 w3 ⟨e3, h3⟩; injection e3 with e3; subst e3; have H3 := Lib.hid h3; clear h3)
    go_ret
    exact ⟨by show Ending.returned (.int .i64 n) = .returned (.int .i64 (n + 0)); rw [Int.add_zero], H3.out⟩
  | some x =>
    obtain ⟨gn, rfl, hbn, _⟩ := h.some_ rfl
    have hxl := hx x rfl
    have n1 := hbn.cell 1
    obtain ⟨⟨xa, xl, xf, xb, xm⟩, xn⟩ := x
    simp [hdArr] at n1
    dsimp only at hxl
    clear h hbn hcl hml hby hR hx
    have hol : Pl.oneL (some ⟨⟨xa, xl, xf, xb, xm⟩, xn⟩) = xl := rfl
    rw [hol]
    clear hol
    generalize M.bytes q = n at *
    have e1 : IntKind.i64.wrap (n + xl) = n + xl := IntWalk.i64_in _ (by omega)
    have k0 := fun d os => cell_regrown c0 d os
    have k2 := fun d os => cell_regrown c2 d os
    have k1 := fun d os => cell_regrown n1 d os
    have hC : ∀ W, (∃ p : Regrown, W = Sort.grow (redrawn w p.d) p.os) → Calls Tryz.prog fl #[rl] W fun e w'' => e = .returned (.int .i64 n) ∧ ∃ p : Regrown, w'' = Sort.grow (redrawn w p.d) p.os := fun W hW => by
      obtain ⟨⟨d, os⟩, rfl⟩ := hW
      exact Calls.regrown_of (HB.out _ (below_regrown w d os))
    have HC := Lib.hid hC
    clear hC
    go_enter Tryz.func132, Tryz.ntmps132
    go_upto_region 2 with fail
    refine wp_region_quiet_below (by kernel_rfl) (by kernel_rfl) ?_
    repeat (quiet_step (fail))
    refine wpQuiet_invokeC rfl (.tmp 11) #[] rfl HM.out rfl HC.out ?_
    repeat (quiet_step (fail))
    refine wpQuiet_nil ?_
    intro _ hw'
    obtain ⟨⟨dq, osq⟩, hw''⟩ := hw'
    subst hw''
    have hb4 := below_regrown w dq osq
    have HB4 := Lib.hid hb4
    clear k0 k1 k2 hb4
    generalize Sort.grow (redrawn w dq) osq = w5 at *
    go_wp2_with fail
    go_ret
    exact ⟨rfl, HB4.out⟩
end Go.Proofs.YtgdijbaodfghjaaGreatDoor

/-
  The shaper over whatever queue is its machine; its making.
-/
namespace Go.Proofs.YtgdijbaodfghjaaGreatDoor
open Go.RowKit Bkt
set_option linter.unusedVariables false

def shpV (g : Nat) : Value := .iface 107 (.pointer (some ⟨g, 0, none⟩))
theorem shp_put_meth (g : Nat) : Meth (shpV g) "Put" 134 (.pointer (some ⟨g, 0, none⟩)) := by
  intro args w; kernel_rfl
theorem shp_take_meth (g : Nat) : Meth (shpV g) "Take" 135 (.pointer (some ⟨g, 0, none⟩)) := by
  intro args w; kernel_rfl
theorem shp_when_meth (g : Nat) : Meth (shpV g) "When" 136 (.pointer (some ⟨g, 0, none⟩)) := by
  intro args w; kernel_rfl
theorem shp_len_meth (g : Nat) : Meth (shpV g) "Len" 133 (.pointer (some ⟨g, 0, none⟩)) := by
  intro args w; kernel_rfl
theorem shp_bytes_meth (g : Nat) : Meth (shpV g) "Bytes" 132 (.pointer (some ⟨g, 0, none⟩)) := by
  intro args w; kernel_rfl
section
variable {M : Pl.QM} {late : Bool} {I : M.σ → Prop}
theorem look_bd (qb : Pl.QB M late I) (b : Bk) (now : Int) {s : Pl.ShS M.σ} {k : Nat} (hp : Pl.PI (Pl.shgM b M) (Pl.ShgI b I) s) (hw : ((Pl.shgM b M).wait s).length ≤ k) : (Pl.lookG M now s).lost.length ≤ k ∧ ∀ x, (Pl.lookG M now s).next = some x → 0 ≤ x.it.len ∧ x.it.len ≤ 10000 := by
  obtain ⟨_, p⟩ := Pl.lookG_good qb.good b now s hp.1.1
  have hl := p.length_eq
  refine ⟨?_, fun x hx => ?_⟩
  · have e : ((Pl.shgM b M).wait (Pl.lookG M now s)).length = (Pl.lookG M now s).lost.length + ((Pl.lookG M now s).next.toList.map Pl.key ++ M.wait (Pl.lookG M now s).q).length := by
      show ((Pl.lookG M now s).lost.map Pl.key ++ _).length = _
      rw [List.length_append, List.length_map]
    omega
  · have := Pl.ps_perm p hp.2 (Pl.key x) (List.mem_append_right _ (List.mem_append_left _ (by rw [hx]; simp)))
    exact this
theorem sg_imp (V : Value) (Inv : M.σ → Nat → (Nat → Prop) → World → Prop) (base g gt : Nat) (b : Bk) (hk : BkOk b) (qi : QImp M V base Inv) (qb : Pl.QB M late I) : QImp (Pl.shgM b M) (shpV g) base (SgInv V Inv I base b g gt) where
  lt := fun s k F w ⟨_, _, _, _, Fq, vn, vl, h⟩ => h.lt
  base := fun s k F w ⟨h, _⟩ => h
  chg := fun s k F w w' S ⟨h0, hk1, hp, hw, Fq, vn, vl, h⟩ hc hn => ⟨Nat.le_trans h0 hc.size, hk1, hp, hw, Fq, vn, vl, h.chg qi hc hn⟩
  put := ⟨_, _, shp_put_meth g, fun s k F w now x ⟨h0, hk1, hp, hw, Fq, vn, vl, h⟩ hk2 hx => (sgput_any base b qi g gt s k F Fq w vn vl now x h hk2 hx h0).mono fun e w' ⟨A, n, c, e1, h1⟩ => by
    obtain ⟨g1, g2, g3, F', Fq', vn', vl', g4, g5, g6⟩ := h1.out
    obtain ⟨q1, q2⟩ := (Pl.shg_qb qb b).good.put s now x hp hx.ok
    have hl := q2.length_eq
    rw [List.length_append, List.length_append] at hl
    exact ⟨A, n, c, F', e1, g1, g2, g3, ⟨Nat.le_trans h0 g5.size, by omega, q1, by simp at hl; omega, Fq', vn', vl', g4⟩, g5, g6⟩⟩
  take := ⟨_, _, shp_take_meth g, fun s k F w now ⟨h0, hk1, hp, hw, Fq, vn, vl, h⟩ hn0 hn1 => by
    obtain ⟨l1, l2⟩ := look_bd qb b now hp hw
    refine (sgtake_any base b hk qi g gt s k F Fq w vn vl now h (by omega) l2 hn0 hn1 h0).mono fun e w' ⟨x, A, c, e1, e2, h1⟩ => ?_
    obtain ⟨g1, g2, F', Fq', vn', vl', g4, g5, g6⟩ := h1.out
    obtain ⟨q1, q2⟩ := (Pl.shg_qb qb b).good.take s now hp
    have hl := q2.length_eq
    rw [List.length_append, List.length_append, List.length_map] at hl
    have e3 : (Pl.shgM b M).take now s = Pl.shgTake b now (Pl.lookG M now s) := rfl
    rw [e3] at q1 hl ⊢
    have hlo : (Pl.shgTake b now (Pl.lookG M now s)).2.1.length ≤ 1000 := by omega
    exact ⟨x, A, _, c, F', e1, e2, by omega, g1, g2, ⟨Nat.le_trans h0 g5.size, hk1, q1, by omega, Fq', vn', vl', g4⟩, g5, g6⟩⟩
  when_ := ⟨_, _, shp_when_meth g, fun s k F w now ⟨h0, hk1, hp, hw, Fq, vn, vl, h⟩ hn0 hn1 => by
    obtain ⟨l1, l2⟩ := look_bd qb b now hp hw
    refine (sgwhen_any base b hk qi g gt s k F Fq w vn vl now h (by omega) l2 hn0 hn1 h0).mono fun e w' ⟨a, e1, e2, h1⟩ => ?_
    obtain ⟨F', Fq', vn', vl', g4, g5, g6⟩ := h1.out
    obtain ⟨q1, q2⟩ := (Pl.shg_qb qb b).good.when_ s now hp
    have hl := q2.length_eq
    have e3 : (Pl.shgM b M).when_ now s = Pl.shgWhen b M now (Pl.lookG M now s) := rfl
    rw [e3] at q1 hl ⊢
    exact ⟨a, F', e1, e2, ⟨Nat.le_trans h0 g5.size, hk1, q1, by omega, Fq', vn', vl', g4⟩, g5, g6⟩⟩
  len := ⟨_, _, shp_len_meth g, fun s k F w ⟨h0, hk1, hp, hw, Fq, vn, vl, h⟩ => sglen_any base b qi g gt s k F Fq w vn vl h (by
    have hq : (M.wait s.q).length ≤ k := by
      have e : ((Pl.shgM b M).wait s).length = s.lost.length + (s.next.toList.length + (M.wait s.q).length) := by
        show (s.lost.map Pl.key ++ (s.next.toList.map Pl.key ++ M.wait s.q)).length = _
        simp
      omega
    have := qb.bd hp.1.1 hq
    omega)⟩
  bytes := ⟨_, _, shp_bytes_meth g, fun s k F w ⟨h0, hk1, hp, hw, Fq, vn, vl, h⟩ => sgbytes_any base b qi g gt s k F Fq w vn vl h (by
    have hq : (M.wait s.q).length ≤ k := by
      have e : ((Pl.shgM b M).wait s).length = s.lost.length + (s.next.toList.length + (M.wait s.q).length) := by
        show (s.lost.map Pl.key ++ (s.next.toList.map Pl.key ++ M.wait s.q)).length = _
        simp
      omega
    have := qb.bd hp.1.1 hq
    omega) (fun x hx => hp.2 (Pl.key x) (List.mem_append_right _ (List.mem_append_left _ (by rw [hx]; simp))))⟩
end
end Go.Proofs.YtgdijbaodfghjaaGreatDoor

/-
  The shaper over whatever queue: its making.
-/
namespace Go.Proofs.YtgdijbaodfghjaaGreatDoor
open Go.RowKit Bkt
set_option linter.unusedVariables false

def SgNewOut {M : Pl.QM} (V : Value) (Inv : M.σ → Nat → (Nat → Prop) → World → Prop) (I : M.σ → Prop) (q0 : M.σ) (base : Nat) (b : Bk) (Fq : Nat → Prop) (w : World) (e : Ending) (w' : World) : Prop :=
  ∃ g gt F, e = .returned (.tuple #[.pointer (some ⟨g, 0, none⟩), .nilIface]) ∧ Hid (SgInv V Inv I base b g gt ⟨q0, Bkt.start b, none, []⟩ 0 F w' ∧ Below w.heap.size w w' ∧ ∀ i, F i → Fq i ∨ w.heap.size ≤ i)
set_option maxHeartbeats 1000000 in
set_option maxRecDepth 100000 in
theorem sgnew_yes {M : Pl.QM} {I : M.σ → Prop} (T : TypeId) (gv : Nat) (Inv : M.σ → Nat → (Nat → Prop) → World → Prop) (q0 : M.σ) (base : Nat) (b : Bk) (hk : BkOk b) (qi : QImp M (.iface T (.pointer (some ⟨gv, 0, none⟩))) base Inv) (hI : I q0) (hw0 : M.wait q0 = []) (Fq : Nat → Prop) (w : World) (h : Inv q0 0 Fq w) (hB : base ≤ w.heap.size) :
    Calls Tryz.prog 38 #[bkV b, .iface T (.pointer (some ⟨gv, 0, none⟩))] w (SgNewOut (.iface T (.pointer (some ⟨gv, 0, none⟩))) Inv I q0 base b Fq w) := by
  have hnew := fun W => new_yes b W hk
  have hlt := qi.lt _ _ _ _ h
  have hch := fun w' (hc : Below w.heap.size w w') => qi.chg _ _ _ _ w' (fun _ => False) h (Chg.of_below hc) (fun _ _ e => e)
  have hpi : Pl.PI (Pl.shgM b M) (Pl.ShgI b I) ⟨q0, Bkt.start b, none, []⟩ ∧ ((Pl.shgM b M).wait ⟨q0, Bkt.start b, none, []⟩).length ≤ 0 := by
    have e : (Pl.shgM b M).wait ⟨q0, Bkt.start b, none, []⟩ = [] := by
      show ([] : List Hd).map Pl.key ++ ((none : Option Hd).toList.map Pl.key ++ M.wait q0) = []
      rw [hw0]; rfl
    refine ⟨⟨⟨hI, ?_⟩, ?_⟩, ?_⟩
    · rw [e]; intro p hp; cases hp
    · rw [e]; intro p hp; cases hp
    · rw [e]; exact Nat.le_refl _
  have HCH := Lib.hid hch; have HLT := Lib.hid hlt; have HK := Lib.hid hk; have HPI := Lib.hid hpi
  clear h hch hlt hk qi hI hw0 hpi
  obtain ⟨kb, kt, kr⟩ := b
  unfold bkV at *
  dsimp only at hnew
  have HNEW := Lib.hid hnew
  clear hnew
  go_enter Tryz.func38, Tryz.ntmps38
  go_wp2_with fail
  refine (HNEW.out _).mono ?_
  rintro e w1 ⟨gt, hgt, rfl, hb1, hst⟩
  have hbw := bl_next (bl_alloc (Below.refl w.heap.size w)) hb1
  have hgt2 : w.heap.size ≤ gt := by simp at hgt; omega
  have HBW := Lib.hid hbw; have HST := Lib.hid hst
  clear hbw hst hb1 hgt
  go_wp2_with fail
  go_ret2
  have hgl : gt < w1.heap.size := Blk.lt HST.out
  have hsz := HBW.out.size
  have hq2 := HCH.out _ (bl_alloc (o := .cells #[.iface T (.pointer (some ⟨gv, 0, none⟩)), .pointer (some ⟨gt, 0, none⟩), .pointer none, .slice none 0 0] 135) HBW.out)
  refine ⟨w1.heap.size, gt, fun i => i = w1.heap.size ∨ i = gt ∨ Fq i, rfl, Lib.hid ⟨⟨?_, by omega, HPI.out.1, HPI.out.2, Fq, .pointer none, .slice none 0 0, ⟨Blk.new _ _ _, Blk.alloc HST.out _, sok_start HK.out, by show (0 : Int) ≤ 1000000000; decide, ⟨0, Nat.le_refl _, hq2⟩, .inl ⟨rfl, rfl⟩, World.ownsRow_nil _ _ _ _, fun i e => by simp [Value.ownBlock] at e, ⟨fun e => ?_, fun e => ?_⟩, ⟨.inl rfl, .inr (.inl rfl), fun i hi => .inr (.inr hi)⟩, fun i hi => ?_⟩⟩, bl_alloc HBW.out, fun i hi => ?_⟩⟩
  · simp; omega
  · have := (HLT.out _ e).2; omega
  · have := (HLT.out _ e).2; omega
  · rcases hi with rfl | rfl | hi
    · simp; omega
    · simp; omega
    · have := HLT.out _ hi; simp; omega
  · rcases hi with rfl | rfl | hi
    · exact .inr hsz
    · exact .inr hgt2
    · exact .inl hi
set_option maxHeartbeats 1000000 in
set_option maxRecDepth 100000 in
theorem sgnew_no (b : Bk) (hk : ¬ BkOk b) (T : TypeId) (gv : Nat) (w : World) :
    Calls Tryz.prog 38 #[bkV b, .iface T (.pointer (some ⟨gv, 0, none⟩))] w fun e w' => (∃ k : Int, e = .returned (.tuple #[.pointer none, .iface 69 (.int .i64 k)])) ∧ Below w.heap.size w w' := by
  have hnew := fun W => new_no b W hk
  clear hk
  obtain ⟨kb, kt, kr⟩ := b
  unfold bkV at *
  dsimp only at hnew
  have HNEW := Lib.hid hnew
  clear hnew
  go_enter Tryz.func38, Tryz.ntmps38
  go_wp2_with fail
  refine (HNEW.out _).mono ?_
  rintro e w1 ⟨j, rfl, hb1⟩
  have hbw := bl_next (bl_alloc (Below.refl w.heap.size w)) hb1
  have HBW := Lib.hid hbw
  clear hbw hb1
  go_wp2_with fail
  go_ret2
  exact ⟨⟨_, rfl⟩, HBW.out⟩
end Go.Proofs.YtgdijbaodfghjaaGreatDoor
