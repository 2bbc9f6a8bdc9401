/-
  What a shaper's Put, Len, Bytes do.
-/
import Derived.Test.YtdhojhgmaodifaaDoorShpRest
namespace Go.Proofs.YtdhojhgmaodifaaDoor
open Go.RowKit Bkt
set_option linter.unusedVariables false

theorem rdH_one {w : World} {g : Nat} {x : Hd} (h : Blk w g 127 (hdArr x)) : RdR HdR w w.heap.size (some ⟨g, 0, none⟩) 1 [x] := by
  refine ⟨rfl, fun _ => ⟨_, rfl, h.lt, fun j u hu => ?_⟩⟩
  rw [Addr.add_lit, Nat.zero_add, h.cell, ← hu]
  simp [hdArr, HdR, hdCells]
theorem ShI.more {base : Nat} {b : Bk} {p : Pl.FP} {g gt gq : Nat} {s : Pl.Shp (List Hd)} {k : Nat} {F Fq : Nat → Prop} {w : World} {vn : Value} (h : ShI base b p g gt gq s k F Fq w vn) (hk : k < 1000) : ShI base b p g gt gq s (k + 1) F Fq w vn := by
  obtain ⟨v, cs, hq⟩ := h.q
  exact ⟨h.blk, h.st, h.sok, h.sl, ⟨v, cs, ⟨hq.f, Nat.le_succ_of_le hq.n, hq.b, hq.bs, hk, hq.bg, hq.mF⟩⟩, h.nx, h.d, h.mF, h.lt⟩
def Pl.shPutF (b : Bk) (p : Pl.FP) (x : Hd) (s : Pl.Shp (List Hd)) : List Hd × Pl.Shp (List Hd) := if b.r < x.it.len then ([x], s) else ((Pl.fputL p x s.q).1, ⟨(Pl.fputL p x s.q).2, s.st, s.next⟩)
def SPutOut (base : Nat) (b : Bk) (p : Pl.FP) (g gt gq : Nat) (r : List Hd × Pl.Shp (List Hd)) (k : Nat) (F : Nat → Prop) (w : World) (e : Ending) (w' : World) : Prop :=
  ∃ A n c, e = .returned (.slice A n c) ∧ Hid (n ≤ 100000 ∧ RdR HdR w' w'.heap.size A n r.1 ∧ (∀ ad, A = some ad → F ad.block ∨ w.heap.size ≤ ad.block) ∧ ∃ F' Fq vn, ShI base b p g gt gq r.2 k F' Fq w' vn ∧ Chg w w' F ∧ ∀ i, F' i → F i ∨ w.heap.size ≤ i)
set_option maxHeartbeats 4000000 in
set_option maxRecDepth 100000 in
theorem sput_any (base : Nat) (b : Bk) (p : Pl.FP) (hp : Pl.FOk p) (g gt gq : Nat) (s : Pl.Shp (List Hd)) (k : Nat) (F Fq : Nat → Prop) (w : World) (vn : Value) (now : Int) (x : Hd) (h : ShI base b p g gt gq s k F Fq w vn) (hk : k < 1000) (hx : InOk now x) (hB : base ≤ w.heap.size) :
    Calls Tryd.prog 94 #[.pointer (some ⟨g, 0, none⟩), .int .i64 now, hdV x] w (SPutOut base b p g gt gq (Pl.shPutF b p x s) (k + 1) F w) := by
  have hov := h.over hp (w' := w.alloc (.cells (hdArr x) 127)) (bl_alloc (Below.refl _ _))
  have hnb := Blk.new w 127 (hdArr x)
  have c0 := hov.blk.cell 0
  have c1 := hov.blk.cell 1
  have s2 := hov.st.cell 2
  have hF : ∀ i, F i → i < w.heap.size := fun i hi => (h.lt i hi).2
  obtain ⟨fp, rp, hmp, hcp⟩ := (fifo_imp base gq p hp).put
  have hput : ∀ W, FInv1 base gq p s.q k Fq W → Calls Tryd.prog fp #[rp, .int .i64 now, hdV x] W (PutOut (FInv1 base gq p) W Fq (k + 1) (Pl.fputL p x s.q)) := fun W hW => hcp s.q k Fq W now x hW hk hx
  have HM := Lib.hid hmp; have HOV := Lib.hid hov; have HF := Lib.hid hF; have HP := Lib.hid hp; have HPUT := Lib.hid hput; have HNB := Lib.hid hnb
  have hcw : Chg w (w.alloc (.cells (hdArr x) 127)) F := (Chg.refl _ _).alloc _
  have hws : w.heap.size < (w.alloc (.cells (hdArr x) 127)).heap.size := by simp
  have HCW := Lib.hid hcw; have HWS := Lib.hid hws
  clear hcp hmp hov hF hput h hx hcw hws
  obtain ⟨⟨xa, xl, xf, xb, xm⟩, xn⟩ := x
  unfold hdV at *
  unfold hdArr at *
  dsimp only at *
  simp at c0 c1 s2
  have t0 : (w.alloc (.cells #[.int .i64 xa, .int .i64 xl, .int .i64 xf, .int .i64 xb, .int .i64 xm, .int .i64 xn] 127)).cell? ⟨w.heap.size, 0, none⟩ = some (.int .i64 xa) := hnb.cell 0
  have t1 : (w.alloc (.cells #[.int .i64 xa, .int .i64 xl, .int .i64 xf, .int .i64 xb, .int .i64 xm, .int .i64 xn] 127)).cell? ⟨w.heap.size, 1, none⟩ = some (.int .i64 xl) := hnb.cell 1
  have t2 : (w.alloc (.cells #[.int .i64 xa, .int .i64 xl, .int .i64 xf, .int .i64 xb, .int .i64 xm, .int .i64 xn] 127)).cell? ⟨w.heap.size, 2, none⟩ = some (.int .i64 xf) := hnb.cell 2
  have t3 : (w.alloc (.cells #[.int .i64 xa, .int .i64 xl, .int .i64 xf, .int .i64 xb, .int .i64 xm, .int .i64 xn] 127)).cell? ⟨w.heap.size, 3, none⟩ = some (.int .i64 xb) := hnb.cell 3
  have t4 : (w.alloc (.cells #[.int .i64 xa, .int .i64 xl, .int .i64 xf, .int .i64 xb, .int .i64 xm, .int .i64 xn] 127)).cell? ⟨w.heap.size, 4, none⟩ = some (.int .i64 xm) := hnb.cell 4
  have t5 : (w.alloc (.cells #[.int .i64 xa, .int .i64 xl, .int .i64 xf, .int .i64 xb, .int .i64 xm, .int .i64 xn] 127)).cell? ⟨w.heap.size, 5, none⟩ = some (.int .i64 xn) := hnb.cell 5
  by_cases hr : b.r < xl
  · have hres : Pl.shPutF b p ⟨⟨xa, xl, xf, xb, xm⟩, xn⟩ s = ([⟨⟨xa, xl, xf, xb, xm⟩, xn⟩], s) := if_pos hr
    have HRES := Lib.hid hres
    have ir : decide (b.r < xl) = true := decide_eq_true hr
    clear hres hnb
    go_enter Tryd.func94, Tryd.ntmps94
    go_upto_region 1 with fail
    generalize w.alloc (.cells #[.int .i64 xa, .int .i64 xl, .int .i64 xf, .int .i64 xb, .int .i64 xm, .int .i64 xn] 127) = W at *
    go_quiet (fail)
    go_wp2_with fail
    go_ret
    rw [HRES.out]
    have hnew := Blk.new (W.drewN nq) 127 (hdArr ⟨⟨xa, xl, xf, xb, xm⟩, xn⟩)
    have hbl : Below W.heap.size W ((W.drewN nq).alloc (.cells (hdArr ⟨⟨xa, xl, xf, xb, xm⟩, xn⟩) 127)) := bl_alloc (bl_drewN (Below.refl _ _))
    refine ⟨some ⟨W.heap.size, 0, none⟩, 1, 1, rfl, Lib.hid ⟨by omega, rdH_one hnew, fun ad e => .inr ?_, F, Fq, vn, (HOV.out.over HP.out hbl).more hk, HCW.out.trans (S' := F) (Chg.of_below hbl) (fun _ _ h => h), fun i hi => .inl hi⟩⟩
    injection e with e
    subst e
    exact Nat.le_of_lt HWS.out
  · have hres : Pl.shPutF b p ⟨⟨xa, xl, xf, xb, xm⟩, xn⟩ s = ((Pl.fputL p ⟨⟨xa, xl, xf, xb, xm⟩, xn⟩ s.q).1, ⟨(Pl.fputL p ⟨⟨xa, xl, xf, xb, xm⟩, xn⟩ s.q).2, s.st, s.next⟩) := if_neg hr
    have HRES := Lib.hid hres
    have ir : decide (b.r < xl) = false := decide_eq_false hr
    clear hres hnb
    go_enter Tryd.func94, Tryd.ntmps94
    go_upto_region 1 with fail
    generalize w.alloc (.cells #[.int .i64 xa, .int .i64 xl, .int .i64 xf, .int .i64 xb, .int .i64 xm, .int .i64 xn] 127) = W at *
    go_quiet (fail)
    have hovn : ShI base b p g gt gq s k F Fq (W.drewN nq) vn := HOV.out.over HP.out (bl_drewN (Below.refl _ _))
    have hcwn := HCW.out.drewN nq
    have c0' : (W.drewN nq).cell? ⟨g, 0, none⟩ = some (fifV gq) := c0
    have t0' : (W.drewN nq).cell? ⟨w.heap.size, 0, none⟩ = some (.int .i64 xa) := t0
    have t1' : (W.drewN nq).cell? ⟨w.heap.size, 1, none⟩ = some (.int .i64 xl) := t1
    have t2' : (W.drewN nq).cell? ⟨w.heap.size, 2, none⟩ = some (.int .i64 xf) := t2
    have t3' : (W.drewN nq).cell? ⟨w.heap.size, 3, none⟩ = some (.int .i64 xb) := t3
    have t4' : (W.drewN nq).cell? ⟨w.heap.size, 4, none⟩ = some (.int .i64 xm) := t4
    have t5' : (W.drewN nq).cell? ⟨w.heap.size, 5, none⟩ = some (.int .i64 xn) := t5
    have hput := HPUT.out (W.drewN nq).drew (hovn.over HP.out (bl_drew (Below.refl _ _))).q
    have HPU := Lib.hid hput; have HOVN := Lib.hid hovn; have HCWN := Lib.hid hcwn; have HWSN : Hid (w.heap.size < (W.drewN nq).heap.size) := HWS
    clear hput hovn hcwn c0 c1 s2 t0 t1 t2 t3 t4 t5 HOV HCW HWS HPUT HNB
    generalize W.drewN nq = V at *
    unfold fifV at c0'
    go_upto_region 3 with fail
    go_still_tail 6, (by kernel_rfl)
    change wpList _ _ _ _ _ (World.drew _)
    go_wp2_with (refine wpList_invoke2 (vx := .int .i64 now) (vy := .agg #[.int .i64 xa, .int .i64 xl, .int .i64 xf, .int .i64 xb, .int .i64 xm, .int .i64 xn]) rfl (.tmp 24) (.tmp 25) (.tmp 26) #[3, 127] rfl HM.out rfl rfl rfl HPU.out (fun e w' ⟨_, _, _, _, h, _⟩ => ⟨_, h⟩) ?_; rintro v3 w3 ⟨A, n, c', F', e3, h3⟩; injection e3 with e3; subst e3; have H3 := Lib.hid h3; clear h3)
    go_ret
    rw [HRES.out]
    obtain ⟨e1, e2, e3, e4, e5, e6⟩ := H3.out
    have hs3 := (HOVN.out.over HP.out (bl_drew (Below.refl _ _))).queue e4 e5 e6
    refine ⟨A, n, c', rfl, Lib.hid ⟨e1, e2, fun ad e => ?_, _, _, _, hs3, (HCWN.out.drew).trans (S' := Fq) e5 (fun i _ h => HOVN.out.mF.2.2 i h), fun i hi => ?_⟩⟩
    · rcases e3 ad e with h | h
      · exact .inl (HOVN.out.mF.2.2 _ h)
      · exact .inr (by have h1 := HWSN.out; have h2 : V.heap.size ≤ ad.block := h; omega)
    · rcases hi with hi | hi
      · exact .inl hi
      · rcases e6 i hi with h | h
        · exact .inl (HOVN.out.mF.2.2 _ h)
        · exact .inr (by have h1 := HWSN.out; have h2 : V.heap.size ≤ i := h; omega)

set_option maxHeartbeats 1000000 in
set_option maxRecDepth 100000 in
theorem slen_any (base : Nat) (b : Bk) (p : Pl.FP) (hp : Pl.FOk p) (g gt gq : Nat) (s : Pl.Shp (List Hd)) (k : Nat) (F Fq : Nat → Prop) (w : World) (vn : Value) (h : ShI base b p g gt gq s k F Fq w vn) :
    Calls Tryd.prog 93 #[.pointer (some ⟨g, 0, none⟩)] w fun e w' => e = .returned (.int .i64 ((s.q.length : Int) + Pl.one s.next)) ∧ Below w.heap.size w w' := by
  obtain ⟨fl, rl, hml, hcl⟩ := (fifo_imp base gq p hp).len
  have hlen : Calls Tryd.prog fl #[rl] w fun e w' => e = .returned (.int .i64 (s.q.length : Int)) ∧ Below w.heap.size w w' := hcl s.q k Fq w h.q
  have hn : s.q.length ≤ 1000 := by obtain ⟨v, cs, hq⟩ := h.q; exact Nat.le_trans hq.n hq.k1
  have c0 := h.blk.cell 0
  have c2 := h.blk.cell 2
  have HM := Lib.hid hml; have HL := Lib.hid hlen
  obtain ⟨q, st, nx⟩ := s
  dsimp only at hn HL
  simp at c0 c2
  unfold fifV at c0
  cases nx with
  | none =>
    obtain rfl := h.none_ rfl
    clear h hcl hml hlen
    go_enter Tryd.func93, Tryd.ntmps93
    go_wp2_with (refine wpList_invoke0 rfl (.tmp 17) #[] rfl HM.out rfl HL.out (fun e w' ⟨h, _⟩ => ⟨_, h⟩) ?_; rintro v3 w3 ⟨e3, h3⟩; injection e3 with e3; subst e3; have H3 := Lib.hid h3; clear h3)
    go_ret
    exact ⟨by show Ending.returned (.int .i64 (q.length : Int)) = .returned (.int .i64 ((q.length : Int) + 0)); rw [Int.add_zero], H3.out⟩
  | some x =>
    obtain ⟨gn, rfl, _⟩ := h.some_ rfl
    clear h hcl hml hlen
    go_enter Tryd.func93, Tryd.ntmps93
    go_wp2_with (refine wpList_invoke0 rfl (.tmp 11) #[] rfl HM.out rfl HL.out (fun e w' ⟨h, _⟩ => ⟨_, h⟩) ?_; rintro v3 w3 ⟨e3, h3⟩; injection e3 with e3; subst e3; have H3 := Lib.hid h3; clear h3)
    go_ret
    exact ⟨rfl, H3.out⟩

/-- a call through an interface that only reads, in a region that draws its order and only reads -/
theorem wpQuiet_invoke0 {q : Value} {name : String} {f : FuncId} {r : Value} {w : World} {ops : Array Oper} {rest : List Oper} {o : Oper} {a : Act} {Q : Act → Prop} (hgd : o.guard = none) (rv : Operand) (tys : Array TypeId)
    (ho : o.op = .call { callee := .invoke rv name, args := #[], argTypes := tys }) (hm : Meth q name f r) (hq : a.eval rv = q) {v : Value} (hc : ∀ n, Calls Tryd.prog f #[r] (w.drewN n) fun e w'' => e = .returned v ∧ w'' = w.drewN n)
    (h : wpQuiet Tryd.prog ops (fun w' => ∃ n, w' = w.drewN n) Q rest (a.put o.dst v)) : wpQuiet Tryd.prog ops (fun w' => ∃ n, w' = w.drewN n) Q (o :: rest) a := by
  have hw : Region.wanted o (yielded ops a.tmps) = true := by simp [Region.wanted, hgd]
  unfold wpQuiet
  rw [if_pos hw]
  refine ⟨v, fun w' hw' => ?_, h⟩
  obtain ⟨n, rfl⟩ := hw'
  unfold Oper.quietAt execOp
  simp only [ho, resolve, invoke, Sem.run_bind, Sem.run_pure, Result.andThen_ok]
  rw [hq]
  have e1 : (#[q] ++ (#[] : Array Operand).map a.eval)[0]? = some q := by rw [Array.getElem?_append_left (by simp)]; rfl
  have e2 : (#[q] ++ (#[] : Array Operand).map a.eval).extract 1 = (#[] : Array Operand).map a.eval := extract_one q _
  rw [e1]
  dsimp only
  rw [e2, hm _ (w.drewN n)]
  refine ⟨rfl, ?_⟩
  have e3 : #[r] ++ (#[] : Array Operand).map a.eval = #[r] := by simp
  rw [e3]
  exact (hc n).mono fun e w'' ⟨h1, h2⟩ => ⟨h1, n, h2⟩
set_option maxHeartbeats 2000000 in
set_option maxRecDepth 100000 in
theorem sbytes_any (base : Nat) (b : Bk) (p : Pl.FP) (hp : Pl.FOk p) (g gt gq : Nat) (s : Pl.Shp (List Hd)) (k : Nat) (F Fq : Nat → Prop) (w : World) (vn : Value) (h : ShI base b p g gt gq s k F Fq w vn) :
    Calls Tryd.prog 92 #[.pointer (some ⟨g, 0, none⟩)] w fun e w' => e = .returned (.int .i64 (Pl.tot s.q + Pl.lenO s.next)) ∧ Below w.heap.size w w' := by
  have htt : 0 ≤ Pl.tot s.q ∧ Pl.tot s.q ≤ 10000000 := by
    obtain ⟨v, cs, hq⟩ := h.q
    exact hq.hds.tot
  have c0 := h.blk.cell 0
  have c2 := h.blk.cell 2
  obtain ⟨v, cs, hq⟩ := id h.q
  have hby : ∀ W : World, W.cell? ⟨gq, 1, none⟩ = some (.int .i64 (Pl.tot s.q)) → Calls Tryd.prog 84 #[.pointer (some ⟨gq, 0, none⟩)] W fun e w' => e = .returned (.int .i64 (Pl.tot s.q)) ∧ W = w' := fun W hW => bytes_any gq 0 (Pl.tot s.q) W hW
  have q1 : w.cell? ⟨gq, 1, none⟩ = some (.int .i64 (Pl.tot s.q)) := (hq.f.lst.blk.cell 1).trans hq.f.lst.c1
  have hmb := fifo_bytes_meth gq
  have HM := Lib.hid hmb; have HB := Lib.hid hby; have HQ1 := Lib.hid q1
  clear hby hmb hq q1
  obtain ⟨q, st, nx⟩ := s
  dsimp only at htt HB HQ1
  simp at c0 c2
  unfold fifV at c0
  cases nx with
  | none =>
    obtain rfl := h.none_ rfl
    have HBW := Lib.hid (HB.out w HQ1.out)
    clear h
    go_enter Tryd.func92, Tryd.ntmps92
    go_wp2_with (refine wpList_invoke0 rfl (.tmp 25) #[] rfl HM.out rfl HBW.out (fun e w' ⟨h, _⟩ => ⟨_, h⟩) ?_; rintro v3 w3 ⟨e3, rfl⟩; injection e3 with e3; subst e3)
    go_ret
    exact ⟨by show Ending.returned (.int .i64 (Pl.tot q)) = .returned (.int .i64 (Pl.tot q + 0)); rw [Int.add_zero], Below.refl _ _⟩
  | some x =>
    obtain ⟨gn, rfl, hbn, _, hxl⟩ := h.some_ rfl
    have n1 := hbn.cell 1
    obtain ⟨⟨xa, xl, xf, xb, xm⟩, xn⟩ := x
    simp [hdArr] at n1
    dsimp only at hxl
    have e1 : IntKind.i64.wrap (Pl.tot q + xl) = Pl.tot q + xl := IntWalk.i64_in _ (by omega)
    clear h hbn
    go_enter Tryd.func92, Tryd.ntmps92
    go_upto_region 2 with fail
    refine wp_region_quiet_lit (by kernel_rfl) (by kernel_rfl) ?_
    repeat (quiet_step (fail))
    refine wpQuiet_invoke0 rfl (.tmp 11) #[] rfl HM.out rfl (fun n => (HB.out (w.drewN n) HQ1.out).mono fun e w' h => ⟨h.1, h.2.symm⟩) ?_
    repeat (quiet_step (fail))
    refine wpQuiet_nil ?_
    intro _ hw'
    obtain ⟨nq, rfl⟩ := hw'
    go_wp2_with fail
    go_ret
    exact ⟨rfl, bl_drewN (Below.refl _ _)⟩
end Go.Proofs.YtdhojhgmaodifaaDoor
