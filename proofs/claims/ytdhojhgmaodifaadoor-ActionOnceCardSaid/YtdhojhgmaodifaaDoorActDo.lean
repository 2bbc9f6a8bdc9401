/-
  What a program of actions does with a packet.
-/
import Derived.Test.YtdhojhgmaodifaaDoorAct
import Derived.Test.YtdhojhgmaodifaaDoorItemRng
import Derived.Test.YtdhojhgmaodifaaDoorQHd
import Derived.Test.YtdhojhgmaodifaaDoorHeld
import Derived.Deep.QuietTactic
import Derived.StillTailTactics
namespace Go.Proofs.YtdhojhgmaodifaaDoor
open Go.RowKit Bkt
set_option linter.unusedVariables false

def itArr (x : It) : Array Value := #[.int .i64 x.at_, .int .i64 x.len, .int .i64 x.flow, .int .i64 x.band, .int .i64 x.mark]
theorem blk_five {W : World} {g : Nat} {t : TypeId} {a0 a1 a2 a3 a4 : Value} (h : Blk W g t #[a0, a1, a2, a3, a4]) (u0 u1 u2 u3 u4 : Value) :
    Blk (((((W.setCell ⟨g, 0, none⟩ u0).setCell ⟨g, 1, none⟩ u1).setCell ⟨g, 2, none⟩ u2).setCell ⟨g, 3, none⟩ u3).setCell ⟨g, 4, none⟩ u4) g t #[u0, u1, u2, u3, u4] :=
  ((((h.set_ 0 u0).set_ 1 u1).set_ 2 u2).set_ 3 u3).set_ 4 u4
theorem chg_five (w : World) (g : Nat) (u0 u1 u2 u3 u4 : Value) : Chg w (((((w.setCell ⟨g, 0, none⟩ u0).setCell ⟨g, 1, none⟩ u1).setCell ⟨g, 2, none⟩ u2).setCell ⟨g, 3, none⟩ u3).setCell ⟨g, 4, none⟩ u4) (fun i => i = g) :=
  Chg.setCell (p := ⟨g, 4, none⟩) (Chg.setCell (p := ⟨g, 3, none⟩) (Chg.setCell (p := ⟨g, 2, none⟩) (Chg.setCell (p := ⟨g, 1, none⟩) (Chg.setCell (p := ⟨g, 0, none⟩) (Chg.refl w (fun i => i = g)) (fun _ => rfl) _) (fun _ => rfl) _) (fun _ => rfl) _) (fun _ => rfl) _) (fun _ => rfl) _
def errV (cyc : Bool) : Value := match cyc with | true => .iface 61 (.int .i64 11) | false => .nilIface
theorem bodyPost_is {P : Program} {f : Func} {Q : Ending → World → Prop} {x : Exit} {a : Act} {W : World} (h : ∀ Wf, Wf = W → bodyPost P f Q x a Wf) : bodyPost P f Q x a W := h W rfl
def DoOut (base : Nat) (w : World) (g : Nat) (Aa : Option Addr) (ca : Nat) (Ab : Option Addr) (cb : Nat) (l : List Actn.Ac) (gs : List Nat) (c : Nat → Int) (x : It) (e : Ending) (w' : World) : Prop :=
  ∃ s on cyc, e = .returned (.tuple #[itV s.x, .bool on, errV cyc]) ∧ Actn.Ends l ⟨0, x, c⟩ s on cyc ∧ PrgB base w' g Aa ca Ab cb l gs s.c ∧ Below base w w' ∧ Chg w w' (PF g Aa Ab gs)
structure DoRel (base : Nat) (w wr : World) (g : Nat) (Aa : Option Addr) (ca : Nat) (Ab : Option Addr) (cb : Nat) (l : List Actn.Ac) (gs : List Nat) (s0 : Actn.Sa) (k : Nat) (s : Actn.Sa) : Prop where
  st : Actn.Steps l s0 k s
  bx : Blk wr w.heap.size 39 (itArr s.x)
  bz : Blk wr (w.heap.size + 1) 39 #[.int .i64 0, .int .i64 0, .int .i64 0, .int .i64 0, .int .i64 0]
  prg : PrgB base wr g Aa ca Ab cb l gs s.c
  bel : Below base w wr
  chg : Chg w wr (PF g Aa Ab gs)
section
variable {base : Nat} {w wr w' : World} {g : Nat} {Aa : Option Addr} {ca : Nat} {Ab : Option Addr} {cb : Nat} {l : List Actn.Ac} {gs : List Nat} {s0 s s' : Actn.Sa} {k : Nat}
theorem DoRel.over (h : DoRel base w wr g Aa ca Ab cb l gs s0 k s) (hw : Below wr.heap.size wr w') (hb : base ≤ w.heap.size) : DoRel base w w' g Aa ca Ab cb l gs s0 k s :=
  ⟨h.st, h.bx.below hw h.bx.lt, h.bz.below hw h.bz.lt, h.prg.over hw, h.bel.trans (hw.mono (Nat.le_trans hb h.bel.size)), h.chg.trans (Chg.of_below hw) (fun _ _ h => h)⟩
theorem DoRel.quiet (h : DoRel base w wr g Aa ca Ab cb l gs s0 k s) (hs : Actn.Step l s s') (hx : s'.x = s.x) (hc : s'.c = s.c) (hw : Below wr.heap.size wr w') (hb : base ≤ w.heap.size) : DoRel base w w' g Aa ca Ab cb l gs s0 (k + 1) s' :=
  ⟨.snoc h.st hs, by rw [hx]; exact h.bx.below hw h.bx.lt, h.bz.below hw h.bz.lt, by rw [hc]; exact h.prg.over hw, h.bel.trans (hw.mono (Nat.le_trans hb h.bel.size)), h.chg.trans (Chg.of_below hw) (fun _ _ h => h)⟩
theorem DoRel.field (h : DoRel base w wr g Aa ca Ab cb l gs s0 k s) (hs : Actn.Step l s s') (j : Nat) (v : Value) (hx : itArr s'.x = (itArr s.x).setIfInBounds j v) (hc : s'.c = s.c) (hw : Below wr.heap.size wr w') (hb : base ≤ w.heap.size) (hl : ∀ i, PF g Aa Ab gs i → i < w.heap.size) :
    DoRel base w (w'.setCell ⟨w.heap.size, j, none⟩ v) g Aa ca Ab cb l gs s0 (k + 1) s' := by
  have hch : Chg w' (w'.setCell ⟨w.heap.size, j, none⟩ v) (fun i => i = w.heap.size) := Chg.setCell (p := ⟨w.heap.size, j, none⟩) (Chg.refl w' (fun i => i = w.heap.size)) (fun _ => rfl) _
  refine ⟨.snoc h.st hs, by rw [hx]; exact Blk.set_ (h.bx.below hw h.bx.lt) _ _, (h.bz.below hw h.bz.lt).chg hch (by omega), by rw [hc]; exact (h.prg.over hw).chg hch (fun i hi e => by have := hl i hi; omega), ?_, (h.chg.trans (S' := PF g Aa Ab gs) (Chg.of_below hw) (fun _ _ h => h)).setCell (p := ⟨w.heap.size, j, none⟩) (fun h => absurd h (Nat.lt_irrefl _)) v⟩
  exact (h.bel.trans (hw.mono (Nat.le_trans hb h.bel.size))).setCell (p := ⟨w.heap.size, j, none⟩) hb v
theorem DoRel.cnt {j : Nat} {x : It} {c : Nat → Int} {at_ : Nat} (h : at_ < l.length) (hk : (Actn.ax l at_).kind = 6) (ha : (Actn.ax l at_).a = j) : Actn.Step l ⟨at_, x, c⟩ ⟨at_ + 1, x, Actn.up c j⟩ := by
  rw [← ha]; exact .count h hk
theorem DoRel.count (h : DoRel base w wr g Aa ca Ab cb l gs s0 k s) {j : Nat} (hj : j < 8) (hs : Actn.Step l s s') (hx : s'.x = s.x) (hc : s'.c = Actn.up s.c j) (hw : Below wr.heap.size wr w') (hb : base ≤ w.heap.size) (hl : ∀ i, PF g Aa Ab gs i → i < w.heap.size) :
    DoRel base w (w'.setCell ⟨g, 2 + j, none⟩ (.int .i64 (IntKind.i64.wrap (s.c j + 1)))) g Aa ca Ab cb l gs s0 (k + 1) s' := by
  have hg := hl g (.inl rfl)
  refine ⟨.snoc h.st hs, by rw [hx]; exact (h.bx.below hw h.bx.lt).far (p := ⟨g, 2 + j, none⟩) (by show w.heap.size ≠ g; omega) _, (h.bz.below hw h.bz.lt).far (p := ⟨g, 2 + j, none⟩) (by show w.heap.size + 1 ≠ g; omega) _, by rw [hc]; exact (h.prg.over hw).count hj, ?_, (h.chg.trans (S' := PF g Aa Ab gs) (Chg.of_below hw) (fun _ _ h => h)).setCell (p := ⟨g, 2 + j, none⟩) (fun _ => .inl rfl) _⟩
  exact (h.bel.trans (hw.mono (Nat.le_trans hb h.bel.size))).setCell (p := ⟨g, 2 + j, none⟩) h.prg.bg _
theorem DoRel.took (h : DoRel base w wr g Aa ca Ab cb l gs s0 k s) {w1 w2 : World} (hs : Actn.Step l s s') (hx : s'.x = s.x) (hc : s'.c = s.c) (hw : Below wr.heap.size wr w1) {x : Nat} (hxg : x ∈ gs) (hg : w1.grownBy w2 (some x)) (hm : BkM w2 x) (hb : base ≤ w.heap.size) (hl : ∀ i, PF g Aa Ab gs i → i < w.heap.size) :
    DoRel base w w2 g Aa ca Ab cb l gs s0 (k + 1) s' := by
  have hxl := hl x (.inr (.inr (.inr hxg)))
  refine ⟨.snoc h.st hs, by rw [hx]; exact (h.bx.below hw h.bx.lt).grown hg (by intro e; injection e with e; omega), (h.bz.below hw h.bz.lt).grown hg (by intro e; injection e with e; omega), by rw [hc]; exact (h.prg.over hw).took hxg hg hm, ?_, (h.chg.trans (S' := PF g Aa Ab gs) (Chg.of_below hw) (fun _ _ h => h)).trans (S' := fun i => i = x) (Chg.of_grown hg (fun i e => by injection e)) (fun i _ e => by subst e; exact .inr (.inr (.inr hxg)))⟩
  have h1 := h.bel.trans (hw.mono (Nat.le_trans hb h.bel.size))
  exact h1.grown hg (Nat.le_trans hb h1.size) (fun q hq => by injection hq with hq; subst hq; exact (h.prg.bk _ hxg).1.1)
theorem DoRel.done {x : It} {c : Nat → Int} (h : DoRel base w wr g Aa ca Ab cb l gs ⟨0, x, c⟩ k s) {on cyc : Bool} (he : (k < 100 ∧ cyc = false ∧ ((on = true ∧ (l.length ≤ s.at_ ∨ s.at_ < l.length ∧ (Actn.ax l s.at_).kind = 1)) ∨ (on = false ∧ s.at_ < l.length ∧ (Actn.ax l s.at_).kind = 2))) ∨ (k = 100 ∧ cyc = true ∧ on = false)) {e : Ending} (hee : e = .returned (.tuple #[itV s.x, .bool on, errV cyc]))
    (hch : Chg wr w' (fun i => i = w.heap.size + 1)) (hb : base ≤ w.heap.size) (hl : ∀ i, PF g Aa Ab gs i → i < w.heap.size) : DoOut base w g Aa ca Ab cb l gs c x e w' := by
  refine ⟨s, on, cyc, hee, ⟨k, h.st, he⟩, h.prg.chg hch (fun i hi e => by have := hl i hi; omega), ?_, h.chg.trans hch (fun i hi e => by omega)⟩
  exact h.bel.trans (hch.below (Nat.le_trans hb h.bel.size) (fun i hi e => by omega))
end

set_option maxHeartbeats 4000000 in
set_option maxRecDepth 100000 in
theorem do_yes (base g : Nat) (Aa : Option Addr) (ca : Nat) (Ab : Option Addr) (cb : Nat) (l : List Actn.Ac) (gs : List Nat) (c : Nat → Int) (x : It) (w : World) (hp : PrgB base w g Aa ca Ab cb l gs c) (hok : Actn.AllOk l gs.length l.length) (hx : ItFine x) (hn : l.length ≤ 50) (hb : base ≤ w.heap.size) :
    Calls Tryd.prog 29 #[.pointer (some ⟨g, 0, none⟩), itV x] w (DoOut base w g Aa ca Ab cb l gs c x) := by
  have hl := hp.lt
  have hxb0 : (0 ≤ x.at_ ∧ x.at_ ≤ 1000000000) ∧ 1 ≤ x.len ∧ x.len ≤ 10000 := ⟨hx.f0, hx.f1⟩
  have hit := fun W => item_yes x W hx
  have hk0 := (Blk.new w 39 (itArr x)).alloc (.cells #[.int .i64 0, .int .i64 0, .int .i64 0, .int .i64 0, .int .i64 0] 39)
  have hk1 := Blk.new (w.alloc (.cells (itArr x) 39)) 39 #[.int .i64 0, .int .i64 0, .int .i64 0, .int .i64 0, .int .i64 0]
  have hb0 : Below w.heap.size w ((w.alloc (.cells (itArr x) 39)).alloc (.cells #[.int .i64 0, .int .i64 0, .int .i64 0, .int .i64 0, .int .i64 0] 39)) := ((Below.refl _ _).alloc (Nat.le_refl _) _).alloc (by simp) _
  have HL := Lib.hid hl; have HP := Lib.hid hp; have HOK := Lib.hid hok; have HIT := Lib.hid hit; have HK0 := Lib.hid hk0; have HK1 := Lib.hid hk1; have HB0 := Lib.hid hb0
  have HXB := Lib.hid hxb0
  clear hl hp hok hit hk0 hk1 hb0 hx hxb0
  obtain ⟨xa, xl, xf, xb, xm⟩ := x
  unfold itV itArr at *
  dsimp only at *
  go_enter Tryd.func29, Tryd.ntmps29
  go_wp2_with fail
  refine (HIT.out _).mono ?_
  rintro e w1 ⟨rfl, hb1⟩
  have hrel : DoRel base w w1 g Aa ca Ab cb l gs ⟨0, ⟨xa, xl, xf, xb, xm⟩, c⟩ 0 ⟨0, ⟨xa, xl, xf, xb, xm⟩, c⟩ := by
    have h2 := HB0.out.trans (hb1.mono (by simp; omega))
    refine ⟨.zero, HK0.out.below hb1 HK0.out.lt, ?_, HP.out.over h2, h2.mono hb, Chg.of_below h2⟩
    have := HK1.out.below hb1 HK1.out.lt
    simpa using this
  have HREL0 := Lib.hid hrel
  clear hrel hb1
  go_wp2_with fail
  go_loopw [8, 17] (fun a i wr => ∃ (k : Nat) (s : Actn.Sa), k ≤ 100 ∧ i = .int .i64 k ∧ a = .int .i64 s.at_ ∧ DoRel base w wr g Aa ca Ab cb l gs ⟨0, ⟨xa, xl, xf, xb, xm⟩, c⟩ k s) (fun _ i _ => 100 - (intOf i).toNat)
  case atStart => exact ⟨0, _, by omega, rfl, rfl, HREL0.out⟩
  case round =>
    obtain ⟨k, s, hk, rfl, rfl, hrel⟩ := hrel
    have HREL := Lib.hid hrel
    have hbx := hrel.bx
    have hbz := hrel.bz
    have hpb := hrel.prg.blk
    have hfl := hrel.st.flds
    have hxb : (0 ≤ s.x.at_ ∧ s.x.at_ ≤ 1000000000) ∧ 1 ≤ s.x.len ∧ s.x.len ≤ 10000 := by
      rw [hfl.at_, hfl.len]
      exact HXB.out
    clear hfl
    clear hrel
    obtain ⟨at_, ⟨ya, yl, yf, yb, ym⟩, d⟩ := s
    unfold itArr at hbx
    dsimp only at hbx hpb
    have x0 := hbx.cell 0; have x1 := hbx.cell 1; have x2 := hbx.cell 2; have x3 := hbx.cell 3; have x4 := hbx.cell 4
    have z0 := hbz.cell 0; have z1 := hbz.cell 1; have z2 := hbz.cell 2; have z3 := hbz.cell 3; have z4 := hbz.cell 4
    have fz0 := hbz.frozen 0; have fz1 := hbz.frozen 1; have fz2 := hbz.frozen 2; have fz3 := hbz.frozen 3; have fz4 := hbz.frozen 4
    have fx2 := hbx.frozen 2; have fx3 := hbx.frozen 3; have fx4 := hbx.frozen 4
    have p0 : wr.cell? ⟨g, 0, none⟩ = some (.slice Aa l.length ca) := hpb.cell 0
    simp at x0 x1 x2 x3 x4 z0 z1 z2 z3 z4
    have hsz : w.heap.size + 1 < wr.heap.size := hbz.lt
    have hgs : g < wr.heap.size := hpb.lt
    have n1 : w.heap.size ≠ wr.heap.size := by omega
    have n4 : w.heap.size < wr.heap.size := by omega
    have n2 : w.heap.size + 1 ≠ wr.heap.size := by omega
    have n3 : g ≠ wr.heap.size := by omega
    have HBZ := Lib.hid hbz; have HBX := Lib.hid hbx; have HPB := Lib.hid hpb
    dsimp only at hxb
    have HX := Lib.hid hxb
    clear hbx hbz hpb hxb
    by_cases hlt : k < 100
    · have ik : (k : Int) < 100 := by omega
      by_cases hat : at_ < l.length
      · have ia : (at_ : Int) < (l.length : Int) := by omega
        obtain ⟨b, off, rfl, hbB⟩ := HREL.out.prg.la.addr hat
        obtain ⟨c0, c1, c2⟩ := rdAc_at HREL.out.prg.la hat
        have hac := HOK.out at_ hat
        generalize hq : Actn.ax l at_ = q at *
        have HQ := Lib.hid hq
        clear hq
        obtain ⟨qk, qa, qb⟩ := q
        obtain ⟨⟨k1, k2⟩, ha, hbb, _, _⟩ := hac
        dsimp only at c0 c1 c2 k1 k2 ha hbb
        have hcases : qk = 1 ∨ qk = 2 ∨ qk = 3 ∨ qk = 4 ∨ qk = 5 ∨ qk = 6 ∨ qk = 7 ∨ qk = 8 ∨ qk = 9 ∨ qk = 10 := by omega
        have hkk : (Actn.ax l at_).kind = qk := by rw [HQ.out]
        have hka : (Actn.ax l at_).a = qa := by rw [HQ.out]
        have hkb : (Actn.ax l at_).b = qb := by rw [HQ.out]
        have HKK := Lib.hid hkk; have HKA := Lib.hid hka; have HKB := Lib.hid hkb
        have hw0 : ∀ o, Below wr.heap.size wr (wr.alloc o) := fun o => (Below.refl _ _).alloc (Nat.le_refl _) _
        have HW0 := Lib.hid hw0
        clear hkk hka hkb HQ k1 k2 hw0
        rcases hcases with rfl | rfl | rfl | rfl | rfl | rfl | rfl | rfl | rfl | rfl
        · clear ha hbb
          go_wp2_with fail
          refine bodyPost_is fun Wf hWf => ?_
          have hch : Chg wr Wf (fun i => i = w.heap.size + 1) := by
            rw [hWf]
            exact (chg_five _ _ _ _ _ _ _).alloc _
          have hkf : Blk Wf (w.heap.size + 1) 39 #[.int .i64 ya, .int .i64 yl, .int .i64 yf, .int .i64 yb, .int .i64 ym] := by rw [hWf]; exact (blk_five HBZ.out _ _ _ _ _).alloc _
          clear hWf
          have r0 := hkf.cell 0; have r1 := hkf.cell 1; have r2 := hkf.cell 2; have r3 := hkf.cell 3; have r4 := hkf.cell 4
          simp at r0 r1 r2 r3 r4
          refine bodyPost_ret (v := .tuple #[itV ⟨ya, yl, yf, yb, ym⟩, .bool true, .nilIface]) (by simp [results, Tryd.results29, go_sem, itV, r0, r1, r2, r3, r4]) rfl ?_
          exact HREL.out.done (on := true) (cyc := false) (.inl ⟨hlt, rfl, .inl ⟨rfl, .inr ⟨hat, HKK.out⟩⟩⟩) rfl hch hb HL.out
        · clear ha hbb
          go_wp2_with fail
          refine bodyPost_is fun Wf hWf => ?_
          have hch : Chg wr Wf (fun i => i = w.heap.size + 1) := by
            rw [hWf]
            exact (chg_five _ _ _ _ _ _ _).alloc _
          have hkf : Blk Wf (w.heap.size + 1) 39 #[.int .i64 ya, .int .i64 yl, .int .i64 yf, .int .i64 yb, .int .i64 ym] := by rw [hWf]; exact (blk_five HBZ.out _ _ _ _ _).alloc _
          clear hWf
          have r0 := hkf.cell 0; have r1 := hkf.cell 1; have r2 := hkf.cell 2; have r3 := hkf.cell 3; have r4 := hkf.cell 4
          simp at r0 r1 r2 r3 r4
          refine bodyPost_ret (v := .tuple #[itV ⟨ya, yl, yf, yb, ym⟩, .bool false, .nilIface]) (by simp [results, Tryd.results29, go_sem, itV, r0, r1, r2, r3, r4]) rfl ?_
          exact HREL.out.done (on := false) (cyc := false) (.inl ⟨hlt, rfl, .inr ⟨rfl, hat, HKK.out⟩⟩) rfl hch hb HL.out
        · clear ha hbb
          go_wp2_with fail
          refine ⟨⟨k + 1, ⟨at_ + 1, ⟨ya, yl, yf, yb, qa⟩, d⟩, by omega, by go_num, by go_num, ?_⟩, by simp [intOf]; omega⟩
          exact (HREL.out.field (s' := ⟨at_ + 1, ⟨ya, yl, yf, yb, qa⟩, d⟩) (by rw [← HKA.out]; exact .mark hat HKK.out) 4 _ rfl rfl (Below.refl _ _) hb HL.out).over (bl_alloc (Below.refl _ _)) hb
        · clear ha hbb
          go_wp2_with fail
          refine ⟨⟨k + 1, ⟨at_ + 1, ⟨ya, yl, yf, qa, ym⟩, d⟩, by omega, by go_num, by go_num, ?_⟩, by simp [intOf]; omega⟩
          exact (HREL.out.field (s' := ⟨at_ + 1, ⟨ya, yl, yf, qa, ym⟩, d⟩) (by rw [← HKA.out]; exact .band hat HKK.out) 3 _ rfl rfl (Below.refl _ _) hb HL.out).over (bl_alloc (Below.refl _ _)) hb
        · clear ha hbb
          go_wp2_with fail
          refine ⟨⟨k + 1, ⟨at_ + 1, ⟨ya, yl, qa, yb, ym⟩, d⟩, by omega, by go_num, by go_num, ?_⟩, by simp [intOf]; omega⟩
          exact (HREL.out.field (s' := ⟨at_ + 1, ⟨ya, yl, qa, yb, ym⟩, d⟩) (by rw [← HKA.out]; exact .flow hat HKK.out) 2 _ rfl rfl (Below.refl _ _) hb HL.out).over (bl_alloc (Below.refl _ _)) hb
        · obtain ⟨a0, a1⟩ := ha (by omega)
          have a2 : qa ≤ 7 := a1
          obtain ⟨j, rfl⟩ : ∃ j : Nat, qa = j := ⟨qa.toNat, by omega⟩
          have hj : j < 8 := by omega
          have pj : wr.cell? ⟨g, 2 + j, none⟩ = some (.int .i64 (d j)) := (HPB.out.cell (2 + j)).trans (prg_get _ _ _ hj)
          have fj : wr.frozen? ⟨g, 2 + j, none⟩ = false := HPB.out.frozen _
          have ij : (j : Int) < 8 := by omega
          clear ha hbb a1
          go_wp2_with fail
          go_region
          all_goals
            go_wp2_with fail
            refine ⟨⟨k + 1, ⟨at_ + 1, ⟨ya, yl, yf, yb, ym⟩, Actn.up d j⟩, by omega, by go_num, by go_num, ?_⟩, by simp [intOf]; omega⟩
            have hwr : wrap64 (d j + 1) = IntKind.i64.wrap (d j + 1) := (IntWalk.i64_left _).symm
            rw [hwr]
            exact (HREL.out.count hj (DoRel.cnt hat HKK.out HKA.out) rfl rfl (Below.refl _ _) hb HL.out).over (bl_drew (bl_alloc (Below.refl _ _))) hb
        · obtain ⟨a0, a1⟩ := ha (by omega)
          clear ha hbb a1
          go_wp2_with fail
          refine ⟨⟨k + 1, ⟨qa.toNat, ⟨ya, yl, yf, yb, ym⟩, d⟩, by omega, by go_num, by congr 1; dsimp only; omega, ?_⟩, by simp [intOf]; omega⟩
          exact HREL.out.quiet (s' := ⟨qa.toNat, ⟨ya, yl, yf, yb, ym⟩, d⟩) (by rw [← HKA.out]; exact .jump hat HKK.out) rfl rfl (HW0.out _) hb
        · obtain ⟨b0, b1⟩ := hbb (by omega)
          clear ha hbb b1
          by_cases hc : ym = qa
          · have hcb : (ym == qa) = true := by simpa using hc
            go_wp2_with fail
            refine ⟨⟨k + 1, ⟨qb.toNat, ⟨ya, yl, yf, yb, ym⟩, d⟩, by omega, by go_num, by congr 1; dsimp only; omega, ?_⟩, by simp [intOf]; omega⟩
            exact HREL.out.quiet (s' := ⟨qb.toNat, ⟨ya, yl, yf, yb, ym⟩, d⟩) (by rw [← HKB.out]; exact .meet hat HKK.out (by rw [HKA.out]; exact hc)) rfl rfl (HW0.out _) hb
          · have hcb : (ym == qa) = false := by simpa using hc
            go_wp2_with fail
            refine ⟨⟨k + 1, ⟨at_ + 1, ⟨ya, yl, yf, yb, ym⟩, d⟩, by omega, by go_num, by go_num, ?_⟩, by simp [intOf]; omega⟩
            exact HREL.out.quiet (.pass hat HKK.out (by rw [HKA.out]; exact hc)) rfl rfl (HW0.out _) hb
        · obtain ⟨a0, a1⟩ := ha (by omega)
          obtain ⟨b0, b1⟩ := hbb (by omega)
          have a2 : qa ≤ (gs.length : Int) - 1 := a1
          clear ha hbb a1 b1
          obtain ⟨j, rfl⟩ : ∃ j : Nat, qa = j := ⟨qa.toNat, by omega⟩
          have hj : j < gs.length := by omega
          have ij : (j : Int) < (gs.length : Int) := by omega
          have p1 : wr.cell? ⟨g, 1, none⟩ = some (.slice Ab gs.length cb) := HPB.out.cell 1
          obtain ⟨bb, ob, rfl, hbbB, pc⟩ := HREL.out.prg.pb.at_ hj
          have hmem : gs.getD j 0 ∈ gs := by
            rw [List.getD, List.getElem?_eq_getElem hj]
            exact List.getElem_mem hj
          have hbk := HREL.out.prg.bk _ hmem
          generalize gs.getD j 0 = y at *
          obtain ⟨hbk1, hbk2, kk, ss, hst, hkk, hso, hsl⟩ := hbk
          have hyl : y < wr.heap.size := Blk.lt hst
          have n5 : bb < wr.heap.size := hbbB
          have hx2 := HX.out
          have htk : ∀ W, Below wr.heap.size wr W → Calls Tryd.prog 45 #[.pointer (some ⟨y, 0, none⟩), .int .i64 ya, .int .i64 yl] W (BTakeOut W y (Bkt.take kk ss ya yl) kk (Bkt.okB kk ss ya yl)) := fun W hW =>
            take_any kk ss y ya yl W hkk (Blk.below hst hW hyl) hso.last hsl hx2.1.2 hso.has0 hso.has1 (by omega) (by omega)
          have hsok := sok_take (now := ya) hkk hso (show 0 ≤ yl by omega)
          have hsll : (Bkt.take kk ss ya yl).last ≤ 1000000000 := by rw [last_take]; omega
          have HTK := Lib.hid htk; have HBK := Lib.hid hkk; have HSO := Lib.hid hsok; have HSL := Lib.hid hsll; have HMM := Lib.hid hmem
          clear htk hkk hso hsok hsl hst hbk1 hbk2 hmem hx2
          generalize Bkt.take kk ss ya yl = s2 at *
          generalize Bkt.okB kk ss ya yl = ok at *
          go_wp2_with fail
          have t0 := (World.cell?_alloc_lt wr (.cells #[.int .i64 9, .int .i64 j, .int .i64 qb] 65) ⟨g, 1, none⟩ hgs).trans p1
          have t1 := (World.cell?_alloc_lt wr (.cells #[.int .i64 9, .int .i64 j, .int .i64 qb] 65) ⟨bb, ob + j, none⟩ n5).trans pc
          have t2 := (World.cell?_alloc_lt wr (.cells #[.int .i64 9, .int .i64 j, .int .i64 qb] 65) ⟨w.heap.size, 0, none⟩ n4).trans x0
          have t3 := (World.cell?_alloc_lt wr (.cells #[.int .i64 9, .int .i64 j, .int .i64 qb] 65) ⟨w.heap.size, 1, none⟩ n4).trans x1
          have t4 : (wr.alloc (.cells #[.int .i64 9, .int .i64 j, .int .i64 qb] 65)).cell? ⟨wr.heap.size, 1, none⟩ = some (.int .i64 j) := (Blk.new wr 65 #[.int .i64 9, .int .i64 j, .int .i64 qb]).cell 1
          have t5 := (Blk.new wr 65 #[.int .i64 9, .int .i64 j, .int .i64 qb])
          have bw := HW0.out (.cells #[.int .i64 9, .int .i64 j, .int .i64 qb] 65)
          have T5 := Lib.hid t5; have BW := Lib.hid bw
          clear t5 bw c0 c1 c2 p0 p1 pc x0 x1 x2 x3 x4 z0 z1 z2 z3 z4 fz0 fz1 fz2 fz3 fz4 fx2 fx3 fx4
          generalize wr.alloc (.cells #[.int .i64 9, .int .i64 j, .int .i64 qb] 65) = W3 at *
          go_still_tail 12, (by kernel_rfl)
          change wpList _ _ _ _ _ (World.drew _)
          go_wp2_with fail
          (with_reducible refine (HTK.out _ ?_).mono ?_)
          · exact bl_drew BW.out
          rintro e w4 ⟨rfl, hg4, hs4⟩
          have hm4 : BkM w4 y := ⟨_, _, hs4, HBK.out, HSO.out, HSL.out⟩
          have hg5 := only_drew hg4
          have u0 : w4.cell? ⟨wr.heap.size, 2, none⟩ = some (.int .i64 qb) := ((World.cell?_of_block (hg4.block wr.heap.size T5.out.lt (by simp; omega))).trans ((Blk.drew T5.out).cell 2))
          have HG4 := Lib.hid hg4; have HM4 := Lib.hid hm4
          clear hg4 hs4 hm4 hg5 t0 t1 t2 t3 t4
          cases ok
          · go_wp2_with fail
            refine ⟨⟨k + 1, ⟨qb.toNat, ⟨ya, yl, yf, yb, ym⟩, d⟩, by omega, by go_num, by congr 1; dsimp only; omega, ?_⟩, by simp [intOf]; omega⟩
            exact HREL.out.took (s' := ⟨qb.toNat, ⟨ya, yl, yf, yb, ym⟩, d⟩) (by rw [← HKB.out]; exact .lacks hat HKK.out) rfl rfl (bl_drew BW.out) HMM.out HG4.out HM4.out hb HL.out
          · go_wp2_with fail
            refine ⟨⟨k + 1, ⟨at_ + 1, ⟨ya, yl, yf, yb, ym⟩, d⟩, by omega, by go_num, by go_num, ?_⟩, by simp [intOf]; omega⟩
            exact HREL.out.took (s' := ⟨at_ + 1, ⟨ya, yl, yf, yb, ym⟩, d⟩) (.takes hat HKK.out) rfl rfl (bl_drew BW.out) HMM.out HG4.out HM4.out hb HL.out
        · obtain ⟨b0, b1⟩ := hbb (by omega)
          clear ha hbb b1
          by_cases hc : qa < yl
          · skip
            go_wp2_with fail
            refine ⟨⟨k + 1, ⟨qb.toNat, ⟨ya, yl, yf, yb, ym⟩, d⟩, by omega, by go_num, by congr 1; dsimp only; omega, ?_⟩, by simp [intOf]; omega⟩
            exact HREL.out.quiet (s' := ⟨qb.toNat, ⟨ya, yl, yf, yb, ym⟩, d⟩) (by rw [← HKB.out]; exact .cut hat HKK.out (by rw [HKA.out]; exact hc)) rfl rfl (HW0.out _) hb
          · have hc' : yl ≤ qa := by omega
            go_wp2_with fail
            refine ⟨⟨k + 1, ⟨at_ + 1, ⟨ya, yl, yf, yb, ym⟩, d⟩, by omega, by go_num, by go_num, ?_⟩, by simp [intOf]; omega⟩
            exact HREL.out.quiet (.fits hat HKK.out (by rw [HKA.out]; exact hc')) rfl rfl (HW0.out _) hb
      · have ia : (l.length : Int) ≤ (at_ : Int) := by omega
        go_wp2_with fail
        refine bodyPost_is fun Wf hWf => ?_
        have hch : Chg wr Wf (fun i => i = w.heap.size + 1) := by
          rw [hWf]
          exact chg_five _ _ _ _ _ _ _
        have hkf : Blk Wf (w.heap.size + 1) 39 #[.int .i64 ya, .int .i64 yl, .int .i64 yf, .int .i64 yb, .int .i64 ym] := by rw [hWf]; exact blk_five HBZ.out _ _ _ _ _
        clear hWf
        have r0 := hkf.cell 0; have r1 := hkf.cell 1; have r2 := hkf.cell 2; have r3 := hkf.cell 3; have r4 := hkf.cell 4
        simp at r0 r1 r2 r3 r4
        refine bodyPost_ret (v := .tuple #[itV ⟨ya, yl, yf, yb, ym⟩, .bool true, .nilIface]) (by simp [results, Tryd.results29, go_sem, itV, r0, r1, r2, r3, r4]) rfl ?_
        exact HREL.out.done (on := true) (cyc := false) (.inl ⟨hlt, rfl, .inl ⟨rfl, .inl (by dsimp only; omega)⟩⟩) rfl hch hb HL.out
    · obtain rfl : k = 100 := by omega
      clear p0 fx2 fx3 fx4
      go_wp2_with fail
      refine bodyPost_is fun Wf hWf => ?_
      have hch : Chg wr Wf (fun i => i = w.heap.size + 1) := by
        rw [hWf]
        exact chg_five _ _ _ _ _ _ _
      have hkf : Blk Wf (w.heap.size + 1) 39 #[.int .i64 ya, .int .i64 yl, .int .i64 yf, .int .i64 yb, .int .i64 ym] := by rw [hWf]; exact blk_five HBZ.out _ _ _ _ _
      clear hWf
      have r0 := hkf.cell 0; have r1 := hkf.cell 1; have r2 := hkf.cell 2; have r3 := hkf.cell 3; have r4 := hkf.cell 4
      simp at r0 r1 r2 r3 r4
      refine bodyPost_ret (v := .tuple #[itV ⟨ya, yl, yf, yb, ym⟩, .bool false, .iface 61 (.int .i64 11)]) (by simp [results, Tryd.results29, go_sem, itV, r0, r1, r2, r3, r4]) rfl ?_
      exact HREL.out.done (on := false) (cyc := true) (.inr ⟨rfl, rfl, rfl⟩) rfl hch hb HL.out
end Go.Proofs.YtdhojhgmaodifaaDoor
