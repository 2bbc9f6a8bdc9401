/-
  Texts of this claim, one behind the other: LnkRun.
-/
import Derived.Test.YtgdijbaodfghjaaGreatDoorZ19
import Derived.Test.YtgdijbaodfghjaaGreatDoorZ18
import Derived.Test.YtgdijbaodfghjaaGreatDoorZ25
import Derived.Deep.RegionLaw
import Derived.Deep.CutRange
import Derived.Deep.CutBlock
/-
  A run over a wire: link.Run, over any queue that is its machine, with an invariant of the run.
-/
namespace Go.Proofs.YtgdijbaodfghjaaGreatDoor
open Go.RowKit Bkt
set_option linter.unusedVariables false

theorem step_invoke2 {q : Value} {name : String} {f : FuncId} {r : Value} {W : World} {ops : Array Oper} {o : Oper} {a : Act} {K : Act → World → Prop} {Q : Exit → Act → World → Prop} {E : Prop} {vx vy : Value} (hgd : o.guard = none) (rv : Operand) (x y : Operand) (tys : Array TypeId)
    (ho : o.op = .call { callee := .invoke rv name, args := #[x, y], argTypes := tys }) (hm : Meth q name f r) (hq : a.eval rv = q) (hx : a.eval x = vx) (hy : a.eval y = vy) {R : Ending → World → Prop} (hc : Calls Tryz.prog f #[r, vx, vy] W R) (hR : ∀ e w', R e w' → ∃ v, e = .returned v)
    (h : ∀ v w', R (.returned v) w' → K (a.put o.dst v) w') : if Region.wanted o (yielded ops a.tmps) = true then Oper.wp Tryz.prog o a W K Q else E := by
  have hw : Region.wanted o (yielded ops a.tmps) = true := by simp [Region.wanted, hgd]
  rw [if_pos hw]
  subst hx hy
  unfold Oper.wp execOp
  simp only [ho, resolve, invoke, Sem.run_bind, Sem.run_pure, Result.andThen_ok]
  rw [hq]
  have e1 : (#[q] ++ (#[x, y] : Array Operand).map a.eval)[0]? = some q := by rw [Array.getElem?_append_left (by simp)]; rfl
  have e2 : (#[q] ++ (#[x, y] : Array Operand).map a.eval).extract 1 = (#[x, y] : Array Operand).map a.eval := extract_one q _
  rw [e1]
  dsimp only
  rw [e2, hm _ W]
  have e3 : #[r] ++ (#[x, y] : Array Operand).map a.eval = #[r, a.eval x, a.eval y] := by simp
  rw [e3]
  show Calls _ _ _ _ _
  refine hc.mono fun e w' hr => ?_
  obtain ⟨v, rfl⟩ := hR e w' hr
  exact h v w' hr
theorem step_invoke0 {q : Value} {name : String} {f : FuncId} {r : Value} {W : World} {ops : Array Oper} {o : Oper} {a : Act} {K : Act → World → Prop} {Q : Exit → Act → World → Prop} {E : Prop} (hgd : o.guard = none) (rv : Operand) (tys : Array TypeId)
    (ho : o.op = .call { callee := .invoke rv name, args := #[], argTypes := tys }) (hm : Meth q name f r) (hq : a.eval rv = q) {R : Ending → World → Prop} (hc : Calls Tryz.prog f #[r] W R) (hR : ∀ e w', R e w' → ∃ v, e = .returned v)
    (h : ∀ v w', R (.returned v) w' → K (a.put o.dst v) w') : if Region.wanted o (yielded ops a.tmps) = true then Oper.wp Tryz.prog o a W K Q else E := by
  have hw : Region.wanted o (yielded ops a.tmps) = true := by simp [Region.wanted, hgd]
  rw [if_pos hw]
  unfold Oper.wp execOp
  simp only [ho, resolve, invoke, Sem.run_bind, Sem.run_pure, Result.andThen_ok]
  rw [hq]
  have e1 : (#[q] ++ (#[] : Array Operand).map a.eval)[0]? = some q := by rw [Array.getElem?_append_left (by simp)]; rfl
  have e2 : (#[q] ++ (#[] : Array Operand).map a.eval).extract 1 = (#[] : Array Operand).map a.eval := extract_one q _
  rw [e1]
  dsimp only
  rw [e2, hm _ W]
  have e3 : #[r] ++ (#[] : Array Operand).map a.eval = #[r] := by simp
  rw [e3]
  show Calls _ _ _ _ _
  refine hc.mono fun e w' hr => ?_
  obtain ⟨v, rfl⟩ := hR e w' hr
  exact h v w' hr
def RunOut {M : Pl.QM} (R : Pl.Lk M.σ → Prop) (until_ : Int) (w : World) (F0 : Nat → Prop) (e : Ending) (w' : World) : Prop :=
  ∃ (S : Pl.Lk M.σ) (As Al : Option Addr) (cs cl : Nat), e = .returned (.tuple #[.agg #[.slice As S.sent.length cs, .slice Al S.lost.length cl, .int .i64 (M.len S.q), .int .i64 S.most], .nilIface]) ∧ Hid (R S ∧ (0 ≤ S.now ∧ S.now ≤ until_) ∧ RdR SntR w' w'.heap.size As S.sent.length S.sent ∧ RdR IntR w' w'.heap.size Al S.lost.length S.lost ∧ Chg w w' F0 ∧ (∀ ad, As = some ad → w.heap.size ≤ ad.block) ∧ ∀ ad, Al = some ad → w.heap.size ≤ ad.block)
structure NxR (nt : Option Int) (now t : Int) (ok : Bool) : Prop where
  ok : ok = nt.isSome
  t : ∀ x, nt = some x → t = x ∧ now < x
structure CndR (nt : Option Int) (now : Int) (L : Prop) (at_ t4 : Int) (ok4 c : Bool) : Prop where
  lt : c = true → L
  nx : NxR nt now (match c with | true => at_ | false => t4) (match c with | true => true | false => ok4)
theorem NxR.yes {nt : Option Int} {now t : Int} (h : nt = some t) (hn : now < t) : NxR nt now t true := ⟨by rw [h]; rfl, fun x e => by rw [h] at e; obtain rfl := Option.some.inj e; exact ⟨rfl, hn⟩⟩
theorem NxR.no {nt : Option Int} {now t : Int} (h : nt = none) : NxR nt now t false := ⟨by rw [h]; rfl, fun x e => by rw [h] at e; cases e⟩
theorem bodyPost_isL {P : Program} {f : Func} {Q : Ending → World → Prop} {x : Exit} {a : Act} {W : World} (h : ∀ Wf, Wf = W → bodyPost P f Q x a Wf) : bodyPost P f Q x a W := h W rfl
theorem rd_ownW {α : Type} (R : Rec α) {w : World} {base size n c : Nat} {e : TypeId} {A : Option Addr} {l : List α} (h : OwnW w base e size (.slice A n c) n (l.flatMap R.cells)) (hs : size = R.sz) : RdR R w w.heap.size A n l := by
  subst hs
  obtain ⟨A', c', e1, _, _, hr⟩ := h.reads
  injection e1 with e1 _ _
  subst e1
  exact hr
theorem blk_4L {W : World} {g : Nat} {t : TypeId} {a0 a1 a2 a3 : Value} (h : Blk W g t #[a0, a1, a2, a3]) (u0 u1 u2 u3 : Value) :
    Blk ((((W.setCell ⟨g, 0, none⟩ u0).setCell ⟨g, 1, none⟩ u1).setCell ⟨g, 2, none⟩ u2).setCell ⟨g, 3, none⟩ u3) g t #[u0, u1, u2, u3] :=
  (((h.set_ 0 u0).set_ 1 u1).set_ 2 u2).set_ 3 u3
theorem chg_4L (w : World) (g : Nat) (u0 u1 u2 u3 : Value) : Chg w ((((w.setCell ⟨g, 0, none⟩ u0).setCell ⟨g, 1, none⟩ u1).setCell ⟨g, 2, none⟩ u2).setCell ⟨g, 3, none⟩ u3) (fun i => i = g) :=
  Chg.setCell (p := ⟨g, 3, none⟩) (Chg.setCell (p := ⟨g, 2, none⟩) (Chg.setCell (p := ⟨g, 1, none⟩) (Chg.setCell (p := ⟨g, 0, none⟩) (Chg.refl w (fun i => i = g)) (fun _ => rfl) _) (fun _ => rfl) _) (fun _ => rfl) _) (fun _ => rfl) _
set_option maxHeartbeats 8000000 in
set_option maxRecDepth 100000 in
theorem run_yes {M : Pl.QM} {inv : M.σ → Nat → (Nat → Prop) → World → Prop} {T : TypeId} {v : Value} {base : Nat} (I : QImp M (.iface T v) base inv) (l : List It) (rb rt until_ : Int) {P Q R : Pl.Lk M.σ → Prop} (J : Pl.LnkInv M l rb rt until_ P Q R)
    (hlen : ∀ S, P S → ∀ x, (M.take S.now S.q).1 = some x → 0 ≤ x.it.len ∧ x.it.len ≤ 10000) (A : Option Addr) (n c : Nat) (s0 : M.σ) (F0 : Nat → Prop) (w : World) (hr : RdIt w w.heap.size A n l) (hg : Handle w) (hA : 0 < n → ∀ ad, A = some ad → ¬ F0 ad.block)
    (hf : ListFine l) (hs : SpeedOk rb rt) (hu : 0 ≤ until_ ∧ until_ ≤ 10000000) (hi : inv s0 0 F0 w) (hP : P (Pl.Lk.start s0)) (hF0 : ∀ i, F0 i → i < w.heap.size)
    (hlost : ∀ S, P S → S.lost.length ≤ 1000 ∧ S.sent.length ≤ 1000) (hna : ∀ W : World, (nilAhead (Tryz.prog.types.size + Made.depth) T v "Put").run Tryz.prog W = .ok (some false) W) :
    Calls Tryz.prog 20 #[.iface T v, .agg #[.int .i64 rb, .int .i64 rt], .slice A n c, .int .i64 until_] w (RunOut R until_ w F0) := by
  have hll := hr.len
  have hn : n ≤ 100 := by have := hf.1; omega
  have hsp := fun W => speed_yes rb rt W hs
  have HSP := Lib.hid hsp; have HR := Lib.hid hr; have HG := Lib.hid hg; have HF := Lib.hid hf; have HI := Lib.hid hi; have HLL := Lib.hid hll; have HIM := Lib.hid I; have HJ := Lib.hid J; have HLEN := Lib.hid hlen; have HA := Lib.hid hA; have HS := Lib.hid hs; have HP0 := Lib.hid hP; have HF0 := Lib.hid hF0
  obtain ⟨u0, u1⟩ := hu
  have d0 : decide (until_ < 0) = false := decide_eq_false (by omega)
  have d1 : decide ((10000000 : Int) < until_) = false := decide_eq_false (by omega)
  have hb0 : Below w.heap.size w ((w.alloc (.cells #[.int .i64 rb, .int .i64 rt] 23)).alloc (.cells logZ 28)) := bl_alloc (bl_alloc (Below.refl _ _))
  have hkr := (Blk.new w 23 #[.int .i64 rb, .int .i64 rt]).alloc (.cells logZ 28)
  have hkz : Blk ((w.alloc (.cells #[.int .i64 rb, .int .i64 rt] 23)).alloc (.cells logZ 28)) (w.heap.size + 1) 28 logZ := by
    have := Blk.new (w.alloc (.cells #[.int .i64 rb, .int .i64 rt] 23)) 28 logZ
    simpa using this
  have HB0 := Lib.hid hb0; have HKR := Lib.hid hkr; have HKZ := Lib.hid hkz
  clear hsp hr hg hf hi hll I J hlen hA hs hP hF0 hb0 hkr hkz
  unfold logZ at *
  go_enter Tryz.func20, Tryz.ntmps20
  go_wp2_with fail
  refine (HSP.out _).mono ?_
  rintro e w1 ⟨rfl, hb1⟩
  have hbw1 := bl_next HB0.out hb1
  have hkr1 := HKR.out.below hb1 HKR.out.lt
  have hkz1 := HKZ.out.below hb1 HKZ.out.lt
  have hr1 := HR.out.over hbw1 (Nat.le_refl _)
  have hla := list_any A n c l w1 hr1 (HG.out.below hbw1)
  have HBW1 := Lib.hid hbw1; have HKR1 := Lib.hid hkr1; have HKZ1 := Lib.hid hkz1; have HLA := Lib.hid hla
  clear hb1 hbw1 hkr1 hkz1 hr1 hla
  go_wp2_with fail
  (with_reducible refine HLA.out.mono ?_)
  rintro e w2 (⟨_, rfl, hb2⟩ | ⟨hbad, _⟩)
  · have hbw2 := bl_next HBW1.out hb2
    have hkr2 := HKR1.out.below hb2 HKR1.out.lt
    have hkz2 := HKZ1.out.below hb2 HKZ1.out.lt
    have hrel0 : LnM inv w (w2.alloc (.cells #[.slice none 0 0, .slice none 0 0, .int .i64 0, .int .i64 0] 28)) F0 w.heap.size (w.heap.size + 1) w2.heap.size rb rt (Pl.Lk.start s0) F0 (.slice none 0 0) (.slice none 0 0) := by
      have hbw3 : Below w.heap.size w (w2.alloc (.cells #[.slice none 0 0, .slice none 0 0, .int .i64 0, .int .i64 0] 28)) := bl_alloc hbw2
      have hz2 := hkz2.lt
      exact ⟨Blk.new _ _ _, OwnW.nil _ _ _ _, OwnW.nil _ _ _ _, HIM.out.chg _ _ _ _ _ (fun _ => False) HI.out (Chg.of_below hbw3) (fun _ _ e => e), fun i hi => .inl hi,
        fun i hi => ⟨by have := HF0.out i hi; omega, by simp [Value.ownBlock], by simp [Value.ownBlock]⟩, fun i hi => by have := HF0.out i hi; simp; omega, Chg.of_below hbw3, hkr2.alloc _, hkz2.alloc _, by omega, by omega⟩
    have HREL0 := Lib.hid hrel0
    clear hb2 hbw2 hkr2 hkz2 hrel0
    go_wp2_with fail
    generalize w2.heap.size = g at *
    go_loopw [14, 15, 16] (fun nx nw fr wr => ∃ (S : Pl.Lk M.σ) (F : Nat → Prop) (vs vl : Value), nx = .int .i64 S.next ∧ nw = .int .i64 S.now ∧ fr = .int .i64 S.free ∧ (0 ≤ S.now ∧ S.now ≤ until_) ∧ P S ∧ LnM inv w wr F0 w.heap.size (w.heap.size + 1) g rb rt S F vs vl) (fun _ nw _ _ => (until_ - intOf nw).toNat)
    case atStart => exact ⟨Pl.Lk.start s0, F0, _, _, rfl, rfl, rfl, ⟨Int.le_refl _, u0⟩, HP0.out, HREL0.out⟩
    case round =>
      obtain ⟨S, F, vs, vl, rfl, rfl, rfl, ⟨hn0, hn1⟩, hPS, hrel⟩ := hrel
      have HPS := Lib.hid hPS; have HREL := Lib.hid hrel
      clear hPS hrel
      go_upto_block 2 with fail
      go_cut [14] from 47 to 75 (fun nx wx => ∃ (S1 : Pl.Lk M.σ) (F1 : Nat → Prop) (vs1 vl1 : Value), nx = .int .i64 S1.next ∧ (S1.now = S.now ∧ S1.free = S.free) ∧ (∀ (h : S1.next < l.length), S1.now < (ix l S1.next).at_) ∧ P S1 ∧ LnM inv w wx F0 w.heap.size (w.heap.size + 1) g rb rt S1 F1 vs1 vl1)
      case first =>
        go_wp2_with fail
        go_loopw [14] (fun nx wx => ∃ (S1 : Pl.Lk M.σ) (F1 : Nat → Prop) (vs1 vl1 : Value), nx = .int .i64 S1.next ∧ (S1.now = S.now ∧ S1.free = S.free) ∧ P S1 ∧ LnM inv w wx F0 w.heap.size (w.heap.size + 1) g rb rt S1 F1 vs1 vl1) (fun nx _ => n - (intOf nx).toNat)
        case atStart => exact ⟨S, F, vs, vl, rfl, ⟨rfl, rfl⟩, HPS.out, HREL.out⟩
        case round =>
          obtain ⟨S1, F1, vs1, vl1, rfl, ⟨e1, e2⟩, hP1, hrel1⟩ := hrel
          have HP1 := Lib.hid hP1; have HR1 := Lib.hid hrel1; have HE1 := Lib.hid e1; have HE2 := Lib.hid e2
          clear hP1 hrel1 e1 e2
          by_cases hlt : S1.next < n
          · have ik : (S1.next : Int) < (n : Int) := by omega
            obtain ⟨b, off, rfl, hbB⟩ := HR.out.addr hlt
            obtain ⟨c0, c1, c2, c3, c4⟩ := HR.out.cells hlt
            have hnb : ¬ F0 b := HA.out (by omega) _ rfl
            have hcell := fun j => HR1.out.chg.cell (p := ⟨b, j, none⟩) hbB hnb
            have x0 := (hcell _).trans c0; have x1 := (hcell _).trans c1; have x2 := (hcell _).trans c2; have x3 := (hcell _).trans c3; have x4 := (hcell _).trans c4
            clear hcell c0 c1 c2 c3 c4
            have hfi := HF.out.2.1 S1.next (by have := HLL.out; omega)
            by_cases hat : (ix l S1.next).at_ ≤ S.now
            · have da : decide ((ix l S1.next).at_ ≤ S.now) = true := decide_eq_true hat
              have hP2 := HJ.out.put S1 HP1.out (by have := HLL.out; omega) (by rw [HE1.out]; exact hat)
              obtain ⟨fp, rp, hmp, hcp⟩ := HIM.out.put
              have hput := hcp S1.q S1.next F1
              unfold Pl.putS at hP2
              rw [HE1.out] at hP2
              have HP2 := Lib.hid hP2; have HMP := Lib.hid hmp; have HPUT := Lib.hid hput; have HFI := Lib.hid hfi
              clear hP2 hmp hput hcp hfi
              generalize hx : ix l S1.next = x at *
              obtain ⟨xa, xl, xf, xb, xm⟩ := x
              dsimp only at x0 x1 x2 x3 x4 da hat
              have hin : InOk S.now ⟨⟨xa, xl, xf, xb, xm⟩, (S1.next : Int)⟩ := ⟨okB_fine.2 HFI.out, hat, hn0, by omega, by simp, by show (S1.next : Int) ≤ 1000000000; omega⟩
              have hput2 := fun W hW => HPUT.out W S.now ⟨⟨xa, xl, xf, xb, xm⟩, (S1.next : Int)⟩ hW (by omega) hin
              have HPU := Lib.hid hput2
              clear hput2 hin HPUT
              unfold hdV at HPU
              dsimp only at HPU
              go_upto_region 15 with fail
              have hdr := HR1.out.over HIM.out (bl_drew (Below.refl _ _))
              have hpw := HPU.out _ hdr.inv
              have HDR := Lib.hid hdr; have HPW := Lib.hid hpw
              clear hdr hpw HPU
              have hna3 : ∀ W : World, (nilAhead 363 T v "Put").run Tryz.prog W = .ok (some false) W := hna
              have hlo1 := (hlost S1 HP1.out).1
              have hlose : ∀ (w3 : World) (F3 : Nat → Prop) (A3 : Option Addr) (n3 c3 : Nat), Hid (LnM inv w w3 F0 w.heap.size (w.heap.size + 1) g rb rt { S1 with q := (M.put S.now ⟨⟨xa, xl, xf, xb, xm⟩, (S1.next : Int)⟩ S1.q).2, next := S1.next + 1 } F3 vs1 vl1) → RdR HdR w3 w3.heap.size A3 n3 (M.put S.now ⟨⟨xa, xl, xf, xb, xm⟩, (S1.next : Int)⟩ S1.q).1 → (∀ ad, A3 = some ad → F1 ad.block ∨ wr.drew.heap.size ≤ ad.block) → n3 ≤ 100000 →
                  Hid (Calls Tryz.prog 29 #[.slice A3 n3 c3, .pointer (some ⟨g, 0, none⟩)] w3 (LlOut w.heap.size w3 g vs1 (.int .i64 0) (.int .i64 S1.most) vl1 (S1.lost ++ (M.put S.now ⟨⟨xa, xl, xf, xb, xm⟩, (S1.next : Int)⟩ S1.q).1.map Hd.num))) := fun w3 F3 A3 n3 c3 hl3 hr3 ha3 hn3 =>
                Lib.hid (llose_any w.heap.size A3 n3 c3 _ g vs1 _ _ vl1 S1.lost w3 hr3 hl3.out.blk hl3.out.ol (fun ad e => by
                  rcases ha3 ad e with h | h
                  · exact ⟨(HR1.out.hg _ h).1.1, (HR1.out.hg _ h).2.2⟩
                  · have h1 := HDR.out.blk.lt
                    exact ⟨fun e2 => by omega, fun e2 => by have := (ownW_lt HDR.out.ol e2).2; omega⟩) hn3 (by omega) hl3.out.chg.size)
              have HLO := Lib.hid hlose
              clear hlose
              go_region_law ((first | (refine step_invoke2 (vx := .int .i64 S.now) (vy := .agg #[.int .i64 xa, .int .i64 xl, .int .i64 xf, .int .i64 xb, .int .i64 xm, .int .i64 (S1.next : Int)]) (by rfl) (.tmp 71) (.tmp 62) (.tmp 68) #[3, 78] (by rfl) HMP.out (by rfl) (by rfl) (by rfl) HPW.out PutOut.ret ?_; intro v3 w3 hv3; obtain ⟨A3, n3, c3, F3, rfl, hn3, hr3, ha3, hi3, hg3, hs3⟩ := hv3.val; clear hv3; have hl3 := Lib.hid (HDR.out.queue HIM.out hi3 hg3 hs3); have HLOSE := HLO.out w3 F3 A3 n3 c3 hl3 hr3 ha3 hn3; have HL3 := hl3; clear hr3 ha3 hi3 hg3 hs3 hl3 hn3) | (go_simp; go_at_call 29; (with_reducible refine HLOSE.out.mono ?_); rintro e w4 ⟨rfl, h4⟩; obtain ⟨lv, h5⟩ := h4.out; have H5 := Lib.hid h5; clear h4 h5)))
              all_goals
                go_wp2_with fail
                refine ⟨⟨_, F3, vs1, lv, ?_, ⟨?_, ?_⟩, HP2.out, (HL3.out.lose HIM.out H5.out).at_now S.now S1.free⟩, ?_⟩
                · first | rfl | go_num
                · rfl
                · exact HE2.out
                · simp [intOf]; omega
            · have da : decide ((ix l S1.next).at_ ≤ S.now) = false := decide_eq_false hat
              go_wp2_with fail
              go_meet
              case rel => exact ⟨S1, F1, vs1, vl1, rfl, ⟨HE1.out, HE2.out⟩, fun _ => by rw [HE1.out]; omega, HP1.out, HR1.out⟩
          · go_wp2_with fail
            go_meet
            case rel => exact ⟨S1, F1, vs1, vl1, rfl, ⟨HE1.out, HE2.out⟩, fun h => absurd h (by have := HLL.out; omega), HP1.out, HR1.out⟩
      case rest =>
        obtain ⟨S1, F1, vs1, vl1, rfl, ⟨e1, e2⟩, hnext, hP1, hrel1⟩ := hcut
        have hP2 := HJ.out.most S1 hP1
        obtain ⟨fb, rb_, hmb, hcb⟩ := HIM.out.bytes
        have hdr := hrel1.over HIM.out (bl_drew (Below.refl _ _))
        have hby := hcb S1.q S1.next F1 _ hdr.inv
        have HMB := Lib.hid hmb; have HBY := Lib.hid hby; have HDR := Lib.hid hdr; have HP2 := Lib.hid hP2; have HNX := Lib.hid hnext; have HE1 := Lib.hid e1; have HE2 := Lib.hid e2
        have x3 := hrel1.blk.cell 3
        have f3 := hrel1.blk.frozen 3
        simp at x3
        have hmx : Pl.mostS M S1 = { S1 with most := max S1.most (M.bytes S1.q) } := rfl
        have HMX := Lib.hid hmx
        clear hmb hcb hby hdr hP2 hnext hP1 hrel1 e1 e2 HPS HREL hmx
        generalize M.bytes S1.q = by_ at *
        go_wp2_with fail
        go_cut [] from 76 to 81 (fun wx => LnM inv w wx F0 w.heap.size (w.heap.size + 1) g rb rt (Pl.mostS M S1) F1 vs1 vl1)
        case first =>
          by_cases hm : S1.most < by_
          · have tm : (S1.most < by_) = True := eq_true hm
            go_region_law ((refine step_invoke0 (by rfl) (.tmp 78) #[] (by rfl) HMB.out (by rfl) HBY.out (fun e w' ⟨h, _⟩ => ⟨_, h⟩) ?_; rintro v3 w3 ⟨e3, hb3⟩; injection e3 with e3; subst e3; have h4 := HDR.out.over HIM.out hb3; have y3 := h4.blk.cell 3; have g3 := h4.blk.frozen 3; simp at y3; have H4 := Lib.hid h4; clear h4 hb3))
            all_goals
              go_wp2_with fail
              go_meet
              case rel =>
                rw [HMX.out, show max S1.most by_ = by_ from by omega]
                exact H4.out.most HIM.out by_
          · have tm : (S1.most < by_) = False := eq_false hm
            go_region_law ((refine step_invoke0 (by rfl) (.tmp 78) #[] (by rfl) HMB.out (by rfl) HBY.out (fun e w' ⟨h, _⟩ => ⟨_, h⟩) ?_; rintro v3 w3 ⟨e3, hb3⟩; injection e3 with e3; subst e3; have h4 := HDR.out.over HIM.out hb3; have y3 := h4.blk.cell 3; have g3 := h4.blk.frozen 3; simp at y3; have H4 := Lib.hid h4; clear h4 hb3))
            all_goals
              go_wp2_with fail
              go_meet
              case rel =>
                rw [HMX.out, show max S1.most by_ = S1.most from by omega]
                exact H4.out.most HIM.out S1.most
        case rest =>
          have hrel2 := hcut
          clear hcut x3 f3 HDR HBY HMB HMX
          have hnx2 : (Pl.mostS M S1).next = S1.next := rfl
          have hlo2 := (hlost _ HP2.out).1
          have hse2 := (hlost _ HP2.out).2
          have hle2 := HLEN.out _ HP2.out
          have htkQ := HJ.out.take _ HP2.out HNX.out
          have hbzQ := HJ.out.busy _ HP2.out HNX.out
          have hnow : (Pl.mostS M S1).now = S.now := HE1.out
          have hfre : (Pl.mostS M S1).free = S1.free := rfl
          generalize Pl.mostS M S1 = S2 at *
          rw [hnow, hfre] at htkQ hbzQ
          rw [hnow] at hle2
          have HREL2 := Lib.hid hrel2; have HTQ := Lib.hid htkQ; have HBQ := Lib.hid hbzQ; have HLE := Lib.hid hle2; have HNOW := Lib.hid hnow; have HFRE := Lib.hid hfre; have HNX2 := Lib.hid hnx2
          clear hrel2 htkQ hbzQ hle2 hnow hfre hnx2
          go_upto_if 84 with fail
          go_cut [16, 17, 18, 19] from 84 to 115 (fun fr x17 x18 x19 wx => ∃ (S3 : Pl.Lk M.σ) (F3 : Nat → Prop) (vs3 vl3 : Value), fr = .int .i64 S3.free ∧ (S3.now = S.now ∧ S3.next = S1.next) ∧ Q S3 ∧ LnM inv w wx F0 w.heap.size (w.heap.size + 1) g rb rt S3 F3 vs3 vl3)
          case first =>
            by_cases hfr : S.free ≤ S.now
            · have dfr : decide (S.free ≤ S.now) = true := decide_eq_true hfr
              obtain ⟨ft, rt_, hmt, hct⟩ := HIM.out.take
              have htk := hct S2.q S2.next F1 wc S.now HREL2.out.inv hn0 (by omega)
              have HMT := Lib.hid hmt; have HTK := Lib.hid htk
              clear hmt hct htk
              go_upto_region 20 with (refine wpList_invoke1 (vx := .int .i64 S.now) rfl (.tmp 86) (.tmp 87) #[3] rfl HMT.out rfl rfl HTK.out TakeOut.ret ?_; intro v3 w3 hv3; obtain ⟨h0, A3, n3, c3, F3, rfl, ex, hn3, hr3, ha3, hi3, hg3, hs3⟩ := hv3.val; clear hv3; have HEX := Lib.hid ex; have HL3 := Lib.hid (HREL2.out.queue HIM.out hi3 hg3 hs3); have HR3 := Lib.hid hr3; have HA3 := Lib.hid ha3; have HN3 := Lib.hid hn3; clear ex hr3 ha3 hi3 hg3 hs3 hn3; unfold hdV; dsimp only)
              have hb5 : Below w3.heap.size w3 (w3.alloc (.cells (hdArr h0) 78)) := bl_alloc (Below.refl _ _)
              have hl5 := HL3.out.over HIM.out hb5
              have hlose := llose_any w.heap.size A3 n3 c3 _ g vs1 _ _ vl1 S2.lost (w3.alloc (.cells (hdArr h0) 78)) (HR3.out.over hb5 (Nat.le_refl _)) hl5.blk hl5.ol (fun ad e => by
                rcases HA3.out ad e with h | h
                · exact ⟨(HREL2.out.hg _ h).1.1, (HREL2.out.hg _ h).2.2⟩
                · have h1 := HREL2.out.blk.lt
                  exact ⟨fun e2 => by omega, fun e2 => by have := (ownW_lt HREL2.out.ol e2).2; omega⟩) HN3.out (by omega) hl5.chg.size
              have hkx := Blk.new w3 78 (hdArr h0)
              have hgx : w3.heap.size ≠ g := fun e => by have := HL3.out.blk.lt; omega
              have hvx : vl1.ownBlock ≠ some w3.heap.size := fun e => by have := (ownW_lt HL3.out.ol e).2; omega
              have HLOSE := Lib.hid hlose; have HL5 := Lib.hid hl5; have HKX := Lib.hid hkx
              clear hb5 hl5 hlose hkx
              unfold hdArr at HLOSE HL5 HKX
              go_upto_if 95 with (go_at_call 29; (with_reducible refine HLOSE.out.mono ?_); rintro e w5 ⟨rfl, h5⟩; obtain ⟨lv, h6⟩ := h5.out; have hk5 := HKX.out.chg h6.chg (fun e => by rcases e with e | e; exact hgx e; exact hvx e); have HL6 := Lib.hid (HL5.out.lose HIM.out h6); have HK5 := Lib.hid hk5; clear h5 h6 hk5)
              have hQ := HTQ.out (by have := HE2.out; omega)
              unfold Pl.takeS at hQ
              rw [HNOW.out] at hQ
              cases hop : (M.take S.now S2.q).1 with
              | none =>
                rw [hop] at hQ
                dsimp only at hQ
                have HQ := Lib.hid hQ
                clear hQ
                go_wp2_with fail
                go_meet
                case rel =>
                  refine ⟨_, F3, vs1, lv, ?_, ⟨?_, ?_⟩, HQ.out, HL6.out.at_now S.now S2.free⟩
                  · rw [HFRE.out, HE2.out]
                  · rfl
                  · exact HNX2.out
              | some x =>
                rw [hop] at hQ
                dsimp only at hQ
                obtain rfl := HEX.out x hop
                have hxl := HLE.out _ hop
                have HQ := Lib.hid hQ
                clear hQ
                obtain ⟨⟨xa, xl, xf, xb, xm⟩, xn⟩ := h0
                dsimp only at hxl
                have z0 := HK5.out.cell 0; have z1 := HK5.out.cell 1; have z2 := HK5.out.cell 2; have z3 := HK5.out.cell 3; have z4 := HK5.out.cell 4; have z5 := HK5.out.cell 5
                simp at z0 z1 z2 z3 z4 z5
                have r0 := HL6.out.rate.cell 0; have r1 := HL6.out.rate.cell 1
                simp at r0 r1
                go_wp2_with fail
                (with_reducible refine (takes_any rb rt xl _ HS.out hxl.1 (by omega)).mono ?_)
                rintro e w6 ⟨rfl, hb6⟩
                have hl7 := HL6.out.over HIM.out hb6
                have hk7 := HK5.out.below hb6 HK5.out.lt
                obtain ⟨t0, t1⟩ := takes_hi (b := rb) (t := rt) (n := xl) (N := 10000) HS.out.1.1 HS.out.2.1 hxl.1 HS.out.2.2 hxl.2
                have et : IntKind.i64.wrap (S.now + takes rb rt xl) = S.now + takes rb rt xl := IntWalk.i64_in _ (by omega)
                generalize takes rb rt xl = tk at *
                obtain ⟨A7, c7, hvs, _, _, _⟩ := hl7.os.reads
                have o7 := hl7.os
                clear z0 z1 z2 z3 z4 z5 r0 r1
                have z5 := hk7.cell 5; have z4 := hk7.cell 4
                have y0 := hl7.blk.cell 0
                have yf := hl7.blk.frozen 0
                simp at z4 z5 y0
                have hgl := hl7.blk.lt
                have hsz := hl7.chg.size
                subst hvs
                have HO7 := Lib.hid o7; have HL7 := Lib.hid hl7
                have hvg : (Value.slice A7 S2.sent.length c7).ownBlock ≠ some g := hl7.os.blk_ne hl7.blk (by decide)
                have HVG := Lib.hid hvg
                clear o7 hl7 hk7 hb6 hvg
                have hse3 : S2.sent.length ≤ 1000000 := by omega
                go_wp2_with (at_builtin; go_must (refine wpList_addW SntR rfl (.tmp 104) (.tmp 113) _ w.heap.size 37 _ 32 Tryz.underlying25 Tryz.sntInfo rfl rfl _ S2.sent.length S2.sent ⟨xn, S.now, S.now + tk, xm⟩ _ HO7.out rfl rfl rfl (snt_one _) hse3 (by omega) hsz ?_); intro v8 w8 h1 h2 h3; obtain ⟨A8, c8, rfl, _, _, _⟩ := h1.reads; have hb8 := HL7.out.blk.grown h2 (fun e => HVG.out e.symm); have y8 := hb8.cell 0; have g8 := hb8.frozen 0; simp at y8; have H1 := Lib.hid h1; have H2 := Lib.hid h2; have H3 := Lib.hid h3; clear h1 h2 h3 hb8)
                go_meet
                case rel =>
                  refine ⟨_, F3, _, lv, ?_, ⟨?_, ?_⟩, HQ.out, (HL7.out.went HIM.out H1.out H2.out (by rcases H3.out with e | e; exact .inl e; exact .inr fun i hi => Nat.le_of_lt (e i hi)) (S.now + tk)).at_now S.now (S.now + tk)⟩
                  · first | rfl | go_num
                  · rfl
                  · exact HNX2.out
            · have dfr : decide (S.free ≤ S.now) = false := decide_eq_false hfr
              go_wp2_with fail
              go_meet
              case rel => exact ⟨S2, F1, vs1, vl1, by rw [HFRE.out, HE2.out], ⟨HNOW.out, HNX2.out⟩, HBQ.out (by have := HE2.out; omega), HREL2.out⟩
          case rest =>
            obtain ⟨S3, F3, vs3, vl3, rfl, ⟨e3, e4⟩, hQ3, hrel3⟩ := hcut
            have haft : ∀ W, LnM inv w W F0 w.heap.size (w.heap.size + 1) g rb rt S3 F3 vs3 vl3 → Calls Tryz.prog 30 #[.iface T v, .int .i64 S.now, .int .i64 S3.free] W (AfterOut inv W F3 S3.next S3.q S3.now S3.free) := fun W hW => by
              rw [← e3]; exact after_any HIM.out S3.q S3.next F3 W S3.now S3.free hW.inv (by omega) (by omega)
            have haf1 := haft _ hrel3
            have HREL3 := Lib.hid hrel3; have HAF := Lib.hid haf1; have HQ3 := Lib.hid hQ3; have HE3 := Lib.hid e3; have HE4 := Lib.hid e4
            clear haft haf1 hrel3 hQ3 e3 e4
            go_upto_region 24 with fail
            go_upto_region 25 with (go_at_call 30; (with_reducible refine HAF.out.mono ?_); rintro e w4 ⟨t4, F4, rfl, h4⟩; have H4 := Lib.hid h4.out; clear h4)
            obtain ⟨g1, g2, g3, g4, g5⟩ := H4.out
            have hl4 : LnM inv w w4 F0 w.heap.size (w.heap.size + 1) g rb rt (Pl.aftS M S3) F4 vs3 vl3 := HREL3.out.queue HIM.out g1 g2 g3
            have hcell : ∀ b (hb : b < w.heap.size) (hF : ¬ F0 b) j, w4.cell? ⟨b, j, none⟩ = w.cell? ⟨b, j, none⟩ := fun b hb hF j => hl4.chg.cell (p := ⟨b, j, none⟩) hb hF
            have HL4 := Lib.hid hl4; have HCELL := Lib.hid hcell
            have hnxt := HE4.out
            have hlen := HLL.out
            clear g1 g2 g3 hl4 hcell
            have ha : Pl.aftT M S3 = Pl.aT M S3.q S3.now S3.free := rfl
            rw [← ha] at g4 g5 ⊢
            obtain ⟨ok4, hok4⟩ : ∃ b, b = (Pl.aftT M S3).isSome := ⟨_, rfl⟩
            rw [← hok4]
            have HOK4 := Lib.hid hok4
            clear hok4
            have HA4 := Lib.hid g4; have HA5 := Lib.hid g5
            clear g4 g5 ha H4
            go_cut [139] from 123 to 139 (fun x139 wx => ∃ c : Bool, x139 = .bool c ∧ CndR (Pl.nextT M l S3) S.now (S1.next < n) (ix l S1.next).at_ t4 ok4 c ∧ wx = w4)
            case first =>
              cases hat : Pl.aftT M S3 with
              | none =>
                obtain rfl : ok4 = false := by rw [HOK4.out, hat]; rfl
                by_cases hlt : S1.next < n
                · have ik : (S1.next : Int) < (n : Int) := by omega
                  obtain ⟨b, off, rfl, hbB⟩ := HR.out.addr hlt
                  have x0 := (HCELL.out b hbB (HA.out (by omega) _ rfl) _).trans (HR.out.cells hlt).1
                  have hnx := HNX.out (by omega)
                  have hnt : Pl.nextT M l S3 = some (ix l S1.next).at_ := by unfold Pl.nextT; rw [hat, hnxt]; dsimp only; rw [if_pos (by omega)]
                  rw [HE1.out] at hnx
                  have HC := Lib.hid (show CndR (Pl.nextT M l S3) S.now (S1.next < n) (ix l S1.next).at_ t4 false true from ⟨fun _ => hlt, .yes hnt hnx⟩)
                  clear hnx hnt hat
                  go_wp2_with fail
                  go_meet
                  case rel => exact ⟨true, rfl, HC.out, rfl⟩
                · have ik : ¬ (S1.next : Int) < (n : Int) := by omega
                  have hnt : Pl.nextT M l S3 = none := by unfold Pl.nextT; rw [hat, hnxt]; dsimp only; rw [if_neg (by omega)]
                  have HC := Lib.hid (show CndR (Pl.nextT M l S3) S.now (S1.next < n) (ix l S1.next).at_ t4 false false from ⟨fun h => (by cases h), .no hnt⟩)
                  clear hnt hat
                  go_wp2_with fail
                  go_meet
                  case rel => exact ⟨false, rfl, HC.out, rfl⟩
              | some a =>
                have h5 := HA5.out a hat
                rw [HE3.out] at h5
                obtain rfl := HA4.out a hat
                obtain rfl : ok4 = true := by rw [HOK4.out, hat]; rfl
                by_cases hlt : S1.next < n
                · have ik : (S1.next : Int) < (n : Int) := by omega
                  obtain ⟨b, off, rfl, hbB⟩ := HR.out.addr hlt
                  have x0 := (HCELL.out b hbB (HA.out (by omega) _ rfl) _).trans (HR.out.cells hlt).1
                  have hnx := HNX.out (by omega)
                  rw [HE1.out] at hnx
                  by_cases hb : (ix l S1.next).at_ < t4
                  · have db : decide ((ix l S1.next).at_ < t4) = true := decide_eq_true hb
                    have hnt : Pl.nextT M l S3 = some (ix l S1.next).at_ := by unfold Pl.nextT; rw [hat, hnxt]; dsimp only; rw [if_pos ⟨by omega, hb⟩]
                    have HC := Lib.hid (show CndR (Pl.nextT M l S3) S.now (S1.next < n) (ix l S1.next).at_ t4 true true from ⟨fun _ => hlt, .yes hnt hnx⟩)
                    clear hnx hnt hat h5
                    go_wp2_with fail
                    go_meet
                    case rel => exact ⟨true, rfl, HC.out, rfl⟩
                  · have db : decide ((ix l S1.next).at_ < t4) = false := decide_eq_false hb
                    have hnt : Pl.nextT M l S3 = some t4 := by unfold Pl.nextT; rw [hat, hnxt]; dsimp only; rw [if_neg (fun h => hb h.2)]
                    have HC := Lib.hid (show CndR (Pl.nextT M l S3) S.now (S1.next < n) (ix l S1.next).at_ t4 true false from ⟨fun h => (by cases h), .yes hnt h5⟩)
                    clear hnx hnt hat h5
                    go_wp2_with fail
                    go_meet
                    case rel => exact ⟨false, rfl, HC.out, rfl⟩
                · have ik : ¬ (S1.next : Int) < (n : Int) := by omega
                  have hnt : Pl.nextT M l S3 = some t4 := by unfold Pl.nextT; rw [hat, hnxt]; dsimp only; rw [if_neg (fun h => by have := h.1; omega)]
                  have HC := Lib.hid (show CndR (Pl.nextT M l S3) S.now (S1.next < n) (ix l S1.next).at_ t4 true false from ⟨fun h => (by cases h), .yes hnt h5⟩)
                  clear hnt hat h5
                  go_wp2_with fail
                  go_meet
                  case rel => exact ⟨false, rfl, HC.out, rfl⟩
            case rest =>
            obtain ⟨c, rfl, hc, hwc⟩ := hcut
            subst wc
            have HC := Lib.hid hc
            clear hc
            go_upto_if 139 with fail
            clear HOK4
            go_cut [20, 21] from 140 to 144 (fun x20 x21 wx => ∃ (t : Int) (ok : Bool), x20 = .int .i64 t ∧ x21 = .bool ok ∧ NxR (Pl.nextT M l S3) S.now t ok ∧ wx = w4)
            case first =>
              cases c with
              | true =>
                have hlt := HC.out.lt rfl
                obtain ⟨b, off, rfl, hbB⟩ := HR.out.addr hlt
                have x0 := (HCELL.out b hbB (HA.out (by omega) _ rfl) _).trans (HR.out.cells hlt).1
                have ik : (S1.next : Int) < (n : Int) := by omega
                go_wp2_with fail
                go_meet
                case rel => exact ⟨_, true, rfl, rfl, HC.out.nx, rfl⟩
              | false =>
                go_wp2_with fail
                go_meet
                case rel => exact ⟨t4, ok4, rfl, rfl, HC.out.nx, rfl⟩
            case rest =>
              obtain ⟨t, ok, rfl, rfl, ⟨hok, ht⟩, hwc⟩ := hcut
              subst wc
              have hrel4 := HL4.out
              clear HL4 HCELL HA4 HA5 HC
              have hjm := HJ.out.jump S3 t HQ3.out
              have hst := HJ.out.stop S3 HQ3.out
              have hno : (Pl.aftS M S3).now = S.now := HE3.out
              have hfr : (Pl.aftS M S3).free = S3.free := rfl
              have hnx : (Pl.aftS M S3).next = S1.next := HE4.out
              rw [HE3.out] at hjm
              generalize Pl.aftS M S3 = S4 at *
              generalize hnt : Pl.nextT M l S3 = nt at *
              have HJM := Lib.hid hjm; have HST := Lib.hid hst; have HOK := Lib.hid hok; have HT := Lib.hid ht; have HR4 := Lib.hid hrel4; have HNO := Lib.hid hno; have HFR := Lib.hid hfr; have HNX4 := Lib.hid hnx
              clear hjm hst hok ht hrel4 hno hfr hnx hnt
              obtain ⟨fl, rl_, hml, hcl⟩ := HIM.out.len
              have hln := hcl S4.q S4.next F4 _ HR4.out.inv
              have HML := Lib.hid hml; have HLN := Lib.hid hln
              clear hml hcl hln
              go_upto_region 27 with fail
              go_cut [151] from 145 to 151 (fun x151 wx => ∃ c : Bool, x151 = .bool c ∧ (c = false → ok = true ∧ t ≤ until_) ∧ (c = true → R S4) ∧ wx = w4)
              case first =>
                cases ok with
                | true =>
                  by_cases hgo : t ≤ until_
                  · have dg : decide (until_ < t) = false := decide_eq_false (by omega)
                    go_wp2_with fail
                    go_meet
                    case rel => exact ⟨false, rfl, fun _ => ⟨trivial, hgo⟩, fun h => (by cases h), rfl⟩
                  · have dg : decide (until_ < t) = true := decide_eq_true (by omega)
                    have hR4 := HST.out (fun x e => by have := HT.out x e; omega)
                    have HRR := Lib.hid hR4
                    clear hR4
                    go_wp2_with fail
                    go_meet
                    case rel => exact ⟨true, rfl, fun h => (by cases h), fun _ => HRR.out, rfl⟩
                | false =>
                  have hR4 := HST.out (fun x e => by have := HOK.out; rw [e] at this; cases this)
                  have HRR := Lib.hid hR4
                  clear hR4
                  go_wp2_with fail
                  go_meet
                  case rel => exact ⟨true, rfl, fun h => (by cases h), fun _ => HRR.out, rfl⟩
              case rest =>
              obtain ⟨c, rfl, hc1, hc2, hwc⟩ := hcut
              subst wc
              cases c with
              | false =>
                obtain ⟨rfl, hgo⟩ := hc1 rfl
                clear hc1 hc2
                obtain ⟨x, rfl⟩ : ∃ x, nt = some x := Option.isSome_iff_exists.1 HOK.out.symm
                obtain ⟨rfl, htl⟩ := HT.out x rfl
                have hP4 := HJM.out rfl htl hgo
                have HP4 := Lib.hid hP4
                clear hP4
                go_wp2_with fail
                refine ⟨⟨{ S4 with now := t }, F4, vs3, vl3, ?_, rfl, ?_, ⟨?_, hgo⟩, HP4.out, HR4.out.at_now t S4.free⟩, ?_⟩
                · rw [← HNX4.out]
                · rw [← HFR.out]
                · show 0 ≤ t; omega
                · simp [intOf]; omega
              | true =>
                have HRR := Lib.hid (hc2 rfl)
                clear hc1 hc2
                go_upto_region 30 with (refine wpList_invoke0 rfl (.tmp 153) #[] rfl HML.out rfl HLN.out (fun e w' ⟨h, _⟩ => ⟨_, h⟩) ?_; rintro v5 w5 ⟨e5, hb5⟩; injection e5 with e5; subst e5; have hl5 := HR4.out.over HIM.out hb5; have y2 := hl5.blk.cell 2; have f2 := hl5.blk.frozen 2; simp at y2; have HL5 := Lib.hid hl5; clear hb5 hl5)
                have hc5 : Chg w5 (w5.setCell ⟨g, 2, none⟩ (.int .i64 (M.len S4.q))) (fun i => i = g) := Chg.setCell (p := ⟨g, 2, none⟩) (Chg.refl _ (fun i => i = g)) (fun _ => rfl) _
                have hb6 := HL5.out.blk.set_ 2 (.int .i64 (M.len S4.q))
                have hz6 := HL5.out.res.chg hc5 (fun e => HL5.out.gz e.symm)
                have hos6 := HL5.out.os.chg hc5 (fun i hi e => HL5.out.os.blk_ne HL5.out.blk (by decide) (e ▸ hi))
                have hol6 := HL5.out.ol.chg hc5 (fun i hi e => HL5.out.ol.blk_ne HL5.out.blk (by decide) (e ▸ hi))
                have hch6 := HL5.out.chg.trans hc5 (fun i hi e => by have := HL5.out.n0.1; omega)
                have hvz : vs3.ownBlock ≠ some (w.heap.size + 1) := hos6.blk_ne hz6 (by decide)
                have hvl : vl3.ownBlock ≠ some (w.heap.size + 1) := hol6.blk_ne hz6 (by decide)
                obtain ⟨As, cs, rfl, _, _, _⟩ := hos6.reads
                obtain ⟨Al, cl, rfl, _, _, _⟩ := hol6.reads
                generalize w5.setCell ⟨g, 2, none⟩ (.int .i64 (M.len S4.q)) = w6 at *
                have HB6 := Lib.hid hb6; have HZ6 := Lib.hid hz6; have HOS := Lib.hid hos6; have HOL := Lib.hid hol6; have HCH := Lib.hid hch6; have HVZ := Lib.hid hvz; have HVL := Lib.hid hvl
                have s0_ := hb6.cell 0; have s1_ := hb6.cell 1; have s2_ := hb6.cell 2; have s3_ := hb6.cell 3
                simp at s0_ s1_ s2_ s3_
                unfold logZ at hz6
                have z0 := hz6.cell 0; have z1 := hz6.cell 1; have z2 := hz6.cell 2; have z3 := hz6.cell 3
                have fz0 := hz6.frozen 0; have fz1 := hz6.frozen 1; have fz2 := hz6.frozen 2; have fz3 := hz6.frozen 3
                simp at z0 z1 z2 z3
                clear hc5 hb6 hz6 hos6 hol6 hch6 hvz hvl y2 f2
                go_wp2_with fail
                refine bodyPost_isL fun Wf hWf => ?_
                have hchf : Chg w6 Wf (fun i => i = w.heap.size + 1) := by rw [hWf]; exact chg_4L _ _ _ _ _ _
                have hkf : Blk Wf (w.heap.size + 1) 28 #[.slice As S4.sent.length cs, .slice Al S4.lost.length cl, .int .i64 (M.len S4.q), .int .i64 S4.most] := by rw [hWf]; exact blk_4L HZ6.out _ _ _ _
                clear hWf
                have r0 := hkf.cell 0; have r1 := hkf.cell 1; have r2 := hkf.cell 2; have r3 := hkf.cell 3
                simp at r0 r1 r2 r3
                have hosf := HOS.out.chg hchf (fun i hi e => HVZ.out (e ▸ hi))
                have holf := HOL.out.chg hchf (fun i hi e => HVL.out (e ▸ hi))
                have hchw := HCH.out.trans hchf (fun i hi e => by omega)
                refine bodyPost_ret (v := .tuple #[.agg #[.slice As S4.sent.length cs, .slice Al S4.lost.length cl, .int .i64 (M.len S4.q), .int .i64 S4.most], .nilIface]) (by simp [results, Tryz.results20, go_sem, r0, r1, r2, r3]) rfl ?_
                exact ⟨S4, As, Al, cs, cl, rfl, Lib.hid ⟨HRR.out, by rw [HNO.out]; exact ⟨hn0, hn1⟩, rd_ownW SntR hosf rfl, rd_ownW IntR holf rfl, hchw, fun ad e => (hosf.lt ad.block (by rw [e]; rfl)).1, fun ad e => (holf.lt ad.block (by rw [e]; rfl)).1⟩⟩
  · exact absurd HF.out hbad
end Go.Proofs.YtgdijbaodfghjaaGreatDoor
