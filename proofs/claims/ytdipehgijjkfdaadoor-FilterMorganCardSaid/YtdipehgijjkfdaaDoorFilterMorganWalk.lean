/-
  FilterMorgan: the walk.
-/
import Derived.Test.YtdipehgijjkfdaaDoorFlFact
import Derived.Test.YtdipehgijjkfdaaDoorFlIns
import Derived.Deep.RegionHeld3
namespace Go.Proofs.YtdipehgijjkfdaaDoor
open Go.RowKit
set_option linter.unusedVariables false
theorem ftv_itx (x0 x1 x2 x3 x4 : Int) : itX (ix5 x0 x1 x2 x3 x4) = .agg #[.int .i64 x0, .int .i64 x1, .int .i64 x2, .int .i64 x3, .int .i64 x4] := rfl
set_option maxHeartbeats 8000000 in
set_option maxRecDepth 100000 in
theorem filterMorgan_core (text : List UInt8) (hlm : text.length ≤ 9223372036854775807) (x0 x1 x2 x3 x4 : Int) (w : World) (hv : Pv w) :
    Calls Tryd.prog 4 #[.string ⟨text.toArray⟩, .agg #[.int .i64 x0, .int .i64 x1, .int .i64 x2, .int .i64 x3, .int .i64 x4]] w fun e w' => e = .returned (.bool true) ∧ Below w.heap.size w w' := by
  have hsz : (⟨text.toArray⟩ : ByteArray).size = text.length := ba_len text
  by_cases hl : 1000 < text.length
  · have d0 : decide ((1000 : Int) < (text.length : Int)) = true := decide_eq_true (by omega)
    go_enter Tryd.func4, Tryd.ntmps4
    go_wp2_with fail
    go_ret
    exact ⟨rfl, (Below.refl w.heap.size w).alloc (Nat.le_refl _) _⟩
  · have d0 : decide ((1000 : Int) < (text.length : Int)) = false := decide_eq_false (by omega)
    have hb1 : Below w.heap.size w (w.alloc (.cells #[.int .i64 x0, .int .i64 x1, .int .i64 x2, .int .i64 x3, .int .i64 x4] 31)) := (Below.refl w.heap.size w).alloc (Nat.le_refl _) _
    have hk1 := Blk.new w 31 #[.int .i64 x0, .int .i64 x1, .int .i64 x2, .int .i64 x3, .int .i64 x4]
    have hp := parse_f text (by omega) _ (hv.over hb1)
    have HP := Lib.hid hp; have HB1 := Lib.hid hb1; have HK1 := Lib.hid hk1; have HV1 := Lib.hid (hv.over hb1)
    have hlex := lex_len text []
    have HX := Lib.hid hlex
    clear hp hb1 hk1 hv hlex
    go_enter Tryd.func4, Tryd.ntmps4
    go_wp2_with fail
    (with_reducible refine HP.out.mono ?_)
    rintro e w2 (⟨t, v, hre, rfl, h2⟩ | ⟨er, T, x, hre, rfl, h2⟩)
    · obtain ⟨hft, hb2⟩ := h2.out
      obtain ⟨ok, sn, hd, hcn⟩ := parse_ok hre
      have hcnt : Fl.cnt t ≤ 2001 := by have := HX.out; omega
      obtain ⟨T, r, rfl⟩ := hft.form
      have HMT := Lib.hid (meant_fact w2 (HV1.out.over hb2))
      have HFT := Lib.hid hft; have HB2 := Lib.hid hb2; have HOK := Lib.hid ok
      clear hre h2 hft hb2 HP sn hd hcn ok
      go_wp2_with fail
      (with_reducible refine HMT.out.mono ?_)
      rintro e w3 ⟨rfl, hb3⟩
      have hft3 := HFT.out.over (Nat.le_refl _) hb3
      have HIN := Lib.hid (hft3.inside hb3.size (by omega))
      have HFT3 := Lib.hid hft3; have HB3 := Lib.hid hb3
      clear hft3 hb3
      go_wp2_with fail
      (with_reducible refine HIN.out.mono ?_)
      rintro e w4 ⟨Tg, rg, rfl, h4⟩
      obtain ⟨hg4, hb4⟩ := h4.out
      have hft4 := HFT3.out.over HB3.out.size hb4
      have hcg := Fl.ins_cnt false t
      have okg := Fl.ins_ok false t HOK.out
      obtain ⟨T1, r1, e1, hmf, hcf⟩ := hft4.meant HOK.out (by omega) (ix5 x0 x1 x2 x3 x4)
      injection e1 with e11 e12
      subst e11; subst e12
      obtain ⟨T2, r2, e2, hmg, hcg2⟩ := hg4.meant okg (by omega) (ix5 x0 x1 x2 x3 x4)
      injection e2 with e21 e22
      subst e21; subst e22
      have hmm : Fl.meantF (ix5 x0 x1 x2 x3 x4) (Fl.insF false t) = Fl.meantF (ix5 x0 x1 x2 x3 x4) t := by
        rw [Fl.ins_meant]
        cases Fl.meantF (ix5 x0 x1 x2 x3 x4) t <;> rfl
      rw [hmm] at hcg2
      have hb14 : Below (w.alloc (.cells #[.int .i64 x0, .int .i64 x1, .int .i64 x2, .int .i64 x3, .int .i64 x4] 31)).heap.size (w.alloc (.cells #[.int .i64 x0, .int .i64 x1, .int .i64 x2, .int .i64 x3, .int .i64 x4] 31)) w4 := HB2.out.trans ((HB3.out.trans (hb4.mono HB3.out.size)).mono HB2.out.size)
      have hk4 := HK1.out.below hb14 HK1.out.lt
      have hv4 := HV1.out.over hb14
      have HS4 : Hid (∀ wx, Below w4.heap.size w4 wx → wx.cell? ⟨w.heap.size, 0, none⟩ = some (.int .i64 x0) ∧ wx.cell? ⟨w.heap.size, 1, none⟩ = some (.int .i64 x1) ∧ wx.cell? ⟨w.heap.size, 2, none⟩ = some (.int .i64 x2) ∧ wx.cell? ⟨w.heap.size, 3, none⟩ = some (.int .i64 x3) ∧ wx.cell? ⟨w.heap.size, 4, none⟩ = some (.int .i64 x4)) := Lib.hid fun wx hx => by
        have q := hk4.below hx hk4.lt
        exact ⟨q.cell 0, q.cell 1, q.cell 2, q.cell 3, q.cell 4⟩
      have hii : Fl.insF false (Fl.insF false t) = Fl.insF false t := Fl.ins_ins false t
      have hcall2 : ∀ W, Below w4.heap.size w4 W → Calls Tryd.prog 12 #[.iface Tg rg] W (InsEnd W (Fl.insF false t)) := fun W h => by
        have h9 := (hg4.over (Nat.le_refl _) h).inside (Nat.le_trans (Nat.le_refl _) h.size) (by omega)
        rw [hii] at h9
        exact h9
      have hcntg : Fl.cnt (Fl.insF false t) ≤ 1000000 := by omega
      obtain ⟨Tq, rq, eq_, _, hmtg⟩ := hg4.meth
      injection eq_ with eq1 eq2
      subst eq1; subst eq2
      have HCF : Hid (∀ W, Below w4.heap.size w4 W → Calls Tryd.prog (meantOf t) #[r, .agg #[.int .i64 x0, .int .i64 x1, .int .i64 x2, .int .i64 x3, .int .i64 x4]] W fun e w' => e = .returned (.bool (Fl.meantF (ix5 x0 x1 x2 x3 x4) t)) ∧ Below W.heap.size W w') := Lib.hid fun W h => hcf W (hft4.over (Nat.le_trans HB3.out.size hb4.size) h) (Nat.le_trans (Nat.le_trans HB3.out.size hb4.size) h.size)
      have HCG : Hid (∀ W, Below w4.heap.size w4 W → Calls Tryd.prog (meantOf (Fl.insF false t)) #[rg, .agg #[.int .i64 x0, .int .i64 x1, .int .i64 x2, .int .i64 x3, .int .i64 x4]] W fun e w' => e = .returned (.bool (Fl.meantF (ix5 x0 x1 x2 x3 x4) t)) ∧ Below W.heap.size W w') := Lib.hid fun W h => hcg2 W (hg4.over (Nat.le_refl _) h) h.size
      generalize Fl.insF false t = tg at *
      have HTX : Hid (∀ W, Below w4.heap.size w4 W → Calls Tryd.prog (textOf tg) #[rg] W fun e w' => e = .returned (.string ⟨(Fl.textF tg).toArray⟩) ∧ Below W.heap.size W w') := Lib.hid fun W h => text_any _ _ tg okg hcntg _ _ rg rfl W (hg4.over (Nat.le_refl _) h) h.size (hv4.over h)
      have HTU : Hid (∀ W5 w5 T5 r5, Below w4.heap.size w4 W5 → Below W5.heap.size W5 w5 → FtV W5.heap.size w5.heap.size w5 (.iface T5 r5) tg → Meth (.iface T5 r5) "Text" (textOf tg) r5 ∧ ∀ W, Below w5.heap.size w5 W → Calls Tryd.prog (textOf tg) #[r5] W fun e w' => e = .returned (.string ⟨(Fl.textF tg).toArray⟩) ∧ Below W.heap.size W w') := Lib.hid fun W5 w5 T5 r5 h5 h6 hf => by
        obtain ⟨Ta, ra, ea, _, hma⟩ := hf.meth
        injection ea with ea1 ea2
        subst ea1; subst ea2
        exact ⟨hma, fun W h => text_any _ _ tg okg hcntg _ _ r5 rfl W (hf.over (Nat.le_refl _) h) h.size (((hv4.over h5).over h6).over h)⟩
      have HMF := Lib.hid hmf; have HMG := Lib.hid hmg; have HMTG := Lib.hid hmtg; have HIN2 := Lib.hid hcall2; have HB4 := Lib.hid (HB1.out.trans (hb14.mono HB1.out.size))
      generalize Fl.textF tg = tx at *
      generalize Fl.meantF (ix5 x0 x1 x2 x3 x4) t = mt at *
      clear hmf hmg hmtg hcall2 hcf hcg2 hft4 hg4 hb4 hb14 hk4 hv4 h4 hmm hii okg hcg hcntg HIN HMT HFT HFT3 HB2 HB3 HOK
      go_upto_region 7 with fail
      go_region_held3 (fun wx => wx.cell? ⟨w.heap.size, 0, none⟩ = some (.int .i64 x0) ∧ wx.cell? ⟨w.heap.size, 1, none⟩ = some (.int .i64 x1) ∧ wx.cell? ⟨w.heap.size, 2, none⟩ = some (.int .i64 x2) ∧ wx.cell? ⟨w.heap.size, 3, none⟩ = some (.int .i64 x3) ∧ wx.cell? ⟨w.heap.size, 4, none⟩ = some (.int .i64 x4))
        (first | ((refine HS4.out _ ?_); (repeat (first | assumption | exact Below.refl _ _ | apply bl_drew | apply bl_drewN | apply bl_alloc | (refine bl_next ?_ (by assumption))))))
        (first
          | ((refine step_invoke1 (vx := .agg #[.int .i64 x0, .int .i64 x1, .int .i64 x2, .int .i64 x3, .int .i64 x4]) (by rfl) (.tmp 36) (.tmp 37) #[31] rfl HMG.out (by rfl) (by rfl) (HCG.out _ ?_) (fun e w' h => ⟨_, h.1⟩) ?_); (focus (repeat (first | assumption | exact Below.refl _ _ | apply bl_drew | apply bl_drewN | apply bl_alloc | (refine bl_next ?_ (by assumption))))); rintro va wa ⟨ea, hba⟩; injection ea with ea; subst ea)
          | ((refine step_invoke1 (vx := .agg #[.int .i64 x0, .int .i64 x1, .int .i64 x2, .int .i64 x3, .int .i64 x4]) (by rfl) (.tmp 39) (.tmp 40) #[31] rfl HMF.out (by rfl) (by rfl) (HCF.out _ ?_) (fun e w' h => ⟨_, h.1⟩) ?_); (focus (repeat (first | assumption | exact Below.refl _ _ | apply bl_drew | apply bl_drewN | apply bl_alloc | (refine bl_next ?_ (by assumption))))); rintro vb wb ⟨eb, hbb⟩; injection eb with eb; subst eb)
          | ((refine step_invoke0 (by rfl) (.tmp 48) #[] rfl HMTG.out (by rfl) (HTX.out _ ?_) (fun e w' h => ⟨_, h.1⟩) ?_); (focus (repeat (first | assumption | exact Below.refl _ _ | apply bl_drew | apply bl_drewN | apply bl_alloc | (refine bl_next ?_ (by assumption))))); rintro vc wc ⟨ec, hbc⟩; injection ec with ec; subst ec)
          | ((refine step_invoke0 (by rfl) (.tmp 46) #[] rfl HU.out.1 (by rfl) (HU.out.2 _ ?_) (fun e w' h => ⟨_, h.1⟩) ?_); (focus (repeat (first | assumption | exact Below.refl _ _ | apply bl_drew | apply bl_drewN | apply bl_alloc | (refine bl_next ?_ (by assumption))))); rintro vd wd ⟨ed, hbd⟩; injection ed with ed; subst ed)
          | (go_at_call 12; (with_reducible refine (HIN2.out _ ?_).mono ?_); (focus (repeat (first | assumption | exact Below.refl _ _ | apply bl_drew | apply bl_drewN | apply bl_alloc | (refine bl_next ?_ (by assumption))))); rintro e w5 ⟨T5, r5, rfl, h5⟩; obtain ⟨hf5, hb5⟩ := h5.out; have HU := Lib.hid (HTU.out _ w5 T5 r5 (by repeat (first | assumption | exact Below.refl _ _ | apply bl_drew | apply bl_drewN | apply bl_alloc | (refine bl_next ?_ (by assumption)))) hb5 hf5); clear hf5 h5)
          | fail)
      all_goals
        go_wp2_with fail
        go_ret
        refine ⟨rfl, HB4.out.trans (Below.mono ?_ HB4.out.size)⟩
        (repeat (first | assumption | exact Below.refl _ _ | apply bl_drew | apply bl_drewN | apply bl_alloc | (refine bl_next ?_ (by assumption))))
    · obtain ⟨hpe, hb2⟩ := h2.out
      have HMT := Lib.hid (meant_fact w2 (HV1.out.over hb2))
      have HMT3 := Lib.hid (fun W (h : Below w2.heap.size w2 W) => meant_fact W ((HV1.out.over hb2).over h))
      have HB2 := Lib.hid hb2
      clear hre h2 hpe hb2 HP
      go_wp2_with fail
      (with_reducible refine HMT.out.mono ?_)
      rintro e w3 ⟨rfl, hb3⟩
      have HM4 := Lib.hid (HMT3.out _ hb3); have HB3 := Lib.hid hb3
      clear hb3
      go_wp2_with fail
      (with_reducible refine HM4.out.mono ?_)
      rintro e w4 ⟨rfl, hb4⟩
      have HB4 := Lib.hid hb4
      clear hb4
      go_wp2_with fail
      go_ret
      have h1 := HB2.out.trans ((HB3.out.trans (HB4.out.mono HB3.out.size)).mono HB2.out.size)
      exact ⟨rfl, HB1.out.trans (h1.mono HB1.out.size)⟩
end Go.Proofs.YtdipehgijjkfdaaDoor
