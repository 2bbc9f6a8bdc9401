/-
  FilterBack: the walk.
-/
import Derived.Test.YtdipehgijjkfdaaDoorFlFact
import Derived.Test.YtdipehgijjkfdaaDoorFlTextL
import Derived.Test.YtdipehgijjkfdaaDoorAsAt
import Derived.Deep.RegionHeld3
namespace Go.Proofs.YtdipehgijjkfdaaDoor
open Go.RowKit
set_option linter.unusedVariables false
theorem blk_reads2 {w : World} {b E : Nat} {t : TypeId} {u v : Value} (h : Blk w b t #[u, v]) (hb : b < E) : Reads w E 1 (some ⟨b, 0, none⟩) 2 [u, v] := by
  refine ⟨rfl, fun _ => ⟨_, rfl, hb, fun j y hj => ?_⟩⟩
  have e2 : (⟨b, 0, none⟩ : Addr).add j = ⟨b, j, none⟩ := by unfold Addr.add; split <;> simp_all
  rw [e2, h.cell j]
  rcases (by have := (List.getElem?_eq_some_iff.1 hj).1; simp at this; omega : j = 0 ∨ j = 1) with rfl | rfl
  · exact hj
  · exact hj
/-- Tell of an error of Parse's -/
theorem tell_perr {er : Int} {T : TypeId} {x : Value} {w : World} (h : PErr er (.iface T x) w) (hg : Handle w) : Calls Tryd.prog 13 #[.iface T x] w fun e w' => e = .returned (.int .i64 er) ∧ Below w.heap.size w w' := by
  rcases h with h | ⟨q, p, h, hb⟩
  · rw [h]
    exact tell_errno er w hg
  · rw [h]
    exact tell_at er q w hg (hb.cell 0)
set_option maxHeartbeats 8000000 in
set_option maxRecDepth 100000 in
theorem filterBack_core (text : List UInt8) (hlm : text.length ≤ 9223372036854775807) (x0 x1 x2 x3 x4 : Int) (w : World) (hv : Pv w) (hgl : Handle w) :
    Calls Tryd.prog 5 #[.string ⟨text.toArray⟩, .agg #[.int .i64 x0, .int .i64 x1, .int .i64 x2, .int .i64 x3, .int .i64 x4]] w fun e w' => e = .returned (.bool true) ∧ Below w.heap.size w w' := by
  have hsz : (⟨text.toArray⟩ : ByteArray).size = text.length := ba_len text
  by_cases hl : 1000 < text.length
  · have d0 : decide ((1000 : Int) < (text.length : Int)) = true := decide_eq_true (by omega)
    clear hgl
    go_enter Tryd.func5, Tryd.ntmps5
    go_wp2_with fail
    go_ret
    exact ⟨rfl, (Below.refl w.heap.size w).alloc (Nat.le_refl _) _⟩
  · have d0 : decide ((1000 : Int) < (text.length : Int)) = false := decide_eq_false (by omega)
    have hb1 : Below w.heap.size w (w.alloc (.cells #[.int .i64 x0, .int .i64 x1, .int .i64 x2, .int .i64 x3, .int .i64 x4] 31)) := (Below.refl w.heap.size w).alloc (Nat.le_refl _) _
    have hk1 := Blk.new w 31 #[.int .i64 x0, .int .i64 x1, .int .i64 x2, .int .i64 x3, .int .i64 x4]
    have hp := parse_f text (by omega) _ (hv.over hb1)
    have HP := Lib.hid hp; have HB1 := Lib.hid hb1; have HK1 := Lib.hid hk1; have HV1 := Lib.hid (hv.over hb1); have HG1 := Lib.hid (hgl.below hb1)
    have hlex := lex_len text []
    have HX := Lib.hid hlex
    clear hp hb1 hk1 hv hlex hgl
    go_enter Tryd.func5, Tryd.ntmps5
    go_wp2_with fail
    (with_reducible refine HP.out.mono ?_)
    rintro e w2 (⟨t, v, hre, rfl, h2⟩ | ⟨er, T, x, hre, rfl, h2⟩)
    · obtain ⟨hft, hb2⟩ := h2.out
      obtain ⟨ok, sn, hd, hcn⟩ := parse_ok hre
      have hcnt : Fl.cnt t ≤ 2001 := by have := HX.out; omega
      obtain ⟨T, r, rfl⟩ := hft.form
      have HMT := Lib.hid (meant_fact w2 (HV1.out.over hb2))
      have HFT := Lib.hid hft; have HB2 := Lib.hid hb2; have HOK := Lib.hid ok; have HSN := Lib.hid sn; have HD := Lib.hid hd
      clear hre h2 hft hb2 HP sn hd hcn ok
      go_wp2_with fail
      (with_reducible refine HMT.out.mono ?_)
      rintro e w3 ⟨rfl, hb3⟩
      have hft3 := HFT.out.over (Nat.le_refl _) hb3
      have hb13 : Below (w.alloc (.cells #[.int .i64 x0, .int .i64 x1, .int .i64 x2, .int .i64 x3, .int .i64 x4] 31)).heap.size (w.alloc (.cells #[.int .i64 x0, .int .i64 x1, .int .i64 x2, .int .i64 x3, .int .i64 x4] 31)) w3 := HB2.out.trans (hb3.mono HB2.out.size)
      have hv3 := HV1.out.over hb13
      obtain ⟨T1, r1, e1, _, hmt⟩ := hft3.meth
      injection e1 with e11 e12
      subst e11; subst e12
      have HTX := Lib.hid (text_any _ _ t HOK.out (by omega) _ T r rfl w3 hft3 hb3.size hv3)
      have htl := Fl.text_len t HOK.out
      have hpt := parse_text t HOK.out HSN.out HD.out
      have hpn := parse_not t HOK.out HSN.out HD.out
      have HFT3 := Lib.hid hft3; have HB13 := Lib.hid hb13; have HV3 := Lib.hid hv3; have HMTX := Lib.hid hmt; have HSZ3 := Lib.hid hb3.size
      have HPT := Lib.hid hpt; have HPN := Lib.hid hpn
      have hTX : ∃ tx, Fl.textF t = tx := ⟨_, rfl⟩
      obtain ⟨tx, htx⟩ := hTX
      have HTXE := Lib.hid htx
      rw [htx] at HTX HPT HPN htl
      clear hft3 hb13 hv3 hmt hpt hpn hb3 HMT HFT HB2 htx
      go_wp2_with (refine wpList_invoke0 rfl (.tmp 33) #[] rfl HMTX.out rfl HTX.out (fun e w' h => ⟨_, h.1⟩) ?_; rintro v4 w4 ⟨e4, hb4⟩; injection e4 with e4; subst e4; have HB4 := Lib.hid hb4; clear hb4)
      have hb14 := HB13.out.trans (HB4.out.mono HB13.out.size)
      have hp5 := parse_f tx (by omega) w4 (HV1.out.over hb14)
      have HP5 := Lib.hid hp5
      clear hp5
      have htsz : (⟨tx.toArray⟩ : ByteArray).size = tx.length := ba_len tx
      (with_reducible refine HP5.out.mono ?_)
      rintro e w5 (⟨t5, v5, hre5, rfl, h5⟩ | ⟨er5, T5, y5, hre5, rfl, h5⟩)
      · have hl5 : tx.length ≤ 2000 := by
          rcases Nat.lt_or_ge 2000 tx.length with h | h
          · unfold parseF at hre5; rw [if_pos h] at hre5; cases hre5
          · exact h
        have d5 : decide ((2000 : Int) < (tx.length : Int)) = false := decide_eq_false (by omega)
        rw [HPT.out hl5] at hre5
        injection hre5 with hre5
        subst hre5
        obtain ⟨hg5, hb5⟩ := h5.out
        obtain ⟨Tg, rg, rfl⟩ := hg5.form
        have hb15 := hb14.trans (hb5.mono hb14.size)
        have hk5 := HK1.out.below hb15 HK1.out.lt
        have hv5 := HV1.out.over hb15
        have hsz35 : w3.heap.size ≤ w5.heap.size := Nat.le_trans HB4.out.size hb5.size
        have hf5 := HFT3.out.over HSZ3.out (HB4.out.trans (hb5.mono HB4.out.size))
        have HS5 : Hid (∀ wx, Below w5.heap.size w5 wx → wx.cell? ⟨w.heap.size, 0, none⟩ = some (.int .i64 x0) ∧ wx.cell? ⟨w.heap.size, 1, none⟩ = some (.int .i64 x1) ∧ wx.cell? ⟨w.heap.size, 2, none⟩ = some (.int .i64 x2) ∧ wx.cell? ⟨w.heap.size, 3, none⟩ = some (.int .i64 x3) ∧ wx.cell? ⟨w.heap.size, 4, none⟩ = some (.int .i64 x4)) := Lib.hid fun wx hx => by
          have q := hk5.below hx hk5.lt
          exact ⟨q.cell 0, q.cell 1, q.cell 2, q.cell 3, q.cell 4⟩
        obtain ⟨Ta, ra, ea, hmf, hcf⟩ := hf5.meant HOK.out (by omega) (ix5 x0 x1 x2 x3 x4)
        injection ea with ea1 ea2
        subst ea1; subst ea2
        obtain ⟨Tb, rb, eb, hmg, hcg⟩ := hg5.meant HOK.out (by omega) (ix5 x0 x1 x2 x3 x4)
        injection eb with eb1 eb2
        subst eb1; subst eb2
        obtain ⟨Tc, rc, ec, _, hmgt⟩ := hg5.meth
        injection ec with ec1 ec2
        subst ec1; subst ec2
        have HCF : Hid (∀ W, Below w5.heap.size w5 W → Calls Tryd.prog (meantOf t) #[r, .agg #[.int .i64 x0, .int .i64 x1, .int .i64 x2, .int .i64 x3, .int .i64 x4]] W fun e w' => e = .returned (.bool (Fl.meantF (ix5 x0 x1 x2 x3 x4) t)) ∧ Below W.heap.size W w') := Lib.hid fun W h => hcf W (hf5.over (Nat.le_trans HSZ3.out hsz35) h) (Nat.le_trans (Nat.le_trans HSZ3.out hsz35) h.size)
        have HCG : Hid (∀ W, Below w5.heap.size w5 W → Calls Tryd.prog (meantOf t) #[rg, .agg #[.int .i64 x0, .int .i64 x1, .int .i64 x2, .int .i64 x3, .int .i64 x4]] W fun e w' => e = .returned (.bool (Fl.meantF (ix5 x0 x1 x2 x3 x4) t)) ∧ Below W.heap.size W w') := Lib.hid fun W h => hcg W (hg5.over (Nat.le_refl _) h) h.size
        have HTG : Hid (∀ W, Below w5.heap.size w5 W → Calls Tryd.prog (textOf t) #[rg] W fun e w' => e = .returned (.string ⟨tx.toArray⟩) ∧ Below W.heap.size W w') := Lib.hid fun W h => by
          have h9 := text_any _ _ t HOK.out (by omega) _ Tg rg rfl W (hg5.over (Nat.le_refl _) h) h.size (hv5.over h)
          rw [HTXE.out] at h9
          exact h9
        have HMF := Lib.hid hmf; have HMG := Lib.hid hmg; have HMGT := Lib.hid hmgt; have HV5 := Lib.hid hv5; have HF5 := Lib.hid hf5; have HB5 := Lib.hid (HB1.out.trans (hb15.mono HB1.out.size)); have HB15 := Lib.hid hb15; have HSZ35 := Lib.hid (Nat.le_trans HSZ3.out hsz35)
        have hmn : ∀ x, Fl.meantF x (.not t) = !Fl.meantF x t := fun x => by rw [Fl.meantF]
        have HMN := Lib.hid (hmn (ix5 x0 x1 x2 x3 x4))
        generalize hmtg : Fl.meantF (ix5 x0 x1 x2 x3 x4) t = mt at *
        have HMTE := Lib.hid hmtg
        clear hmf hmg hmgt hcf hcg hb14 hb15 hk5 hv5 hf5 hg5 hb5 h5 hmn hmtg HP5 HTX HMTX HV3 HFT3 HB13 HB4
        go_upto_region 10 with fail
        go_region_held3 (fun wx => wx.cell? ⟨w.heap.size, 0, none⟩ = some (.int .i64 x0) ∧ wx.cell? ⟨w.heap.size, 1, none⟩ = some (.int .i64 x1) ∧ wx.cell? ⟨w.heap.size, 2, none⟩ = some (.int .i64 x2) ∧ wx.cell? ⟨w.heap.size, 3, none⟩ = some (.int .i64 x3) ∧ wx.cell? ⟨w.heap.size, 4, none⟩ = some (.int .i64 x4))
          (first | ((refine HS5.out _ ?_); (repeat (first | assumption | exact Below.refl _ _ | apply bl_drew | apply bl_drewN | apply bl_alloc | (refine bl_next ?_ (by assumption))))))
          (first
            | ((refine step_invoke0 (by rfl) (.tmp 50) #[] rfl HMGT.out (by rfl) (HTG.out _ ?_) (fun e w' h => ⟨_, h.1⟩) ?_); (focus (repeat (first | assumption | exact Below.refl _ _ | apply bl_drew | apply bl_drewN | apply bl_alloc | (refine bl_next ?_ (by assumption))))); rintro va wa ⟨ea, hba⟩; injection ea with ea; subst ea)
            | ((refine step_invoke1 (vx := .agg #[.int .i64 x0, .int .i64 x1, .int .i64 x2, .int .i64 x3, .int .i64 x4]) (by rfl) (.tmp 56) (.tmp 57) #[31] rfl HMG.out (by rfl) (by rfl) (HCG.out _ ?_) (fun e w' h => ⟨_, h.1⟩) ?_); (focus (repeat (first | assumption | exact Below.refl _ _ | apply bl_drew | apply bl_drewN | apply bl_alloc | (refine bl_next ?_ (by assumption))))); rintro vb wb ⟨eb, hbb⟩; injection eb with eb; subst eb)
            | ((refine step_invoke1 (vx := .agg #[.int .i64 x0, .int .i64 x1, .int .i64 x2, .int .i64 x3, .int .i64 x4]) (by rfl) (.tmp 59) (.tmp 60) #[31] rfl HMF.out (by rfl) (by rfl) (HCF.out _ ?_) (fun e w' h => ⟨_, h.1⟩) ?_); (focus (repeat (first | assumption | exact Below.refl _ _ | apply bl_drew | apply bl_drewN | apply bl_alloc | (refine bl_next ?_ (by assumption))))); rintro vc wc ⟨ec, hbc⟩; injection ec with ec; subst ec)
            | fail)
        have hb6 : Below w5.heap.size w5 wc := by repeat (first | assumption | exact Below.refl _ _ | apply bl_drew | apply bl_drewN | apply bl_alloc | (refine bl_next ?_ (by assumption)))
        have HB6 := Lib.hid hb6
        clear hb6 hba hbb hbc HTG HMGT HCG HMG
        obtain ⟨p, hp⟩ : ∃ p, [110, 111, 116, 32] ++ tx = p := ⟨_, rfl⟩
        have hpl : p.length = tx.length + 4 := by rw [← hp]; simp
        have c0 := cat_run [110, 111, 116, 32] tx p hp (by omega)
        have hp6 := parse_f p (by omega) wc (HV5.out.over HB6.out)
        have hpn := HPN.out
        rw [hp] at hpn
        have HP6 := Lib.hid hp6; have HPN2 := Lib.hid hpn
        clear hp6 hpn hp HPN HPT
        go_wp2_with fail
        (with_reducible refine HP6.out.mono ?_)
        rintro e w7 (⟨t7, v7, hre7, rfl, h7⟩ | ⟨er7, T7, y7, hre7, rfl, h7⟩)
        · have ht7 : t7 = .not t := by
            rcases HPN2.out with h | h
            · rw [h] at hre7; injection hre7 with hre7; exact hre7.symm
            · rw [h] at hre7; cases hre7
          subst ht7
          obtain ⟨hn7, hb7⟩ := h7.out
          obtain ⟨T7, r7, rfl⟩ := hn7.form
          have hb57 : Below w5.heap.size w5 w7 := HB6.out.trans (hb7.mono HB6.out.size)
          have okn : Fl.okF (.not t) := HOK.out
          obtain ⟨Ta, ra, ea, hmn, hcn⟩ := hn7.meant okn (by simp only [Fl.cnt]; omega) (ix5 x0 x1 x2 x3 x4)
          injection ea with ea1 ea2
          subst ea1; subst ea2
          rw [HMN.out] at hcn
          have HCN : Hid (∀ W, Below w7.heap.size w7 W → Calls Tryd.prog (meantOf (.not t)) #[r7, .agg #[.int .i64 x0, .int .i64 x1, .int .i64 x2, .int .i64 x3, .int .i64 x4]] W fun e w' => e = .returned (.bool (!mt)) ∧ Below W.heap.size W w') := Lib.hid fun W h => hcn W (hn7.over (Nat.le_refl _) h) h.size
          have HCF7 : Hid (∀ W, Below w7.heap.size w7 W → Calls Tryd.prog (meantOf t) #[r, .agg #[.int .i64 x0, .int .i64 x1, .int .i64 x2, .int .i64 x3, .int .i64 x4]] W fun e w' => e = .returned (.bool mt) ∧ Below W.heap.size W w') := Lib.hid fun W h => HCF.out W (hb57.trans (h.mono hb57.size))
          have HS7 : Hid (∀ wx, Below w7.heap.size w7 wx → wx.cell? ⟨w.heap.size, 0, none⟩ = some (.int .i64 x0) ∧ wx.cell? ⟨w.heap.size, 1, none⟩ = some (.int .i64 x1) ∧ wx.cell? ⟨w.heap.size, 2, none⟩ = some (.int .i64 x2) ∧ wx.cell? ⟨w.heap.size, 3, none⟩ = some (.int .i64 x3) ∧ wx.cell? ⟨w.heap.size, 4, none⟩ = some (.int .i64 x4)) := Lib.hid fun wx h => HS5.out wx (hb57.trans (h.mono hb57.size))
          have hf7 := HF5.out.over HSZ35.out hb57
          have hsz57 := hb57.size
          have HF1 : Hid (∀ W0 W, Below w7.heap.size w7 W0 → Below (W0.alloc (.cells #[.iface T7 r7, .iface T r] 34)).heap.size (W0.alloc (.cells #[.iface T7 r7, .iface T r] 34)) W →
              Calls Tryd.prog 14 #[.slice (some ⟨W0.heap.size, 0, none⟩) 2 2, .agg #[.int .i64 x0, .int .i64 x1, .int .i64 x2, .int .i64 x3, .int .i64 x4]] W fun e w' => ∃ k : Int, e = .returned (.int .i64 k) ∧ 0 ≤ k ∧ Below W.heap.size W w') := Lib.hid fun W0 W h0 h1 => by
            have hk := (Blk.new W0 34 #[.iface T7 r7, .iface T r]).below h1 (Blk.new W0 _ _).lt
            have h01 : Below w7.heap.size w7 W := (h0.alloc h0.size _).trans (h1.mono (Nat.le_trans h0.size (by simp)))
            have hsz := h01.size
            have hlt := hk.lt
            refine (first_f (ix5 x0 x1 x2 x3 x4) (some ⟨W0.heap.size, 0, none⟩) 2 2 0 W.heap.size [.iface T7 r7, .iface T r] [.not t, t] W (blk_reads2 hk hlt) rfl (by omega) (Nat.le_refl _) (fun i u y hu hy => ?_)).mono ?_
            · rcases (by have := (List.getElem?_eq_some_iff.1 hu).1; simp at this; omega : i = 0 ∨ i = 1) with rfl | rfl
              · simp at hu hy
                subst hu; subst hy
                exact ⟨(hn7.wide (Nat.zero_le _) (Nat.le_refl _)).over (Nat.le_refl _) h01 |>.wide (Nat.le_refl _) hsz, okn, by simp only [Fl.cnt]; omega⟩
              · simp at hu hy
                subst hu; subst hy
                exact ⟨((hf7.wide (Nat.zero_le _) (Nat.le_trans HSZ35.out hsz57)).over (Nat.le_refl _) h01).wide (Nat.le_refl _) hsz, HOK.out, by omega⟩
            · rintro e w' ⟨⟨k, rfl, hk0⟩, hb⟩
              refine ⟨k, rfl, hk0 ?_, hb⟩
              have hn := HMN.out
              have ht := HMTE.out
              cases hmt : mt with
              | true => exact ⟨1, t, rfl, ht.trans hmt⟩
              | false => exact ⟨0, .not t, rfl, by rw [hn, hmt]; rfl⟩
          have HMNN := Lib.hid hmn; have HB7 := Lib.hid (HB5.out.trans (hb57.mono HB5.out.size))
          have hneq : (!mt) ≠ mt := by cases mt <;> decide
          have hneq2 : ((!mt) == mt) = false := by cases mt <;> rfl
          have hneq3 : ((!mt) != mt) = true := by cases mt <;> rfl
          clear hn7 hb7 h7 hre7 hmn hcn hf7 hb57 hsz57 HP6 HPN2 HCF HS5
          obtain ⟨nt, hnt⟩ : ∃ nt, (!mt) = nt := ⟨_, rfl⟩
          rw [hnt] at HCN hneq hneq2 hneq3
          clear hnt HMN HMTE
          go_upto_region 15 with fail
          go_region_held3 (fun wx => wx.cell? ⟨w.heap.size, 0, none⟩ = some (.int .i64 x0) ∧ wx.cell? ⟨w.heap.size, 1, none⟩ = some (.int .i64 x1) ∧ wx.cell? ⟨w.heap.size, 2, none⟩ = some (.int .i64 x2) ∧ wx.cell? ⟨w.heap.size, 3, none⟩ = some (.int .i64 x3) ∧ wx.cell? ⟨w.heap.size, 4, none⟩ = some (.int .i64 x4))
            (first | ((refine HS7.out _ ?_); (repeat (first | assumption | exact Below.refl _ _ | apply bl_drew | apply bl_drewN | apply bl_alloc | (refine bl_next ?_ (by assumption))))))
            (first
              | ((refine step_invoke1 (vx := .agg #[.int .i64 x0, .int .i64 x1, .int .i64 x2, .int .i64 x3, .int .i64 x4]) (by rfl) (.tmp 78) (.tmp 79) #[31] rfl HMNN.out (by rfl) (by rfl) (HCN.out _ ?_) (fun e w' h => ⟨_, h.1⟩) ?_); (focus (repeat (first | assumption | exact Below.refl _ _ | apply bl_drew | apply bl_drewN | apply bl_alloc | (refine bl_next ?_ (by assumption))))); rintro va wa ⟨ea, hba⟩; injection ea with ea; subst ea)
              | ((refine step_invoke1 (vx := .agg #[.int .i64 x0, .int .i64 x1, .int .i64 x2, .int .i64 x3, .int .i64 x4]) (by rfl) (.tmp 81) (.tmp 82) #[31] rfl HMF.out (by rfl) (by rfl) (HCF7.out _ ?_) (fun e w' h => ⟨_, h.1⟩) ?_); (focus (repeat (first | assumption | exact Below.refl _ _ | apply bl_drew | apply bl_drewN | apply bl_alloc | (refine bl_next ?_ (by assumption))))); rintro vb wb ⟨eb, hbb⟩; injection eb with eb; subst eb)
              | (go_at_call 14; (with_reducible refine (HF1.out _ _ ?_ ?_).mono ?_); (focus (repeat (first | assumption | exact Below.refl _ _ | apply bl_drew | apply bl_drewN | apply bl_alloc | (refine bl_next ?_ (by assumption))))); (focus (repeat (first | assumption | exact Below.refl _ _ | apply bl_drew | apply bl_drewN | apply bl_alloc | (refine bl_next ?_ (by assumption))))); rintro e w8 ⟨k8, rfl, hk8, hb8⟩)
              | fail)
          all_goals
            go_wp2_with fail
            go_ret
            refine ⟨rfl, HB7.out.trans (Below.mono ?_ HB7.out.size)⟩
            (repeat (first | assumption | exact Below.refl _ _ | apply bl_drew | apply bl_drewN | apply bl_alloc | (refine bl_next ?_ (by assumption))))
        · have he4 : er7 = 4 := by
            rcases HPN2.out with h | h
            · rw [h] at hre7; cases hre7
            · rw [h] at hre7; injection hre7 with hre7; exact hre7.symm
          subst he4
          obtain ⟨hpe, hb7⟩ := h7.out
          have hb57 : Below w5.heap.size w5 w7 := HB6.out.trans (hb7.mono HB6.out.size)
          have HTL := Lib.hid (tell_perr hpe (HG1.out.below (HB15.out.trans (hb57.mono HB15.out.size))))
          have HB7 := Lib.hid (HB5.out.trans (hb57.mono HB5.out.size))
          clear hpe hb7 hb57 h7 hre7 HP6 HPN2
          go_wp2_with fail
          (with_reducible refine HTL.out.mono ?_)
          rintro e w8 ⟨rfl, hb8⟩
          have HB8 := Lib.hid (HB7.out.trans (hb8.mono HB7.out.size))
          clear hb8
          go_wp2_with fail
          go_ret
          exact ⟨rfl, HB8.out⟩
      · have hl5 : 2000 < tx.length := by
          rcases Nat.lt_or_ge 2000 tx.length with h | h
          · exact h
          · rw [HPT.out h] at hre5; cases hre5
        have d5 : decide ((2000 : Int) < (tx.length : Int)) = true := decide_eq_true (by omega)
        obtain ⟨_, hb5⟩ := h5.out
        have hb15 := hb14.trans (hb5.mono hb14.size)
        have HB15 := Lib.hid (HB1.out.trans (hb15.mono HB1.out.size))
        clear hb14 hb15 hb5 h5 hre5 HP5
        go_wp2_with fail
        go_ret
        exact ⟨rfl, HB15.out⟩
    · obtain ⟨hpe, hb2⟩ := h2.out
      have HMT := Lib.hid (meant_fact w2 (HV1.out.over hb2))
      have HMT3 := Lib.hid (fun W (h : Below w2.heap.size w2 W) => meant_fact W ((HV1.out.over hb2).over h))
      have HB2 := Lib.hid hb2
      clear hre h2 hpe hb2 HP
      go_wp2_with fail
      (with_reducible refine HMT.out.mono ?_)
      rintro e w3 ⟨rfl, hb3⟩
      have HM4 := Lib.hid (HMT3.out _ hb3); have HB3 := Lib.hid hb3
      clear hb3
      go_wp2_with fail
      (with_reducible refine HM4.out.mono ?_)
      rintro e w4 ⟨rfl, hb4⟩
      have HB4 := Lib.hid hb4
      clear hb4
      go_wp2_with fail
      go_ret
      have h1 := HB2.out.trans ((HB3.out.trans (HB4.out.mono HB3.out.size)).mono HB2.out.size)
      exact ⟨rfl, HB1.out.trans (h1.mono HB1.out.size)⟩
end Go.Proofs.YtdipehgijjkfdaaDoor
