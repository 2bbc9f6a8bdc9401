/-
  What sced.Make computes, where the flows may be and the ticks are in range.
-/
import Derived.Test.YtjjmfgoeabmfdaaSced4a
namespace Go.Proofs.Ytjjmfgoeabmfdaa
open Go.RowKit Crv
set_option linter.unusedVariables false

set_option maxHeartbeats 16000000 in
set_option maxRecDepth 100000 in
theorem make_yes (A : Option Addr) (m c : Nat) (fs : Nat → FV) (T : Nat) (w : World) (hr : RdF w w.heap.size A m fs) (h : SOk m fs) (hn : InRange m fs T) : Calls Try.prog 28 #[.slice A m c, .int .i64 T] w (MakeOut w m T fs) := by
  have hb0 : Below w.heap.size w (w.alloc (.cells #[.slice none 0 0, .slice none 0 0, .slice none 0 0] 47)) := (Below.refl _ w).alloc (Nat.le_refl _) _
  have hr1 := hr.over hb0 (Nat.le_refl _)
  have hgw : w.heap.size < (w.alloc (.cells #[.slice none 0 0, .slice none 0 0, .slice none 0 0] 47)).heap.size := by simp
  have hk := Blk.new w 47 #[.slice none 0 0, .slice none 0 0, .slice none 0 0]
  have hm1 := h.1
  have hm8 := h.2.1
  have HH := Lib.hid h; have HNR := Lib.hid hn; clear h hn
  go_enter Try.func28, Try.ntmps28
  go_wp2_with fail
  refine (sched_yes A m c fs _ hr1 HH.out).mono ?_
  rintro e w1 ⟨rfl, hb⟩
  have hk1 := hk.below hb hgw
  replace hr1 := hr1.over hb (Nat.le_refl _)
  have hbe : Below w.heap.size w w1 := hb0.trans (hb.mono (by omega))
  have hgw1 : w.heap.size < w1.heap.size := by have := hb.size; omega
  clear hk hb hb0 hgw
  go_wp2_with fail
  go_loopw [29] (fun i wr => ∃ k : Nat, k ≤ m ∧ i = .int .i64 k ∧ Below w1.heap.size w1 wr) (fun i _ => m - (intOf i).toNat)
  case atStart => exact ⟨0, Nat.zero_le _, rfl, Below.refl _ _⟩
  case round =>
    obtain ⟨k, hk, rfl, hb⟩ := hrel
    by_cases hlt : k < m
    · obtain ⟨b, off, rfl, hbB, c0, c1⟩ := (hr1.over hb (Nat.le_refl _)).at_ hlt
      obtain ⟨h1, h2⟩ := HNR.out k hlt
      generalize (fs k).A = Ak at *
      generalize (fs k).n = nk at *
      generalize (fs k).c = ck at *
      generalize (fs k).A' = Ak' at *
      generalize (fs k).n' = nk' at *
      generalize (fs k).c' = ck' at *
      go_wp2_with fail
      go_roundw
      case rel => exact ⟨k + 1, by omega, by go_num, hb.alloc hb.size _⟩
      case measure => simp [intOf]; omega
    · obtain rfl : k = m := by omega
      have hmk := made_rows k (by omega)
      go_upto_region 10 with (fail)
      go_cut [9] (fun v wx => ∃ gp gP gT, v = .pointer (some ⟨gp, 0, none⟩) ∧ Fresh1 wr wx k gp gP gT)
      case first =>
        as_aux_lemma =>
          go_region
          all_goals (go_wp2_with fail; go_meet; first | exact ⟨_, _, _, rfl, fresh_a1 _ _⟩ | exact ⟨_, _, _, rfl, fresh_a2 _ _⟩ | exact ⟨_, _, _, rfl, fresh_b1 _ _⟩ | exact ⟨_, _, _, rfl, fresh_b2 _ _⟩ | exact ⟨_, _, _, rfl, fresh_c1 _ _⟩ | exact ⟨_, _, _, rfl, fresh_c2 _ _⟩)
      case rest =>
        clear hmk
        have hmi := made_ints k (by omega)
        obtain ⟨gp, gP, gT, rfl, hf1⟩ := hcut
        have hf1b := hf1.below
        obtain ⟨w2, rfl⟩ : ∃ w2 : World, w2 = wc := ⟨_, rfl⟩
        go_upto_region 11 with (fail)
        go_cut [10, 11] (fun v v' wx => ∃ gc gs, v = .slice (some ⟨gc, 0, none⟩) k k ∧ v' = .slice (some ⟨gs, 0, none⟩) k k ∧ Fresh2 w2 wx k gc gs)
        case first =>
          as_aux_lemma =>
            go_region
            all_goals (go_wp2_with fail; go_meet; first | exact ⟨_, _, rfl, rfl, fresh_d _ _⟩ | exact ⟨_, _, rfl, rfl, fresh_e _ _⟩)
        case rest =>
          clear hmi
          obtain ⟨gc, gs, rfl, rfl, hf2⟩ := hcut
          obtain ⟨w3, rfl⟩ : ∃ w3 : World, w3 = wc := ⟨_, rfl⟩
          have hf2b := hf2.below
          have hbw2 : Below w.heap.size w w2 := (hbe.trans (hb.mono hbe.size)).trans (hf1b.mono (by have := hbe.size; have := hb.size; omega))
          have hbw3 : Below w.heap.size w w3 := hbw2.trans (hf2b.mono hbw2.size)
          have kp3 := hf1.kp.below hf2b hf1.kp.lt
          have kP3 := hf1.kP.below hf2b hf1.kP.lt
          have kT3 := hf1.kT.below hf2b hf1.kT.lt
          have far : MFar w3 gp gP gT gc gs := ⟨kp3.lt, kP3.lt, kT3.lt, hf2.kc.lt, hf2.ks.lt, blk_ne_row kp3 kP3 (by decide), blk_ne_row kp3 kT3 (by decide), blk_ne_row kp3 hf2.kc (by decide), blk_ne_row kp3 hf2.ks (by decide), hf1.ne, row_ne_row kP3 hf2.kc (by decide), row_ne_row kP3 hf2.ks (by decide), row_ne_row kT3 hf2.kc (by decide), row_ne_row kT3 hf2.ks (by decide), hf2.ne⟩
          have hlo : w.heap.size < gp ∧ w.heap.size < gP ∧ w.heap.size < gT ∧ w.heap.size < gc ∧ w.heap.size < gs := by
            have h1 := hbe.size; have h2 := hb.size; have h3 := hf1.h1; have h4 := hf1.h2; have h5 := hf1.h3; have h6 := hf2.h1; have h7 := hf2.h2; have h8 := hbw2.size; have h9 := hf1b.size
            omega
          have kc3 := hf2.kc; have ks3 := hf2.ks
          have hres3 := ((hk1.below hb hgw1).below hf1b (by have := hb.size; omega)).below hf2b (by have := hb.size; have := hf1b.size; omega)
          have HRES := Lib.hid hres3; clear hres3
          obtain ⟨bA, oA, rfl, _⟩ := hr.cells (by omega)
          have l1 := far.l1; have l2 := far.l2
          have hinv0 : DueInv w3 w3 fs T k gP 0 (fun _ => .slice none 0 0) := ⟨kP3, fun i hi => by omega, Chg.refl _ _⟩
          have hFAR := Lib.hid far; have HKP := Lib.hid kp3; have HKT := Lib.hid kT3; have HKC := Lib.hid kc3; have HKS := Lib.hid ks3
          have hT2 : T < 201 := by have h1 := (HNR.out 0 (by omega)).2; have h2 := (HH.out.2.2 0 (by omega)).prom.len; have h3 := (hr.prom 0 (by omega)).len; omega
          clear far kp3 kT3 kc3 ks3 kP3 hf1 hf2 hf1b hf2b hb hbe hk1 hr1 hbw2
          go_wp2_with fail
          go_loopw [63] (fun i wr2 => ∃ (j : Nat) (Pv : Nat → Value), j ≤ k ∧ i = .int .i64 j ∧ DueInv w3 wr2 fs T k gP j Pv) (fun i _ => k - (intOf i).toNat)
          case atStart => exact ⟨0, _, Nat.zero_le _, rfl, hinv0⟩
          case round =>
            clear hinv0
            obtain ⟨j, Pv, hj, rfl, hinv⟩ := hrel
            have hchg := hinv.2.2
            have hbj : Below w.heap.size w wr := hbw3.trans (hchg.below hbw3.size (fun i hi e => by have e' : i = gP := e; omega))
            have HI := Lib.hid hinv
            by_cases hlt2 : j < k
            · as_aux_lemma =>
                have hrj := hr.over hbj (Nat.le_refl _)
                obtain ⟨b, off, e, hbB, c0, c1⟩ := hrj.at_ hlt2
                injection e with e; injection e with e1 e2; subst e1 e2
                have hok := HH.out.2.2 j hlt2
                obtain ⟨hin1, hin2⟩ := HNR.out j hlt2
                have hsum0 := (sumTo_bd (fs j).xs 100 (fs j).n (fun i hi => hok.come i hi)).1
                obtain ⟨K, hK⟩ : ∃ K : Nat, sumTo (fs j).xs (fs j).n = (K : Int) := ⟨(sumTo (fs j).xs (fs j).n).toNat, by omega⟩
                have hx := rdI_new (hrj.come j hlt2) (.cells #[.slice (fs j).A (fs j).n (fs j).c, .slice (fs j).A' (fs j).n' (fs j).c'] 42)
                have hz := rdI_new (hrj.prom j hlt2) (.cells #[.slice (fs j).A (fs j).n (fs j).c, .slice (fs j).A' (fs j).n' (fs j).c'] 42)
                have hba : Below wr.heap.size wr (wr.alloc (.cells #[.slice (fs j).A (fs j).n (fs j).c, .slice (fs j).A' (fs j).n' (fs j).c'] 42)) := (Below.refl _ _).alloc (Nat.le_refl _) _
                have hkf := Blk.new wr 42 #[.slice (fs j).A (fs j).n (fs j).c, .slice (fs j).A' (fs j).n' (fs j).c']
                have hkp := (HKP.out.chg hchg hFAR.out.n1).alloc (.cells #[.slice (fs j).A (fs j).n (fs j).c, .slice (fs j).A' (fs j).n' (fs j).c'] 42)
                have hkP := hinv.1.alloc (.cells #[.slice (fs j).A (fs j).n (fs j).c, .slice (fs j).A' (fs j).n' (fs j).c'] 42)
                have hdue : ∀ W, Below (wr.alloc (.cells #[.slice (fs j).A (fs j).n (fs j).c, .slice (fs j).A' (fs j).n' (fs j).c'] 42)).heap.size (wr.alloc (.cells #[.slice (fs j).A (fs j).n (fs j).c, .slice (fs j).A' (fs j).n' (fs j).c'] 42)) W →
                    Calls Try.prog 46 #[fvV (fs j), .int .i64 T] W fun e w' => ∃ A c, e = .returned (.slice A K c) ∧ Below W.heap.size W w' ∧ RdI w' w'.heap.size A K (tab K (dueF (fs j).xs (fs j).zs T)) ∧ ∀ ad, A = some ad → W.heap.size ≤ ad.block := fun W hW =>
                  (due_yes (fs j) _ T K W (hx.over hW (Nat.le_refl _)) (hz.over hW (Nat.le_refl _)) hok (by omega) (by omega) hK).mono fun e w' h => h.at_ (tab_length _ _)
                have hDA : ∀ w4 A c, RdI w4 w4.heap.size A K (tab K (dueF (fs j).xs (fs j).zs T)) → (∀ ad, A = some ad → w3.heap.size ≤ ad.block) → DueAt w3 w4 fs T j (.slice A K c) := fun w4 A c h1 h2 => ⟨A, c, K, rfl, hK, h1, h2⟩
                have hDO : Hid (∃ g, g = tab K (dueF (fs j).xs (fs j).zs T)) := ⟨_, rfl⟩
                unfold fvV at hdue
                generalize tab K (dueF (fs j).xs (fs j).zs T) = ps at *
                generalize (fs j).A = A1 at *
                generalize (fs j).n = n1 at *
                generalize (fs j).c = c1' at *
                generalize (fs j).A' = A2 at *
                generalize (fs j).n' = n2 at *
                generalize (fs j).c' = c2' at *
                have hsz := hchg.size
                have i1 : (j : Int) < (k : Int) := by omega
                go_wp2_with fail
                clear c0 c1 hx hz hrj hok hK hin1 hin2
                have hlt3 : wr.heap.size < (wr.alloc (.cells #[.slice A1 n1 c1', .slice A2 n2 c2'] 42)).heap.size := by simp
                generalize (wr.alloc (.cells #[.slice A1 n1 c1', .slice A2 n2 c2'] 42)) = wX at *
                have hS : ∀ wx, Below wX.heap.size wX wx → wx.cell? ⟨gp, 1, none⟩ = some (.slice (some ⟨gP, 0, none⟩) k k) ∧ wx.cell? ⟨wr.heap.size, 0, none⟩ = some (.slice A1 n1 c1') ∧ wx.cell? ⟨wr.heap.size, 1, none⟩ = some (.slice A2 n2 c2') ∧
                    wx.cell? ⟨gP, j, none⟩ = some (Pv j) ∧ wx.frozen? ⟨gP, j, none⟩ = false ∧ Below wX.heap.size wX wx := fun wx hw =>
                  ⟨(hkp.below hw hkp.lt).cell 1, (hkf.below hw hkf.lt).cell 0, (hkf.below hw hkf.lt).cell 1, (hkP.below hw hkP.lt).cell hlt2, (hkP.below hw hkP.lt).frozen j, hw⟩
                have HS := Lib.hid hS; have HDUE := Lib.hid hdue; have HDA := Lib.hid hDA; have HBA := Lib.hid hba
                clear hS hdue hDA hkf hkp hkP hba hinv hchg hbj
                obtain ⟨q0, q1, q2, q3, q4, _⟩ := HS.out _ (Below.refl _ _)
                go_region_law
                  ((go_simp; go_at_call 46; (with_reducible refine (HDUE.out _ ?_).mono ?_); (repeat (first | assumption | exact Below.refl _ _ | apply bl_drew | apply bl_drewN | apply bl_alloc | (refine bl_next ?_ (by assumption)))); rintro e w4 ⟨A4, c4, rfl, hb4, hr4, hA4⟩; obtain ⟨z0, z1, z2, z3, z4, hbx4⟩ := HS.out w4 (by (repeat (first | assumption | exact Below.refl _ _ | apply bl_drew | apply bl_drewN | apply bl_alloc | (refine bl_next ?_ (by assumption)))))))
                all_goals
                  go_wp2_with fail
                  have hfin := due_step HI.out (HBA.out.trans (hbx4.mono (by omega))) l2 hlt2 (HDA.out w4 A4 c4 hr4 (fun ad e => by have h1 := hA4 ad e; have h2 : wX.heap.size ≤ ad.block := h1; omega))
                  have HFIN := Lib.hid hfin; clear hfin
                  go_roundw
                  case rel => exact ⟨j + 1, _, by omega, by go_num, by first | exact HFIN.out | exact HFIN.out.drew⟩
                  case measure => simp [intOf]; omega
            · obtain rfl : k = j := by omega
              have hg : FGood k T fs := ⟨HH.out, HNR.out, fun i hi => (hr.come i hi).len, fun i hi => (hr.prom i hi).len⟩
              have hm0 : MInv wr wr k gp gP gT gc gs (fun _ => .slice none 0 0) (rowsAt k fs T 0) (comeTo fs 0 0) (fun i => (Sced.sentT (plOf k fs T) 0 i : Int)) :=
                minv_start (HKP.out.chg hchg hFAR.out.n1) (HKT.out.chg hchg (Ne.symm hFAR.out.n5)) (HKC.out.chg hchg (Ne.symm hFAR.out.n6)) (HKS.out.chg hchg (Ne.symm hFAR.out.n7))
              have far := hFAR.out.mono hchg.size
              have hgPl : gP < w3.heap.size := l2
              have hl3 : ∀ b, (b = gp ∨ b = gT ∨ b = gc ∨ b = gs) → b < w3.heap.size := fun b h => by
                have := hFAR.out.l1; have := hFAR.out.l3; have := hFAR.out.l4; have := hFAR.out.l5
                omega
              obtain ⟨hP5, hD5, _⟩ := hinv
              have hres5 := HRES.out.chg hchg (fun e => by have e' : w.heap.size = gP := e; omega)
              have HRES5 := Lib.hid hres5; have hw5 : w.heap.size < wr.heap.size := by have := hchg.size; omega
              clear hres5
              have HG := Lib.hid hg; have HP5 := Lib.hid hP5; have HD5 := Lib.hid hD5; have FAR := Lib.hid far; have HL3 := Lib.hid hl3; have HBW5 := Lib.hid hbj
              clear hg hP5 hD5 far hl3 hFAR HKP HKT HKC HKS HI hchg hbj hbw3 hlt2
              obtain ⟨w5, rfl⟩ : ∃ w5 : World, w5 = wr := ⟨_, rfl⟩
              go_wp2_with fail
              go_loopw [77] (fun i wm => ∃ (t : Nat) (V : Nat → Value), t ≤ T ∧ i = .int .i64 t ∧ MInv w5 wm k gp gP gT gc gs V (rowsAt k fs T t) (comeTo fs t 0) (fun i => (Sced.sentT (plOf k fs T) t i : Int))) (fun i _ => T - (intOf i).toNat)
              case atStart => exact ⟨0, _, Nat.zero_le _, rfl, hm0⟩
              case round =>
                clear hm0
                obtain ⟨t, V, ht, rfl, hm⟩ := hrel
                have HM := Lib.hid hm; clear hm
                by_cases hlt2 : t < T
                · obtain ⟨wt, rfl⟩ : ∃ wt : World, wt = wr := ⟨_, rfl⟩
                  go_wp2_with fail
                  go_loopw [15, 16, 82] (fun v15 v16 i wi => ∃ j : Nat, j ≤ k ∧ i = .int .i64 j ∧ v15 = .int .i64 (pickTo k fs T t j).1 ∧ v16 = .int .i64 (pickTo k fs T t j).2 ∧ MInv w5 wi k gp gP gT gc gs V (rowsAt k fs T t) (comeTo fs t j) (fun i => (Sced.sentT (plOf k fs T) t i : Int))) (fun _ _ i _ => k - (intOf i).toNat)
                  case atStart => exact ⟨0, Nat.zero_le _, rfl, rfl, rfl, HM.out⟩
                  case round =>
                    obtain ⟨j, hj, rfl, rfl, rfl, hmi⟩ := hrel
                    by_cases hlt3 : j < k
                    · as_aux_lemma =>
                        have hbl : Below w.heap.size w wr := HBW5.out.trans (hmi.chg.below HBW5.out.size (fun i hi h => by omega))
                        have hrb := hr.over hbl (Nat.le_refl _)
                        obtain ⟨b', off', e, hbB, c0, c1⟩ := hrb.at_ hlt3
                        injection e with e; injection e with e1 e2; subst e1 e2
                        have hx := rdI_new (hrb.come j hlt3) (.cells #[.slice (fs j).A (fs j).n (fs j).c, .slice (fs j).A' (fs j).n' (fs j).c'] 42)
                        have hkf := Blk.new wr 42 #[.slice (fs j).A (fs j).n (fs j).c, .slice (fs j).A' (fs j).n' (fs j).c']
                        have hmY := hmi.alloc (.cells #[.slice (fs j).A (fs j).n (fs j).c, .slice (fs j).A' (fs j).n' (fs j).c'] 42)
                        have HM2 := Lib.hid hmY
                        have hnn : at0 (fs j).xs t = 0 ∨ t < (fs j).n := by
                          rcases Nat.lt_or_ge t (fs j).n with h | h
                          · exact .inr h
                          · left; exact at0_out (by rw [HG.out.lx j hlt3]; exact h)
                        have HNN := Lib.hid hnn
                        have hcb := HG.out.cum_le hlt3 t
                        have hxb := HG.out.come hlt3 t
                        clear hnn hrb hmY hmi hbl
                        go_upto_if 91 with fail
                        clear c0 c1
                        have f0 : (wr.alloc (.cells #[.slice (fs j).A (fs j).n (fs j).c, .slice (fs j).A' (fs j).n' (fs j).c'] 42)).cell? ⟨wr.heap.size, 0, none⟩ = some (.slice (fs j).A (fs j).n (fs j).c) := hkf.cell 0
                        clear hkf
                        generalize (wr.alloc (.cells #[.slice (fs j).A (fs j).n (fs j).c, .slice (fs j).A' (fs j).n' (fs j).c'] 42)) = wY at *
                        have g0 : wY.cell? ⟨gc, j, none⟩ = some (.int .i64 (sumTo (fs j).xs t)) := (HM2.out.kc.cell hlt3).trans (by unfold comeTo; rw [if_neg (by omega)])
                        have g1 : wY.frozen? ⟨gc, j, none⟩ = false := HM2.out.kc.frozen j
                        have i1 : (j : Int) < (k : Int) := by omega
                        have hset := HM2.out.setCome FAR.out hlt3 (sumTo (fs j).xs t + at0 (fs j).xs t)
                        have hset' := hset.congr (come' := comeTo fs t (j + 1)) (sent' := fun i => (Sced.sentT (plOf k fs T) t i : Int)) (fun i _ => by
                          unfold upd comeTo
                          by_cases e : i = j
                          · rw [if_pos e, if_pos (by omega), e]; rfl
                          · rw [if_neg e]
                            by_cases e2 : i < j
                            · rw [if_pos e2, if_pos (by omega)]
                            · rw [if_neg e2, if_neg (by omega)]) (fun i _ => rfl)
                        have HSET := Lib.hid hset'
                        have hsame : at0 (fs j).xs t = 0 → MInv w5 wY k gp gP gT gc gs V (rowsAt k fs T t) (comeTo fs t (j + 1)) (fun i => (Sced.sentT (plOf k fs T) t i : Int)) := fun h0 => HM2.out.congr (fun i _ => by
                          unfold comeTo
                          by_cases e : i = j
                          · rw [e, if_neg (by omega), if_pos (by omega)]
                            show _ = sumTo (fs j).xs t + at0 (fs j).xs t
                            rw [h0]; omega
                          · by_cases e2 : i < j
                            · rw [if_pos e2, if_pos (by omega)]
                            · rw [if_neg e2, if_neg (by omega)]) (fun i _ => rfl)
                        have HSAME := Lib.hid hsame
                        clear hset hset' hsame
                        go_cut [] (fun wx => MInv w5 wx k gp gP gT gc gs V (rowsAt k fs T t) (comeTo fs t (j + 1)) (fun i => (Sced.sentT (plOf k fs T) t i : Int)))
                        case first =>
                          by_cases htn : t < (fs j).n
                          · obtain ⟨bx, ox, hA, _⟩ := hx.addr htn
                            rw [hA] at hx f0
                            have x0 : wY.cell? ⟨bx, ox + t, none⟩ = some (.int .i64 (at0 (fs j).xs t)) := hx.all rfl t htn
                            have i2 : (t : Int) < ((fs j).n : Int) := by omega
                            have HA := Lib.hid hA
                            clear hA
                            generalize at0 (fs j).xs t = x at *
                            generalize sumTo (fs j).xs t = S at *
                            generalize (fs j).n = n1 at *
                            generalize (fs j).c = c1' at *
                            go_wp2_with fail
                            go_region
                            go_wp2_with fail
                            go_meet
                            first | exact HSET.out | exact HSET.out.drew
                          · have h0 := HNN.out.resolve_right htn
                            have H0 := Lib.hid h0; clear h0
                            generalize (fs j).n = n1 at *
                            generalize (fs j).c = c1' at *
                            go_wp2_with fail
                            go_meet
                            exact HSAME.out H0.out
                        case rest =>
                          have hmr := hcut
                          clear hcut f0 g0 g1 hx HSET HSAME HNN HM2 hbB
                          have hb0 : (Sced.sentT (plOf k fs T) t j : Int) ≤ 100 := by have h1 := HG.out.sent_tot hlt3 t; have h2 := (HG.out.cum_le hlt3 t).2.2; omega
                          have hcb1 := HG.out.cum_le hlt3 (t + 1)
                          have s0 : wc.cell? ⟨gs, j, none⟩ = some (.int .i64 (Sced.sentT (plOf k fs T) t j : Int)) := hmr.ks.cell hlt3
                          have s1 : wc.cell? ⟨gc, j, none⟩ = some (.int .i64 (sumTo (fs j).xs (t + 1))) := (hmr.kc.cell hlt3).trans (by unfold comeTo; rw [if_pos (by omega)])
                          by_cases heq : (Sced.sentT (plOf k fs T) t j : Int) = sumTo (fs j).xs (t + 1)
                          · have HSK := Lib.hid (pickTo_skip (m := k) (T := T) heq)
                            rw [← heq] at s1
                            have HMR := Lib.hid hmr
                            clear heq hmr hcb1
                            go_wp2_with fail
                            go_quiet (fail)
                            go_wp2_with fail
                            go_roundw
                            case rel => exact ⟨j + 1, by omega, by go_num, by rw [HSK.out], by rw [HSK.out], HMR.out.drewN _⟩
                            case measure => simp [intOf]; omega
                          · have hneq : ((Sced.sentT (plOf k fs T) t j : Int) == sumTo (fs j).xs (t + 1)) = false := by simpa using heq
                            have hslt := HG.out.sent_lt hlt3 heq
                            have HYES := Lib.hid (fun h => pickTo_yes (m := k) (T := T) heq h)
                            have HNO := Lib.hid (fun h => pickTo_no (m := k) (fs := fs) (T := T) (t := t) (j := j) h)
                            have hD := (HD5.out j hlt3).chg hmr.chg HL3.out
                            obtain ⟨AD, cD, KD, hPv, hKD, hrd, _⟩ := hD
                            have hKK : KD = totK fs j := by have := HG.out.tot hlt3; omega
                            obtain ⟨bd, od, rfl, _⟩ := hrd.addr (k := Sced.sentT (plOf k fs T) t j) (by omega)
                            have r1 : wc.cell? ⟨gp, 1, none⟩ = some (.slice (some ⟨gP, 0, none⟩) k k) := hmr.kp.cell 1
                            have r2 : wc.cell? ⟨gP, j, none⟩ = some (.slice (some ⟨bd, od, none⟩) KD cD) := ((HP5.out.chg hmr.chg (by have h1 := FAR.out.n1; have h2 := FAR.out.n5; have h3 := FAR.out.n6; have h4 := FAR.out.n7; omega)).cell hlt3).trans (by rw [hPv])
                            have r3 : wc.cell? ⟨bd, od + Sced.sentT (plOf k fs T) t j, none⟩ = some (.int .i64 (dueF (fs j).xs (fs j).zs T (Sced.sentT (plOf k fs T) t j))) := (hrd.all rfl _ (by omega)).trans (by rw [show (tab KD (dueF (fs j).xs (fs j).zs T)).getD (Sced.sentT (plOf k fs T) t j) 0 = dueF (fs j).xs (fs j).zs T (Sced.sentT (plOf k fs T) t j) from at0_tab (by omega)])
                            have hdb := HG.out.due_bd j (Sced.sentT (plOf k fs T) t j)
                            have HKEY := Lib.hid (keyOf_eq k fs T j (Sced.sentT (plOf k fs T) t j))
                            have HMR := Lib.hid hmr
                            have i2 : ((Sced.sentT (plOf k fs T) t j : Nat) : Int) < (KD : Int) := by omega
                            have i1 : (j : Int) < (k : Int) := by omega
                            clear heq hmr hcb1 hPv hKD hrd hKK hslt
                            generalize dueF (fs j).xs (fs j).zs T (Sced.sentT (plOf k fs T) t j) = d at *
                            go_wp2_with fail
                            go_quiet (fail)
                            go_upto_region 27 with fail
                            go_quiet (fail)
                            go_upto_if 124 with fail
                            go_cut [19] (fun v wx => v = .int .i64 (Sced.keyOf (plOf k fs T) j (Sced.sentT (plOf k fs T) t j)) ∧ MInv w5 wx k gp gP gT gc gs V (rowsAt k fs T t) (comeTo fs t (j + 1)) (fun i => (Sced.sentT (plOf k fs T) t i : Int)))
                            case first =>
                              by_cases hd : d < 0
                              · go_wp2_with fail
                                go_meet
                                exact ⟨by rw [HKEY.out, if_pos (by omega)], by first | exact HMR.out.drewN _ | exact (HMR.out.drewN _).drewN _⟩
                              · go_wp2_with fail
                                go_meet
                                exact ⟨by rw [HKEY.out, if_neg (by omega)], by first | exact HMR.out.drewN _ | exact (HMR.out.drewN _).drewN _⟩
                            case rest =>
                              obtain ⟨rfl, hmk⟩ := hcut
                              have HMK := Lib.hid hmk
                              clear r1 r2 r3 s0 s1 hmk HMR hneq
                              by_cases h1 : (pickTo k fs T t j).1 < 0
                              · have HY := Lib.hid (HYES.out (.inl h1))
                                go_wp2_with fail
                                go_roundw
                                case rel => exact ⟨j + 1, by omega, by go_num, by rw [HY.out], by rw [HY.out], HMK.out⟩
                                case measure => simp [intOf]; omega
                              · by_cases h2 : Sced.keyOf (plOf k fs T) j (Sced.sentT (plOf k fs T) t j) < (pickTo k fs T t j).2
                                · have HY := Lib.hid (HYES.out (.inr h2))
                                  go_wp2_with fail
                                  go_roundw
                                  case rel => exact ⟨j + 1, by omega, by go_num, by rw [HY.out], by rw [HY.out], HMK.out⟩
                                  case measure => simp [intOf]; omega
                                · have HN := Lib.hid (HNO.out (by omega))
                                  go_wp2_with fail
                                  go_roundw
                                  case rel => exact ⟨j + 1, by omega, by go_num, by rw [HN.out], by rw [HN.out], HMK.out⟩
                                  case measure => simp [intOf]; omega
                    · obtain rfl : k = j := by omega
                      have hbest := Sced.best_bd (p := plOf k fs T) t
                      have hb1 : (pickTo k fs T t k).1 = Sced.bestOf (plOf k fs T) (Sced.sentT (plOf k fs T) t) t := pickTo_best k fs T t
                      have hmi2 := hmi.congr (come' := comeTo fs (t + 1) 0) (sent' := fun i => (Sced.sentT (plOf k fs T) t i : Int)) (fun i hi => by unfold comeTo; rw [if_pos hi, if_neg (by omega)]) (fun i _ => rfl)
                      rw [hb1]
                      have HMI := Lib.hid hmi2
                      have hLk : rowsAt k fs T t k = Sced.sentL (plOf k fs T) t := upd_same _ _ _
                      have hown := hmi2.fam.own k (by omega)
                      rw [hLk, Sced.sentL_len] at hown
                      have hVk := hmi2.kp.cell 0
                      have hVf := hmi2.kp.frozen 0
                      have hgr := fun wx hg => hmi2.grown FAR.out (i := k) (by omega) (wx := wx) hg
                      have HGR := Lib.hid hgr; have HLK := Lib.hid hLk
                      have hbase := hmi2.chg.size
                      clear hmi hmi2 hgr hLk hb1
                      have hpl : (plOf k fs T).m = k := rfl
                      rw [hpl] at hbest
                      clear hpl
                      have HSL : Hid (Sced.sentL (plOf k fs T) (t + 1) = Sced.sentL (plOf k fs T) t ++ [Sced.bestOf (plOf k fs T) (Sced.sentT (plOf k fs T) t) t]) := rfl
                      have hv0 : wr.cell? ⟨gp, 0, none⟩ = some (V k) := hVk
                      clear hVk
                      by_cases hneg : Sced.bestOf (plOf k fs T) (Sced.sentT (plOf k fs T) t) t < 0
                      · as_aux_lemma =>
                          have hbm : Sced.bestOf (plOf k fs T) (Sced.sentT (plOf k fs T) t) t = -1 := by omega
                          have HBM := Lib.hid hbm
                          rw [hbm]
                          clear hneg hbm hbest
                          go_wp2_with (at_builtin; refine wpList_pushA rfl _ _ _ Try.underlying22 rfl w5.heap.size (V k) t (Sced.sentL (plOf k fs T) t) (-1) hown rfl rfl (by omega) hbase ?_; intro v' w' hown' hg' hat'; obtain ⟨A', c', rfl, _⟩ := own_reads hown'; have mm := HGR.out _ hg'; have z0 : w'.cell? ⟨gp, 0, none⟩ = some (V k) := mm.kp.cell 0; have z1 := mm.kp.frozen 0; have HOW := Lib.hid hown'; have HGW := Lib.hid hg'; have HAT := Lib.hid hat'; clear mm hown' hg' hat')
                          have hfin := HMI.out.pushSent FAR.out (u := -1) (by rw [HLK.out, Sced.sentL_len]; exact HOW.out) HGW.out HAT.out
                          have HFIN := Lib.hid ((hfin.congrL (rows_idle HBM.out)).congr (sent' := fun i => (Sced.sentT (plOf k fs T) (t + 1) i : Int)) (fun i _ => rfl) (fun i _ => sent_idle HBM.out i))
                          clear hfin
                          go_roundw
                          case rel => exact ⟨t + 1, _, by omega, by go_num, HFIN.out⟩
                          case measure => simp [intOf]; omega
                      · obtain ⟨b, hbb⟩ : ∃ b : Nat, Sced.bestOf (plOf k fs T) (Sced.sentT (plOf k fs T) t) t = (b : Int) := ⟨(Sced.bestOf (plOf k fs T) (Sced.sentT (plOf k fs T) t) t).toNat, by omega⟩
                        have hbk : b < k := by omega
                        have HBB := Lib.hid hbb
                        rw [hbb]
                        clear hneg hbb hbest
                        as_aux_lemma =>
                          have hbs : (Sced.sentT (plOf k fs T) t b : Int) ≤ 100 := by have h1 := HG.out.sent_tot hbk t; have h2 := (HG.out.cum_le hbk t).2.2; omega
                          have i1 : (b : Int) < (k : Int) := by omega
                          go_upto_region 35 with (at_builtin; refine wpList_pushA rfl _ _ _ Try.underlying22 rfl w5.heap.size (V k) t (Sced.sentL (plOf k fs T) t) (b : Int) hown rfl rfl (by omega) hbase ?_; intro v' w' hown' hg' hat'; obtain ⟨A', c', rfl, _⟩ := own_reads hown'; have mm := HGR.out _ hg'; have z0 : w'.cell? ⟨gp, 0, none⟩ = some (V k) := mm.kp.cell 0; have z1 := mm.kp.frozen 0; have HOW := Lib.hid hown'; have HGW := Lib.hid hg'; have HAT := Lib.hid hat'; clear mm hown' hg' hat')
                          have hm1 := HMI.out.pushSent FAR.out (u := (b : Int)) (by rw [HLK.out, Sced.sentL_len]; exact HOW.out) HGW.out HAT.out
                          clear z0 z1 hv0 hVf hown HOW HGW HAT HGR HMI
                          generalize w'.setCell ⟨gp, 0, none⟩ (.slice A' (t + 1) c') = wA at *
                          generalize hV2 : upd V k (.slice A' (t + 1) c') = V2 at *
                          clear hV2
                          have s0 : wA.cell? ⟨gs, b, none⟩ = some (.int .i64 (Sced.sentT (plOf k fs T) t b : Int)) := hm1.ks.cell hbk
                          have s1 : wA.frozen? ⟨gs, b, none⟩ = false := hm1.ks.frozen b
                          have hm2 := hm1.setSent FAR.out hbk ((Sced.sentT (plOf k fs T) t b : Int) + 1)
                          have HM2 := Lib.hid (hm2.congr (sent' := fun i => (Sced.sentT (plOf k fs T) (t + 1) i : Int)) (fun i _ => rfl) (fun i _ => sent_send HBB.out i))
                          clear hm1 hm2
                          go_upto_region 36 with fail
                          clear s0 s1
                          generalize wA.setCell ⟨gs, b, none⟩ (.int .i64 ((Sced.sentT (plOf k fs T) t b : Int) + 1)) = wB at *
                          have hL1 : upd (rowsAt k fs T t) k (rowsAt k fs T t k ++ [(b : Int)]) b = Sced.thrL (plOf k fs T) b t := by
                            rw [upd_ne _ _ (by omega)]; exact upd_ne _ _ (by omega)
                          have hob := HM2.out.fam.own b (by omega)
                          rw [hL1, Sced.thrL_len] at hob
                          have hsn : Sced.sentT (plOf k fs T) t b ≤ 100 := by omega
                          have HM3 := Lib.hid (HM2.out.alloc (.cells #[.int .i64 ((t : Int) + 1)] 3)).drew
                          have HRW := Lib.hid (rows_send hbk HBB.out)
                          have hp2 : wB.cell? ⟨gp, 2, none⟩ = some (.slice (some ⟨gT, 0, none⟩) k k) := HM2.out.kp.cell 2
                          have ht2 : wB.cell? ⟨gT, b, none⟩ = some (V2 b) := HM2.out.kT.cell hbk
                          have ht3 : wB.frozen? ⟨gT, b, none⟩ = false := HM2.out.kT.frozen b
                          have hlg1 : gp < wB.heap.size := HM2.out.kp.lt
                          have hlg2 : gT < wB.heap.size := HM2.out.kT.lt
                          have hbase2 := HM2.out.chg.size
                          have HL1 := Lib.hid hL1; have HOB := Lib.hid hob
                          have HGR2 := Lib.hid (fun wx hg => HM3.out.grown FAR.out (i := b) (by omega) (wx := wx) hg)
                          clear hL1 hob hbs
                          obtain ⟨n, hn⟩ : ∃ n, n = Sced.sentT (plOf k fs T) t b := ⟨_, rfl⟩
                          rw [← hn] at hsn HOB
                          have HN := Lib.hid hn; clear hn
                          have e1 : IntKind.i64.wrap ((t : Int) + 1) = (t : Int) + 1 := IntWalk.i64_in _ (by omega)
                          go_region_law
                            ((refine step_pushA (by rfl) (.tmp 158) (.tmp 161) _ Try.underlying22 (by rfl) w5.heap.size (V2 b) n (Sced.thrL (plOf k fs T) b t) ((t : Int) + 1) ?_ (by rfl) ⟨wB.heap.size, 0, none⟩ (by rfl) ?_ (by omega) ?_ ?_; (first | exact HOB.out.alloc _ | exact (HOB.out.alloc _).drew); (simp [World.cell?_alloc_new]); (first | omega | (simp; omega)); intro v2 w2' ho2 hg2 hat2; obtain ⟨A2, c2, rfl, _⟩ := own_reads ho2; have mm := HGR2.out _ hg2; have y0 : w2'.cell? ⟨gp, 2, none⟩ = some (.slice (some ⟨gT, 0, none⟩) k k) := mm.kp.cell 2; have y1 : w2'.cell? ⟨gT, b, none⟩ = some (V2 b) := mm.kT.cell hbk; have y2 := mm.kT.frozen b; have HO2 := Lib.hid ho2; have HG2 := Lib.hid hg2; have HAT2 := Lib.hid hat2; clear mm ho2 hg2 hat2))
                          all_goals
                            clear e1
                            have hfin := MInv.pushThr hbk HM3.out FAR.out (u := (t : Int) + 1) (by rw [HL1.out, Sced.thrL_len, ← HN.out]; exact HO2.out) HG2.out HAT2.out
                            have HFIN := Lib.hid (hfin.congrL HRW.out)
                            clear hfin
                            go_wp2_with fail
                            go_roundw
                            case rel => exact ⟨t + 1, _, by omega, by go_num, by first | exact HFIN.out | exact HFIN.out.drew⟩
                            case measure => simp [intOf]; omega
                · as_aux_lemma =>
                    obtain rfl : T = t := by omega
                    have hm0 := HM.out.congrL (rowsFill_start rfl)
                    clear HM hlt2
                    go_wp2_with fail
                    go_loopw [167] (fun i wm => ∃ (j : Nat) (V : Nat → Value), j ≤ k ∧ i = .int .i64 j ∧ MInv w5 wm k gp gP gT gc gs V (rowsFill k fs T j 0) (comeTo fs T 0) (fun i => (Sced.sentT (plOf k fs T) T i : Int))) (fun i _ => k - (intOf i).toNat)
                    case atStart => exact ⟨0, _, Nat.zero_le _, rfl, hm0⟩
                    case round =>
                      clear hm0
                      obtain ⟨j, V, hj, rfl, hm⟩ := hrel
                      by_cases hlt2 : j < k
                      · have hKK := HG.out.sent_tot hlt2 T
                        have hK100 := (HG.out.cum_le hlt2 T).2.2
                        have HM := Lib.hid hm; clear hm
                        go_wp2_with fail
                        go_loopg [] (totK fs j - Sced.sentT (plOf k fs T) T j) (fun g wr => ∃ (r : Nat) (V : Nat → Value), Sced.sentT (plOf k fs T) T j + r + g = totK fs j ∧ MInv w5 wr k gp gP gT gc gs V (rowsFill k fs T j r) (comeTo fs T 0) (fun i => (Sced.sentT (plOf k fs T) T i : Int)))
                        case atStart => exact ⟨0, _, by omega, HM.out⟩
                        case round =>
                          clear HM
                          obtain ⟨r, V, hrg, hm⟩ := hrel
                          have hD := (HD5.out j hlt2).chg hm.chg HL3.out
                          obtain ⟨AD, cD, KD, hPv, hKD, _, _⟩ := hD
                          have hKK2 : KD = totK fs j := by have := HG.out.tot hlt2; omega
                          subst hKK2
                          have hoj := hm.fam.own j (by omega)
                          rw [rowsFill_len hlt2] at hoj
                          obtain ⟨Aj, cj, hVj, _⟩ := own_reads hoj
                          have r1 : wr.cell? ⟨gp, 1, none⟩ = some (.slice (some ⟨gP, 0, none⟩) k k) := hm.kp.cell 1
                          have r2 : wr.cell? ⟨gp, 2, none⟩ = some (.slice (some ⟨gT, 0, none⟩) k k) := hm.kp.cell 2
                          have r3 : wr.cell? ⟨gP, j, none⟩ = some (.slice AD (totK fs j) cD) := ((HP5.out.chg hm.chg (by have h1 := FAR.out.n1; have h2 := FAR.out.n5; have h3 := FAR.out.n6; have h4 := FAR.out.n7; omega)).cell hlt2).trans (by rw [hPv])
                          have r4 : wr.cell? ⟨gT, j, none⟩ = some (.slice Aj (Sced.sentT (plOf k fs T) T j + r) cj) := (hm.kT.cell hlt2).trans (by rw [hVj])
                          have i1 : (j : Int) < (k : Int) := by omega
                          have HPUSH := Lib.hid (fun u => rowsFill_push (fs := fs) (T := T) (r := u) hlt2)
                          have HNEXT := Lib.hid (fun u hu => rowsFill_next (fs := fs) (T := T) (r := u) hlt2 hu)
                          have HLEN := Lib.hid (rowsFill_len (fs := fs) (T := T) (r := r) hlt2)
                          have HOJ := Lib.hid hoj; have HVJ := Lib.hid hVj; have HM := Lib.hid hm
                          clear hPv hKD hoj hVj hm
                          obtain ⟨n, hn⟩ : ∃ n, n = Sced.sentT (plOf k fs T) T j + r := ⟨_, rfl⟩
                          obtain ⟨K, hK⟩ : ∃ K, K = totK fs j := ⟨_, rfl⟩
                          rw [← hn] at HOJ r4 hrg HLEN
                          rw [← hK] at r3 hrg hK100 hKK
                          have HN := Lib.hid hn; have HKK := Lib.hid hK
                          clear hn hK
                          by_cases hnK : n < K
                          · go_wp2_with fail
                            go_quiet (fail)
                            go_upto_region 42 with fail
                            clear r1 r2 r3 r4
                            have HMQ := Lib.hid (HM.out.drewN nq)
                            have HOQ : Hid ((wr.drewN nq).ownsRow w5.heap.size 3 1 (V j) n ((rowsFill k fs T j r j).map (Value.int .i64))) := HOJ.out
                            generalize wr.drewN nq = wB at *
                            have HM3 := Lib.hid (HMQ.out.alloc (.cells #[.int .i64 (-1)] 3)).drew
                            have hp2 : wB.cell? ⟨gp, 2, none⟩ = some (.slice (some ⟨gT, 0, none⟩) k k) := HMQ.out.kp.cell 2
                            have ht2 : wB.cell? ⟨gT, j, none⟩ = some (V j) := HMQ.out.kT.cell hlt2
                            have ht3 : wB.frozen? ⟨gT, j, none⟩ = false := HMQ.out.kT.frozen j
                            have hlg1 : gp < wB.heap.size := HMQ.out.kp.lt
                            have hlg2 : gT < wB.heap.size := HMQ.out.kT.lt
                            have hbase2 := HMQ.out.chg.size
                            have HGR2 := Lib.hid (fun wx hg => HM3.out.grown FAR.out (i := j) (by omega) (wx := wx) hg)
                            clear HM HOJ HMQ
                            go_region_law
                              ((refine step_pushA (by rfl) (.tmp 190) (.tmp 191) _ Try.underlying22 (by rfl) w5.heap.size (V j) n (rowsFill k fs T j r j) (-1) ?_ (by rfl) ⟨wB.heap.size, 0, none⟩ (by rfl) ?_ (by omega) ?_ ?_; (first | exact HOQ.out.alloc _ | exact (HOQ.out.alloc _).drew); (simp [World.cell?_alloc_new]); (first | omega | (simp; omega)); intro v2 w2' ho2 hg2 hat2; obtain ⟨A2, c2, rfl, _⟩ := own_reads ho2; have mm := HGR2.out _ hg2; have y0 : w2'.cell? ⟨gp, 2, none⟩ = some (.slice (some ⟨gT, 0, none⟩) k k) := mm.kp.cell 2; have y1 : w2'.cell? ⟨gT, j, none⟩ = some (V j) := mm.kT.cell hlt2; have y2 := mm.kT.frozen j; have HO2 := Lib.hid ho2; have HG2 := Lib.hid hg2; have HAT2 := Lib.hid hat2; clear mm ho2 hg2 hat2))
                            all_goals
                              have hfin := MInv.pushThr hlt2 HM3.out FAR.out (u := -1) (by rw [HLEN.out]; exact HO2.out) HG2.out HAT2.out
                              have HFIN := Lib.hid (hfin.congrL (HPUSH.out r))
                              clear hfin
                              go_wp2_with fail
                              go_roundg (gk - 1)
                              case rel => exact ⟨r + 1, _, by have := HN.out; have := HKK.out; omega, by first | exact HFIN.out | exact HFIN.out.drew⟩
                              case measure => omega
                          · have hnK' : decide (n < K) = false := by simpa using hnK
                            have hnx := HNEXT.out r (by have := HN.out; have := HKK.out; omega)
                            have HFIN := Lib.hid (HM.out.congrL hnx)
                            clear hnx
                            go_wp2_with fail
                            go_quiet (fail)
                            go_wp2_with fail
                            go_roundw
                            case rel => exact ⟨j + 1, _, by omega, by go_num, HFIN.out.drewN _⟩
                            case measure => simp [intOf]; omega
                      · obtain rfl : k = j := by omega
                        have hown := hm.fam.own k (by omega)
                        rw [show rowsFill k fs T k 0 k = Sced.sentL (plOf k fs T) T from if_pos rfl, Sced.sentL_len] at hown
                        obtain ⟨SA, Sc, hVk, _⟩ := own_reads hown
                        have r0 : wr.cell? ⟨gp, 0, none⟩ = some (.slice SA T Sc) := (hm.kp.cell 0).trans (by rw [← hVk]; rfl)
                        have r1 : wr.cell? ⟨gp, 1, none⟩ = some (.slice (some ⟨gP, 0, none⟩) k k) := hm.kp.cell 1
                        have r2 : wr.cell? ⟨gp, 2, none⟩ = some (.slice (some ⟨gT, 0, none⟩) k k) := hm.kp.cell 2
                        have kres := HRES5.out.chg hm.chg (fun e => by have e' : w.heap.size = gp ∨ w.heap.size = gT ∨ w.heap.size = gc ∨ w.heap.size = gs := e; omega)
                        have q0 : wr.cell? ⟨w.heap.size, 0, none⟩ = some (.slice none 0 0) := kres.cell 0
                        have q1 : wr.cell? ⟨w.heap.size, 1, none⟩ = some (.slice none 0 0) := kres.cell 1
                        have q2 : wr.cell? ⟨w.heap.size, 2, none⟩ = some (.slice none 0 0) := kres.cell 2
                        have f0 := kres.frozen 0; have f1 := kres.frozen 1; have f2 := kres.frozen 2
                        have k3 := Blk.set_ (Blk.set_ (Blk.set_ kres 0 (.slice SA T Sc)) 1 (.slice (some ⟨gP, 0, none⟩) k k)) 2 (.slice (some ⟨gT, 0, none⟩) k k)
                        have R0 := Lib.hid (k3.cell 0); have R1 := Lib.hid (k3.cell 1); have R2 := Lib.hid (k3.cell 2)
                        have hz := (((Chg.refl wr (fun b => b = w.heap.size)).setCell (p := ⟨w.heap.size, 0, none⟩) (fun _ => rfl) (.slice SA T Sc)).setCell (p := ⟨w.heap.size, 1, none⟩) (fun _ => rfl) (.slice (some ⟨gP, 0, none⟩) k k)).setCell (p := ⟨w.heap.size, 2, none⟩) (fun _ => rfl) (.slice (some ⟨gT, 0, none⟩) k k)
                        have hbz := ((((HBW5.out.trans (hm.chg.below HBW5.out.size (fun i hi h => by omega)))).setCell (p := ⟨w.heap.size, 0, none⟩) (Nat.le_refl _) (.slice SA T Sc)).setCell (p := ⟨w.heap.size, 1, none⟩) (Nat.le_refl _) (.slice (some ⟨gP, 0, none⟩) k k)).setCell (p := ⟨w.heap.size, 2, none⟩) (Nat.le_refl _) (.slice (some ⟨gT, 0, none⟩) k k)
                        have HZ := Lib.hid hz; have HBZ := Lib.hid hbz; have HM := Lib.hid hm; have HVK := Lib.hid hVk
                        have hw3s : w.heap.size < w3.heap.size := by omega
                        clear k3 kres hz hbz hm hVk hown
                        go_wp2_with fail
                        exact bodyPost_ret (v := .tuple #[.agg #[.slice SA T Sc, .slice (some ⟨gP, 0, none⟩) k k, .slice (some ⟨gT, 0, none⟩) k k], .nilIface]) (by simp [results, Try.results28, go_sem, R0.out, R1.out, R2.out]) rfl
                          (make_fin HG.out HM.out HP5.out HD5.out FAR.out HL3.out ⟨by omega, by omega⟩ hw3s hw5 HZ.out HBZ.out HVK.out rfl)
end Go.Proofs.Ytjjmfgoeabmfdaa
