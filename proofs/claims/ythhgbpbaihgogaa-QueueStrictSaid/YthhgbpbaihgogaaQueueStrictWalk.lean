/-
  QueueStrict: the whole walk.
-/
import Derived.Test.YthhgbpbaihgogaaBdsMake
namespace Go.Proofs.Ythhgbpbaihgogaa
open Go.RowKit Bkt
set_option linter.unusedVariables false

set_option maxHeartbeats 1000000 in
set_option maxRecDepth 100000 in
theorem queueStrict_many (a : Int) (A : Option Addr) (n c : Nat) (W : World) (hn : n ≤ 9223372036854775807) (h : 120 < n) :
    Calls Try.prog 6 #[.int .i64 a, .slice A n c] W fun e w' => e = .returned (.bool true) ∧ Below W.heap.size W w' := by
  go_enter Try.func6, Try.ntmps6
  go_wp2_with fail
  go_ret
  exact ⟨rfl, Below.refl _ _⟩
/-- a step, in the law's three moves -/
theorem bstep_all {m : Nat} {t : Pl.Stp} {sn : Pl.Seen} {B B' : List Int} (h : Pl.BStep m t sn B B') : ∃ B2 : List Int,
    ((sn.lost = [] ∧ B2 = (if t.what = 0 then B ++ [((Pl.bOf m t.it : Nat) : Int)] else B)) ∨ ∃ q : Nat, sn.lost = [(q : Int)] ∧ q < (if t.what = 0 then B ++ [((Pl.bOf m t.it : Nat) : Int)] else B).length ∧ B2 = (if t.what = 0 then B ++ [((Pl.bOf m t.it : Nat) : Int)] else B).set q (-1)) ∧
    ((sn.taken < 0 ∧ B' = B2) ∨ ∃ u : Nat, sn.taken = u ∧ u < B2.length ∧ B' = B2.set u (-1) ∧ ∀ j, j < B2.length → 0 ≤ B2.getD j 0 → ¬ B2.getD j 0 < B2.getD u 0 ∧ (B2.getD j 0 = B2.getD u 0 → ¬ j < u)) := by
  by_cases h0 : t.what = 0
  · rw [if_pos h0]
    obtain ⟨h1, h2⟩ := h.put h0
    refine ⟨B', ?_, .inl ⟨h1, rfl⟩⟩
    rcases h2 with ⟨e1, e2⟩ | ⟨e1, e2⟩
    · exact .inl ⟨e1, e2⟩
    · refine .inr ⟨B.length, e1, by simp, ?_⟩
      rw [e2, List.set_append_right _ _ (Nat.le_refl _), Nat.sub_self]
      rfl
  · rw [if_neg h0]
    obtain ⟨h1, h2⟩ := h.take h0
    refine ⟨B, .inl ⟨h1, rfl⟩, ?_⟩
    rcases h2 with ⟨e1, e2⟩ | ⟨u, e1, e2, _, e3, e4⟩
    · exact .inl ⟨e1, e2⟩
    · exact .inr ⟨u, e1, e2, e3, e4⟩
set_option maxHeartbeats 8000000 in
set_option maxRecDepth 100000 in
theorem queueStrict_yes (a : Int) (A : Option Addr) (n c : Nat) (l : List Pl.Stp) (W : World) (hr : RdR StR W W.heap.size A n l) (h : n ≤ 120) :
    Calls Try.prog 6 #[.int .i64 a, .slice A n c] W fun e w' => e = .returned (.bool true) ∧ Below W.heap.size W w' := by
  have hll := hr.len
  have htl := Pl.timesTo_len l n (by omega)
  have hok := Pl.times_ok l
  rw [hll] at hok
  obtain ⟨p, hp0, hp1, hpk⟩ := pick_val a 8 (by omega) (by omega)
  obtain ⟨P, rfl⟩ : ∃ P : Nat, p = (P : Int) := ⟨p.toNat, by omega⟩
  have HPK := Lib.hid hpk
  have HTL := Lib.hid htl; have HOK := Lib.hid hok; have HR := Lib.hid hr
  clear htl hok hll hr hpk
  go_enter Try.func6, Try.ntmps6
  go_wp2_with fail
  go_loopw [5, 6] (fun ov i wr => ∃ (u : Nat) (gs : List Nat), u ≤ P + 1 ∧ i = .int .i64 u ∧ MkB W wr gs u ov) (fun _ i _ => P + 1 - (intOf i).toNat)
  case atStart => exact ⟨0, [], by omega, rfl, OwnW.nil _ _ _ _, rfl, fun j hj => absurd hj (by omega), fun i j hi => absurd hi (by omega), fun j hj => absurd hj (by omega), Below.refl _ _⟩
  case round =>
    obtain ⟨u, gs, hu, rfl, hm⟩ := hrel
    have hpw := HPK.out wr
    have HPW := Lib.hid hpw
    have HM := Lib.hid hm
    obtain ⟨Ao, co, hov, _, _, hrq⟩ := hm.own.reads
    subst hov
    clear hpw
    by_cases hlt : u ≤ P
    · have hnf : Calls Try.prog 10 #[.int .i64 20, .int .i64 1000000, .bool false] wr (NewFifoOut wr Pl.bP) := newFifo_yes Pl.bP wr Pl.bP_ok
      have HNF := Lib.hid hnf
      clear hnf hrq hm
      go_wp2_with (first | (go_at_call 14; (with_reducible refine HPW.out.mono ?_); rintro e w' ⟨rfl, rfl⟩) | (go_at_call 10; (with_reducible refine HNF.out.mono ?_); rintro e w1 ⟨g, rfl, hg, hb1, hf⟩; have HG := Lib.hid hg; have HB1 := Lib.hid hb1; have HF := Lib.hid hf; have hm1 := HM.out.below hb1; have hsz1 : W.heap.size ≤ w1.heap.size := hm1.bl.size; have HM1 := Lib.hid hm1; clear hg hb1 hf hm1) | (at_builtin; go_must (refine wpList_addW QuR rfl (.tmp 37) (.tmp 40) _ W.heap.size 82 _ 16 Try.underlying65 Try.quRInfo rfl rfl _ u gs g _ HM1.out.own rfl rfl (by show Value.slice (some ⟨w1.heap.size, 0, none⟩) 1 1 = _; simp) (qu_one _) (by omega) (by omega) hsz1 ?_); intro v8 w8 h1 h2 h3; have hm8 := HM.out.next HG.out HB1.out HF.out h1 h2 h3; have HM8 := Lib.hid hm8; clear h1 h2 h3 hm8))
      exact ⟨⟨u + 1, gs ++ [g], by omega, by go_num, HM8.out⟩, by simp [intOf]; omega⟩
    · obtain rfl : u = P + 1 := by omega
      have hP8 : P + 1 ≤ 8 := by omega
      generalize hmP : P + 1 = m at *
      have hq : RdQ wr wr.heap.size Ao m gs := by unfold RdQ; rw [← quR_flat]; exact hrq
      have hnb := newBands_yes Ao m co gs wr hq (by omega) hP8
      have HNB := Lib.hid hnb
      clear hnb hq hrq hm
      have hmm : ((m : Int) ≤ (P : Int)) = False := by simp; omega
      go_upto_region 12 with (first | (go_at_call 14; (with_reducible refine HPW.out.mono ?_); rintro e w' ⟨rfl, rfl⟩) | (go_at_call 23; (with_reducible refine HNB.out.mono ?_); rintro e w1 ⟨gb, rfl, hb1⟩; have HNBO := Lib.hid hb1.out; clear hb1))
      clear HNB HPW HPK hmm
      obtain ⟨gi, cb, lsq, hgi, hgb, hgbi, hblk, hbli, hls, hbl1⟩ := HNBO.out
      obtain ⟨F0, hbd, hF0⟩ := HM.out.inv (by omega) hP8 hgi hgb hgbi hblk hbli hls hbl1
      have HBD := Lib.hid hbd; have HF0 := Lib.hid hF0; have HB1 := Lib.hid (bl_next HM.out.bl hbl1)
      have hm8 : 1 ≤ m ∧ m ≤ 8 := ⟨by omega, hP8⟩
      clear HNBO hblk hbli hls hbl1 hbd hF0 HM hgi hgb hgbi hmP
      go_wp2_with fail
      (with_reducible refine (first_yes _).mono ?_)
      rintro e w2 ⟨rfl, hb2⟩
      have hi2 := (bds_imp W.heap.size gb m).chg _ _ _ _ _ (fun _ => False) HBD.out (Chg.of_below hb2) (fun _ _ h => h)
      have hr2' : RdR StR w2 w2.heap.size A n l := (HR.out.over HB1.out (Nat.le_refl _)).over hb2 (Nat.le_refl _)
      have hpc := play_seen (bds_imp W.heap.size gb m) A n c l (fun _ => []) _ w2 hr2' (by omega) hi2
      have HB2 := Lib.hid (bl_next HB1.out hb2); have HPC := Lib.hid hpc
      have hg2 : W.heap.size ≤ w2.heap.size := HB2.out.size
      clear hi2 hr2' hpc hb2
      go_wp2_with (go_at_call 12; (with_reducible refine HPC.out.mono ?_); rintro e w3 ⟨As, cs, F', rfl, hsn, hinv, hch, _, _⟩)
      have hbW : Below W.heap.size w2 w3 := hch.below hg2 (fun i hi e => by have := HF0.out i e; omega)
      have hr3 : RdR StR w3 w3.heap.size A n l := by
        refine (HR.out.keep (w' := w3) fun p hp => ?_).more (Nat.le_trans hg2 hch.size)
        exact (hbW.cell hp).trans (HB2.out.cell hp)
      have hgood := Pl.band_good m (by omega)
      have hk := kept_yes hgood (s0 := fun _ => []) (⟨fun i _ => by simp, fun i _ x hx => by simp at hx⟩ : Pl.BI m (fun _ => [])) (waitB_0 m) A n c l As cs w3 hr3 hsn (by omega)
      obtain ⟨B, hB0, hBinv, hBst⟩ := Pl.band_play (m := m) (by omega) HOK.out
      have HK := Lib.hid hk; have HS := Lib.hid hsn; have HBW := Lib.hid (HB2.out.trans hbW); have HR3 := Lib.hid hr3; have HB0 := Lib.hid hB0; have HBST := Lib.hid hBst; have HBIN := Lib.hid hBinv
      clear hbW hr3 hk hsn hch hgood hinv hB0 hBst hBinv
      (with_reducible refine HK.out.mono ?_)
      rintro e w4 ⟨rfl, hb4⟩
      have hs4 := HS.out.over hb4 (Nat.le_refl _)
      have hr4 := HR3.out.over hb4 (Nat.le_refl _)
      have HB4 := Lib.hid (HBW.out.trans (hb4.mono HBW.out.size))
      have htm := times_o A n c l w4 hr4 (by omega)
      have HS4 := Lib.hid hs4; have HTM := Lib.hid htm
      clear hs4 hr4 hb4 htm HBD HPC HK HS HR3
      go_upto_region 18 with (go_at_call 16; (with_reducible refine HTM.out.mono ?_); rintro e w6 ⟨At, ct, rfl, hrt, hb6⟩; have hs6 := HS4.out.over hb6 (Nat.le_refl _); have HB6 := Lib.hid (HB4.out.trans (hb6.mono HB4.out.size)); have HRT := Lib.hid hrt; have HS6 := Lib.hid hs6; clear hrt hs6 hb6)
      clear HTM HS4 HB1 HB2 HBW HB4 HR HF0
      have hfin : ∃ (ts : List Pl.Stp) (sn : Nat → Pl.Seen), ts.length = n ∧ RdR StR w6 w6.heap.size At n ts ∧ RdSn w6 w6.heap.size As n sn ∧ (∀ (k : Nat) (t : Pl.Stp), ts[k]? = some t → Pl.BStep m t (sn k) (B k) (B (k + 1))) ∧ (∀ k, k ≤ n → (B k).length ≤ n) ∧ (∀ (k : Nat) (t : Pl.Stp), ts[k]? = some t → t.what = 0 → 0 ≤ t.it.band ∧ t.it.band ≤ 1000) := by
        refine ⟨Pl.timesTo l n, _, HTL.out, HRT.out, HS6.out, fun k t hk => ?_, fun k hk => ?_, fun k t hk h0 => ?_⟩
        · obtain ⟨hk1, hk2⟩ := List.getElem?_eq_some_iff.1 hk
          have h1 := HBST.out k hk1
          rw [hk2] at h1
          exact h1
        · have h1 := (HBIN.out k (by rw [HTL.out]; exact hk)).len
          rw [h1]
          exact Nat.le_trans (nth_le _ _ _ k) hk
        · have h1 := HOK.out t (List.mem_of_getElem? hk)
          exact bOk (h1 h0).1
      clear HTL HRT HS6 HOK HBST HBIN
      obtain ⟨ts, sn, hTL, hRT, hSN, hST, hLN, hOB⟩ := hfin
      have HTL := Lib.hid hTL; have HRT := Lib.hid hRT; have HSN := Lib.hid hSN; have HST := Lib.hid hST; have HLN := Lib.hid hLN; have HOB := Lib.hid hOB
      clear hTL hRT hSN hST hLN hOB
      obtain ⟨hm1, hm8⟩ := hm8
      have hsz6 := HB6.out.size
      obtain ⟨w7, hw7⟩ : ∃ w7 : World, w7 = w6 := ⟨_, rfl⟩
      go_wp2_with fail
      go_loopw [13, 14] (fun cv i wr => ∃ k : Nat, k ≤ n ∧ i = .int .i64 k ∧ OwnW wr w6.heap.size 3 1 cv (B k).length ((B k).flatMap IntR.cells) ∧ Below w6.heap.size w6 wr) (fun _ i _ => n - (intOf i).toNat)
      case atStart => exact ⟨0, Nat.zero_le _, rfl, by rw [HB0.out]; exact OwnW.nil _ _ _ _, Below.refl _ _⟩
      case round =>
        obtain ⟨k, hk, rfl, hown, hbr⟩ := hrel
        have HOWN := Lib.hid hown; have HBR := Lib.hid hbr
        clear hown hbr
        obtain ⟨Ac, cc, hcv, _, _, _⟩ := HOWN.out.reads
        subst hcv
        by_cases hlt : k < n
        · have hget : ts[k]? = some (ixR StR ts k) := by
            unfold ixR
            rw [List.getD, List.getElem?_eq_getElem (show k < ts.length by have := HTL.out; omega)]; rfl
          obtain ⟨bt, ot, rfl, hbt⟩ := HRT.out.addr hlt
          obtain ⟨c0, _, _, _, _, c5, _⟩ := rdSt_at HRT.out hlt
          obtain ⟨bs, os, A', c', rfl, hbs, y0, _, _, y5, yr⟩ := HSN.out.at_ hlt
          have hst := bstep_all (HST.out k _ hget)
          have hob := HOB.out k _ hget
          have hbl := HLN.out k hk
          generalize ixR StR ts k = t at *
          obtain ⟨sw, sl, ⟨sa, sn', sf, sb, sm⟩⟩ := t
          dsimp only at c0 c5 hst hob
          obtain ⟨bo, hbo⟩ : ∃ bo, bo = Pl.bOf m ⟨sa, sn', sf, sb, sm⟩ := ⟨_, rfl⟩
          rw [← hbo] at hst
          obtain ⟨Bk, hBk⟩ : ∃ Bk, Bk = B k := ⟨_, rfl⟩
          have hown := HOWN.out
          rw [← hBk] at hst hbl hown
          obtain ⟨B1, hB1⟩ : ∃ B1, B1 = (if sw = 0 then Bk ++ [((bo : Nat) : Int)] else Bk) := ⟨_, rfl⟩
          rw [← hB1] at hst
          obtain ⟨tk, htk⟩ : ∃ tk, (sn k).taken = tk := ⟨_, rfl⟩
          obtain ⟨ls, hls⟩ : ∃ ls, (sn k).lost = ls := ⟨_, rfl⟩
          rw [htk] at y0 hst
          rw [hls] at y5 yr hst
          have HSTP := Lib.hid hst; have HOBK := Lib.hid hob; have HB1 := Lib.hid hB1; have HBO := Lib.hid hbo; have HOW := Lib.hid hown
          have C0 := Lib.hid c0; have C5 := Lib.hid c5; have Y0 := Lib.hid y0; have Y5 := Lib.hid y5; have YR := Lib.hid yr; have HBK := Lib.hid hBk
          have hrow : Value.slice Ac (B k).length cc = .slice Ac Bk.length cc := by rw [hBk]
          rw [hrow]
          clear hget hst hob hB1 hbo hown c0 c5 y0 y5 yr htk hls hBk HOWN hrow
          have ik : (k : Int) < (n : Int) := by omega
          have d0 := (HBR.out.cell (p := ⟨bt, ot + k * 7, none⟩) hbt).trans C0.out
          have d5 := (HBR.out.cell (p := ⟨bt, ot + k * 7 + 5, none⟩) hbt).trans C5.out
          have hszr := HBR.out.size
          go_upto_if 78 with fail
          go_cut [13] from 67 to 91 (fun cv wx => ∃ A2 c2, cv = .slice A2 B1.length c2 ∧ OwnW wx w6.heap.size 3 1 cv B1.length (B1.flatMap IntR.cells) ∧ Below w6.heap.size w6 wx)
          case first =>
            by_cases h0 : sw = 0
            · subst h0
              obtain ⟨hb0, hb1⟩ := HOBK.out rfl
              have hcs2 : B1 = Bk ++ [((bo : Nat) : Int)] := by rw [HB1.out, if_pos rfl]
              have hbo := HBO.out
              unfold Pl.bOf at hbo
              dsimp only at hbo
              obtain ⟨b, rfl⟩ : ∃ b : Nat, sb = b := ⟨sb.toNat, by omega⟩
              obtain ⟨M, hM⟩ : ∃ M, m = M + 1 := ⟨m - 1, by omega⟩
              have e1 : IntKind.i64.wrap ((m : Int) - 1) = (M : Int) := by rw [IntWalk.i64_in _ (by omega)]; omega
              have HCS2 := Lib.hid hcs2
              clear hcs2
              by_cases hc : b ≤ M
              · obtain rfl : bo = b := by omega
                have hm2 : (M < bo) = False := by simp; omega
                clear hbo hM
                go_wp2_with (at_builtin; go_must (refine wpList_addW IntR rfl (.tmp 79) (.tmp 90) _ w6.heap.size 3 _ 8 Try.underlying32 Try.intRInfo rfl rfl _ Bk.length Bk (bo : Int) _ HOW.out rfl rfl (by show Value.slice (some ⟨wr.heap.size, 0, none⟩) 1 1 = _; simp) (int_one _) (by omega) (by omega) hszr ?_); intro v8 w8 h1 h2 h3; (have hb8 : Below w6.heap.size w6 w8 := HBR.out.grown h2 (by omega) (fun i hi => (HOW.out.lt i hi).1)); obtain ⟨A8, c8, hv8, _, _, _⟩ := h1.reads; subst hv8; have H1 := Lib.hid h1; have HB8 := Lib.hid hb8; clear h1 h2 h3 hb8)
                go_meet
                case rel => exact ⟨A8, c8, by rw [HCS2.out]; simp, by rw [HCS2.out, List.length_append]; exact H1.out, HB8.out⟩
              · obtain rfl : bo = M := by omega
                have hm2 : (bo < b) = True := by simp; omega
                clear hbo hM
                go_wp2_with (at_builtin; go_must (refine wpList_addW IntR rfl (.tmp 79) (.tmp 90) _ w6.heap.size 3 _ 8 Try.underlying32 Try.intRInfo rfl rfl _ Bk.length Bk (bo : Int) _ HOW.out rfl rfl (by show Value.slice (some ⟨wr.heap.size, 0, none⟩) 1 1 = _; simp) (int_one _) (by omega) (by omega) hszr ?_); intro v8 w8 h1 h2 h3; (have hb8 : Below w6.heap.size w6 w8 := HBR.out.grown h2 (by omega) (fun i hi => (HOW.out.lt i hi).1)); obtain ⟨A8, c8, hv8, _, _, _⟩ := h1.reads; subst hv8; have H1 := Lib.hid h1; have HB8 := Lib.hid hb8; clear h1 h2 h3 hb8)
                go_meet
                case rel => exact ⟨A8, c8, by rw [HCS2.out]; simp, by rw [HCS2.out, List.length_append]; exact H1.out, HB8.out⟩
            · have t0 : (sw == 0) = false := by simpa using h0
              have hcs2 : B1 = Bk := by rw [HB1.out, if_neg h0]
              have HCS2 := Lib.hid hcs2
              clear hcs2
              go_wp2_with fail
              go_meet
              case rel => exact ⟨Ac, cc, by rw [HCS2.out], by rw [HCS2.out]; exact HOW.out, HBR.out⟩
          case rest =>
            obtain ⟨A2, c2, rfl, hoc, hbc⟩ := hcut
            have HOC := Lib.hid hoc; have HBC := Lib.hid hbc
            clear hoc hbc d0 d5 HOBK HBO HOW HBR hszr
            obtain ⟨B2, hA1, hA2⟩ := HSTP.out
            have hB12 : B2.length = B1.length := by
              rcases hA1 with ⟨_, e⟩ | ⟨q, _, _, e⟩
              · rw [e]
              · rw [e, List.length_set]
            have hb1l : B1.length ≤ 121 := by
              rw [HB1.out]
              split
              · rw [List.length_append]; simp; omega
              · omega
            have hlo : ls.length ≤ 1 := by
              rcases hA1 with ⟨e, _⟩ | ⟨q, e, _⟩
              · rw [e]; simp
              · rw [e]; simp
            have HA1 := Lib.hid hA1; have HA2 := Lib.hid hA2; have HB12 := Lib.hid hB12
            clear hA1 hA2 hB12 HSTP
            go_upto_region 24 with fail
            go_wp2_with fail
            go_loopw [15] (fun i wr => ∃ jj : Nat, jj ≤ ls.length ∧ i = .int .i64 jj ∧ OwnW wr w6.heap.size 3 1 (.slice A2 B1.length c2) B1.length ((if jj = 0 then B1 else B2).flatMap IntR.cells) ∧ Below w6.heap.size w6 wr) (fun i _ => ls.length - (intOf i).toNat)
            case atStart => exact ⟨0, Nat.zero_le _, rfl, HOC.out, HBC.out⟩
            case round =>
              clear HOC HBC
              obtain ⟨jj, hjj, rfl, hown, hbr⟩ := hrel
              have HOWN := Lib.hid hown; have HBR := Lib.hid hbr
              clear hown hbr
              obtain ⟨wp, rfl⟩ : ∃ wp : World, wp = wr := ⟨_, rfl⟩
              have y5 := (HBR.out.cell (p := ⟨bs, os + k * 6 + 5, none⟩) hbs).trans Y5.out
              have y0 := (HBR.out.cell (p := ⟨bs, os + k * 6, none⟩) hbs).trans Y0.out
              have yr := YR.out.below HBR.out
              by_cases hjl : jj < ls.length
              · obtain rfl : jj = 0 := by omega
                obtain ⟨q, hq1, hq2, hq3⟩ : ∃ q : Nat, ls = [(q : Int)] ∧ q < B1.length ∧ B2 = B1.set q (-1) := by
                  rcases HA1.out with ⟨e, _⟩ | h
                  · rw [e] at hjl; simp at hjl
                  · exact h
                subst hq1
                obtain ⟨bl, ol, rfl, _, yl⟩ := yr.get (k := 0) (by simp)
                have yl' : wp.cell? ⟨bl, ol, none⟩ = some (.int .i64 (q : Int)) := yl
                have ho0 := HOWN.out
                rw [if_pos rfl] at ho0
                obtain ⟨gc, oc, hAc, hcx, hfz, hgc, hgc2⟩ := intR_at ho0 (k := q) hq2
                subst hAc
                have hof := ho0.setI hq2 (-1)
                rw [← hq3] at hof
                have hbf := HBR.out.setCell (p := ⟨gc, oc + q, none⟩) hgc2 (.int .i64 (-1))
                have HOF := Lib.hid hof; have HBF := Lib.hid hbf
                simp only [List.length_cons, List.length_nil, Nat.zero_add] at y5
                have iq : (q : Int) < (B1.length : Int) := by omega
                clear yl hq3 hof hbf ho0 yr hjj hjl
                go_wp2_with fail
                exact ⟨⟨1, by simp, by first | rfl | go_num, by rw [if_neg (by decide)]; exact HOF.out, HBF.out⟩, by simp [intOf]⟩
              · obtain rfl : jj = ls.length := by omega
                have hof : OwnW wp w6.heap.size 3 1 (.slice A2 B1.length c2) B1.length (B2.flatMap IntR.cells) := by
                  have h1 := HOWN.out
                  rcases HA1.out with ⟨e1, e2⟩ | ⟨q, e1, _⟩
                  · rw [e1] at h1; rw [e2]; exact h1
                  · rw [e1] at h1; exact h1
                have HOF := Lib.hid hof
                clear hof yr hjj hjl HA1 HOWN
                have hl9 : B1.length = (B (k + 1)).length := by
                  rcases HA2.out with ⟨_, hL⟩ | ⟨u, _, _, hL, _⟩
                  · rw [hL, HB12.out]
                  · rw [hL, List.length_set, HB12.out]
                have HL9 := Lib.hid hl9
                clear hl9
                rcases HA2.out with ⟨ht, hL⟩ | ⟨u, ht, hu, hL, hcm⟩
                · have tt : decide (0 ≤ tk) = false := by simp; omega
                  have HLL := Lib.hid hL
                  clear hL
                  go_wp2_with fail
                  exact ⟨⟨k + 1, by omega, by go_num, by rw [← HL9.out]; rw [HLL.out]; exact HOF.out, HBR.out⟩, by simp [intOf]; omega⟩
                · subst ht
                  have hu1 : u < B1.length := by rw [← HB12.out]; exact hu
                  obtain ⟨gc, oc, hAc, hcx, hfz, hgc, hgc2⟩ := intR_at HOF.out (k := u) hu1
                  subst hAc
                  have hcl := fun j (hj : j < B1.length) => intR_at HOF.out (k := j) hj
                  have HCL := Lib.hid hcl; have HCM := Lib.hid hcm; have HLL := Lib.hid hL
                  obtain ⟨z, hz⟩ : ∃ z, z = B2.getD u 0 := ⟨_, rfl⟩
                  rw [← hz] at hcx
                  have HZ := Lib.hid hz
                  have iu : (u : Int) < (B1.length : Int) := by omega
                  clear hcl hcm hL hz
                  go_wp2_with fail
                  go_loopw [17] (fun i wi => ∃ (e : Nat), e ≤ B1.length ∧ i = .int .i64 e ∧ ∃ qn : Nat, wi = wp.drewN qn) (fun i _ => B1.length - (intOf i).toNat)
                  case atStart => exact ⟨0, Nat.zero_le _, rfl, 0, rfl⟩
                  case round =>
                    obtain ⟨e, he, rfl, qn, hwi⟩ := hrel
                    subst hwi
                    by_cases hel : e < B1.length
                    · obtain ⟨g2, o2, hA2', hce, _, _, _⟩ := HCL.out e hel
                      injection hA2' with hA2'
                      injection hA2' with e1 e2
                      subst e1 e2
                      have hcm := HCM.out e (by rw [HB12.out]; exact hel)
                      rw [← HZ.out] at hcm
                      generalize B2.getD e 0 = y at *
                      have ie : (e : Int) < (B1.length : Int) := by omega
                      by_cases hy : 0 ≤ y
                      · obtain ⟨n1, n2⟩ := hcm hy
                        have t1 : decide (0 ≤ y) = true := by simpa using hy
                        have t2 : decide (y < z) = false := by simpa using n1
                        by_cases hyz : y = z
                        · subst hyz
                          have n3 := n2 rfl
                          have t4 : decide (e < u) = false := by simpa using n3
                          clear n1 n2 hcm
                          go_wp2_with fail
                          go_quiet (fail)
                          go_wp2_with fail
                          exact ⟨⟨e + 1, by omega, by go_num, _, by first | rfl | exact World.drewN_drewN _ _ _⟩, by simp [intOf]; omega⟩
                        · have t3 : (y == z) = false := by simpa using hyz
                          clear n1 n2 hcm
                          go_wp2_with fail
                          go_quiet (fail)
                          go_wp2_with fail
                          exact ⟨⟨e + 1, by omega, by go_num, _, by first | rfl | exact World.drewN_drewN _ _ _⟩, by simp [intOf]; omega⟩
                      · have t1 : decide (0 ≤ y) = false := by simpa using hy
                        clear hcm
                        go_wp2_with fail
                        go_quiet (fail)
                        go_wp2_with fail
                        exact ⟨⟨e + 1, by omega, by go_num, _, by first | rfl | exact World.drewN_drewN _ _ _⟩, by simp [intOf]; omega⟩
                    · obtain rfl : e = B1.length := by omega
                      have hbel := bl_drewN (n := qn) (Below.refl wp.heap.size wp)
                      have hof := ((HOF.out.below hbel).setI hu1 (-1))
                      rw [← HLL.out] at hof
                      have hbf := (HBR.out.trans (hbel.mono HBR.out.size)).setCell (p := ⟨gc, oc + u, none⟩) hgc2 (.int .i64 (-1))
                      have HOF2 := Lib.hid hof; have HBF := Lib.hid hbf
                      clear hbel hof hbf
                      go_wp2_with fail
                      exact ⟨⟨k + 1, by omega, by go_num, by rw [← HL9.out]; exact HOF2.out, HBF.out⟩, by simp [intOf]; omega⟩
        · obtain rfl : k = n := by omega
          have hfin := HB6.out.trans (HBR.out.mono hsz6)
          have HFIN := Lib.hid hfin
          clear hfin
          go_wp2_with fail
          go_ret
          exact ⟨rfl, HFIN.out⟩
/-- whatever the input -/
theorem queueStrict_core (a : Int) (A : Option Addr) (n c : Nat) (l : List Pl.Stp) (W : World) (hr : RdR StR W W.heap.size A n l) (hn : n ≤ 9223372036854775807) (_ : -9223372036854775808 ≤ a ∧ a ≤ 9223372036854775807) :
    Calls Try.prog 6 #[.int .i64 a, .slice A n c] W fun e w' => e = .returned (.bool true) ∧ Below W.heap.size W w' := by
  by_cases h : 120 < n
  · exact queueStrict_many a A n c W hn h
  · exact queueStrict_yes a A n c l W hr (by omega)
end Go.Proofs.Ythhgbpbaihgogaa
