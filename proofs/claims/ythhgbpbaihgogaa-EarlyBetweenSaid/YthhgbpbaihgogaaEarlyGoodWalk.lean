/-
  EarlyGood: the whole walk.
-/
import Derived.Test.YthhgbpbaihgogaaFirst
import Derived.Test.YthhgbpbaihgogaaCodImp
import Derived.Test.YthhgbpbaihgogaaCodPlay
import Derived.Test.YthhgbpbaihgogaaPick
namespace Go.Proofs.Ythhgbpbaihgogaa
open Go.RowKit Bkt
set_option linter.unusedVariables false

set_option maxHeartbeats 1000000 in
set_option maxRecDepth 100000 in
theorem earlyGood_many (A : Option Addr) (n c : Nat) (tg sp : Int) (W : World) (hn : n ≤ 9223372036854775807) (h : 120 < n) :
    Calls Try.prog 4 #[.int .i64 tg, .int .i64 sp, .slice A n c] W fun e w' => e = .returned (.bool true) ∧ Below W.heap.size W w' := by
  go_enter Try.func4, Try.ntmps4
  go_wp2_with fail
  go_ret
  exact ⟨rfl, Below.refl _ _⟩
theorem later_bd {l : List Pl.Stp} {n : Nat} (hn : n ≤ 120) (hl : l.length = n) {i : Nat} {t : Pl.Stp} (h : (Pl.timesTo l n)[i]? = some t) : 0 ≤ t.later ∧ t.later ≤ 120000 := by
  have hi : i < n := by
    have := (List.getElem?_eq_some_iff.1 h).1
    rw [Pl.timesTo_len l n (by omega)] at this
    exact this
  rw [Pl.timesTo_get l n i hi (by omega), List.getElem?_eq_getElem (by omega)] at h
  injection h with h
  have hb := Pl.nowAt_bd l (i + 1)
  have e : t.later = Pl.nowAt l (i + 1) := by rw [← h]; rfl
  omega
theorem came_bd {ts : List Pl.Stp} (h : ∀ (i : Nat) (t : Pl.Stp), ts[i]? = some t → 0 ≤ t.later ∧ t.later ≤ 120000) : ∀ k, (Pl.cameTo ts k).length ≤ k ∧ ∀ x ∈ Pl.cameTo ts k, 0 ≤ x ∧ x ≤ 120000
  | 0 => ⟨Nat.le_refl _, fun x hx => by simp [Pl.cameTo] at hx⟩
  | k + 1 => by
    obtain ⟨h1, h2⟩ := came_bd h k
    rw [Pl.cameTo]
    cases hk : ts[k]? with
    | none => exact ⟨by simp only []; omega, h2⟩
    | some t =>
      dsimp only
      split
      · refine ⟨by simp; omega, fun x hx => ?_⟩
        rcases List.mem_append.1 hx with hx | hx
        · exact h2 x hx
        · rw [List.mem_singleton] at hx; subst hx; exact h k t hk
      · exact ⟨by omega, h2⟩

theorem times_n (A : Option Addr) (n c : Nat) (l : List Pl.Stp) (w : World) (hr : RdR StR w w.heap.size A n l) (hn : n ≤ 1000) :
    Calls Try.prog 16 #[.slice A n c] w fun e w' => ∃ At ct, e = .returned (.slice At n ct) ∧ RdR StR w' w'.heap.size At n (Pl.timesTo l n) ∧ Below w.heap.size w w' := by
  have htl := Pl.timesTo_len l n (by have := hr.len; omega)
  refine (times_any A n c l w hr hn).mono ?_
  rintro e w' ⟨At, ct, e1, h1, h2, _⟩
  rw [htl] at e1 h1
  exact ⟨At, ct, e1, h1, h2⟩

set_option maxHeartbeats 4000000 in
set_option maxRecDepth 100000 in
theorem earlyGood_yes (A : Option Addr) (n c : Nat) (l : List Pl.Stp) (tg sp : Int) (W : World) (hr : RdR StR W W.heap.size A n l) (h : n ≤ 120) (ht : -9223372036854775808 ≤ tg ∧ tg ≤ 9223372036854775807) (hs : -9223372036854775808 ≤ sp ∧ sp ≤ 9223372036854775807) :
    Calls Try.prog 4 #[.int .i64 tg, .int .i64 sp, .slice A n c] W fun e w' => e = .returned (.bool true) ∧ Below W.heap.size W w' := by
  have hll := hr.len
  have htl := Pl.timesTo_len l n (by omega)
  have hok := Pl.times_ok l
  rw [hll] at hok
  have hlb := fun i t => later_bd h hll (i := i) (t := t)
  have HTL := Lib.hid htl; have HOK := Lib.hid hok; have HLB := Lib.hid hlb
  clear htl hok hll hlb
  go_enter Try.func4, Try.ntmps4
  go_wp2_with fail
  (with_reducible refine (pick_any _ _ _ (by omega) (by omega) ht.1 ht.2).mono ?_)
  rintro e w' ⟨tg', ht0, ht1, rfl, rfl⟩
  go_wp2_with fail
  (with_reducible refine (pick_any _ _ _ (by omega) (by omega) hs.1 hs.2).mono ?_)
  rintro e w' ⟨sp', hs0, hs1, rfl, rfl⟩
  have hP : Pl.DPOk ⟨⟨120, 1000000, false⟩, tg', 1 + sp'⟩ := ⟨⟨by simp only []; omega, by simp only []; omega⟩, ⟨ht0, by simp only []; omega⟩, ⟨by simp only []; omega, by simp only []; omega⟩⟩
  have hnd := newDelay_yes ⟨⟨120, 1000000, false⟩, tg', 1 + sp'⟩ W hP rfl rfl
  dsimp only at hnd
  have HND := Lib.hid hnd; have HP := Lib.hid hP
  clear hnd hP
  go_wp2_with fail
  (with_reducible refine HND.out.mono ?_)
  rintro e w1 ⟨g, v0, cs0, rfl, hg, hb1, hd, rfl⟩
  have HB1 := Lib.hid hb1; have HD := Lib.hid hd
  clear hb1 hd
  go_wp2_with fail
  (with_reducible refine (first_yes _).mono ?_)
  rintro e w2 ⟨rfl, hb2⟩
  have hd2 := HD.out.below hb2
  have hi2 : DInv1 W.heap.size g ⟨⟨120, 1000000, false⟩, tg', 1 + sp'⟩ ⟨[], -1, false, 0, 0⟩ 0 (fun i => i = g) w2 :=
    ⟨_, _, hd2, ⟨by simp only []; omega, by simp only []; omega, by simp only []; omega, by simp⟩, ⟨⟨by simp, fun x hx => by simp at hx⟩, fun x hx => by simp at hx⟩, Nat.le_trans HB1.out.size hb2.size, by omega, hg, fun i => by simp [Value.ownBlock]⟩
  have hr2 : RdR StR w2 w2.heap.size A n l := (hr.over HB1.out (Nat.le_refl _)).over hb2 (Nat.le_refl _)
  have hpc := play_seen (del_imp W.heap.size g _ HP.out) A n c l ⟨[], -1, false, 0, 0⟩ _ w2 hr2 (by omega) hi2
  have HB2 := Lib.hid (bl_next HB1.out hb2); have HPC := Lib.hid hpc
  have hg2 : W.heap.size ≤ w2.heap.size := HB2.out.size
  clear hd2 hi2 hr2 hpc hb2
  go_wp2_with (go_at_call 12; (with_reducible refine HPC.out.mono ?_); rintro e w3 ⟨As, cs, F', rfl, hsn, _, hch, _, _⟩)
  have hbW : Below W.heap.size w2 w3 := hch.below hg2 (fun i hi e => by omega)
  have hr3 : RdR StR w3 w3.heap.size A n l := by
    refine (hr.keep (w' := w3) fun p hp => ?_).more (Nat.le_trans hg2 hch.size)
    exact (hbW.cell hp).trans (HB2.out.cell hp)
  have hk := kept_yes (Pl.del_good ⟨⟨120, 1000000, false⟩, tg', 1 + sp'⟩ false) (s0 := (⟨[], -1, false, 0, 0⟩ : Pl.DS)) trivial rfl A n c l As cs w3 hr3 hsn (by omega)
  have hdp := Pl.del_play (P := ⟨⟨120, 1000000, false⟩, tg', 1 + sp'⟩) rfl (Pl.timesTo l n) HOK.out ⟨[], -1, false, 0, 0⟩ rfl n (by have := HTL.out; omega)
  have hll2 : ∀ i, i < n → (Pl.seenAt (Pl.delM ⟨⟨120, 1000000, false⟩, tg', 1 + sp'⟩) (⟨[], -1, false, 0, 0⟩ : Pl.DS) (Pl.timesTo l n) i).lost.length ≤ 100000 := fun i hi => by
    have := lost_bd (Pl.del_good ⟨⟨120, 1000000, false⟩, tg', 1 + sp'⟩ false) (s0 := (⟨[], -1, false, 0, 0⟩ : Pl.DS)) trivial rfl HOK.out (k := i) (by have := HTL.out; omega)
    omega
  have HLL := Lib.hid hll2
  clear hll2
  have HK := Lib.hid hk; have HS := Lib.hid hsn; have HBW := Lib.hid (HB2.out.trans hbW); have HR3 := Lib.hid hr3; have HDP := Lib.hid hdp.2
  clear hbW hr3 hk hsn hch hdp
  (with_reducible refine HK.out.mono ?_)
  rintro e w4 ⟨rfl, hb4⟩
  have hs4 := HS.out.over hb4 (Nat.le_refl _)
  have hr4 := HR3.out.over hb4 (Nat.le_refl _)
  have HB4 := Lib.hid (HBW.out.trans (hb4.mono HBW.out.size))
  have htm := times_n A n c l w4 hr4 (by omega)
  have HS4 := Lib.hid hs4; have HTM := Lib.hid htm
  clear hs4 hr4 htm hb4
  go_wp2_with (go_at_call 16; (with_reducible refine HTM.out.mono ?_); rintro e w5 ⟨At, ct, rfl, hrt, hb5⟩; have hs5 := HS4.out.over hb5 (Nat.le_refl _); have HB5 := Lib.hid (bl_next HB4.out hb5); have HRT := Lib.hid hrt; have HS5 := Lib.hid hs5; clear hrt hs5 hb5)
  have hsz5 := HB5.out.size
  generalize Pl.seenAt (Pl.delM ⟨⟨120, 1000000, false⟩, tg', 1 + sp'⟩) ⟨[], -1, false, 0, 0⟩ (Pl.timesTo l n) = sn at *
  have hcb := came_bd HLB.out
  have HCB := Lib.hid hcb
  clear hcb
  generalize Pl.timesTo l n = ts at *
  go_loopw [11, 12, 13] (fun cv la i wr => ∃ k : Nat, k ≤ n ∧ i = .int .i64 k ∧ la = .int .i64 (Pl.lastG ts sn k) ∧ OwnW wr w5.heap.size 3 1 cv (Pl.cameTo ts k).length ((Pl.cameTo ts k).flatMap IntR.cells) ∧ Below w5.heap.size w5 wr) (fun _ _ i _ => n - (intOf i).toNat)
  case atStart => exact ⟨0, Nat.zero_le _, rfl, rfl, OwnW.nil _ _ _ _, Below.refl _ _⟩
  case round =>
    obtain ⟨k, hk, rfl, rfl, hown, hbr⟩ := hrel
    have HOWN := Lib.hid hown; have HBR := Lib.hid hbr
    clear hown hbr
    obtain ⟨Ac, cc, hcv, _, _, _⟩ := HOWN.out.reads
    subst hcv
    by_cases hlt : k < n
    · have hget : ts[k]? = some (ixR StR ts k) := by
        unfold ixR
        rw [List.getD, List.getElem?_eq_getElem (show k < ts.length by have := HTL.out; omega)]; rfl
      obtain ⟨bt, ot, rfl, hbt⟩ := HRT.out.addr hlt
      obtain ⟨c0, c1, _, _, _, _, _⟩ := rdSt_at HRT.out hlt
      obtain ⟨bs, os, A', c', rfl, hbs, y0, _, _, y5, yr⟩ := HS5.out.at_ hlt
      have hlb := HLB.out k _ hget
      have hst := HDP.out k hlt _ hget
      have hcs := Pl.cameTo_succ hget
      have hgs := Pl.lastG_succ (sn := sn) hget
      have hcl := (HCB.out k).1
      have hcb1 := HCB.out (k + 1)
      have HST := Lib.hid hst; have HCS := Lib.hid hcs; have HGS := Lib.hid hgs; have HCB1 := Lib.hid hcb1
      have C0 := Lib.hid c0; have C1 := Lib.hid c1; have Y0 := Lib.hid y0; have Y5 := Lib.hid y5; have YR := Lib.hid yr
      clear hget hst hcs hgs hcb1 c0 c1 y0 y5 yr
      generalize ixR StR ts k = t at *
      obtain ⟨sw, sl, st⟩ := t
      dsimp only at hlb C0 C1 HCS HGS
      obtain ⟨hlb0, hlb1⟩ := hlb
      have ik : (k : Int) < (n : Int) := by omega
      have d0 := (HBR.out.cell (p := ⟨bt, ot + k * 7, none⟩) hbt).trans C0.out
      have d1 := (HBR.out.cell (p := ⟨bt, ot + k * 7 + 1, none⟩) hbt).trans C1.out
      have hszr := HBR.out.size
      go_upto_if 62 with fail
      go_cut [11] from 51 to 125 (fun cv wx => ∃ A2 c2, cv = .slice A2 (Pl.cameTo ts (k + 1)).length c2 ∧ OwnW wx w5.heap.size 3 1 cv (Pl.cameTo ts (k + 1)).length ((Pl.cameTo ts (k + 1)).flatMap IntR.cells) ∧ Below w5.heap.size w5 wx)
      case first =>
        by_cases h0 : sw = 0
        · subst h0
          have hcs2 : Pl.cameTo ts (k + 1) = Pl.cameTo ts k ++ [sl] := by rw [HCS.out, if_pos rfl]
          have HCS2 := Lib.hid hcs2
          clear hcs2
          go_wp2_with (at_builtin; go_must (refine wpList_addW IntR rfl (.tmp 63) (.tmp 69) _ w5.heap.size 3 _ 8 Try.underlying32 Try.intRInfo rfl rfl _ (Pl.cameTo ts k).length (Pl.cameTo ts k) sl _ HOWN.out rfl rfl (by show Value.slice (some ⟨wr.heap.size, 0, none⟩) 1 1 = _; simp) (int_one _) (by omega) (by omega) hszr ?_); intro v8 w8 h1 h2 h3; (have hb8 : Below w5.heap.size w5 w8 := HBR.out.grown h2 (by omega) (fun i hi => (HOWN.out.lt i hi).1)); obtain ⟨A8, c8, hv8, _, _, _⟩ := h1.reads; subst hv8; have H1 := Lib.hid h1; have HB8 := Lib.hid hb8; clear h1 h2 h3 hb8)
          go_meet
          case rel => exact ⟨A8, c8, by rw [HCS2.out]; simp, by rw [HCS2.out, List.length_append]; exact H1.out, HB8.out⟩
        · have t0 : (sw == 0) = false := by simpa using h0
          have hcs2 : Pl.cameTo ts (k + 1) = Pl.cameTo ts k := by rw [HCS.out, if_neg h0]
          have HCS2 := Lib.hid hcs2
          clear hcs2
          go_wp2_with fail
          go_meet
          case rel => exact ⟨Ac, cc, by rw [HCS2.out], by rw [HCS2.out]; exact HOWN.out, HBR.out⟩
      case rest =>
        obtain ⟨A2, c2, rfl, hoc, hbc⟩ := hcut
        have e0 := (hbc.cell (p := ⟨bt, ot + k * 7, none⟩) hbt).trans C0.out
        have e1 := (hbc.cell (p := ⟨bt, ot + k * 7 + 1, none⟩) hbt).trans C1.out
        have y0 := (hbc.cell (p := ⟨bs, os + k * 6, none⟩) hbs).trans Y0.out
        have y5 := (hbc.cell (p := ⟨bs, os + k * 6 + 5, none⟩) hbs).trans Y5.out
        have yr := YR.out.below hbc
        have hl1 := HST.out.lost; have hl2 := HST.out.tk1; have hl3 := HST.out.tk0
        have hgs := HGS.out
        have hszc := hbc.size
        have hll3 := HLL.out k hlt
        dsimp only at hl1 hl2 hl3 e0 e1 hgs
        clear d0 d1 hszr
        obtain ⟨ls, hls⟩ : ∃ ls, (sn k).lost = ls := ⟨_, rfl⟩
        obtain ⟨tk, htk⟩ : ∃ tk, (sn k).taken = tk := ⟨_, rfl⟩
        obtain ⟨cm, hcm⟩ : ∃ cm, Pl.cameTo ts (k + 1) = cm := ⟨_, rfl⟩
        obtain ⟨la, hla⟩ : ∃ la, Pl.lastG ts sn k = la := ⟨_, rfl⟩
        have hcb1 := HCB1.out
        rw [hls] at y5 yr hl1 hl2 hgs hll3
        rw [htk] at y0 hl2 hl3 hgs
        rw [hcm] at hl1 hcb1 hoc ⊢
        rw [hla] at hl1 hl2 hgs ⊢
        have E0 := Lib.hid e0; have E1 := Lib.hid e1; have Y0' := Lib.hid y0; have Y5' := Lib.hid y5; have YR' := Lib.hid yr
        have HL1 := Lib.hid hl1; have HL2 := Lib.hid hl2; have HL3 := Lib.hid hl3; have HGS' := Lib.hid hgs; have HCB2 := Lib.hid hcb1; have HOC := Lib.hid hoc; have HBC := Lib.hid hbc
        have HCM := Lib.hid hcm
        clear e0 e1 y0 y5 yr hl1 hl2 hl3 hgs hcb1 hoc hbc hcm hls htk hla HGS HCB1 HST C0 C1 Y0 Y5 YR HCS
        go_wp2_with fail
        go_loopw [12, 14] (fun la' i wi => ∃ j : Nat, j ≤ ls.length ∧ i = .int .i64 j ∧ (sw ≠ 1 → j = 0) ∧ la' = .int .i64 (Pl.lastL la (ls.take j)) ∧ Below wc.heap.size wc wi) (fun _ i _ => ls.length - (intOf i).toNat)
        case atStart => exact ⟨0, Nat.zero_le _, rfl, fun _ => rfl, rfl, Below.refl _ _⟩
        case round =>
          obtain ⟨j, hj, rfl, hj0, rfl, hbi⟩ := hrel
          have e0 := (hbi.cell (p := ⟨bt, ot + k * 7, none⟩) (by simp only []; omega)).trans E0.out
          have e1 := (hbi.cell (p := ⟨bt, ot + k * 7 + 1, none⟩) (by simp only []; omega)).trans E1.out
          have y0 := (hbi.cell (p := ⟨bs, os + k * 6, none⟩) (by simp only []; omega)).trans Y0'.out
          have y5 := (hbi.cell (p := ⟨bs, os + k * 6 + 5, none⟩) (by simp only []; omega)).trans Y5'.out
          have HBI := Lib.hid hbi
          by_cases hr1 : sw = 1 ∧ j < ls.length
          · obtain ⟨rfl, hjl⟩ := hr1
            obtain ⟨q1, q2, q3, q4⟩ := HL1.out rfl j hjl
            obtain ⟨bl, ol, rfl, hbl⟩ := YR'.out.addr hjl
            have y6 := (hbi.cell (p := ⟨bl, ol + j, none⟩) (by simp only []; omega)).trans (YR'.out.all rfl j hjl)
            have ij : (j : Int) < (ls.length : Int) := by omega
            have hnx : Pl.lastL la (ls.take (j + 1)) = ls.getD j 0 := by
              rw [List.take_add_one, List.getElem?_eq_getElem hjl]
              show Pl.lastL la (ls.take j ++ [ls[j]]) = _
              rw [Pl.lastL_snoc, List.getD, List.getElem?_eq_getElem hjl]; rfl
            have HNX := Lib.hid hnx
            obtain ⟨xn, hxn⟩ : ∃ xn : Nat, ls.getD j 0 = xn := ⟨(ls.getD j 0).toNat, by omega⟩
            rw [hxn] at q1 q3 q4 y6
            rw [Int.toNat_natCast] at q4
            have hxl : xn < cm.length := by omega
            obtain ⟨g, o, rfl, hcx, _, hgl, _⟩ := intR_at HOC.out hxl
            have hcx' := (hbi.cell (p := ⟨g, o + xn, none⟩) hgl).trans hcx
            have hcb := HCB2.out.2 (cm.getD xn 0) (by rw [List.getD, List.getElem?_eq_getElem hxl]; exact List.getElem_mem _)
            have hcl := HCB2.out.1
            have ix : (xn : Int) < (cm.length : Int) := by omega
            generalize cm.getD xn 0 = cx at *
            generalize hlq : Pl.lastL la (ls.take j) = lq at *
            obtain ⟨hcb0, hcb1⟩ := hcb
            have hwr : IntKind.i64.wrap (sl - cx) = sl - cx := IntWalk.i64_in _ (by omega)
            have t1 : decide (sl - cx < tg') = false := by simpa using q4
            have t2 : decide ((xn : Int) ≤ lq) = false := by simpa using q1
            have HNX' : Hid (Pl.lastL la (ls.take (j + 1)) = xn) := Lib.hid (by rw [← hxn]; exact HNX.out)
            clear HNX hcx hnx hxn q2
            go_upto_region 22 with fail
            go_quiet (fail)
            go_wp2_with fail
            go_roundw
            case rel => exact ⟨j + 1, by omega, by go_num, fun h => absurd rfl h, by rw [HNX'.out], HBI.out.trans ⟨rfl, rfl, rfl, Nat.le_refl _, fun _ _ => rfl⟩⟩
            case measure => simp [intOf]; omega
          · have hlast : Pl.lastL la (ls.take j) = if sw = 1 then Pl.lastL la ls else la := by
              split
              · rename_i h1
                rw [List.take_of_length_le (by omega)]
              · rename_i h1
                rw [hj0 h1]; rfl
            have hex : ∀ wf, Below wc.heap.size wc wf → OwnW wf w5.heap.size 3 1 (.slice A2 cm.length c2) cm.length (cm.flatMap IntR.cells) ∧ Below w5.heap.size w5 wf := fun wf hb => ⟨HOC.out.chg (Chg.of_below hb) (fun _ _ h => h), HBC.out.trans (hb.mono hszc)⟩
            have HEX := Lib.hid hex
            clear hex
            have hgk : Pl.lastG ts sn (k + 1) = if 0 ≤ tk then tk else Pl.lastL la (ls.take j) := by rw [HGS'.out, hlast]
            have HGK := Lib.hid hgk
            have hlt2 : 0 ≤ tk → Pl.lastL la (ls.take j) < tk := fun h0 => by
              rw [hlast]
              by_cases h1 : sw = 1
              · rw [if_pos h1]; exact HL2.out h1 h0
              · have := HL3.out h1; omega
            clear hlast hgk
            generalize Pl.lastL la (ls.take j) = lq at *
            have HLT2 := Lib.hid hlt2
            clear hlt2 hj0
            have ik : (k : Int) < (n : Int) := by omega
            have hs1 : (j < ls.length ∧ (sw == 1) = false) ∨ ¬ j < ls.length := by
              by_cases hjl : j < ls.length
              · exact .inl ⟨hjl, by simpa using fun h => hr1 ⟨h, hjl⟩⟩
              · exact .inr hjl
            clear hr1
            rcases hs1 with ⟨hjl, hne⟩ | hjl
            · have ij : (j : Int) < (ls.length : Int) := by omega
              by_cases h0 : 0 ≤ tk
              · have t3 := HLT2.out h0
                go_wp2_with fail
                go_roundw
                case rel => exact ⟨k + 1, by omega, by go_num, by rw [HGK.out, if_pos h0], by rw [HCM.out]; exact (HEX.out _ HBI.out).1, (HEX.out _ HBI.out).2⟩
                case measure => simp [intOf]; omega
              · go_wp2_with fail
                go_roundw
                case rel => exact ⟨k + 1, by omega, by go_num, by rw [HGK.out, if_neg h0], by rw [HCM.out]; exact (HEX.out _ HBI.out).1, (HEX.out _ HBI.out).2⟩
                case measure => simp [intOf]; omega
            · have ij : ¬ (j : Int) < (ls.length : Int) := by omega
              by_cases h0 : 0 ≤ tk
              · have t3 := HLT2.out h0
                go_wp2_with fail
                go_roundw
                case rel => exact ⟨k + 1, by omega, by go_num, by rw [HGK.out, if_pos h0], by rw [HCM.out]; exact (HEX.out _ HBI.out).1, (HEX.out _ HBI.out).2⟩
                case measure => simp [intOf]; omega
              · go_wp2_with fail
                go_roundw
                case rel => exact ⟨k + 1, by omega, by go_num, by rw [HGK.out, if_neg h0], by rw [HCM.out]; exact (HEX.out _ HBI.out).1, (HEX.out _ HBI.out).2⟩
                case measure => simp [intOf]; omega
    · obtain rfl : k = n := by omega
      have hfin := HB5.out.trans (HBR.out.mono hsz5)
      have HFIN := Lib.hid hfin
      clear hfin
      go_wp2_with fail
      go_ret
      exact ⟨rfl, HFIN.out⟩

/-- whatever the input -/
theorem earlyGood_core (tg sp : Int) (A : Option Addr) (n c : Nat) (l : List Pl.Stp) (W : World) (hr : RdR StR W W.heap.size A n l) (hn : n ≤ 9223372036854775807) (h1 : -9223372036854775808 ≤ tg ∧ tg ≤ 9223372036854775807) (h2 : -9223372036854775808 ≤ sp ∧ sp ≤ 9223372036854775807) :
    Calls Try.prog 4 #[.int .i64 tg, .int .i64 sp, .slice A n c] W fun e w' => e = .returned (.bool true) ∧ Below W.heap.size W w' := by
  by_cases h : 120 < n
  · exact earlyGood_many A n c tg sp W hn h
  · exact earlyGood_yes A n c l tg sp W hr (by omega) h1 h2
end Go.Proofs.Ythhgbpbaihgogaa
