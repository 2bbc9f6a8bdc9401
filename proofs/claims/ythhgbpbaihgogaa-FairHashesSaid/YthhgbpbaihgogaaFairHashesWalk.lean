/-
  FairHashes: the whole walk.
-/
import Derived.Test.YthhgbpbaihgogaaHshImp
import Derived.Test.YthhgbpbaihgogaaTurns
import Derived.Test.YthhgbpbaihgogaaOrdered
import Derived.Test.YthhgbpbaihgogaaFirst
import Derived.Test.YthhgbpbaihgogaaRowQ
import Derived.Test.YthhgbpbaihgogaaPick
namespace Go.Proofs.Ythhgbpbaihgogaa
open Go.RowKit Bkt
set_option linter.unusedVariables false

def lsL (P : Pl.HP) (fs : List Int) : List Int := fs.map fun f => ((Pl.whr P f : Nat) : Int)
theorem lsL_get {P : Pl.HP} {fs : List Int} {u : Int} {j : Nat} (h : Pl.inL' P fs u j) : (lsL P fs).getD u.toNat 0 = (j : Int) := by
  obtain ⟨h0, h1, h2, _⟩ := h
  have hu : u.toNat < fs.length := by omega
  unfold lsL
  rw [List.getD, List.getElem?_map, List.getElem?_eq_getElem hu]
  rw [List.getD, List.getElem?_eq_getElem hu] at h2
  show ((Pl.whr P fs[u.toNat] : Nat) : Int) = j
  rw [show Pl.whr P fs[u.toNat] = j from h2]
theorem lsL_len (P : Pl.HP) (fs : List Int) : (lsL P fs).length = fs.length := by simp [lsL]
theorem lsL_app (P : Pl.HP) (fs : List Int) (f : Int) : lsL P (fs ++ [f]) = lsL P fs ++ [((Pl.whr P f : Nat) : Int)] := by simp [lsL]
set_option maxHeartbeats 1000000 in
set_option maxRecDepth 100000 in
theorem fairHashes_many (a b d : Int) (A : Option Addr) (n c : Nat) (W : World) (hn : n ≤ 9223372036854775807) (h : 120 < n) :
    Calls Try.prog 8 #[.int .i64 a, .int .i64 b, .int .i64 d, .slice A n c] W fun e w' => e = .returned (.bool true) ∧ Below W.heap.size W w' := by
  go_enter Try.func8, Try.ntmps8
  go_wp2_with fail
  go_ret
  exact ⟨rfl, Below.refl _ _⟩

theorem hstep_all {P : Pl.HP} {ls : List Int} {tk sw sf : Int} {L0 L9 L1 : Nat → Int} {fs : List Int} (h1 : L1 = if sw = 0 then Pl.updf L0 (Pl.whr P sf) (L0 (Pl.whr P sf) + 1) else L0)
    (hp : sw = 0 → (0 ≤ sf ∧ sf < 16) ∧ tk < 0 ∧ ((ls = [] ∧ L9 = Pl.updf L0 (Pl.whr P sf) (L0 (Pl.whr P sf) + 1)) ∨ ∃ u j, ls = [u] ∧ Pl.inL' P fs u j ∧ (∀ i, i < P.m → Pl.updf L0 (Pl.whr P sf) (L0 (Pl.whr P sf) + 1) i ≤ Pl.updf L0 (Pl.whr P sf) (L0 (Pl.whr P sf) + 1) j) ∧
       L9 = Pl.updf (Pl.updf L0 (Pl.whr P sf) (L0 (Pl.whr P sf) + 1)) j (Pl.updf L0 (Pl.whr P sf) (L0 (Pl.whr P sf) + 1) j - 1)))
    (ht : sw ≠ 0 → ls = [] ∧ ((tk < 0 ∧ L9 = L0) ∨ ∃ j, Pl.inL' P fs tk j ∧ L9 = Pl.updf L0 j (L0 j - 1))) :
    ∃ L2, ((ls = [] ∧ L2 = L1) ∨ ∃ u j, ls = [u] ∧ Pl.inL' P fs u j ∧ (∀ i, i < P.m → L1 i ≤ L1 j) ∧ L2 = Pl.updf L1 j (L1 j - 1)) ∧ ((tk < 0 ∧ L9 = L2) ∨ ∃ j, Pl.inL' P fs tk j ∧ L9 = Pl.updf L2 j (L2 j - 1)) := by
  by_cases h0 : sw = 0
  · rw [if_pos h0] at h1
    obtain ⟨_, h2, h3⟩ := hp h0
    rw [← h1] at h3
    refine ⟨L9, ?_, .inl ⟨h2, rfl⟩⟩
    exact h3
  · rw [if_neg h0] at h1
    obtain ⟨h2, h3⟩ := ht h0
    subst h1
    exact ⟨L1, .inl ⟨h2, rfl⟩, h3⟩
set_option maxHeartbeats 8000000 in
set_option maxRecDepth 100000 in
theorem fairHashes_yes (a b d : Int) (A : Option Addr) (n c : Nat) (l : List Pl.Stp) (W : World) (hr : RdR StR W W.heap.size A n l) (h : n ≤ 120) :
    Calls Try.prog 8 #[.int .i64 a, .int .i64 b, .int .i64 d, .slice A n c] W fun e w' => e = .returned (.bool true) ∧ Below W.heap.size W w' := by
  have hll := hr.len
  have htl := Pl.timesTo_len l n (by omega)
  have hok := Pl.times_ok l
  rw [hll] at hok
  have HTL := Lib.hid htl; have HOK := Lib.hid hok; have HR := Lib.hid hr
  clear htl hok hll hr
  go_enter Try.func8, Try.ntmps8
  go_wp2_with fail
  (with_reducible refine (pick_all _ _ _ (by omega) (by omega)).mono ?_)
  rintro e w' ⟨p1, hp0, hp1, rfl, rfl⟩
  have e1 : IntKind.i64.wrap (1 + p1) = 1 + p1 := IntWalk.i64_in _ (by omega)
  go_wp2_with fail
  (with_reducible refine (pick_all _ _ _ (by omega) (by omega)).mono ?_)
  rintro e w' ⟨p2, hq0, hq1, rfl, rfl⟩
  go_wp2_with fail
  (with_reducible refine (pick_all _ _ _ (by omega) (by omega)).mono ?_)
  rintro e w' ⟨p3, hr0, hr1, rfl, rfl⟩
  have e3 : IntKind.i64.wrap (1 + p3) = 1 + p3 := IntWalk.i64_in _ (by omega)
  obtain ⟨m, hm⟩ : ∃ m : Nat, 1 + p1 = (m : Int) := ⟨(1 + p1).toNat, by omega⟩
  obtain ⟨room, hroom⟩ : ∃ q, 1 + p3 = q := ⟨_, rfl⟩
  have hP : Pl.HPOk ⟨m, p2, room⟩ := ⟨by simp only []; omega, by simp only []; omega, by simp only []; omega⟩
  have hnew := newHashed_yes ⟨m, p2, room⟩ W hP
  dsimp only at hnew
  have HNEW := Lib.hid hnew; have HP := Lib.hid hP
  have hm1 : 1 ≤ m := by omega
  have hm2 : m ≤ 64 := by omega
  have hrm1 : 1 ≤ room := by omega
  have hrm2 : room ≤ 30 := by omega
  clear hnew hP
  go_upto_region 5 with (go_at_call 28; (with_reducible refine HNEW.out.mono ?_); rintro e w1 ⟨g, gl, cs0, ls0, rfl, hg, hgl, hb1, hd⟩; have hi := Hsh.inv0 HP.out hd hg hgl; have HB1 := Lib.hid hb1; have HI := Lib.hid hi; clear hb1 hd hi)
  clear HNEW e1 e3 hm hroom
  go_wp2_with fail
  (with_reducible refine (turns_yes _).mono ?_)
  rintro e w2 ⟨rfl, hb2⟩
  have hr9 : room ≤ 900 := by omega
  have hi2 := (hsh_imp W.heap.size g gl _ HP.out hr9).chg _ _ _ _ _ (fun _ => False) HI.out (Chg.of_below hb2) (fun _ _ h => h)
  have hr2' : RdR StR w2 w2.heap.size A n l := (HR.out.over HB1.out (Nat.le_refl _)).over hb2 (Nat.le_refl _)
  have hpc := play_seen (hsh_imp W.heap.size g gl _ HP.out hr9) A n c l Pl.hs0 _ w2 hr2' (by omega) hi2
  have HB2 := Lib.hid (bl_next HB1.out hb2); have HPC := Lib.hid hpc
  have hg2 : W.heap.size ≤ w2.heap.size := HB2.out.size
  clear hi2 hr2' hpc hb2
  go_wp2_with (go_at_call 12; (with_reducible refine HPC.out.mono ?_); rintro e w3 ⟨As, cs, F', rfl, hsn, hinv, hch, _, _⟩)
  have hbW : Below W.heap.size w2 w3 := hch.below hg2 (fun i hi e => by rcases e with e | e <;> omega)
  have hr3 : RdR StR w3 w3.heap.size A n l := by
    refine (HR.out.keep (w' := w3) fun p hp => ?_).more (Nat.le_trans hg2 hch.size)
    exact (hbW.cell hp).trans (HB2.out.cell hp)
  have hgood := Pl.hash_good ⟨m, p2, room⟩ HP.out
  have hk := kept_yes hgood (s0 := Pl.hs0) (Pl.hs0_ok HP.out) (Pl.wait_hs0 _) A n c l As cs w3 hr3 hsn (by omega)
  have hord := (Pl.ord_play hgood (Pl.hash_ord ⟨m, p2, room⟩ HP.out) (s0 := Pl.hs0) (Pl.hs0_ok HP.out) (Pl.wait_hs0 _) (fun f => rfl) HOK.out n (by rw [HTL.out]; exact Nat.le_refl _)).2.2
  have hhi := fun k => (Pl.good_nth hgood (s0 := Pl.hs0) (Pl.hs0_ok HP.out) (Pl.wait_hs0 _) HOK.out k).1
  have hst := fun k (hk : k < (Pl.timesTo l n).length) => Pl.hash_play HP.out HOK.out hk
  have hlos : ∀ i, i < n → (Pl.seenAt (Pl.hashM ⟨m, p2, room⟩) Pl.hs0 (Pl.timesTo l n) i).lost.length ≤ 1 := fun i hi => by
    have h1 := hst i (by rw [HTL.out]; exact hi)
    by_cases c0 : ((Pl.timesTo l n)[i]'(by rw [HTL.out]; exact hi)).what = 0
    · rcases (h1.put c0).2.2 with ⟨e, _⟩ | ⟨u, j, e, _⟩
      · rw [e]; simp
      · rw [e]; simp
    · rw [(h1.take c0).1]; simp
  have HK := Lib.hid hk; have HS := Lib.hid hsn; have HBW := Lib.hid (HB2.out.trans hbW); have HR3 := Lib.hid hr3; have HORD := Lib.hid hord; have HINV := Lib.hid hinv; have HHI := Lib.hid hhi; have HST := Lib.hid hst; have HLOS := Lib.hid hlos
  clear hbW hr3 hk hsn hch hord hgood hinv hhi hst hlos
  (with_reducible refine HK.out.mono ?_)
  rintro e w4 ⟨rfl, hb4⟩
  have hs4 := HS.out.over hb4 (Nat.le_refl _)
  have hr4 := HR3.out.over hb4 (Nat.le_refl _)
  have HB4 := Lib.hid (HBW.out.trans (hb4.mono HBW.out.size))
  have ho := ordered_yes A n c l As cs _ w4 hr4 hs4 h HORD.out
  obtain ⟨k3, hinv⟩ := HINV.out
  have hi4 := (hsh_imp W.heap.size g gl _ HP.out hr9).chg _ _ _ _ _ (fun _ => False) hinv (Chg.of_below hb4) (fun _ _ h => h)
  have HO := Lib.hid ho; have HS4 := Lib.hid hs4; have HR4 := Lib.hid hr4; have HI4 := Lib.hid hi4
  clear hs4 hr4 hb4 ho hinv hi4 HINV HI HPC HK HS HR3 HORD
  go_upto_region 10 with (go_at_call 26; (with_reducible refine HO.out.mono ?_); rintro e w5 ⟨rfl, hb5⟩; have hs5 := HS4.out.over hb5 (Nat.le_refl _); have hr5 := HR4.out.over hb5 (Nat.le_refl _); have HB5 := Lib.hid (HB4.out.trans (hb5.mono HB4.out.size)); have hi5 := (hsh_imp W.heap.size g gl _ HP.out hr9).chg _ _ _ _ _ (fun _ => False) HI4.out (Chg.of_below hb5) (fun _ _ h => h); have HS5 := Lib.hid hs5; have HR5 := Lib.hid hr5; have HI5 := Lib.hid hi5; clear hs5 hr5 hi5 hb5)
  have htm := times_o A n c l w5 HR5.out (by omega)
  have HTM := Lib.hid htm
  clear htm HO HS4 HR4 HI4
  go_upto_region 11 with (go_at_call 16; (with_reducible refine HTM.out.mono ?_); rintro e w6 ⟨At, ct, rfl, hrt, hb6⟩; have hs6 := HS5.out.over hb6 (Nat.le_refl _); have HB6 := Lib.hid (HB5.out.trans (hb6.mono HB5.out.size)); have hi6 := (hsh_imp W.heap.size g gl _ HP.out hr9).chg _ _ _ _ _ (fun _ => False) HI5.out (Chg.of_below hb6) (fun _ _ h => h); have HRT := Lib.hid hrt; have HS6 := Lib.hid hs6; have HI6 := Lib.hid hi6; clear hrt hs6 hi6 hb6)
  obtain ⟨cs7, ls7, V7, tv7, hi7⟩ := HI6.out
  have hwh := fun W2 (hb : Below w6.heap.size w6 W2) f (hf : 0 ≤ f ∧ f < 16) => hshWhere_any W.heap.size g gl cs7 ls7 V7 tv7 _ _ _ f W2 (hi7.d.below hb) HP.out hf
  have HWH := Lib.hid hwh
  clear hwh hi7 HI6 HS5 HR5 HI5 HTM HB1 HB2 HBW HB4 HB5 HR
  have hfin : ∃ (ts : List Pl.Stp) (sn : Nat → Pl.Seen) (st : Nat → Pl.HS), ts.length = n ∧ RdR StR w6 w6.heap.size At n ts ∧ RdSn w6 w6.heap.size As n sn ∧
      (∀ k t, ts[k]? = some t → Pl.HStep ⟨m, p2, room⟩ t (sn k) (st k) (st (k + 1)) (Pl.flowTo ts (k + 1))) ∧ (∀ k j, j < m → 0 ≤ Pl.lenI (st k) j ∧ Pl.lenI (st k) j ≤ 30) ∧ st 0 = Pl.hs0 ∧ ∀ i, i < n → (sn i).lost.length ≤ 1 := by
    refine ⟨Pl.timesTo l n, _, fun k => (Pl.nth (Pl.hashM ⟨m, p2, room⟩) Pl.hs0 (Pl.timesTo l n) k).2, HTL.out, HRT.out, HS6.out, fun k t hk => ?_, fun k j hj => ?_, rfl, HLOS.out⟩
    · obtain ⟨hk1, hk2⟩ := List.getElem?_eq_some_iff.1 hk
      have h1 := HST.out k hk1
      rw [hk2] at h1
      exact h1
    · have h1 := HHI.out k
      have h2 := HI_len (P := ⟨m, p2, room⟩) (s := (Pl.nth (Pl.hashM ⟨m, p2, room⟩) Pl.hs0 (Pl.timesTo l n) k).2) (f := j) hj
      have h3 : ((Pl.waitH m (Pl.nth (Pl.hashM ⟨m, p2, room⟩) Pl.hs0 (Pl.timesTo l n) k).2).length : Int) ≤ room := h1.rm
      have h4 : ((Pl.nth (Pl.hashM ⟨m, p2, room⟩) Pl.hs0 (Pl.timesTo l n) k).2.L j).length ≤ (Pl.waitH m (Pl.nth (Pl.hashM ⟨m, p2, room⟩) Pl.hs0 (Pl.timesTo l n) k).2).length := h2
      show (0 : Int) ≤ (((Pl.nth (Pl.hashM ⟨m, p2, room⟩) Pl.hs0 (Pl.timesTo l n) k).2.L j).length : Int) ∧ (((Pl.nth (Pl.hashM ⟨m, p2, room⟩) Pl.hs0 (Pl.timesTo l n) k).2.L j).length : Int) ≤ 30
      omega
  clear HST HHI HLOS HTL HOK HRT HS6
  obtain ⟨ts, sn, st, hTL, hRT, hSN, hST, hLN, hst0, hLO⟩ := hfin
  have HTL := Lib.hid hTL; have HRT := Lib.hid hRT; have HSN := Lib.hid hSN; have HST := Lib.hid hST; have HLN := Lib.hid hLN; have HLO := Lib.hid hLO; have HS0 := Lib.hid hst0
  have hmade := made_q m (by omega)
  have hrm := rowQ_made w6 m
  have hb7 : Below w6.heap.size w6 (w6.alloc (.cells (madeCells #[.int .i64 0] m) 3)) := (Below.refl _ _).alloc (Nat.le_refl _) _
  have HRM := Lib.hid hrm; have HB7 := Lib.hid hb7
  clear hTL hRT hSN hST hLN hst0 hLO hrm hb7
  have hsz6 := HB6.out.size
  go_upto_region 13 with fail
  clear hmade
  generalize w6.alloc (.cells (madeCells #[.int .i64 0] m) 3) = w7 at *
  go_wp2_with fail
  go_loopw [13, 15] (fun cv i wr => ∃ k : Nat, k ≤ n ∧ i = .int .i64 k ∧ OwnW wr w6.heap.size 3 1 cv (lsL ⟨m, p2, room⟩ (Pl.flowTo ts k)).length ((lsL ⟨m, p2, room⟩ (Pl.flowTo ts k)).flatMap IntR.cells) ∧ cv.ownBlock ≠ some w6.heap.size ∧ RowQ wr w6.heap.size m (Pl.lenI (st k)) ∧ Below w6.heap.size w6 wr) (fun _ i _ => n - (intOf i).toNat)
  case atStart => exact ⟨0, Nat.zero_le _, rfl, OwnW.nil _ _ _ _, by simp [Value.ownBlock], HRM.out.congr (fun i hi => by rw [HS0.out]; rfl), HB7.out⟩
  case round =>
    clear HRM HB7
    obtain ⟨k, hk, rfl, hown, hne, hrq, hbr⟩ := hrel
    have HOWN := Lib.hid hown; have HNE := Lib.hid hne; have HRQ := Lib.hid hrq; have HBR := Lib.hid hbr
    clear hown hne hrq hbr
    obtain ⟨Ac, cc, hcv, _, _, _⟩ := HOWN.out.reads
    subst hcv
    by_cases hlt : k < n
    · have hget : ts[k]? = some (ixR StR ts k) := by
        unfold ixR
        rw [List.getD, List.getElem?_eq_getElem (show k < ts.length by have := HTL.out; omega)]; rfl
      obtain ⟨bt, ot, rfl, hbt⟩ := HRT.out.addr hlt
      obtain ⟨c0, _, _, _, c4, _, _⟩ := rdSt_at HRT.out hlt
      obtain ⟨bs, os, A', c', rfl, hbs, y0, y3, _, y5, yr⟩ := HSN.out.at_ hlt
      have hfs := Pl.flowTo_succ hget
      have hfl := flowTo_len ts k
      have hfl1 := flowTo_len ts (k + 1)
      have hst := HST.out k _ hget
      have hlo := HLO.out k hlt
      have hln := fun j hj => HLN.out k j hj
      have HSTP := Lib.hid hst; have HFS := Lib.hid hfs; have HLNK := Lib.hid hln
      have C0 := Lib.hid c0; have C4 := Lib.hid c4; have Y0 := Lib.hid y0; have Y3 := Lib.hid y3; have Y5 := Lib.hid y5; have YR := Lib.hid yr
      clear hget hst hfs c0 c4 y0 y3 y5 yr hln
      generalize ixR StR ts k = t at *
      obtain ⟨sw, sl, ⟨sa, sn', sf, sb, sm⟩⟩ := t
      dsimp only at C0 C4 HFS
      obtain ⟨tk, htk⟩ : ∃ tk, (sn k).taken = tk := ⟨_, rfl⟩
      obtain ⟨ls, hls⟩ : ∃ ls, (sn k).lost = ls := ⟨_, rfl⟩
      obtain ⟨sln, hsln⟩ : ∃ q, (sn k).len = q := ⟨_, rfl⟩
      obtain ⟨hs1, hs2, hs3⟩ := HSTP.out
      rw [hsln] at hs1 Y3
      rw [htk, hls] at hs2 hs3
      rw [htk] at Y0
      rw [hls] at hlo Y5 YR
      dsimp only at hs1 hs2 hs3
      have HP2 := Lib.hid hs2; have HP3 := Lib.hid hs3
      clear htk hls hsln hs2 hs3 HSTP
      have ik : (k : Int) < (n : Int) := by omega
      have d0 := (HBR.out.cell (p := ⟨bt, ot + k * 7, none⟩) hbt).trans C0.out
      have d4 := (HBR.out.cell (p := ⟨bt, ot + k * 7 + 4, none⟩) hbt).trans C4.out
      have hszr := HBR.out.size
      obtain ⟨k0, hk0⟩ : ∃ q, q = Pl.whr ⟨m, p2, room⟩ sf := ⟨_, rfl⟩
      obtain ⟨L1, hL1⟩ : ∃ L1 : Nat → Int, L1 = if sw = 0 then Pl.updf (Pl.lenI (st k)) k0 (Pl.lenI (st k) k0 + 1) else Pl.lenI (st k) := ⟨_, rfl⟩
      obtain ⟨fs1, hfs1⟩ : ∃ q, q = lsL ⟨m, p2, room⟩ (Pl.flowTo ts (k + 1)) := ⟨_, rfl⟩
      have HL1 := Lib.hid hL1; have HFS1 := Lib.hid hfs1; have HK0 := Lib.hid hk0
      clear hL1 hfs1 hk0
      go_upto_if 78 with fail
      go_cut [13, 16] from 67 to 103 (fun cv kv wx => ∃ A2 c2, cv = .slice A2 fs1.length c2 ∧ OwnW wx w6.heap.size 3 1 cv fs1.length (fs1.flatMap IntR.cells) ∧ cv.ownBlock ≠ some w6.heap.size ∧ RowQ wx w6.heap.size m L1 ∧ Below w6.heap.size w6 wx)
      case first =>
        by_cases h0 : sw = 0
        · subst h0
          obtain ⟨⟨hf0, hf1⟩, _, _⟩ := HP2.out rfl
          have hkm : k0 < m := by rw [HK0.out]; exact Pl.whr_lt HP.out sf
          have hcs2 : fs1 = lsL ⟨m, p2, room⟩ (Pl.flowTo ts k) ++ [(k0 : Int)] := by rw [HFS1.out, HFS.out, if_pos rfl, lsL_app, HK0.out]
          have hl1 : L1 = Pl.updf (Pl.lenI (st k)) k0 (Pl.lenI (st k) k0 + 1) := by rw [HL1.out, if_pos rfl]
          have hwc := HWH.out wr HBR.out sf ⟨hf0, hf1⟩
          rw [← HK0.out] at hwc
          have HWC := Lib.hid hwc; have HCS2 := Lib.hid hcs2; have HL2 := Lib.hid hl1
          obtain ⟨hln0, hln1⟩ := HLNK.out k0 hkm
          obtain ⟨y, hy⟩ : ∃ y, y = Pl.lenI (st k) k0 := ⟨_, rfl⟩
          rw [← hy] at hln0 hln1
          have HY := Lib.hid hy
          have ikm : (k0 : Int) < (m : Int) := by omega
          have e1 : IntKind.i64.wrap (y + 1) = y + 1 := IntWalk.i64_in _ (by omega)
          have hown9 := HOWN.out
          have hll9 := lsL_len ⟨m, p2, room⟩ (Pl.flowTo ts k)
          have HOWN9 := Lib.hid hown9
          have hl9 : (lsL ⟨m, p2, room⟩ (Pl.flowTo ts k)).length ≤ 1000 := by omega
          clear hwc hcs2 hl1 hy hown9 hll9
          go_upto_region 21 with (first | (go_at_call 29; (with_reducible refine HWC.out.mono ?_); rintro e w8 ⟨rfl, q, rfl⟩; have hb8 := bl_drewN (n := q) (Below.refl wr.heap.size wr); have hsz8 : w6.heap.size ≤ (wr.drewN q).heap.size := hszr) | (at_builtin; go_must (refine wpList_addW IntR rfl (.tmp 94) (.tmp 96) _ w6.heap.size 3 _ 8 Try.underlying32 Try.intRInfo rfl rfl _ _ (lsL ⟨m, p2, room⟩ (Pl.flowTo ts k)) (k0 : Int) _ (HOWN9.out.below hb8) rfl rfl (by show Value.slice (some ⟨(wr.drewN q).heap.size, 0, none⟩) 1 1 = _; simp) (int_one _) (by omega) (by omega) hsz8 ?_); intro v9 w9 h1 h2 h3; have hrq9 := (HRQ.out.below hb8).chg (Chg.of_grown (S := fun i => Value.ownBlock (.slice Ac (lsL ⟨m, p2, room⟩ (Pl.flowTo ts k)).length cc) = some i) h2 (fun i e => e.symm)) HNE.out; have hbr9 : Below w6.heap.size w6 w9 := (HBR.out.trans (hb8.mono hszr)).grown h2 hsz8 (fun i hi => (HOWN9.out.lt i hi).1); have hne9 : v9.ownBlock ≠ some w6.heap.size := (fun e => by rcases h3 with e2 | e2; exact HNE.out (e2 ▸ e); have := e2 _ e; omega); obtain ⟨A9, c9, hv9, _, _, _⟩ := h1.reads; subst hv9; have H91 := Lib.hid h1; have HRQ9 := Lib.hid hrq9; have HBR9 := Lib.hid hbr9; have HNE9 := Lib.hid hne9; clear h1 h2 h3 hrq9 hbr9 hne9))
          have z1 := HRQ9.out.cell hkm
          rw [← HY.out] at z1
          have x1 := HRQ9.out.frozen k0
          have hfin := HRQ9.out.set_ hkm (y + 1)
          have hof := (H91.out).setCell HNE9.out (p := ⟨w6.heap.size, k0, none⟩) (.int .i64 (y + 1))
          have hbf := HBR9.out.setCell (p := ⟨w6.heap.size, k0, none⟩) (Nat.le_refl _) (.int .i64 (y + 1))
          have HFIN := Lib.hid hfin; have HOF := Lib.hid hof; have HBF := Lib.hid hbf
          clear hfin hof hbf
          go_wp2_with fail
          go_meet
          case rel =>
            refine ⟨A9, c9, by rw [HCS2.out]; simp, by rw [HCS2.out, List.length_append]; exact HOF.out, HNE9.out, ?_, HBF.out⟩
            rw [HL2.out, ← HY.out]
            exact HFIN.out
        · have t0 : (sw == 0) = false := by simpa using h0
          have hcs2 : fs1 = lsL ⟨m, p2, room⟩ (Pl.flowTo ts k) := by rw [HFS1.out, HFS.out, if_neg h0]
          have hl1 : L1 = Pl.lenI (st k) := by rw [HL1.out, if_neg h0]
          have HCS2 := Lib.hid hcs2; have HL2 := Lib.hid hl1
          clear hcs2 hl1
          go_wp2_with fail
          go_meet
          case rel => exact ⟨Ac, cc, by rw [HCS2.out], by rw [HCS2.out]; exact HOWN.out, HNE.out, by rw [HL2.out]; exact HRQ.out, HBR.out⟩
      case rest =>
        obtain ⟨A2, c2, rfl, hoc, hnc, hrc, hbc⟩ := hcut
        have hA := hstep_all (P := ⟨m, p2, room⟩) (ls := ls) (tk := tk) (sw := sw) (sf := sf) (L0 := Pl.lenI (st k)) (L9 := Pl.lenI (st (k + 1))) (fs := Pl.flowTo ts (k + 1)) (L1 := L1) (by rw [HL1.out, HK0.out]) HP2.out HP3.out
        have hb1 : ∀ j, j < m → 0 ≤ L1 j ∧ L1 j ≤ 31 := fun j hj => by
          have h1 := HLNK.out j hj
          rw [HL1.out]
          split
          · by_cases e : j = k0
            · subst e; rw [Pl.updf_same]; omega
            · rw [Pl.updf_ne _ _ e]; omega
          · omega
        obtain ⟨L2, hA1, hA2⟩ := hA
        have hlf : fs1.length = (Pl.flowTo ts (k + 1)).length := by rw [HFS1.out, lsL_len]
        have HFE := Lib.hid HFS1.out
        have hgf : ∀ u j, Pl.inL' ⟨m, p2, room⟩ (Pl.flowTo ts (k + 1)) u j → ∃ q : Nat, u = (q : Int) ∧ q < fs1.length ∧ fs1.getD q 0 = (j : Int) ∧ j < m := fun u j hu => by
          refine ⟨u.toNat, by have := hu.1; omega, by have := hu.2.1; have := hu.1; omega, ?_, hu.2.2.2⟩
          rw [HFS1.out]
          exact lsL_get hu
        have HOC := Lib.hid hoc; have HNC := Lib.hid hnc; have HRC := Lib.hid hrc; have HBC := Lib.hid hbc; have HA1 := Lib.hid hA1; have HA2 := Lib.hid hA2; have HB1 := Lib.hid hb1; have HGF := Lib.hid hgf
        have hszc := hbc.size
        clear hoc hnc hrc hbc hA1 hA2 hb1 hgf d0 d4 HP2 HP3 HL1 HFS1 HFS HK0 HRQ HOWN HBR HNE hlf hfl hfl1 hszr
        obtain ⟨wo, rfl⟩ : ∃ wo : World, wo = wr := ⟨_, rfl⟩
        go_upto_region 22 with fail
        go_wp2_with fail
        go_loopw [17] (fun i wr => ∃ jj : Nat, jj ≤ ls.length ∧ i = .int .i64 jj ∧ RowQ wr w6.heap.size m (if jj = 0 then L1 else L2) ∧ OwnW wr w6.heap.size 3 1 (.slice A2 fs1.length c2) fs1.length (fs1.flatMap IntR.cells) ∧ Below w6.heap.size w6 wr) (fun i _ => ls.length - (intOf i).toNat)
        case atStart => exact ⟨0, Nat.zero_le _, rfl, HRC.out, HOC.out, HBC.out⟩
        case round =>
          clear HRC HOC HBC
          obtain ⟨jj, hjj, rfl, hrq, hown, hbr⟩ := hrel
          have HRQ := Lib.hid hrq; have HOWN := Lib.hid hown; have HBR := Lib.hid hbr
          clear hrq hown hbr
          obtain ⟨wp, rfl⟩ : ∃ wp : World, wp = wr := ⟨_, rfl⟩
          have y5 := (HBR.out.cell (p := ⟨bs, os + k * 6 + 5, none⟩) hbs).trans Y5.out
          have y0 := (HBR.out.cell (p := ⟨bs, os + k * 6, none⟩) hbs).trans Y0.out
          have y3 := (HBR.out.cell (p := ⟨bs, os + k * 6 + 3, none⟩) hbs).trans Y3.out
          have yr := YR.out.below HBR.out
          by_cases hjl : jj < ls.length
          · obtain rfl : jj = 0 := by omega
            obtain ⟨u, jx, hu1, hu2, hu3, hu4⟩ : ∃ u jx, ls = [u] ∧ Pl.inL' ⟨m, p2, room⟩ (Pl.flowTo ts (k + 1)) u jx ∧ (∀ i, i < m → L1 i ≤ L1 jx) ∧ L2 = Pl.updf L1 jx (L1 jx - 1) := by
              rcases HA1.out with ⟨e, _⟩ | ⟨u, jx, e1, e2, e3, e4⟩
              · rw [e] at hjl; simp at hjl
              · exact ⟨u, jx, e1, e2, e3, e4⟩
            subst hu1
            obtain ⟨q, rfl, hq1, hq2, hq3⟩ := HGF.out _ _ hu2
            obtain ⟨bl, ol, rfl, _, yl⟩ := yr.get (k := 0) (by simp)
            have yl' : wp.cell? ⟨bl, ol, none⟩ = some (.int .i64 (q : Int)) := yl
            obtain ⟨gc, oc, hAc, hcx, _, hgc, hgc2⟩ := intR_at HOWN.out (k := q) hq1
            subst hAc
            rw [hq2] at hcx
            have hrq1 : RowQ wp w6.heap.size m L1 := by have := HRQ.out; rw [if_pos rfl] at this; exact this
            have HRQ1 := Lib.hid hrq1; have HMX := Lib.hid hu3; have HL4 := Lib.hid hu4
            simp only [List.length_cons, List.length_nil, Nat.zero_add] at y5
            have iq : (q : Int) < (fs1.length : Int) := by omega
            have ij : (jx : Int) < (m : Int) := by omega
            have hoth : ∀ wf, Below wp.heap.size wp wf → OwnW wf w6.heap.size 3 1 (.slice (some ⟨gc, oc, none⟩) fs1.length c2) fs1.length (fs1.flatMap IntR.cells) ∧ Below w6.heap.size w6 wf := fun wf hb => ⟨HOWN.out.below hb, HBR.out.trans (hb.mono HBR.out.size)⟩
            have HOTH := Lib.hid hoth
            clear yl hu2 hu3 hu4 hrq1 hoth HRQ hq2 yr hjj hjl
            go_wp2_with fail
            go_loopw [19] (fun i wi => ∃ (e qn : Nat), e ≤ m ∧ i = .int .i64 e ∧ wi = wp.drewN qn) (fun i _ => m - (intOf i).toNat)
            case atStart => exact ⟨0, 0, Nat.zero_le _, rfl, rfl⟩
            case round =>
              clear y5 y0 y3 yl' hcx
              obtain ⟨e, qn, he, rfl, hwi⟩ := hrel
              by_cases hel : e < m
              · subst hwi
                have v1 : wp.cell? ⟨w6.heap.size, e, none⟩ = some (.int .i64 (L1 e)) := HRQ1.out.cell hel
                have v2 : wp.cell? ⟨w6.heap.size, jx, none⟩ = some (.int .i64 (L1 jx)) := HRQ1.out.cell hq3
                have hmx := HMX.out e hel
                have ie : (e : Int) < (m : Int) := by omega
                generalize L1 e = z1 at *
                generalize L1 jx = z2 at *
                have tc : decide (z2 < z1) = false := by simpa using hmx
                go_wp2_with fail
                go_quiet (fail)
                go_wp2_with fail
                exact ⟨⟨e + 1, _, by omega, by go_num, by first | rfl | exact World.drewN_drewN _ _ _⟩, by simp [intOf]; omega⟩
              · obtain rfl : e = m := by omega
                subst hwi
                have v2 : wp.cell? ⟨w6.heap.size, jx, none⟩ = some (.int .i64 (L1 jx)) := HRQ1.out.cell hq3
                have x2 : wp.frozen? ⟨w6.heap.size, jx, none⟩ = false := HRQ1.out.frozen jx
                have hb1 := HB1.out jx hq3
                have hbel := bl_drewN (n := qn) (Below.refl wp.heap.size wp)
                have hrq2 : RowQ (wp.drewN qn) w6.heap.size e L1 := HRQ1.out.below hbel
                obtain ⟨y, hy⟩ : ∃ y, y = L1 jx := ⟨_, rfl⟩
                rw [← hy] at v2 hb1
                have hfin := hrq2.set_ hq3 (y - 1)
                have hl4 := HL4.out
                rw [← hy] at hl4
                rw [← hl4] at hfin
                obtain ⟨ho1, ho2⟩ := HOTH.out _ hbel
                have hof := ho1.setCell HNC.out (p := ⟨w6.heap.size, jx, none⟩) (.int .i64 (y - 1))
                have hbf := ho2.setCell (p := ⟨w6.heap.size, jx, none⟩) (Nat.le_refl _) (.int .i64 (y - 1))
                have e5 : IntKind.i64.wrap (y - 1) = y - 1 := IntWalk.i64_in _ (by omega)
                have HFIN := Lib.hid hfin; have HOF := Lib.hid hof; have HBF := Lib.hid hbf
                clear hbel hrq2 hy hfin hl4 ho1 ho2 hof hbf
                go_wp2_with fail
                exact ⟨⟨1, by simp, by first | rfl | go_num, HFIN.out, HOF.out, HBF.out⟩, by simp [intOf]⟩
          · obtain rfl : jj = ls.length := by omega
            have hrq2 : RowQ wp w6.heap.size m L2 := by
              have h1 := HRQ.out
              rcases HA1.out with ⟨e1, e2⟩ | ⟨u, jx, e1, _⟩
              · rw [e1, if_pos (by simp)] at h1; rw [e2]; exact h1
              · rw [e1, if_neg (by simp)] at h1; exact h1
            have HRQ2 := Lib.hid hrq2
            clear hrq2 HRQ
            have hjl' : ¬ ((ls.length : Int) < (ls.length : Int)) := by omega
            have hb2 : ∀ j, j < m → -1 ≤ L2 j ∧ L2 j ≤ 31 := fun j hj => by
              rcases HA1.out with ⟨_, e2⟩ | ⟨u, jx, _, hu2, _, e2⟩
              · rw [e2]; have := HB1.out j hj; omega
              · rw [e2]
                by_cases e : j = jx
                · subst e; rw [Pl.updf_same]; have := HB1.out j hj; omega
                · rw [Pl.updf_ne _ _ e]; have := HB1.out j hj; omega
            have HB2x := Lib.hid hb2
            clear hb2 HA1 yr
            go_upto_if 151 with fail
            clear y5
            go_cut [] from 145 to 160 (fun wx => RowQ wx w6.heap.size m (Pl.lenI (st (k + 1))) ∧ OwnW wx w6.heap.size 3 1 (.slice A2 fs1.length c2) fs1.length (fs1.flatMap IntR.cells) ∧ Below w6.heap.size w6 wx)
            case first =>
              rcases HA2.out with ⟨ht, hL⟩ | ⟨jx, hu2, hL⟩
              · have tt : decide (0 ≤ tk) = false := by simp; omega
                have HLL := Lib.hid hL
                clear hL
                go_wp2_with fail
                go_meet
                case rel => exact ⟨by rw [HLL.out]; exact HRQ2.out, HOWN.out, HBR.out⟩
              · obtain ⟨q, rfl, hq1, hq2, hq3⟩ := HGF.out _ _ hu2
                obtain ⟨gc, oc, hAc, hcx, _, hgc, hgc2⟩ := intR_at HOWN.out (k := q) hq1
                subst hAc
                rw [hq2] at hcx
                have v2 : wp.cell? ⟨w6.heap.size, jx, none⟩ = some (.int .i64 (L2 jx)) := HRQ2.out.cell hq3
                have x2 : wp.frozen? ⟨w6.heap.size, jx, none⟩ = false := HRQ2.out.frozen jx
                have hb1 := HB2x.out jx hq3
                obtain ⟨y, hy⟩ : ∃ y, y = L2 jx := ⟨_, rfl⟩
                rw [← hy] at v2 hb1
                have hfin := HRQ2.out.set_ hq3 (y - 1)
                rw [← hy] at hL
                rw [← hL] at hfin
                have hof := HOWN.out.setCell HNC.out (p := ⟨w6.heap.size, jx, none⟩) (.int .i64 (y - 1))
                have hbf := HBR.out.setCell (p := ⟨w6.heap.size, jx, none⟩) (Nat.le_refl _) (.int .i64 (y - 1))
                have e5 : IntKind.i64.wrap (y - 1) = y - 1 := IntWalk.i64_in _ (by omega)
                have iq : (q : Int) < (fs1.length : Int) := by omega
                have ij : (jx : Int) < (m : Int) := by omega
                have HFIN := Lib.hid hfin; have HOF := Lib.hid hof; have HBF := Lib.hid hbf
                clear hu2 hL hq2 hy hfin hof hbf
                go_wp2_with fail
                go_meet
                case rel => exact ⟨HFIN.out, HOF.out, HBF.out⟩
            case rest =>
              obtain ⟨hrq9, hown9, hbr9⟩ := hcut
              have z3 := (hbr9.cell (p := ⟨bs, os + k * 6 + 3, none⟩) hbs).trans Y3.out
              have HRQ9 := Lib.hid hrq9; have HOWN9 := Lib.hid hown9; have HBR9 := Lib.hid hbr9
              clear hrq9 hown9 hbr9 y0 y3
              have ts1 : decide (room < sln) = false := by simp; omega
              go_wp2_with fail
              exact ⟨⟨k + 1, by omega, by go_num, by rw [← HFE.out]; exact HOWN9.out, HNC.out, HRQ9.out, HBR9.out⟩, by simp [intOf]; omega⟩
    · obtain rfl : k = n := by omega
      have hfin := HB6.out.trans (HBR.out.mono hsz6)
      have HFIN := Lib.hid hfin
      clear hfin
      go_wp2_with fail
      go_ret
      exact ⟨rfl, HFIN.out⟩

/-- whatever the input -/
theorem fairHashes_core (a b d : Int) (A : Option Addr) (n c : Nat) (l : List Pl.Stp) (W : World) (hr : RdR StR W W.heap.size A n l) (hn : n ≤ 9223372036854775807) (_ : -9223372036854775808 ≤ a ∧ a ≤ 9223372036854775807) (_ : -9223372036854775808 ≤ b ∧ b ≤ 9223372036854775807) (_ : -9223372036854775808 ≤ d ∧ d ≤ 9223372036854775807) :
    Calls Try.prog 8 #[.int .i64 a, .int .i64 b, .int .i64 d, .slice A n c] W fun e w' => e = .returned (.bool true) ∧ Below W.heap.size W w' := by
  by_cases h : 120 < n
  · exact fairHashes_many a b d A n c W hn h
  · exact fairHashes_yes a b d A n c l W hr (by omega)
end Go.Proofs.Ythhgbpbaihgogaa
