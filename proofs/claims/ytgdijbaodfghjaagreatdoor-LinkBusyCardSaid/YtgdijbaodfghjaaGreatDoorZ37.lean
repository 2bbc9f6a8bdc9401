/-
  Texts of this claim, one behind the other: Play.
-/
import Derived.Test.YtgdijbaodfghjaaGreatDoorZ14
import Derived.Deep.CutRange
import Derived.Deep.CutBlock
/-
  What plain.Play does with a queue that is known as a machine.
-/
namespace Go.Proofs.YtgdijbaodfghjaaGreatDoor
open Go.RowKit Bkt
set_option linter.unusedVariables false

def PlayOut {M : Pl.QM} (inv : M.σ → Nat → (Nat → Prop) → World → Prop) (w : World) (F0 : Nat → Prop) (k0 : Nat) (s0 : M.σ) (ts : List Pl.Stp) (e : Ending) (w' : World) : Prop :=
  ∃ A c, e = .returned (.slice A ts.length c) ∧ RdSn w' w'.heap.size A ts.length (Pl.seenAt M s0 ts) ∧ (∀ ad, A = some ad → w.heap.size ≤ ad.block) ∧
    ∃ F', inv (Pl.nth M s0 ts ts.length).2 (k0 + (Pl.nth M s0 ts ts.length).1) F' w' ∧ Chg w w' F0 ∧ ∀ i, F' i → F0 i ∨ w.heap.size ≤ i

set_option maxHeartbeats 4000000 in
set_option maxRecDepth 100000 in
theorem play_any {M : Pl.QM} {inv : M.σ → Nat → (Nat → Prop) → World → Prop} {q : Value} {base : Nat} (I : QImp M q base inv) (A : Option Addr) (n c : Nat) (l : List Pl.Stp) (s0 : M.σ) (k0 : Nat) (F0 : Nat → Prop) (w : World)
    (hr : RdR StR w w.heap.size A n l) (hn : k0 + n ≤ 1000) (hi : inv s0 k0 F0 w) :
    Calls Tryz.prog 19 #[q, .slice A n c] w (PlayOut inv w F0 k0 s0 (Pl.timesTo l n)) := by
  have hll := hr.len
  have htl := Pl.timesTo_len l n (by omega)
  have hlt0 := I.lt _ _ _ _ hi
  have HI := Lib.hid hi; have HIM := Lib.hid I; have HLL := Lib.hid hll; have HTL := Lib.hid htl; have HLT0 := Lib.hid hlt0
  clear hi I hll htl hlt0
  go_enter Tryz.func19, Tryz.ntmps19
  go_wp2_with fail
  refine (times_any A n c l w hr (by omega)).mono ?_
  rintro e w1 ⟨At, ct, rfl, hrt, hb1, hat⟩
  rw [HTL.out] at hrt
  rw [HTL.out]
  have hi1 := HIM.out.chg _ _ _ _ _ (fun _ => False) HI.out (Chg.of_below hb1) (fun _ _ h => h)
  have hrel0 : PlayRel inv w w1 w1 F0 k0 s0 (Pl.timesTo l n) 0 (.slice none 0 0) [] F0 :=
    ⟨hi1, fun i hi => .inl hi, Chg.refl _ _, OwnW.nil _ _ _ _, fun i hi => by simp [Value.ownBlock] at hi, rfl, fun i hi => absurd hi (by omega)⟩
  have HREL0 := Lib.hid hrel0; have HB1 := Lib.hid hb1; have HAT := Lib.hid hat
  generalize hts : Pl.timesTo l n = ts at *
  have HTS := Lib.hid hts
  clear hi1 hrel0 hb1 hat hts
  go_wp2_with fail
  go_loopw [5, 6, 19] (fun out m i wr => ∃ (k : Nat) (vs : List SnV) (F : Nat → Prop), k ≤ n ∧ i = .int .i64 k ∧ m = .int .i64 (Pl.nth M s0 ts k).1 ∧ PlayRel inv w w1 wr F0 k0 s0 ts k out vs F) (fun _ _ i _ => n - (intOf i).toNat)
  case atStart => exact ⟨0, _, _, Nat.zero_le _, rfl, rfl, HREL0.out⟩
  case round =>
    obtain ⟨k, vs, F, hk, rfl, rfl, hrel⟩ := hrel
    have HREL := Lib.hid hrel
    clear hrel
    by_cases hlt : k < n
    · obtain ⟨b, off, rfl, hbB⟩ := hrt.addr hlt
      obtain ⟨c0, c1, c2, c3, c4, c5, c6⟩ := rdSt_at hrt hlt
      have hnF0 : ¬ F0 b := fun h => by have h1 := (HLT0.out b h).2; have h2 := HAT.out _ rfl; simp at h2; omega
      have hcell := fun j => HREL.out.chg.cell (p := ⟨b, j, none⟩) hbB hnF0
      have d0 := (hcell _).trans c0; have d1 := (hcell _).trans c1; have d2 := (hcell _).trans c2; have d3 := (hcell _).trans c3; have d4 := (hcell _).trans c4; have d5 := (hcell _).trans c5; have d6 := (hcell _).trans c6
      have i1 : (k : Int) < (n : Int) := by omega
      clear hcell c0 c1 c2 c3 c4 c5 c6
      generalize hs : ixR StR ts k = s at *
      have HS := Lib.hid hs; clear hs
      obtain ⟨sw, sl, ⟨sa, sn, sf, sb, sm⟩⟩ := s
      dsimp only at d0 d1 d2 d3 d4 d5 d6
      have hsz := HREL.out.chg.size
      obtain ⟨A1, c1, rfl, _, _, _⟩ := HREL.out.own.reads
      have hget : ts[k]? = some ⟨sw, sl, ⟨sa, sn, sf, sb, sm⟩⟩ := by
        have := HS.out
        unfold ixR at this
        rw [List.getElem?_eq_getElem (show k < ts.length by have := HTL.out; omega)]
        rw [List.getD, List.getElem?_eq_getElem (show k < ts.length by have := HTL.out; omega)] at this
        exact congrArg some this
      have hnth := Pl.nth_succ M s0 hget
      have hseen := Pl.seenAt_of M s0 hget
      have hok : (sw = 0 → Pl.okB ⟨sa, sn, sf, sb, sm⟩ = true ∧ sa = sl) ∧ 0 ≤ sl ∧ sl ≤ 1000000 := by
        have h1 := Pl.timesTo_get l n k hlt (by have := HLL.out; omega)
        rw [HTS.out, hget, List.getElem?_eq_getElem (show k < l.length by have := HLL.out; omega)] at h1
        have h2 := Option.some.inj h1
        have h3 := Pl.timed_ok (Pl.nowAt l (k + 1)) (l[k]'(by have := HLL.out; omega))
        have h4 := Pl.nowAt_bd l (k + 1)
        have h5 : sl = Pl.nowAt l (k + 1) := congrArg Pl.Stp.later h2
        rw [← h2] at h3
        exact ⟨h3, by omega, by omega⟩
      obtain ⟨hok1, hok2, hok3⟩ := hok
      have hmk := nth_le M s0 ts k
      have HNTH := Lib.hid hnth; have HSEEN := Lib.hid hseen; have HOK1 := Lib.hid hok1; have HGET := Lib.hid hget
      clear hnth hseen hok1 hget
      have hi0 := HREL.out.inv
      generalize hns : Pl.nth M s0 ts k = ns at *
      have HNS := Lib.hid hns
      obtain ⟨m, st⟩ := ns
      dsimp only at hmk HNTH HSEEN hi0 ⊢
      have HI0 := Lib.hid hi0
      clear hns hi0
      go_upto_block 2 with fail
      have hk8 := (blkTwo wr 65 67 #[.int .i64 sw, .int .i64 sl, .int .i64 sa, .int .i64 sn, .int .i64 sf, .int .i64 sb, .int .i64 sm] #[.int .i64 (-1), .int .i64 0, .int .i64 (-1), .int .i64 0, .int .i64 0, .slice none 0 0]).1
      have hk9 := (blkTwo wr 65 67 #[.int .i64 sw, .int .i64 sl, .int .i64 sa, .int .i64 sn, .int .i64 sf, .int .i64 sb, .int .i64 sm] #[.int .i64 (-1), .int .i64 0, .int .i64 (-1), .int .i64 0, .int .i64 0, .slice none 0 0]).2.1
      have hbx := (blkTwo wr 65 67 #[.int .i64 sw, .int .i64 sl, .int .i64 sa, .int .i64 sn, .int .i64 sf, .int .i64 sb, .int .i64 sm] #[.int .i64 (-1), .int .i64 0, .int .i64 (-1), .int .i64 0, .int .i64 0, .slice none 0 0]).2.2
      have HK8 := Lib.hid hk8; have HK9 := Lib.hid hk9; have HBX := Lib.hid hbx
      clear hk8 hk9 hbx d0 d1 d2 d3 d4 d5 d6
      generalize ((wr.alloc (.cells #[.int .i64 sw, .int .i64 sl, .int .i64 sa, .int .i64 sn, .int .i64 sf, .int .i64 sb, .int .i64 sm] 65)).alloc (.cells #[.int .i64 (-1), .int .i64 0, .int .i64 (-1), .int .i64 0, .int .i64 0, .slice none 0 0] 67)) = W2 at *
      go_cut [6, 19] from 19 to 82 (fun mv iv wx => iv = .int .i64 k ∧ mv = .int .i64 (Pl.nth M s0 ts (k + 1)).1 ∧ ∃ F' A' c', MidRel inv wr wx (wr.heap.size + 1) k0 s0 ts k F F' A' c')
      case first =>
        have z0 : W2.cell? ⟨wr.heap.size, 0, none⟩ = some (.int .i64 sw) := HK8.out.cell 0
        have z1 : W2.cell? ⟨wr.heap.size, 1, none⟩ = some (.int .i64 sl) := HK8.out.cell 1
        have z2 : W2.cell? ⟨wr.heap.size, 2, none⟩ = some (.int .i64 sa) := HK8.out.cell 2
        have z3 : W2.cell? ⟨wr.heap.size, 3, none⟩ = some (.int .i64 sn) := HK8.out.cell 3
        have z4 : W2.cell? ⟨wr.heap.size, 4, none⟩ = some (.int .i64 sf) := HK8.out.cell 4
        have z5 : W2.cell? ⟨wr.heap.size, 5, none⟩ = some (.int .i64 sb) := HK8.out.cell 5
        have z6 : W2.cell? ⟨wr.heap.size, 6, none⟩ = some (.int .i64 sm) := HK8.out.cell 6
        have hi2 := HIM.out.chg _ _ _ _ _ (fun _ => False) HI0.out (Chg.of_below HBX.out) (fun _ _ h => h)
        have hFlt := HIM.out.lt _ _ _ _ HI0.out
        have hW2 : wr.heap.size + 1 < W2.heap.size := HK9.out.lt
        have HI2 := Lib.hid hi2; have HFLT := Lib.hid hFlt
        clear hi2 hFlt
        by_cases h0 : sw = 0
        · subst h0
          obtain ⟨hb, rfl⟩ := HOK1.out rfl
          have hn1 := HNTH.out; have hs1 := HSEEN.out
          rw [Pl.stepM_put rfl] at hn1 hs1
          dsimp only at hn1 hs1
          obtain ⟨fp, rp, hmp, hcp⟩ := HIM.out.put
          have hput := hcp st (k0 + m) F W2 sa ⟨⟨sa, sn, sf, sb, sm⟩, m⟩ HI2.out (by omega) ⟨hb, Int.le_refl _, by omega, by omega, by simp, by show (m : Int) ≤ _; omega⟩
          unfold hdV at hput
          dsimp only at hput
          generalize M.put sa ⟨⟨sa, sn, sf, sb, sm⟩, m⟩ st = pr at *
          have HN1 := Lib.hid hn1; have HS1 := Lib.hid hs1; have HMP := Lib.hid hmp; have HPUT := Lib.hid hput
          clear hn1 hs1 hmp hcp hput hb
          go_wp2_with (refine wpList_invoke2 (vx := .int .i64 sa) (vy := .agg #[.int .i64 sa, .int .i64 sn, .int .i64 sf, .int .i64 sb, .int .i64 sm, .int .i64 m]) rfl (.tmp 40) (.tmp 42) (.tmp 46) #[3, 78] rfl HMP.out rfl rfl rfl HPUT.out PutOut.ret ?_; intro v3 w3 hv3; obtain ⟨A3, n3, c3, F3, rfl, hn3, hr3, ha3, hi3, hg3, hs3⟩ := hv3.val; clear hv3; have HR3 := Lib.hid hr3; have HA3 := Lib.hid ha3; have HI3 := Lib.hid hi3; have HG3 := Lib.hid hg3; have HS3 := Lib.hid hs3; clear hr3 ha3 hi3 hg3 hs3)
          have hk9 := HK9.out.chg HG3.out (fun h => by have := HFLT.out _ h; omega)
          have hne : ∀ ad, A3 = some ad → ad.block ≠ wr.heap.size + 1 := fun ad e => by
            rcases HA3.out ad e with h | h
            · have := HFLT.out _ h; omega
            · omega
          refine (lose_any A3 n3 c3 pr.1 (wr.heap.size + 1) _ _ _ _ _ w3 HR3.out hk9 hne hn3).mono ?_
          rintro e w4 ⟨rfl, A4, c4, hk4, hr4, hg4, ha4⟩
          have hmid : MidRel inv wr w4 (wr.heap.size + 1) k0 s0 ts k F F3 A4 c4 := by
            have hF3 : ¬ F3 (wr.heap.size + 1) := fun h => by
              rcases HS3.out _ h with h | h
              · have := HFLT.out _ h; omega
              · omega
            have hlt3 := HIM.out.lt _ _ _ _ HI3.out
            refine ⟨?_, ?_, ?_, ?_, ?_, ?_⟩
            · rw [HN1.out]
              exact HIM.out.chg _ _ _ _ _ _ HI3.out hg4 (fun i hi e => hF3 (e ▸ hi))
            · intro i hi
              rcases HS3.out i hi with h | h
              · exact .inl h
              · exact .inr (by omega)
            · refine ((Chg.of_below HBX.out).trans HG3.out (fun i _ h => h)).trans hg4 (fun i hi e => ?_)
              omega
            · rw [HS1.out]; exact hk4
            · rw [HS1.out]; exact hr4
            · intro ad e
              obtain ⟨h1, h2⟩ := ha4 ad e
              have h3 := HG3.out.size
              exact ⟨by omega, h2, fun h => by have := (hlt3 _ h).2; omega⟩
          have hn2 : (Pl.nth M s0 ts (k + 1)).1 = m + 1 := by rw [HN1.out]
          have HMID := Lib.hid hmid; have HN2 := Lib.hid hn2
          clear hk9 hne hk4 hr4 hg4 ha4 hmid hn2
          go_wp2_with fail
          go_meet
          case rel => exact ⟨rfl, by rw [HN2.out]; go_num, F3, A4, c4, HMID.out⟩
        · have t0 : (sw == 0) = false := by simpa using h0
          by_cases h1 : sw = 1
          · subst h1
            have hn1 := HNTH.out; have hs1 := HSEEN.out
            rw [Pl.stepM_take rfl] at hn1 hs1
            dsimp only at hn1 hs1
            obtain ⟨fp, rp, hmp, hcp⟩ := HIM.out.take
            have htk := hcp st (k0 + m) F W2 sl HI2.out (by omega) (by omega)
            generalize M.take sl st = pr at *
            obtain ⟨r1, lo, st'⟩ := pr
            have HN1 := Lib.hid hn1; have HS1 := Lib.hid hs1; have HMP := Lib.hid hmp; have HTK := Lib.hid htk
            clear hn1 hs1 hmp hcp htk
            go_wp2_with (refine wpList_invoke1 (vx := .int .i64 sl) rfl (.tmp 54) (.tmp 56) #[3] rfl HMP.out rfl rfl HTK.out TakeOut.ret ?_; intro v3 w3 hv3; obtain ⟨h3, A3, n3, c3, F3, rfl, hx3, hn3, hr3, ha3, hi3, hg3, hs3⟩ := hv3.val; clear hv3; have HX3 := Lib.hid hx3; have HR3 := Lib.hid hr3; have HA3 := Lib.hid ha3; have HI3 := Lib.hid hi3; have HG3 := Lib.hid hg3; have HS3 := Lib.hid hs3; clear hx3 hr3 ha3 hi3 hg3 hs3; obtain ⟨⟨xa, xl, xf, xb, xm⟩, xn⟩ := h3; unfold hdV)
            have hk11 := Blk.new w3 78 #[.int .i64 xa, .int .i64 xl, .int .i64 xf, .int .i64 xb, .int .i64 xm, .int .i64 xn]
            have hk9 := (HK9.out.chg HG3.out (fun h => by have := HFLT.out _ h; omega)).alloc (.cells #[.int .i64 xa, .int .i64 xl, .int .i64 xf, .int .i64 xb, .int .i64 xm, .int .i64 xn] 78)
            have hr3' : RdR HdR (w3.alloc (.cells #[.int .i64 xa, .int .i64 xl, .int .i64 xf, .int .i64 xb, .int .i64 xm, .int .i64 xn] 78)) (w3.alloc (.cells #[.int .i64 xa, .int .i64 xl, .int .i64 xf, .int .i64 xb, .int .i64 xm, .int .i64 xn] 78)).heap.size A3 n3 lo := HR3.out.over ((Below.refl _ _).alloc (Nat.le_refl _) _) (Nat.le_refl _)
            have hne : ∀ ad, A3 = some ad → ad.block ≠ wr.heap.size + 1 := fun ad e => by
              rcases HA3.out ad e with h | h
              · have := HFLT.out _ h; omega
              · omega
            refine (lose_any A3 n3 c3 lo (wr.heap.size + 1) _ _ _ _ _ _ hr3' hk9 hne hn3).mono ?_
            rintro e w4 ⟨rfl, A4, c4, hk4, hr4, hg4, ha4⟩
            have hsz3 := HG3.out.size
            have hk11' := hk11.chg hg4 (by omega)
            have hsz4 : w3.heap.size + 1 ≤ w4.heap.size := by have := hg4.size; simp at this; omega
            have hmid : ∀ wx, Chg w4 wx (fun i => i = wr.heap.size + 1) → Blk wx (wr.heap.size + 1) 67 #[.int .i64 (Pl.tkn r1), .int .i64 (Pl.mrk r1), .int .i64 (-1), .int .i64 0, .int .i64 0, .slice A4 (lo.map Hd.num).length c4] → MidRel inv wr wx (wr.heap.size + 1) k0 s0 ts k F F3 A4 c4 := fun wx hcx hbx => by
              have hF3 : ¬ F3 (wr.heap.size + 1) := fun h => by
                rcases HS3.out _ h with h | h
                · have := HFLT.out _ h; omega
                · omega
              have hlt3 := HIM.out.lt _ _ _ _ HI3.out
              have hc34 : Chg w3 wx (fun i => i = wr.heap.size + 1) := ((Chg.refl w3 _).alloc _).trans (hg4.trans hcx (fun i _ h => h)) (fun i _ h => h)
              refine ⟨?_, ?_, ?_, ?_, ?_, ?_⟩
              · rw [HN1.out]
                exact HIM.out.chg _ _ _ _ _ _ HI3.out hc34 (fun i hi e => hF3 (e ▸ hi))
              · intro i hi
                rcases HS3.out i hi with h | h
                · exact .inl h
                · exact .inr (by omega)
              · refine ((Chg.of_below HBX.out).trans HG3.out (fun i _ h => h)).trans hc34 (fun i hi e => ?_)
                omega
              · rw [HS1.out]; exact hbx
              · rw [HS1.out]
                refine (hr4.chg (Nat.le_refl _) hcx (fun ad e e2 => ?_)).more hcx.size
                have := (ha4 ad e).1
                simp at this
                omega
              · intro ad e
                obtain ⟨h1, h2⟩ := ha4 ad e
                simp at h1
                have h4 := hcx.size
                exact ⟨by omega, by omega, fun h => by have := (hlt3 _ h).2; omega⟩
            have hn2 : (Pl.nth M s0 ts (k + 1)).1 = m := by rw [HN1.out]
            have e0 := hk4.cell 0; have e1 := hk4.cell 1
            have f0 := hk4.frozen 0; have f1 := hk4.frozen 1
            have g4 := hk11'.cell 4; have g5 := hk11'.cell 5
            simp at e0 e1 g4 g5
            have HMID := Lib.hid hmid; have HN2 := Lib.hid hn2; have HK4 := Lib.hid hk4
            have n1 : wr.heap.size + 1 ≠ w3.heap.size := by omega
            have n2 : w3.heap.size ≠ wr.heap.size + 1 := by omega
            have n3 : wr.heap.size + 1 < w4.heap.size := by omega
            clear hk9 hk11 hk11' hr3' hne hk4 hr4 hg4 ha4 hmid hn2
            cases r1 with
            | none =>
              go_wp2_with fail
              go_meet
              case rel => exact ⟨rfl, by rw [HN2.out], F3, A4, c4, HMID.out _ (Chg.refl _ _) HK4.out⟩
            | some x =>
              have hx := HX3.out x rfl
              subst hx
              go_wp2_with fail
              go_region
              all_goals
                have hch := (((Chg.refl w4 (fun i => i = wr.heap.size + 1)).setCell (p := ⟨wr.heap.size + 1, 0, none⟩) (fun _ => rfl) (.int .i64 xn)).setCell (p := ⟨wr.heap.size + 1, 1, none⟩) (fun _ => rfl) (.int .i64 xm)).drew
                have hbl := Blk.drew ((HK4.out.set_ 0 (.int .i64 xn)).set_ 1 (.int .i64 xm))
                have hm := HMID.out _ hch hbl
                have HM := Lib.hid hm
                clear hch hbl hm
                go_wp2_with fail
                go_meet
                case rel => exact ⟨rfl, by rw [HN2.out], F3, A4, c4, HM.out⟩
          · have t1 : (sw == 1) = false := by simpa using h1
            have hn1 := HNTH.out; have hs1 := HSEEN.out
            rw [Pl.stepM_when h0 h1] at hn1 hs1
            dsimp only at hn1 hs1
            obtain ⟨fp, rp, hmp, hcp⟩ := HIM.out.when_
            have hwn := hcp st (k0 + m) F W2 sl HI2.out (by omega) (by omega)
            generalize M.when_ sl st = pr at *
            obtain ⟨r1, st'⟩ := pr
            have HN1 := Lib.hid hn1; have HS1 := Lib.hid hs1; have HMP := Lib.hid hmp; have HWN := Lib.hid hwn
            clear hn1 hs1 hmp hcp hwn
            cases r1 with
            | none =>
              go_wp2_with (refine wpList_invoke1 (vx := .int .i64 sl) rfl (.tmp 28) (.tmp 30) #[3] rfl HMP.out rfl rfl HWN.out WhenOut.ret ?_; intro v3 w3 hv3; obtain ⟨a3, F3, rfl, hx3, hi3, hg3, hs3⟩ := hv3.val; clear hv3; have HX3 := Lib.hid hx3; have HI3 := Lib.hid hi3; have HG3 := Lib.hid hg3; have HS3 := Lib.hid hs3; clear hx3 hi3 hg3 hs3; (have hk9 := HK9.out.chg HG3.out (fun h => by have := HFLT.out _ h; omega)); have e2 := hk9.cell 2; have f2 := hk9.frozen 2; simp at e2; have HK93 := Lib.hid hk9; clear hk9)
              have hmid : ∀ wx, Chg w3 wx (fun i => i = wr.heap.size + 1) → Blk wx (wr.heap.size + 1) 67 #[.int .i64 (-1), .int .i64 0, .int .i64 (Pl.whn none), .int .i64 0, .int .i64 0, .slice none 0 0] → MidRel inv wr wx (wr.heap.size + 1) k0 s0 ts k F F3 none 0 := fun wx hcx hbx => by
                have hF3 : ¬ F3 (wr.heap.size + 1) := fun h => by
                  rcases HS3.out _ h with h | h
                  · have := HFLT.out _ h; omega
                  · omega
                refine ⟨?_, ?_, ?_, ?_, ?_, ?_⟩
                · rw [HN1.out]
                  exact HIM.out.chg _ _ _ _ _ _ HI3.out hcx (fun i hi e => hF3 (e ▸ hi))
                · intro i hi
                  rcases HS3.out i hi with h | h
                  · exact .inl h
                  · exact .inr (by omega)
                · refine ((Chg.of_below HBX.out).trans HG3.out (fun i _ h => h)).trans hcx (fun i hi e => ?_)
                  omega
                · rw [HS1.out]; exact hbx
                · rw [HS1.out]; exact RdI.nil
                · intro ad e; cases e
              have hn2 : (Pl.nth M s0 ts (k + 1)).1 = m := by rw [HN1.out]
              have hm := hmid _ (Chg.refl _ _) HK93.out
              have HM := Lib.hid hm; have HN2 := Lib.hid hn2
              clear hmid hm hn2
              go_wp2_with fail
              go_meet
              case rel => exact ⟨rfl, by rw [HN2.out], F3, none, 0, HM.out⟩
            | some x =>
              go_wp2_with (refine wpList_invoke1 (vx := .int .i64 sl) rfl (.tmp 28) (.tmp 30) #[3] rfl HMP.out rfl rfl HWN.out WhenOut.ret ?_; intro v3 w3 hv3; obtain ⟨a3, F3, rfl, hx3, hi3, hg3, hs3⟩ := hv3.val; clear hv3; have HX3 := Lib.hid hx3; have HI3 := Lib.hid hi3; have HG3 := Lib.hid hg3; have HS3 := Lib.hid hs3; clear hx3 hi3 hg3 hs3; (have hk9 := HK9.out.chg HG3.out (fun h => by have := HFLT.out _ h; omega)); have e2 := hk9.cell 2; have f2 := hk9.frozen 2; simp at e2; have HK93 := Lib.hid hk9; clear hk9)
              have hx := HX3.out x rfl
              subst hx
              have hmid : ∀ wx, Chg w3 wx (fun i => i = wr.heap.size + 1) → Blk wx (wr.heap.size + 1) 67 #[.int .i64 (-1), .int .i64 0, .int .i64 (Pl.whn (some a3)), .int .i64 0, .int .i64 0, .slice none 0 0] → MidRel inv wr wx (wr.heap.size + 1) k0 s0 ts k F F3 none 0 := fun wx hcx hbx => by
                have hF3 : ¬ F3 (wr.heap.size + 1) := fun h => by
                  rcases HS3.out _ h with h | h
                  · have := HFLT.out _ h; omega
                  · omega
                refine ⟨?_, ?_, ?_, ?_, ?_, ?_⟩
                · rw [HN1.out]
                  exact HIM.out.chg _ _ _ _ _ _ HI3.out hcx (fun i hi e => hF3 (e ▸ hi))
                · intro i hi
                  rcases HS3.out i hi with h | h
                  · exact .inl h
                  · exact .inr (by omega)
                · refine ((Chg.of_below HBX.out).trans HG3.out (fun i _ h => h)).trans hcx (fun i hi e => ?_)
                  omega
                · rw [HS1.out]; exact hbx
                · rw [HS1.out]; exact RdI.nil
                · intro ad e; cases e
              have hn2 : (Pl.nth M s0 ts (k + 1)).1 = m := by rw [HN1.out]
              have hm := hmid _ ((Chg.refl w3 (fun i => i = wr.heap.size + 1)).setCell (p := ⟨wr.heap.size + 1, 2, none⟩) (fun _ => rfl) (.int .i64 a3)) (HK93.out.set_ 2 (.int .i64 a3))
              have HM := Lib.hid hm; have HN2 := Lib.hid hn2
              clear hmid hm hn2
              go_wp2_with fail
              go_meet
              case rel => exact ⟨rfl, by rw [HN2.out], F3, none, 0, HM.out⟩
      case rest =>
        obtain ⟨rfl, rfl, F', A', c', hmid⟩ := hcut
        have hsl : (Pl.seenAt M s0 ts k).len = M.len (Pl.nth M s0 ts (k + 1)).2 ∧ (Pl.seenAt M s0 ts k).bytes = M.bytes (Pl.nth M s0 ts (k + 1)).2 := by
          rw [HSEEN.out, HNTH.out]; exact stepM_len M _ _ _
        obtain ⟨fl, rl, hml, hcl⟩ := HIM.out.len
        obtain ⟨fb, rb, hmb, hcb⟩ := HIM.out.bytes
        have hlen := hcl _ _ _ _ hmid.inv
        have hbytes := fun w' (hb : Below wc.heap.size wc w') => hcb _ _ _ _ (HIM.out.chg _ _ _ _ w' (fun _ => False) hmid.inv (Chg.of_below hb) (fun _ _ h => h))
        rw [← hsl.1] at hlen
        rw [← hsl.2] at hbytes
        have HML := Lib.hid hml; have HMB := Lib.hid hmb; have HLEN := Lib.hid hlen; have HBY := Lib.hid hbytes; have HMID := Lib.hid hmid
        have hgx := hmid.blk.lt
        have hszc := hmid.chg.size
        clear hml hmb hcl hcb hlen hbytes hmid hsl
        have hne : (Value.slice A1 k c1).ownBlock ≠ some (wr.heap.size + 1) := fun e => by have := (HREL.out.own.lt _ e).2; omega
        have HNE := Lib.hid hne; clear hne
        go_wp2_with (first | (refine wpList_invoke0 rfl (.tmp 72) #[] rfl HML.out rfl HLEN.out (fun e w' h => ⟨_, h.1⟩) ?_; intro v5 w5 hv5; obtain ⟨hv5, hb5⟩ := hv5; injection hv5 with hv5; subst hv5; have HB5 := Lib.hid hb5; clear hb5) | (refine wpList_invoke0 rfl (.tmp 74) #[] rfl HMB.out rfl (HBY.out _ HB5.out) (fun e w' h => ⟨_, h.1⟩) ?_; intro v6 w6 hv6; obtain ⟨hv6, hb6⟩ := hv6; injection hv6 with hv6; subst hv6; have HB6 := Lib.hid hb6; clear hb6; (have hk9 := (HMID.out.blk.below HB5.out hgx).below HB6.out (by have := HB5.out.size; omega)); have z0 := hk9.cell 0; have z1 := hk9.cell 1; have z2 := hk9.cell 2; have z3 := hk9.cell 3; have z4 := hk9.cell 4; have z5 := hk9.cell 5; have f3 := hk9.frozen 3; have f4 := hk9.frozen 4; simp at z0 z1 z2 z3 z4 z5; have HK9 := Lib.hid hk9; clear hk9; (have hown7 := ((((HREL.out.own.chg HMID.out.chg HREL.out.onF).below HB5.out).below HB6.out).setCell (p := ⟨wr.heap.size + 1, 3, none⟩) HNE.out (.int .i64 (Pl.seenAt M s0 ts k).len)).setCell (p := ⟨wr.heap.size + 1, 4, none⟩) HNE.out (.int .i64 (Pl.seenAt M s0 ts k).bytes)); have HOWN7 := Lib.hid hown7; clear hown7; have hs6 : w1.heap.size ≤ w6.heap.size := Nat.le_trans hsz (Nat.le_trans hszc (Nat.le_trans HB5.out.size HB6.out.size))) | (at_builtin; go_must (refine wpList_addW SnR rfl (.tmp 78) (.tmp 80) _ w1.heap.size 67 _ 64 Tryz.underlying56 Tryz.seenInfo rfl rfl _ k vs (snOf (Pl.seenAt M s0 ts k) A' c') _ HOWN7.out rfl rfl (by show Value.slice (some ⟨w6.heap.size, 0, none⟩) 1 1 = _; simp) (sn_one _) (by omega) (by omega) (by simp; omega) ?_); intro v' w8 h1 h2 h3))
        have hfin := play_fin HIM.out HREL.out HMID.out HB5.out HB6.out h1 h2 h3
        have HFIN := Lib.hid hfin
        clear hfin h1 h2 h3
        go_roundw
        case rel => exact ⟨k + 1, _, _, by omega, by go_num, rfl, HFIN.out⟩
        case measure => simp [intOf]; omega
    · obtain rfl : k = n := by omega
      have hrel := HREL.out
      obtain ⟨A1, c1, rfl, _, _, hrd⟩ := hrel.own.reads
      have hfin : PlayOut inv w F0 k0 s0 ts (.returned (.slice A1 k c1)) wr := by
        have hl := HTL.out
        have hb1 := HB1.out
        refine ⟨A1, c1, by rw [hl], ?_, ?_, F, ?_, ?_, ?_⟩
        · rw [hl]; exact ⟨vs, hrd, fun i hi => (hrel.is i hi).1⟩
        · intro ad e
          obtain ⟨g, o, _⟩ := ad
          subst e
          exact Nat.le_trans hb1.size (hrel.own.lt g rfl).1
        · rw [hl]; exact hrel.inv
        · exact (Chg.of_below hb1).trans hrel.chg (fun i _ h => h)
        · intro i hi
          exact (hrel.sub i hi).imp id fun h => Nat.le_trans hb1.size h
      have HFIN := Lib.hid hfin
      clear hfin hrel hrd
      go_wp2_with fail
      go_ret
      exact HFIN.out
end Go.Proofs.YtgdijbaodfghjaaGreatDoor
