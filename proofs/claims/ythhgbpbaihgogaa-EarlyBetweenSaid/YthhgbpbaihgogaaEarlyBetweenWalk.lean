/-
  EarlyBetween: the whole walk.
-/
import Derived.Test.YthhgbpbaihgogaaFirst
import Derived.Test.YthhgbpbaihgogaaRedRel
import Derived.Test.YthhgbpbaihgogaaPick
import Derived.Test.YthhgbpbaihgogaaEarlyGoodWalk
namespace Go.Proofs.Ythhgbpbaihgogaa
open Go.RowKit Bkt
set_option linter.unusedVariables false

theorem times_at (A : Option Addr) (n c : Nat) (l : List Pl.Stp) (w : World) (hr : RdR StR w w.heap.size A n l) (hn : n ≤ 1000) :
    Calls Try.prog 16 #[.slice A n c] w fun e w' => ∃ At ct, e = .returned (.slice At n ct) ∧ RdR StR w' w'.heap.size At n (Pl.timesTo l n) ∧ Below w.heap.size w w' ∧ ∀ ad, At = some ad → w.heap.size ≤ ad.block := by
  have htl := Pl.timesTo_len l n (by have := hr.len; omega)
  refine (times_any A n c l w hr hn).mono ?_
  rintro e w' ⟨At, ct, e1, h1, h2, h3⟩
  rw [htl] at e1 h1
  exact ⟨At, ct, e1, h1, h2, h3⟩
set_option maxHeartbeats 1000000 in
set_option maxRecDepth 100000 in
theorem earlyBetween_many (A A2 : Option Addr) (n c n2 c2 : Nat) (pk : Int) (U : Pl.SU) (W : World) (hn : n ≤ 9223372036854775807) (hn2 : n2 ≤ 9223372036854775807) (h : 120 < n ∨ 500 < n2) :
    Calls Try.prog 5 #[suV U, .int .i64 pk, .slice A2 n2 c2, .slice A n c] W fun e w' => e = .returned (.bool true) ∧ Below W.heap.size W w' := by
  unfold suV
  by_cases h1 : 120 < n
  · go_enter Try.func5, Try.ntmps5
    go_wp2_with fail
    go_ret
    exact ⟨rfl, (Below.refl _ _).alloc (Nat.le_refl _) _⟩
  · have h2 : 500 < n2 := by omega
    go_enter Try.func5, Try.ntmps5
    go_wp2_with fail
    go_ret
    exact ⟨rfl, (Below.refl _ _).alloc (Nat.le_refl _) _⟩

set_option maxHeartbeats 1000000 in
set_option maxRecDepth 100000 in
theorem earlyBetween_no (U : Pl.SU) (pk : Int) (A2 : Option Addr) (n2 c2 : Nat) (A : Option Addr) (n c : Nat) (W : World) (h : n ≤ 120) (h2 : n2 ≤ 500) (hp : -9223372036854775808 ≤ pk ∧ pk ≤ 9223372036854775807) (hU : ¬ Pl.SUOk U) :
    Calls Try.prog 5 #[suV U, .int .i64 pk, .slice A2 n2 c2, .slice A n c] W fun e w' => e = .returned (.bool true) ∧ Below W.heap.size W w' := by
  have hnew := fun (pk' : Int) (h0 : 0 ≤ pk') (h1 : pk' < 60) => newRed_no U pk' A2 n2 c2 (W.alloc (.cells #[.int .i64 U.low, .int .i64 U.high, .int .i64 U.often, .int .i64 U.slow, .bool U.mark] 47)) ⟨h0, by omega⟩ hU
  have hb0 : Below W.heap.size W (W.alloc (.cells #[.int .i64 U.low, .int .i64 U.high, .int .i64 U.often, .int .i64 U.slow, .bool U.mark] 47)) := (Below.refl _ _).alloc (Nat.le_refl _) _
  have hk0 : Blk (W.alloc (.cells #[.int .i64 U.low, .int .i64 U.high, .int .i64 U.often, .int .i64 U.slow, .bool U.mark] 47)) W.heap.size 47 #[.int .i64 U.low, .int .i64 U.high, .int .i64 U.often, .int .i64 U.slow, .bool U.mark] := Blk.new _ _ _
  obtain ⟨lo, hi, of_, sl, mk⟩ := U
  unfold suV at hnew ⊢
  dsimp only at hnew hb0 hk0 ⊢
  have HNEW := Lib.hid hnew; have HB0 := Lib.hid hb0; have HK0 := Lib.hid hk0
  clear hnew hb0 hk0 hU
  go_enter Try.func5, Try.ntmps5
  go_upto_region 1 with fail
  generalize W.alloc (.cells #[.int .i64 lo, .int .i64 hi, .int .i64 of_, .int .i64 sl, .bool mk] 47) = w0 at *
  obtain ⟨hp0, hp1⟩ := hp
  have z0 := HK0.out.cell 0; have z1 := HK0.out.cell 1; have z2 := HK0.out.cell 2; have z3 := HK0.out.cell 3; have z4 := HK0.out.cell 4
  simp at z0 z1 z2 z3 z4
  go_wp2_with fail
  (with_reducible refine (pick_any _ _ _ (by omega) (by omega) hp0 hp1).mono ?_)
  rintro e w' ⟨pk', hq0, hq1, rfl, rfl⟩
  have hne := HNEW.out pk' hq0 hq1
  have HNE := Lib.hid hne
  clear hne HNEW
  go_wp2_with fail
  (with_reducible refine HNE.out.mono ?_)
  rintro e w1 ⟨⟨ek, rfl⟩, hb1⟩
  have hb2 := bl_next HB0.out hb1
  have HB2 := Lib.hid hb2
  clear hb1 hb2
  go_wp2_with fail
  (with_reducible refine (first_yes _).mono ?_)
  rintro e w2 ⟨rfl, hb3⟩
  have hb4 := bl_next HB2.out hb3
  have HB4 := Lib.hid hb4
  clear hb3 hb4
  go_wp2_with fail
  (with_reducible refine (first_yes _).mono ?_)
  rintro e w3 ⟨rfl, hb5⟩
  have hb6 := bl_next HB4.out hb5
  have HB6 := Lib.hid hb6
  clear hb5 hb6
  go_wp2_with fail
  go_ret
  exact ⟨rfl, HB6.out⟩

set_option maxHeartbeats 8000000 in
set_option maxRecDepth 100000 in
theorem earlyBetween_yes (U : Pl.SU) (pk : Int) (A2 : Option Addr) (n2 c2 : Nat) (tp : List Int) (A : Option Addr) (n c : Nat) (l : List Pl.Stp) (W : World) (hr2 : RdI W W.heap.size A2 n2 tp) (hr : RdR StR W W.heap.size A n l) (h : n ≤ 120) (h2 : n2 ≤ 500) (hp : -9223372036854775808 ≤ pk ∧ pk ≤ 9223372036854775807) (hU : Pl.SUOk U) :
    Calls Try.prog 5 #[suV U, .int .i64 pk, .slice A2 n2 c2, .slice A n c] W fun e w' => e = .returned (.bool true) ∧ Below W.heap.size W w' := by
  have hll := hr.len
  have htl := Pl.timesTo_len l n (by omega)
  have hok := Pl.times_ok l
  rw [hll] at hok
  have hlb := fun i t => later_bd h hll (i := i) (t := t)
  have HTL := Lib.hid htl; have HOK := Lib.hid hok; have HLB := Lib.hid hlb; have HLL := Lib.hid hll
  clear htl hok hll hlb
  have hb0 : Below W.heap.size W (W.alloc (.cells #[.int .i64 U.low, .int .i64 U.high, .int .i64 U.often, .int .i64 U.slow, .bool U.mark] 47)) := (Below.refl _ _).alloc (Nat.le_refl _) _
  have hk0 : Blk (W.alloc (.cells #[.int .i64 U.low, .int .i64 U.high, .int .i64 U.often, .int .i64 U.slow, .bool U.mark] 47)) W.heap.size 47 #[.int .i64 U.low, .int .i64 U.high, .int .i64 U.often, .int .i64 U.slow, .bool U.mark] := Blk.new _ _ _
  have hnew := fun (pk' : Int) (h0 : 0 ≤ pk') (h1 : pk' < 60) => newRed_yes U pk' A2 n2 c2 tp (W.alloc (.cells #[.int .i64 U.low, .int .i64 U.high, .int .i64 U.often, .int .i64 U.slow, .bool U.mark] 47)) (RdI.over hr2 hb0 (Nat.le_refl _)) ⟨h0, by omega⟩ hU h2
  have hre := hr.over hb0 (Nat.le_refl _)
  have HU := Lib.hid hU
  have htpl := hr2.len
  clear hU hr hr2
  obtain ⟨lo, hi, of_, sl, mk⟩ := U
  unfold suV at hnew ⊢
  dsimp only at hnew hb0 hk0 hre ⊢
  have HNEW := Lib.hid hnew; have HB0 := Lib.hid hb0; have HK0 := Lib.hid hk0; have HR := Lib.hid hre
  clear hnew hb0 hk0 hre
  go_enter Try.func5, Try.ntmps5
  go_upto_region 1 with fail
  generalize W.alloc (.cells #[.int .i64 lo, .int .i64 hi, .int .i64 of_, .int .i64 sl, .bool mk] 47) = w0 at *
  obtain ⟨hp0, hp1⟩ := hp
  have z0 := HK0.out.cell 0; have z1 := HK0.out.cell 1; have z2 := HK0.out.cell 2; have z3 := HK0.out.cell 3; have z4 := HK0.out.cell 4
  have hk0l := HK0.out.lt
  simp at z0 z1 z2 z3 z4
  go_wp2_with fail
  (with_reducible refine (pick_any _ _ _ (by omega) (by omega) hp0 hp1).mono ?_)
  rintro e w' ⟨pk', hq0, hq1, rfl, rfl⟩
  have hne := HNEW.out pk' hq0 hq1
  have HNE := Lib.hid hne
  clear hne HNEW
  go_wp2_with fail
  (with_reducible refine HNE.out.mono ?_)
  rintro e w1 ⟨g, v0, cs0, tv0, rfl, hg, hb1, hr1, rfl⟩
  have HB1 := Lib.hid (bl_next HB0.out hb1); have HB01 := Lib.hid hb1; have HR1 := Lib.hid hr1
  clear hb1 hr1
  go_wp2_with fail
  (with_reducible refine (first_yes _).mono ?_)
  rintro e w2 ⟨rfl, hb2⟩
  have hr2 := (HR.out.over HB01.out (Nat.le_refl _)).over hb2 (Nat.le_refl _)
  have HB2 := Lib.hid (bl_next HB1.out hb2); have HB02 := Lib.hid (bl_next HB01.out hb2); have HR2 := Lib.hid hr2; have HRM := Lib.hid (HR1.out.below hb2)
  clear hb2 hr2
  have htm := times_at A n c l w2 HR2.out (by omega)
  have HTM := Lib.hid htm
  clear htm
  go_wp2_with (go_at_call 16; (with_reducible refine HTM.out.mono ?_); rintro e w5 ⟨At, ct, rfl, hrt, hb5, hat⟩; have HB5 := Lib.hid (bl_next HB2.out hb5); have HB05 := Lib.hid (bl_next HB02.out hb5); have HRT := Lib.hid hrt; have HRM5 := Lib.hid (HRM.out.below hb5); have HAT := Lib.hid hat; clear hrt hb5 hat)
  have hgl2 := HRM.out.blk.lt
  have hgl5 := HRM5.out.blk.lt
  have hsz5 := HB05.out.size
  have htvn : ∀ i, tv0.ownBlock = some i → i < w5.heap.size := fun i hi => (HRM5.out.tp.lt i hi).2
  have hrel0 : BRel w5 w5 w0.heap.size g ⟨lo, hi, of_, sl, mk⟩ ⟨pk', 1000000, false⟩ 0 [] [] [] 0 (.slice none 0 0) cs0 tv0 tp (.slice none 0 0) :=
    ⟨HRM5.out, by omega, OwnW.nil _ _ _ _, Chg.refl _ _, fun i hi => by simp [Value.ownBlock] at hi, htvn, fun i hi => by simp [Value.ownBlock] at hi, ⟨fun x hx => by simp at hx⟩, fun x hx => by simp at hx, by simp, by simp⟩
  have hmn0 : Pl.mnOf ⟨lo, hi, of_, sl, mk⟩ 0 = 0 := by unfold Pl.mnOf; simp
  have HREL0 := Lib.hid hrel0; have HMN0 := Lib.hid hmn0
  clear hrel0 hmn0 htvn z0 z1 z2 z3 z4
  have z0 : w5.cell? ⟨W.heap.size, 0, none⟩ = some (.int .i64 lo) := (HB05.out.cell (p := ⟨W.heap.size, 0, none⟩) hk0l).trans (HK0.out.cell 0)
  have z1 : w5.cell? ⟨W.heap.size, 1, none⟩ = some (.int .i64 hi) := (HB05.out.cell (p := ⟨W.heap.size, 1, none⟩) hk0l).trans (HK0.out.cell 1)
  have z4 : w5.cell? ⟨W.heap.size, 4, none⟩ = some (.bool mk) := (HB05.out.cell (p := ⟨W.heap.size, 4, none⟩) hk0l).trans (HK0.out.cell 4)
  have Z0 := Lib.hid z0; have Z1 := Lib.hid z1; have Z4 := Lib.hid z4
  clear z0 z1 z4
  generalize hts : Pl.timesTo l n = ts at *
  go_loopw [12, 13, 14, 15, 16, 17] (fun nv wt by_ la cv i wr => ∃ (k : Nat) (s : List Hd) (lens : List Int) (M : Int) (v : Value) (cs : Array Value) (tv : Value) (zs : List Int), k ≤ n ∧ i = .int .i64 k ∧ nv = .int .i64 lens.length ∧ wt = .int .i64 s.length ∧ by_ = .int .i64 (Pl.tot s) ∧ la = .int .i64 (Pl.mnOf ⟨lo, hi, of_, sl, mk⟩ M) ∧ BRel w5 wr w0.heap.size g ⟨lo, hi, of_, sl, mk⟩ ⟨pk', 1000000, false⟩ k s lens lens M v cs tv zs cv) (fun _ _ _ _ _ i _ => n - (intOf i).toNat)
  case atStart => exact ⟨0, [], [], 0, _, _, _, _, Nat.zero_le _, rfl, rfl, rfl, rfl, by rw [HMN0.out], HREL0.out⟩
  case round =>
    obtain ⟨k, s, lens, M, v, cs, tv, zs, hk, rfl, rfl, rfl, rfl, rfl, hrel⟩ := hrel
    have HREL := Lib.hid hrel
    clear hrel
    obtain ⟨Ac, cc, hcv, _, _, _⟩ := HREL.out.own.reads
    subst hcv
    by_cases hlt : k < n
    · have hget : ts[k]? = some (ixR StR ts k) := by
        unfold ixR
        rw [List.getD, List.getElem?_eq_getElem (show k < ts.length by have := HTL.out; omega)]; rfl
      obtain ⟨bt, ot, rfl, hbt⟩ := HRT.out.addr hlt
      obtain ⟨c0, c1, c2, c3, c4, c5, c6⟩ := rdSt_at HRT.out hlt
      have hng : bt ≠ g := fun e => by have h2 := HAT.out _ rfl; simp at h2; omega
      have C3 := Lib.hid c3
      have hcell := fun j => HREL.out.chg.cell (p := ⟨bt, j, none⟩) hbt hng
      have d0 := (hcell _).trans c0; have d1 := (hcell _).trans c1; have d2 := (hcell _).trans c2; have d3 := (hcell _).trans c3; have d4 := (hcell _).trans c4; have d5 := (hcell _).trans c5; have d6 := (hcell _).trans c6
      have hlb := HLB.out k _ hget
      have hin := HOK.out _ (List.mem_of_getElem? hget)
      have HIN := Lib.hid hin
      clear hcell c0 c1 c2 c3 c4 c5 c6 hget hin
      generalize ixR StR ts k = t at *
      obtain ⟨sw, st, ⟨sa, sn', sf, sb, sm⟩⟩ := t
      dsimp only at hlb C3 d0 d1 d2 d3 d4 d5 d6
      obtain ⟨hlb0, hlb1⟩ := hlb
      have ik : (k : Int) < (n : Int) := by omega
      have hwr := HREL.out.chg.size
      go_upto_block 2 with fail
      go_cut [12, 13, 14, 15, 16, 18, 19, 20, 21, 22, 23] from 65 to 193 (fun nv wt by_ la cv g1 f1 m1 x1 y1 o1 wx => ∃ (s : List Hd) (lens : List Int) (M : Int) (v : Value) (cs : Array Value) (tv : Value) (zs : List Int), nv = .int .i64 lens.length ∧ wt = .int .i64 s.length ∧ by_ = .int .i64 (Pl.tot s) ∧ la = .int .i64 (Pl.mnOf ⟨lo, hi, of_, sl, mk⟩ M) ∧ BRel w5 wx w0.heap.size g ⟨lo, hi, of_, sl, mk⟩ ⟨pk', 1000000, false⟩ (k + 1) s lens lens M v cs tv zs cv)
      case first =>
        by_cases h0 : sw = 0
        · subst h0
          have hsn := okB_len (HIN.out rfl).1
          dsimp only at hsn
          have hrn := HREL.out.n
          have hput := rput_any w0.heap.size g v cs ⟨lo, hi, of_, sl, mk⟩ ⟨pk', 1000000, false⟩ s M tv zs st ⟨⟨sa, sn', sf, sb, sm⟩, lens.length⟩ wr.drew (HREL.out.r.drewN 1) (HREL.out.hds (by omega)) (by omega) hsn (by show _ ≤ wr.heap.size; omega) HU.out HREL.out.z rfl ⟨by simp only []; omega, by simp only []; omega⟩
          unfold hdV at hput
          dsimp only at hput
          have HPUT := Lib.hid hput
          clear hput
          go_upto_region 15 with fail
          go_still_tail 13, (by kernel_rfl)
          change wpList _ _ _ _ _ wr.drew
          go_wp2_with fail
          (with_reducible refine HPUT.out.mono ?_)
          rintro e w6 h6
          obtain ⟨A6, c6', gl, s', v', cs', tv', zs', rfl, hb6, f1, f2, f3, f4, f5⟩ := (HREL.out.below (bl_drew (Below.refl _ _))).put hgl5 rfl hsn h6
          dsimp only at hb6 f1 f2 f3 f4 f5
          generalize Pl.nextM ⟨lo, hi, of_, sl, mk⟩ (Pl.tot s) M = M' at *
          have hsz6 := hb6.chg.size
          have hng2 : W.heap.size ≠ g := by omega
          have e3 := (hb6.chg.cell (p := ⟨bt, ot + k * 7 + 3, none⟩) hbt hng).trans C3.out
          have hll6 := HREL.out.ll
          have HB6 := Lib.hid hb6; have F1 := Lib.hid f1; have F2 := Lib.hid f2; have F3 := Lib.hid f3; have F4 := Lib.hid f4; have F5 := Lib.hid f5
          clear hb6 h6 f1 f2 f3 f4 f5 d0 d1 d2 d3 d4 d5 d6 HPUT
          go_upto_region 17 with (at_builtin; go_must (refine wpList_addW IntR rfl (.tmp 81) (.tmp 88) _ w5.heap.size 3 _ 8 Try.underlying32 Try.intRInfo rfl rfl _ lens.length lens sn' _ HB6.out.own rfl rfl (by show Value.slice (some ⟨w6.heap.size, 0, none⟩) 1 1 = _; simp) (int_one _) (by omega) (by omega) hsz6 ?_); intro v8 w8 h1 h2 h3; (have hb8 := HB6.out.push hgl5 h1 h2 h3 (by omega)); obtain ⟨A8, c8, hv8, _, _, _⟩ := h1.reads; subst hv8; have HB8 := Lib.hid hb8; clear h1 h2 h3 hb8)
          have e3' := (HB8.out.chg.cell (p := ⟨bt, ot + k * 7 + 3, none⟩) hbt hng).trans C3.out
          have hff : Pl.fullR ⟨pk', 1000000, false⟩ ⟨⟨sa, sn', sf, sb, sm⟩, lens.length⟩ s ↔ (pk' ≤ (s.length : Int) ∨ 1000000 < Pl.tot s + sn') := Iff.rfl
          have HFF := Lib.hid hff
          have htot := HREL.out.hds (by omega)
          have htot2 := htot.tot
          obtain ⟨hsn0, hsn1⟩ := hsn
          obtain ⟨htot3, htot4⟩ := htot2
          clear hff htot
          generalize hts2 : Pl.tot s = ts2 at *
          generalize hsl2 : s.length = sl2 at *
          go_cut [19] from 90 to 103 (fun fv wx => ∃ fb : Bool, fv = .bool fb ∧ (fb = true ↔ Pl.fullR ⟨pk', 1000000, false⟩ ⟨⟨sa, sn', sf, sb, sm⟩, lens.length⟩ s) ∧ wx = w8)
          case first =>
            by_cases q1 : pk' ≤ (sl2 : Int)
            · go_wp2_with fail
              go_meet
              case rel => exact ⟨true, rfl, ⟨fun _ => HFF.out.2 (.inl q1), fun _ => rfl⟩, rfl⟩
            · by_cases q2 : 1000000 < ts2 + sn'
              · go_wp2_with fail
                go_meet
                case rel => exact ⟨true, rfl, ⟨fun _ => HFF.out.2 (.inr q2), fun _ => rfl⟩, rfl⟩
              · go_wp2_with fail
                go_meet
                case rel => exact ⟨false, rfl, ⟨fun h => (by cases h), fun h => (by have := HFF.out.1 h; omega)⟩, rfl⟩
          case rest =>
            obtain ⟨fb, rfl, hfb, rfl⟩ := hcut
            have hm9 := rmean_any w0.heap.size g v' cs' ⟨lo, hi, of_, sl, mk⟩ ⟨pk', 1000000, false⟩ s' M' tv' zs' wc HB8.out.r HU.out.sl
            obtain ⟨hu1, hu2, hu3⟩ := HU.out.lo
            dsimp only at hu1 hu2 hu3
            have f1 : Pl.mnOf ⟨lo, hi, of_, sl, mk⟩ M' < lo → (0 < gl ∧ fb = true) ∨ (gl = 0 ∧ fb = false) := fun h => by
              have h1 := F1.out h
              rw [← hfb] at h1
              rcases Nat.eq_zero_or_pos gl with h0 | h0
              · right; refine ⟨h0, ?_⟩; cases fb; rfl; exact absurd (h1.2 rfl) (by omega)
              · exact .inl ⟨h0, h1.1 h0⟩
            have f2 : ¬ Pl.mnOf ⟨lo, hi, of_, sl, mk⟩ M' < lo → hi ≤ Pl.mnOf ⟨lo, hi, of_, sl, mk⟩ M' → mk = false → gl = 1 := fun a b c => F2.out (by omega) b c
            have f3 : mk = true → (0 < gl ∧ fb = true) ∨ (gl = 0 ∧ fb = false) := fun h => by
              have h1 := F3.out h
              rw [← hfb] at h1
              rcases Nat.eq_zero_or_pos gl with h0 | h0
              · right; refine ⟨h0, ?_⟩; cases fb; rfl; exact absurd (h1.2 rfl) (by omega)
              · exact .inl ⟨h0, h1.1 h0⟩
            generalize hm9e : Pl.mnOf ⟨lo, hi, of_, sl, mk⟩ M' = m9 at *
            have HM9 := Lib.hid hm9; have HM9E := Lib.hid hm9e; have G1 := Lib.hid f1; have G2 := Lib.hid f2; have G3 := Lib.hid f3
            clear hm9 hm9e f1 f2 f3 F1 F2 F3 hfb e3 e3'
            go_wp2_with fail
            (with_reducible refine HM9.out.mono ?_)
            rintro e w9 ⟨rfl, mq9, rfl⟩
            have hb9 := HB8.out.below (wx := wc.drewN mq9) ⟨rfl, rfl, rfl, Nat.le_refl _, fun _ _ => rfl⟩
            generalize wc.drewN mq9 = w9 at *
            have z0 := (hb9.chg.cell (p := ⟨W.heap.size, 0, none⟩) (by simp only []; omega) hng2).trans Z0.out
            have z1 := (hb9.chg.cell (p := ⟨W.heap.size, 1, none⟩) (by simp only []; omega) hng2).trans Z1.out
            obtain ⟨mv, hmv⟩ : ∃ mv, mv = mk := ⟨_, rfl⟩
            have z4 := (hb9.chg.cell (p := ⟨W.heap.size, 4, none⟩) (by simp only []; omega) hng2).trans Z4.out
            rw [← hmv] at z4
            have HMV := Lib.hid hmv
            clear hmv
            have e3 := (hb9.chg.cell (p := ⟨bt, ot + k * 7 + 3, none⟩) hbt hng).trans C3.out
            have HB9 := Lib.hid hb9
            clear hb9
            go_upto_block 3 with fail
            go_cut [] from 106 to 142 (fun wx => wx = w9)
            case first =>
              go_upto_region 19 with fail
              go_cut [106] from 107 to 117 (fun tv wx => tv = .bool false ∧ wx = w9)
              case first =>
                by_cases c1 : m9 < lo
                · rcases G1.out c1 with ⟨hg, rfl⟩ | ⟨rfl, rfl⟩
                  · go_wp2_with fail
                    go_meet
                    case rel => exact ⟨rfl, rfl⟩
                  · go_wp2_with fail
                    go_meet
                    case rel => exact ⟨rfl, rfl⟩
                · go_wp2_with fail
                  go_meet
                  case rel => exact ⟨rfl, rfl⟩
              case rest =>
                obtain ⟨rfl, rfl⟩ := hcut
                go_upto_region 21 with fail
                go_cut [118] from 119 to 132 (fun tv wx => tv = .bool false ∧ wx = wc)
                case first =>
                  by_cases c2 : hi ≤ m9
                  · by_cases c3 : mv = true
                    · go_wp2_with fail
                      go_meet
                      case rel => exact ⟨rfl, rfl⟩
                    · have c4 : mv = false := by simpa using c3
                      have hg1 := G2.out (by omega) c2 (HMV.out ▸ c4)
                      have hg1' : (gl : Int) = 1 := by omega
                      go_wp2_with fail
                      go_meet
                      case rel => exact ⟨rfl, rfl⟩
                  · go_wp2_with fail
                    go_meet
                    case rel => exact ⟨rfl, rfl⟩
                case rest =>
                  obtain ⟨rfl, rfl⟩ := hcut
                  go_upto_region 23 with fail
                  go_cut [133] from 134 to 142 (fun tv wx => tv = .bool false ∧ wx = wc)
                  case first =>
                    by_cases c3 : mv = true
                    · rcases G3.out (HMV.out ▸ c3) with ⟨hg, rfl⟩ | ⟨rfl, rfl⟩
                      · go_wp2_with fail
                        go_meet
                        case rel => exact ⟨rfl, rfl⟩
                      · go_wp2_with fail
                        go_meet
                        case rel => exact ⟨rfl, rfl⟩
                    · have c4 : mv = false := by simpa using c3
                      go_wp2_with fail
                      go_meet
                      case rel => exact ⟨rfl, rfl⟩
                  case rest =>
                    obtain ⟨rfl, rfl⟩ := hcut
                    go_wp2_with fail
                    go_meet
                    case rel => rfl
            case rest =>
              subst hcut
              go_upto_region 25 with fail
              go_upto_if 145 with fail
              go_cut [13, 14] from 145 to 155 (fun a1 a2 wx => a1 = .int .i64 s'.length ∧ a2 = .int .i64 (Pl.tot s') ∧ wx = wc)
              case first =>
                by_cases hg : gl = 0
                · obtain ⟨r1, r2⟩ := F4.out hg
                  subst hg
                  have HR1 := Lib.hid r1; have HR2 := Lib.hid r2
                  clear r1 r2
                  go_wp2_with fail
                  go_meet
                  case rel => exact ⟨by rw [HR1.out]; go_num, by rw [HR2.out], rfl⟩
                · have hg' : (0 : Int) < (gl : Int) := by omega
                  have hse := F5.out (by omega)
                  subst hse
                  go_wp2_with fail
                  go_meet
                  case rel => exact ⟨by rw [hsl2], by rw [hts2], rfl⟩
              case rest =>
                obtain ⟨rfl, rfl, rfl⟩ := hcut
                go_wp2_with fail
                go_meet
                case rel => exact ⟨s', lens ++ [sn'], M', v', cs', tv', zs', by rw [List.length_append]; go_num, rfl, rfl, by rw [HM9E.out], HB9.out⟩
        · have t0 : (sw == 0) = false := by simpa using h0
          by_cases h1 : sw = 1
          · subst h1
            have hds := HREL.out.hds (by omega)
            have htk := fun W (hb : Below wr.heap.size wr W) => ftake_all w0.heap.size g 0 63 cs v s ⟨pk', 1000000, false⟩ st W (HREL.out.below hb).r.f hds
            have HTK := Lib.hid htk
            have hwl := HREL.out.r.vlt
            have hnb : g ≠ wr.heap.size := by omega
            have d1a := fun o => (World.cell?_alloc_lt wr o ⟨bt, ot + k * 7 + 1, none⟩ (by simp only []; omega)).trans d1
            have hnvb : v.ownBlock ≠ some wr.heap.size := fun e => by have := (hwl _ e).2; omega
            have hncb : (Value.slice Ac lens.length cc).ownBlock ≠ some wr.heap.size := fun e => by have := (HREL.out.own.lt _ e).2; omega
            have HNVB := Lib.hid hnvb; have HNCB := Lib.hid hncb
            clear htk hds hwl hnvb hncb
            go_upto_region 31 with fail
            cases s with
            | nil =>
              have htk2 : ∀ W, Below wr.heap.size wr W → Calls Try.prog 20 #[.pointer (some ⟨g, 0, none⟩), .int .i64 st] W (fun e w' => e = .returned (.tuple #[.agg #[.int .i64 0, .int .i64 0, .int .i64 0, .int .i64 0, .int .i64 0, .int .i64 0], .slice none 0 0, .bool false]) ∧ Hid (∃ v' cs', BRel w5 w' w0.heap.size g ⟨lo, hi, of_, sl, mk⟩ ⟨pk', 1000000, false⟩ (k + 1) [] lens lens M v' cs' tv zs (.slice Ac lens.length cc) ∧ Trn W w' g v v')) :=
                fun W hb => (HTK.out W hb).mono fun e w' h => ⟨h.1, Lib.hid (((HREL.out.below hb).up (Nat.le_succ _)).take hgl5 (fun _ h => h) (Nat.le_refl _) h.2.2)⟩
              have HTK2 := Lib.hid htk2
              clear htk2 HTK
              go_cut [21, 22, 23] from 161 to 173 (fun xv yv ov wx => ov = .bool false ∧ ∃ v6 cs6, BRel w5 wx w0.heap.size g ⟨lo, hi, of_, sl, mk⟩ ⟨pk', 1000000, false⟩ (k + 1) [] lens lens M v6 cs6 tv zs (.slice Ac lens.length cc))
              case rest =>
                obtain ⟨rfl, v6, cs6, hb6⟩ := hcut
                have HB6 := Lib.hid hb6
                clear hb6
                go_wp2_with fail
                go_meet
                case rel => exact ⟨[], lens, M, v6, cs6, tv, zs, rfl, rfl, rfl, rfl, HB6.out⟩
              go_region_law ((go_simp; go_at_call 20; (with_reducible refine (HTK2.out _ ?_).mono ?_); (repeat (first | assumption | exact Below.refl _ _ | apply bl_drew | apply bl_alloc)); rintro e w6 ⟨rfl, hb6⟩; obtain ⟨v6, cs6, h6, ht6⟩ := hb6.out; have hsz6 := ht6.chg.size; have HB6 := Lib.hid h6; have HA6 := Lib.hid ht6.at_; (try (have hkx := Blk.chg (Blk.drew (Blk.new wr 54 #[.int .i64 0, .int .i64 0, .int .i64 0, .int .i64 0, .int .i64 0, .int .i64 0])) ht6.chg (by rintro (e | e); exact hnb e.symm; exact HNVB.out e); obtain ⟨k0, k1, k2, k3, k4, k5, k6, k7, k8, k9, k10, k11⟩ := blk6 hkx; have HKX := Lib.hid hkx; clear hkx)); clear h6 ht6 hb6))
              all_goals
                go_wp2_with fail
                go_meet
                case rel =>
                  first
                    | (have hk0 := HKX
                       have hn9 : v6.ownBlock ≠ some wr.heap.size := fun e => by
                         rcases HA6.out with e2 | e2
                         · exact HNVB.out (e2 ▸ e)
                         · have h9 : (wr.alloc (.cells #[.int .i64 0, .int .i64 0, .int .i64 0, .int .i64 0, .int .i64 0, .int .i64 0] 54)).heap.size ≤ wr.heap.size := e2 _ e
                           simp at h9
                           omega
                       exact ⟨rfl, v6, cs6, HB6.out.six (b := wr.heap.size) (by omega) (Ne.symm hnb) hn9 HNCB.out (.int .i64 0) (.int .i64 0) (.int .i64 0) (.int .i64 0) (.int .i64 0) (.int .i64 0)⟩)
                    | exact ⟨rfl, v6, cs6, HB6.out.below ((Below.refl _ _).alloc (Nat.le_refl _) _)⟩
            | cons x r =>
              have hnum := HREL.out.inv.num x (by simp)
              have hxb := HREL.out.b x (by simp)
              have hds2 := HREL.out.hds (by omega)
              have htt := hds2.tot
              have htc := Pl.tot_cons x r
              have hlr : (x :: r).length = r.length + 1 := rfl
              have hrl := HREL.out.n
              obtain ⟨⟨xa, xl, xf, xb, xm⟩, xn⟩ := x
              dsimp only at hnum hxb htc
              obtain ⟨hx0, hx1, hx2⟩ := hnum
              obtain ⟨xk, rfl⟩ : ∃ xk : Nat, xn = xk := ⟨xn.toNat, by omega⟩
              rw [Int.toNat_natCast] at hx2
              have hxk : xk < lens.length := by omega
              have htk2 : ∀ W, Below wr.heap.size wr W → Calls Try.prog 20 #[.pointer (some ⟨g, 0, none⟩), .int .i64 st] W (fun e w' => e = .returned (.tuple #[.agg #[.int .i64 xa, .int .i64 xl, .int .i64 xf, .int .i64 xb, .int .i64 xm, .int .i64 xk], .slice none 0 0, .bool true]) ∧ Hid (∃ v' cs', BRel w5 w' w0.heap.size g ⟨lo, hi, of_, sl, mk⟩ ⟨pk', 1000000, false⟩ (k + 1) r lens lens M v' cs' tv zs (.slice Ac lens.length cc) ∧ Trn W w' g v v')) :=
                fun W hb => (HTK.out W hb).mono fun e w' h => ⟨h.1, Lib.hid (((HREL.out.below hb).up (Nat.le_succ _)).take hgl5 (fun _ h => List.mem_cons_of_mem _ h) (by simp) h.2.2)⟩
              have HTK2 := Lib.hid htk2
              obtain ⟨gc, oc, hAc, hcx, _, hgc, hgc5⟩ := intR_at HREL.out.own hxk
              subst hAc
              rw [hx2] at hcx
              have HCX := Lib.hid (fun w6 (b6 : BRel w5 w6 w0.heap.size g ⟨lo, hi, of_, sl, mk⟩ ⟨pk', 1000000, false⟩ (k + 1) r lens lens M v cs tv zs (.slice (some ⟨gc, oc, none⟩) lens.length cc)) => intR_at b6.own hxk)
              clear htk2 HTK hds2 hcx HCX
              rw [htc] at htt
              obtain ⟨htt0, htt1⟩ := htt
              obtain ⟨hxb0, hxb1⟩ := hxb
              generalize htr : Pl.tot r = tr at *
              simp only [List.length_cons] at hrl ⊢
              generalize hrle : r.length = rl at *
              have hgcn : gc ≠ wr.heap.size := by omega
              rw [htc]
              go_cut [21, 22, 23] from 161 to 173 (fun xv yv ov wx => ∃ bx, xv = .pointer (some ⟨bx, 0, none⟩) ∧ ov = .bool true ∧ wx.cell? ⟨bx, 5, none⟩ = some (.int .i64 xk) ∧ ∃ v6 cs6, BRel w5 wx w0.heap.size g ⟨lo, hi, of_, sl, mk⟩ ⟨pk', 1000000, false⟩ (k + 1) r lens lens M v6 cs6 tv zs (.slice (some ⟨gc, oc, none⟩) lens.length cc))
              case rest =>
                obtain ⟨bx, rfl, rfl, hbx, v6, cs6, hb6⟩ := hcut
                obtain ⟨gq, oq, hAq, hcq, _, hgq, _⟩ := intR_at hb6.own hxk
                injection hAq with hAq; injection hAq with hAq1 hAq2; subst hAq1 hAq2
                rw [hx2] at hcq
                have HB6 := Lib.hid hb6
                clear hb6
                go_wp2_with fail
                go_meet
                case rel => exact ⟨r, lens, M, v6, cs6, tv, zs, rfl, by first | (rw [hrle]; done) | (rw [hrle]; go_num), by first | (rw [htr]; done) | (rw [htr]; go_num), rfl, HB6.out⟩
              go_region_law ((go_simp; go_at_call 20; (with_reducible refine (HTK2.out _ ?_).mono ?_); (repeat (first | assumption | exact Below.refl _ _ | apply bl_drew | apply bl_alloc)); rintro e w6 ⟨rfl, hb6⟩; obtain ⟨v6, cs6, h6, ht6⟩ := hb6.out; have hsz6 := ht6.chg.size; have HB6 := Lib.hid h6; have HA6 := Lib.hid ht6.at_; (try (have hkx := Blk.chg (Blk.drew (Blk.new wr 54 #[.int .i64 0, .int .i64 0, .int .i64 0, .int .i64 0, .int .i64 0, .int .i64 0])) ht6.chg (by rintro (e | e); exact hnb e.symm; exact HNVB.out e); obtain ⟨k0, k1, k2, k3, k4, k5, k6, k7, k8, k9, k10, k11⟩ := blk6 hkx; have HKX := Lib.hid hkx; clear hkx)); clear h6 ht6 hb6))
              all_goals
                go_wp2_with fail
                go_meet
                case rel =>
                  first
                    | (have hk0 := HKX
                       have hn9 : v6.ownBlock ≠ some wr.heap.size := fun e => by
                         rcases HA6.out with e2 | e2
                         · exact HNVB.out (e2 ▸ e)
                         · have h9 : (wr.alloc (.cells #[.int .i64 0, .int .i64 0, .int .i64 0, .int .i64 0, .int .i64 0, .int .i64 0] 54)).heap.size ≤ wr.heap.size := e2 _ e
                           simp at h9
                           omega
                       exact ⟨wr.heap.size, rfl, rfl, (blk_six HKX.out (.int .i64 xa) (.int .i64 xl) (.int .i64 xf) (.int .i64 xb) (.int .i64 xm) (.int .i64 xk)).cell 5, v6, cs6, HB6.out.six (b := wr.heap.size) (by omega) (Ne.symm hnb) hn9 HNCB.out (.int .i64 xa) (.int .i64 xl) (.int .i64 xf) (.int .i64 xb) (.int .i64 xm) (.int .i64 xk)⟩)
                    | exact ⟨w6.heap.size, rfl, rfl, (Blk.new w6 54 #[.int .i64 xa, .int .i64 xl, .int .i64 xf, .int .i64 xb, .int .i64 xm, .int .i64 xk]).cell 5, v6, cs6, HB6.out.below ((Below.refl _ _).alloc (Nat.le_refl _) _)⟩
          · have t1 : (sw == 1) = false := by simpa using h1
            go_wp2_with fail
            go_meet
            case rel => exact ⟨s, lens, M, v, cs, tv, zs, rfl, rfl, rfl, rfl, HREL.out.up (Nat.le_succ _)⟩
      case rest =>
        obtain ⟨s6, lens6, M6, v6, cs6, tv6, zs6, rfl, rfl, rfl, rfl, hrel6⟩ := hcut
        obtain ⟨Al6, cl6, hvl, _, _, _⟩ := hrel6.r.f.lst.own.reads
        subst hvl
        have y0 := hrel6.r.cell hrel6.r.f.lst.c0
        have y1 := hrel6.r.cell hrel6.r.f.lst.c1
        simp only [Nat.zero_add] at y1
        have hl6 := len_q g 0 s6.length cl6 Al6 wc y0
        have hb6 := bytes_q g 0 (Pl.tot s6) wc y1
        have hm6 := rmean_any w0.heap.size g _ cs6 ⟨lo, hi, of_, sl, mk⟩ ⟨pk', 1000000, false⟩ s6 M6 tv6 zs6 wc hrel6.r HU.out.sl
        have HL6 := Lib.hid hl6; have HB6 := Lib.hid hb6; have HM6 := Lib.hid hm6; have HREL6 := Lib.hid hrel6
        clear hl6 hb6 hm6 hrel6
        generalize htt : Pl.tot s6 = tt at *
        generalize hmm : Pl.mnOf ⟨lo, hi, of_, sl, mk⟩ M6 = mm at *
        go_wp2_with (first | (go_at_call 21; (with_reducible refine HL6.out.mono ?_); rintro e w' ⟨rfl, rfl⟩) | (go_at_call 22; (with_reducible refine HB6.out.mono ?_); rintro e w' ⟨rfl, rfl⟩) | (go_at_call 19; (with_reducible refine HM6.out.mono ?_); rintro e w' ⟨rfl, mq, rfl⟩))
        exact ⟨⟨k + 1, s6, lens6, M6, _, cs6, tv6, zs6, by omega, by go_num, rfl, rfl, by rw [htt], by rw [hmm], HREL6.out.below ⟨rfl, rfl, rfl, Nat.le_refl _, fun _ _ => rfl⟩⟩, by simp [intOf]; omega⟩
    · obtain rfl : k = n := by omega
      have hfin : Below W.heap.size W wr := HB5.out.trans (HREL.out.chg.below (by omega) (fun i hi e => by omega))
      have HFIN := Lib.hid hfin
      clear hfin
      go_wp2_with fail
      go_ret
      exact ⟨rfl, HFIN.out⟩

/-- whatever the input -/
theorem earlyBetween_core (U : Pl.SU) (pk : Int) (A2 : Option Addr) (n2 c2 : Nat) (tp : List Int) (A : Option Addr) (n c : Nat) (l : List Pl.Stp) (W : World) (hr2 : RdI W W.heap.size A2 n2 tp) (hn2 : n2 ≤ 9223372036854775807) (hr : RdR StR W W.heap.size A n l) (hn : n ≤ 9223372036854775807) (hp : -9223372036854775808 ≤ pk ∧ pk ≤ 9223372036854775807) :
    Calls Try.prog 5 #[suV U, .int .i64 pk, .slice A2 n2 c2, .slice A n c] W fun e w' => e = .returned (.bool true) ∧ Below W.heap.size W w' := by
  by_cases h : 120 < n ∨ 500 < n2
  · exact earlyBetween_many A A2 n c n2 c2 pk U W hn hn2 h
  · by_cases hU : Pl.SUOk U
    · exact earlyBetween_yes U pk A2 n2 c2 tp A n c l W hr2 hr (by omega) (by omega) hp hU
    · exact earlyBetween_no U pk A2 n2 c2 A n c W (by omega) (by omega) hp hU
end Go.Proofs.Ythhgbpbaihgogaa
