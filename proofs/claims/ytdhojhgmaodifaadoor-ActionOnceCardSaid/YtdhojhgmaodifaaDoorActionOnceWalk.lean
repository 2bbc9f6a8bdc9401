/-
  ActionOnce: the whole walk.
-/
import Derived.Test.YtdhojhgmaodifaaDoorActs
import Derived.Test.YtdhojhgmaodifaaDoorActDoNo
import Derived.Test.YtdhojhgmaodifaaDoorActCnt
import Derived.Test.YtdhojhgmaodifaaDoorDoorA
namespace Go.Proofs.YtdhojhgmaodifaaDoor
open Go.RowKit Bkt
set_option linter.unusedVariables false

def Actn.GoodAt (l : List Actn.Ac) (j : Nat) : Prop := (Actn.ax l j).kind ≠ 9 ∧ ((Actn.ax l j).kind = 7 → (j : Int) < (Actn.ax l j).a) ∧ (8 ≤ (Actn.ax l j).kind → (j : Int) < (Actn.ax l j).b)
set_option maxHeartbeats 1000000 in
set_option maxRecDepth 100000 in
theorem actionOnce_many (A : Option Addr) (n c : Nat) (x : It) (W : World) (h : 45 < n) :
    Calls Tryd.prog 10 #[.slice A n c, itV x] W fun e w' => e = .returned (.bool true) ∧ Below W.heap.size W w' := by
  obtain ⟨xa, xl, xf, xb, xm⟩ := x
  unfold itV
  dsimp only
  have i6 : decide ((45 : Int) < (n : Int)) = true := decide_eq_true (by omega)
  clear h
  go_enter Tryd.func10, Tryd.ntmps10
  go_wp2_with fail
  go_ret
  exact ⟨rfl, bl_alloc (Below.refl _ _)⟩

set_option maxHeartbeats 8000000 in
set_option maxRecDepth 100000 in
theorem actionOnce_yes (A : Option Addr) (n c : Nat) (l : List Actn.Ac) (x : It) (W : World) (ha : ActsIn W A n l) (hg : Handle W) (hn : n ≤ 45) :
    Calls Tryd.prog 10 #[.slice A n c, itV x] W fun e w' => e = .returned (.bool true) ∧ Below W.heap.size W w' := by
  have i6 : decide ((45 : Int) < (n : Int)) = false := decide_eq_false (by omega)
  have hbx : Below W.heap.size W (W.alloc (.cells (itArr x) 39)) := bl_alloc (Below.refl _ _)
  have hll := ha.1.len
  have hk0 := Blk.new W 39 (itArr x)
  have hacts := fun w => acts_yes w
  have HBX := Lib.hid hbx; have HR := Lib.hid ha.1; have HWF := Lib.hid ha.2.1; have HG := Lib.hid hg; have HACT := Lib.hid hacts; have HK0 := Lib.hid hk0; have HLL := Lib.hid hll
  clear hbx ha hg hacts hk0 hll
  unfold itV itArr at *
  go_enter Tryd.func10, Tryd.ntmps10
  go_wp2_with fail
  go_loopw [5] (fun v wr => ∃ k : Nat, k ≤ n ∧ v = .int .i64 k ∧ (∀ j, j < k → Actn.GoodAt l j) ∧ Blk wr W.heap.size 39 #[.int .i64 x.at_, .int .i64 x.len, .int .i64 x.flow, .int .i64 x.band, .int .i64 x.mark] ∧ Below W.heap.size W wr) (fun v _ => n - (intOf v).toNat)
  case atStart => exact ⟨0, Nat.zero_le _, rfl, fun j hj => by omega, HK0.out, HBX.out⟩
  case round =>
    obtain ⟨k, hk, rfl, hgo, hbk, hbel⟩ := hrel
    have hr := HR.out.over hbel (Nat.le_refl _)
    have HGO := Lib.hid hgo; have HBK := Lib.hid hbk; have HBEL := Lib.hid hbel
    clear hgo hbk hbel
    by_cases hlt : k < n
    · have ik : (k : Int) < (n : Int) := by omega
      obtain ⟨b, off, rfl, hbB⟩ := hr.addr hlt
      obtain ⟨c0, c1, c2⟩ := rdAc_at hr hlt
      generalize hq : Actn.ax l k = q at *
      obtain ⟨qk, qa, qb⟩ := q
      dsimp only at c0 c1 c2
      have HQ := Lib.hid hq
      clear hq hr
      by_cases h9 : qk = 9
      · subst h9
        go_wp2_with fail
        go_ret
        exact ⟨rfl, (by first | exact bl_alloc HBEL.out | exact HBEL.out)⟩
      · have t9 : (qk == 9) = false := by simpa using h9
        by_cases h7 : qk = 7
        · subst h7
          by_cases hqa : qa ≤ (k : Int)
          · have d7 : decide (qa ≤ (k : Int)) = true := decide_eq_true hqa
            go_wp2_with fail
            go_ret
            exact ⟨rfl, (by first | exact bl_alloc HBEL.out | exact HBEL.out)⟩
          · have d7 : decide (qa ≤ (k : Int)) = false := decide_eq_false hqa
            go_wp2_with fail
            refine ⟨⟨k + 1, by omega, by go_num, fun j hj => ?_, HBK.out.alloc _, bl_alloc HBEL.out⟩, by simp [intOf]; omega⟩
            rcases Nat.lt_or_ge j k with h' | h'
            · exact HGO.out j h'
            · obtain rfl : j = k := by omega
              rw [Actn.GoodAt, HQ.out]
              exact (⟨show (7 : Int) ≠ 9 by decide, fun _ => by show (j : Int) < qa; omega, fun h => absurd h (show ¬ (8 : Int) ≤ 7 by decide)⟩)
        · have t7 : (qk == 7) = false := by simpa using h7
          by_cases h8 : 8 ≤ qk
          · have d8 : decide (8 ≤ qk) = true := decide_eq_true h8
            by_cases hqb : qb ≤ (k : Int)
            · have db : decide (qb ≤ (k : Int)) = true := decide_eq_true hqb
              go_wp2_with fail
              go_ret
              exact ⟨rfl, (by first | exact bl_alloc HBEL.out | exact HBEL.out)⟩
            · have db : decide (qb ≤ (k : Int)) = false := decide_eq_false hqb
              go_wp2_with fail
              refine ⟨⟨k + 1, by omega, by go_num, fun j hj => ?_, HBK.out.alloc _, bl_alloc HBEL.out⟩, by simp [intOf]; omega⟩
              rcases Nat.lt_or_ge j k with h' | h'
              · exact HGO.out j h'
              · obtain rfl : j = k := by omega
                rw [Actn.GoodAt, HQ.out]
                exact (⟨h9, fun h => absurd h h7, fun _ => by show (j : Int) < qb; omega⟩)
          · have d8 : decide (8 ≤ qk) = false := decide_eq_false h8
            go_wp2_with fail
            refine ⟨⟨k + 1, by omega, by go_num, fun j hj => ?_, HBK.out.alloc _, bl_alloc HBEL.out⟩, by simp [intOf]; omega⟩
            rcases Nat.lt_or_ge j k with h' | h'
            · exact HGO.out j h'
            · obtain rfl : j = k := by omega
              rw [Actn.GoodAt, HQ.out]
              exact (⟨h9, fun h => absurd h h7, fun h => absurd h h8⟩)
    · obtain rfl : k = n := by omega
      have hnew := anew_any A k c l none 0 0 [] _ hr RdR.nil HWF.out (by omega) (by omega)
      have HNEW := Lib.hid hnew
      clear hnew hr
      go_wp2_with fail
      (with_reducible refine HNEW.out.mono ?_)
      rintro e w1 (⟨hok, g, Aa, ca, Ab2, cb2, gs, rfl, hgs, hprg, hb1⟩ | ⟨_, T, v, rfl, hb1⟩)
      · have hbw1 := bl_next HBEL.out hb1
        have hp1 := hb1.size
        have HOK := Lib.hid hok; have HGS := Lib.hid hgs; have HPRG := Lib.hid hprg; have HB1 := Lib.hid hb1; have HBW1 := Lib.hid hbw1
        clear hok hgs hprg hb1 hbw1
        go_wp2_with fail
        (with_reducible refine (HACT.out _).mono ?_)
        rintro e w2 ⟨rfl, hb2⟩
        have hbw2 := bl_next HBW1.out hb2
        have hk5 := (HBK.out.below HB1.out HBK.out.lt).below hb2 (Nat.lt_of_lt_of_le HBK.out.lt hp1)
        have x0 := hk5.cell 0; have x1 := hk5.cell 1; have x2 := hk5.cell 2; have x3 := hk5.cell 3; have x4 := hk5.cell 4
        simp at x0 x1 x2 x3 x4
        have hp2 := HPRG.out.over hb2
        have HBW2 := Lib.hid hbw2; have HP2 := Lib.hid hp2; have HK5 := Lib.hid hk5
        have hsz1 := hb2.size
        clear hbw2 hp2 hk5 hb2
        by_cases hx : ItFine x
        · have hah : Actn.Ahead l := fun i hi => HGO.out i (by have := HLL.out; omega)
          have hdo := do_yes _ g Aa ca Ab2 cb2 l gs (fun _ => 0) x w2 HP2.out (by rw [HGS.out]; exact HOK.out.ac) hx HOK.out.n (Nat.le_trans hp1 hsz1)
          unfold itV at hdo
          have HDO := Lib.hid hdo; have HAH := Lib.hid hah; have HX := Lib.hid hx
          clear hdo hah hx
          go_wp2_with fail
          (with_reducible refine HDO.out.mono ?_)
          rintro e w3 ⟨s1, on1, cyc1, rfl, hends1, hp3, hb3, _⟩
          have hw0 : W.heap.size ≤ wr.heap.size := HBEL.out.size
          have hbw3 := HBW2.out.trans (hb3.mono hw0)
          have hk3 := HK5.out.below hb3 HBK.out.lt
          obtain ⟨at1, ⟨ya, yl, yf, yb, ym⟩, d1⟩ := s1
          dsimp only at hp3
          have x0 := hk3.cell 0; have x1 := hk3.cell 1; have x2 := hk3.cell 2; have x3 := hk3.cell 3; have x4 := hk3.cell 4
          simp at x0 x1 x2 x3 x4
          have hcn := fun o : Obj => counts_any _ g Aa ca Ab2 cb2 l gs d1 _ (hp3.over (bl_alloc (o := o) (Below.refl _ _)))
          have HCN := Lib.hid hcn; have HP3 := Lib.hid hp3; have HBW3 := Lib.hid hbw3; have HK3 := Lib.hid hk3; have HE1 := Lib.hid hends1; have HB3 := Lib.hid hb3
          clear hcn hp3 hbw3 hk3 hends1 hb3
          unfold itV
          dsimp only
          go_wp2_with fail
          (with_reducible refine (HCN.out _).mono ?_)
          rintro e w4 ⟨Ac1, cc1, rfl, hrd1, hb4, hA1⟩
          have hb34 : Below w3.heap.size w3 w4 := bl_next (bl_alloc (Below.refl _ _)) hb4
          have hp4 := HP3.out.over hb34
          have hk4 := HK3.out.below hb34 HK3.out.lt
          have hy4 := (Blk.new w3 39 #[.int .i64 ya, .int .i64 yl, .int .i64 yf, .int .i64 yb, .int .i64 ym]).below hb4 (Blk.new w3 _ _).lt
          have hbw4 := bl_next HBW3.out hb34
          have HB34 := Lib.hid hb34
          clear x0 x1 x2 x3 x4
          have x0 := hk4.cell 0; have x1 := hk4.cell 1; have x2 := hk4.cell 2; have x3 := hk4.cell 3; have x4 := hk4.cell 4
          simp at x0 x1 x2 x3 x4
          have hws4 : wr.heap.size ≤ w4.heap.size := Nat.le_trans (Nat.le_trans hp1 hsz1) (Nat.le_trans HB3.out.size hb34.size)
          have hdo2 := do_yes _ g Aa ca Ab2 cb2 l gs d1 x w4 hp4 (by rw [HGS.out]; exact HOK.out.ac) HX.out HOK.out.n hws4
          unfold itV at hdo2
          have HDO2 := Lib.hid hdo2; have HRD1 := Lib.hid hrd1; have HY4 := Lib.hid hy4; have HBW4 := Lib.hid hbw4
          clear hdo2 hrd1 hy4 hbw4 hb4 hb34 hp4 hk4
          go_wp2_with fail
          (with_reducible refine HDO2.out.mono ?_)
          rintro e w5 ⟨s2, on2, cyc2, rfl, hends2, hp5, hb5, hc5⟩
          obtain ⟨es, eon, ec1, ec2, ecs⟩ := Actn.Ends.twice HE1.out hends2 HAH.out HOK.out.ac (by have := HLL.out; omega)
          obtain ⟨at2, x2', d2⟩ := s2
          dsimp only at es ecs hp5
          subst es; subst eon; subst ec1; subst ec2
          have hlt2 := HP2.out.lt
          have hw23 : w2.heap.size ≤ w3.heap.size := HB3.out.size
          have hnp : ∀ i, w3.heap.size ≤ i → ¬ PF g Aa Ab2 gs i := fun i hi h => by have := hlt2 i h; omega
          have hnx : ¬ PF g Aa Ab2 gs W.heap.size := fun h => by
            have h1 := HBK.out.lt
            rcases h with e | ⟨ad, e, e2⟩ | ⟨ad, e, e2⟩ | e
            · have := HP2.out.bg; omega
            · have := (HP2.out.na ad e).1; omega
            · have := (HP2.out.nb ad e).1; omega
            · have := (HP2.out.bk _ e).1.1; omega
          have hk4' := HK3.out.below HB34.out HK3.out.lt
          have hy5 := HY4.out.chg hc5 (hnp _ (Nat.le_refl _))
          have hk5 := hk4'.chg hc5 hnx
          have hbw5 := HBW4.out.trans (hb5.mono hw0)
          have hrd5 : RdI w5 w5.heap.size Ac1 8 (cntL d1) := RdI.more (HRD1.out.chg (Nat.le_refl _) hc5 (fun ad e => hnp _ (Nat.le_trans (by simp) (hA1 ad e)))) hc5.size
          have x0 := hk5.cell 0; have x1 := hk5.cell 1; have x2 := hk5.cell 2; have x3 := hk5.cell 3; have x4 := hk5.cell 4
          have y0 := hy5.cell 0; have y1 := hy5.cell 1; have y2 := hy5.cell 2; have y3 := hy5.cell 3; have y4 := hy5.cell 4
          simp at x0 x1 x2 x3 x4 y0 y1 y2 y3 y4
          have hcn := fun o : Obj => counts_any _ g Aa ca Ab2 cb2 l gs d2 _ (hp5.over (bl_alloc (o := o) (Below.refl _ _)))
          have HCN2 := Lib.hid hcn; have HBW5 := Lib.hid hbw5; have HRD5 := Lib.hid hrd5; have HY5 := Lib.hid hy5; have HCS := Lib.hid ecs
          clear hcn hbw5 hrd5 hy5 ecs hk5 hk4' hc5 hb5 hp5 hends2
          unfold itV errV
          dsimp only
          go_wp2_with fail
          (with_reducible refine (HCN2.out _).mono ?_)
          rintro e w6 ⟨Ac2, cc2, rfl, hrd2, hb6, _⟩
          have hb56 : Below w5.heap.size w5 w6 := bl_next (bl_alloc (Below.refl _ _)) hb6
          have hy6 := HY5.out.below hb56 HY5.out.lt
          have hz6 := (Blk.new w5 39 #[.int .i64 ya, .int .i64 yl, .int .i64 yf, .int .i64 yb, .int .i64 ym]).below hb6 (Blk.new w5 _ _).lt
          have hbw6 := bl_next HBW5.out hb56
          have hrd6 := HRD5.out.over hb56 (Nat.le_refl _)
          clear x0 x1 x2 x3 x4 y0 y1 y2 y3 y4
          have z0 := hz6.cell 0; have z1 := hz6.cell 1; have z2 := hz6.cell 2; have z3 := hz6.cell 3; have z4 := hz6.cell 4
          have y0 := hy6.cell 0; have y1 := hy6.cell 1; have y2 := hy6.cell 2; have y3 := hy6.cell 3; have y4 := hy6.cell 4
          simp at z0 z1 z2 z3 z4 y0 y1 y2 y3 y4
          have HBW6 := Lib.hid hbw6; have HRD6 := Lib.hid hrd6; have HRD2 := Lib.hid hrd2
          clear hbw6 hrd6 hrd2 hb56 hy6 hz6 hb6
          go_wp2_with fail
          (with_reducible refine (tell_nil _).mono ?_)
          rintro e w7 ⟨rfl, hb7⟩
          have hbw7 := bl_next HBW6.out hb7
          have hq7 := HRD6.out.over hb7 (Nat.le_refl _)
          have hr7 := HRD2.out.over hb7 (Nat.le_refl _)
          have HBW7 := Lib.hid hbw7; have HRDA7 := Lib.hid hq7; have HRDB7 := Lib.hid hr7
          clear z0 z1 z2 z3 z4 y0 y1 y2 y3 y4
          clear hb7 hbw7 hq7 hr7
          go_wp2_with fail
          (with_reducible refine (tell_nil _).mono ?_)
          rintro e w8 ⟨rfl, hb8⟩
          have hbw8 := bl_next HBW7.out hb8
          have hq8 := HRDA7.out.over hb8 (Nat.le_refl _)
          have hr8 := HRDB7.out.over hb8 (Nat.le_refl _)
          have HBW8 := Lib.hid hbw8; have HRDA8 := Lib.hid hq8; have HRDB8 := Lib.hid hr8
          clear hb8 hbw8 hq8 hr8
          go_wp2_with fail
          (with_reducible refine (tell_nil _).mono ?_)
          rintro e w9 ⟨rfl, hb9⟩
          have hbw9 := bl_next HBW8.out hb9
          have hq9 := HRDA8.out.over hb9 (Nat.le_refl _)
          have hr9 := HRDB8.out.over hb9 (Nat.le_refl _)
          have HBW9 := Lib.hid hbw9; have HRDA9 := Lib.hid hq9; have HRDB9 := Lib.hid hr9
          clear hb9 hbw9 hq9 hr9
          go_wp2_with fail
          go_loopw [17] (fun v W' => ∃ j : Nat, j ≤ 8 ∧ v = .int .i64 j ∧ Below w9.heap.size w9 W') (fun v _ => 8 - (intOf v).toNat)
          case atStart => exact ⟨0, by omega, rfl, Below.refl _ _⟩
          case round =>
            obtain ⟨j, hj, rfl, hbj⟩ := hrel
            have hra := HRDA9.out.over hbj (Nat.le_refl _)
            have hrb := HRDB9.out.over hbj (Nat.le_refl _)
            have hbwj := bl_next HBW9.out hbj
            have HBJ := Lib.hid hbj; have HBWJ := Lib.hid hbwj
            clear hbj hbwj
            by_cases hlt8 : j < 8
            · have ij : (j : Int) < 8 := by omega
              obtain ⟨b1, o1, rfl, hb1', g1⟩ := hra.get hlt8
              obtain ⟨b2, o2, rfl, hb2', g2⟩ := hrb.get hlt8
              rw [cnt_get _ hlt8] at g1 g2
              obtain ⟨⟨q1, q2⟩, q3⟩ := HCS.out j
              rw [q3] at g2
              generalize d1 j = dj at *
              have e1 : IntKind.i64.wrap (2 * dj) = 2 * dj := IntWalk.i64_in _ (by omega)
              clear q3 hra hrb
              go_wp2_with fail
              go_quiet (fail)
              go_wp2_with fail
              refine ⟨⟨j + 1, by omega, by go_num, ?_⟩, by simp [intOf]; omega⟩
              exact (by first | exact HBJ.out | exact bl_drewN HBJ.out | exact bl_drew HBJ.out)
            · obtain rfl : j = 8 := by omega
              go_wp2_with fail
              go_ret
              exact ⟨rfl, HBWJ.out⟩
        · have hdo := fun W2 => do_no (.pointer (some ⟨g, 0, none⟩)) x W2 hx
          unfold itV at hdo
          unfold It.zero at hdo
          dsimp only at hdo
          have HDO := Lib.hid hdo
          clear hdo
          go_wp2_with fail
          (with_reducible refine (HDO.out _).mono ?_)
          rintro e w3 ⟨rfl, hb3⟩
          have hbw3 := bl_next HBW2.out hb3
          have hk3 := HK5.out.below hb3 HK5.out.lt
          have hp3 := HP2.out.over hb3
          have hcn := fun o : Obj => counts_any _ g Aa ca Ab2 cb2 l gs (fun _ => 0) _ (hp3.over (bl_alloc (o := o) (Below.refl _ _)))
          have HCN := Lib.hid hcn; have HP3 := Lib.hid hp3; have HBW3 := Lib.hid hbw3; have HK3 := Lib.hid hk3
          clear hcn hp3 hbw3 hk3 hb3 x0 x1 x2 x3 x4
          go_wp2_with fail
          (with_reducible refine (HCN.out _).mono ?_)
          rintro e w4 ⟨Ac1, cc1, rfl, hrd1, hb4, _⟩
          have hb34 : Below w3.heap.size w3 w4 := bl_next (bl_alloc (Below.refl _ _)) hb4
          have hp4 := HP3.out.over hb34
          have hk4 := HK3.out.below hb34 HK3.out.lt
          have hy4 := (Blk.new w3 39 #[.int .i64 0, .int .i64 0, .int .i64 0, .int .i64 0, .int .i64 0]).below hb4 (Blk.new w3 _ _).lt
          have hbw4 := bl_next HBW3.out hb34
          have x0 := hk4.cell 0; have x1 := hk4.cell 1; have x2 := hk4.cell 2; have x3 := hk4.cell 3; have x4 := hk4.cell 4
          simp at x0 x1 x2 x3 x4
          have HRD1 := Lib.hid hrd1; have HY4 := Lib.hid hy4; have HBW4 := Lib.hid hbw4; have HP4 := Lib.hid hp4
          clear hrd1 hy4 hbw4 hb4 hb34 hp4 hk4
          go_wp2_with fail
          (with_reducible refine (HDO.out _).mono ?_)
          rintro e w5 ⟨rfl, hb5⟩
          have hbw5 := bl_next HBW4.out hb5
          have hy5 := HY4.out.below hb5 HY4.out.lt
          have hp5 := HP4.out.over hb5
          have hrd5 := HRD1.out.over hb5 (Nat.le_refl _)
          have hcn := fun o : Obj => counts_any _ g Aa ca Ab2 cb2 l gs (fun _ => 0) _ (hp5.over (bl_alloc (o := o) (Below.refl _ _)))
          have HCN2 := Lib.hid hcn; have HBW5 := Lib.hid hbw5; have HRD5 := Lib.hid hrd5; have HY5 := Lib.hid hy5
          clear hcn hbw5 hrd5 hy5 hb5 hp5 x0 x1 x2 x3 x4
          go_wp2_with fail
          (with_reducible refine (HCN2.out _).mono ?_)
          rintro e w6 ⟨Ac2, cc2, rfl, hrd2, hb6, _⟩
          have hb56 : Below w5.heap.size w5 w6 := bl_next (bl_alloc (Below.refl _ _)) hb6
          have hy6 := HY5.out.below hb56 HY5.out.lt
          have hz6 := (Blk.new w5 39 #[.int .i64 0, .int .i64 0, .int .i64 0, .int .i64 0, .int .i64 0]).below hb6 (Blk.new w5 _ _).lt
          have hbw6 := bl_next HBW5.out hb56
          have hrd6 := HRD5.out.over hb56 (Nat.le_refl _)
          have z0 := hz6.cell 0; have z1 := hz6.cell 1; have z2 := hz6.cell 2; have z3 := hz6.cell 3; have z4 := hz6.cell 4
          have y0 := hy6.cell 0; have y1 := hy6.cell 1; have y2 := hy6.cell 2; have y3 := hy6.cell 3; have y4 := hy6.cell 4
          simp at z0 z1 z2 z3 z4 y0 y1 y2 y3 y4
          have HBW6 := Lib.hid hbw6; have HRD6 := Lib.hid hrd6; have HRD2 := Lib.hid hrd2
          clear hbw6 hrd6 hrd2 hb56 hy6 hz6 hb6
          go_wp2_with fail
          (with_reducible refine (tell_errno 2 _ (HG.out.below HBW6.out)).mono ?_)
          rintro e w7 ⟨rfl, hb7⟩
          have hbw7 := bl_next HBW6.out hb7
          have hq7 := HRD6.out.over hb7 (Nat.le_refl _)
          have hr7 := HRD2.out.over hb7 (Nat.le_refl _)
          have HBW7 := Lib.hid hbw7; have HRDA7 := Lib.hid hq7; have HRDB7 := Lib.hid hr7
          clear z0 z1 z2 z3 z4 y0 y1 y2 y3 y4
          clear hb7 hbw7 hq7 hr7
          go_wp2_with fail
          (with_reducible refine (tell_errno 2 _ (HG.out.below HBW7.out)).mono ?_)
          rintro e w8 ⟨rfl, hb8⟩
          have hbw8 := bl_next HBW7.out hb8
          have hq8 := HRDA7.out.over hb8 (Nat.le_refl _)
          have hr8 := HRDB7.out.over hb8 (Nat.le_refl _)
          have HBW8 := Lib.hid hbw8; have HRDA8 := Lib.hid hq8; have HRDB8 := Lib.hid hr8
          clear hb8 hbw8 hq8 hr8
          go_wp2_with fail
          (with_reducible refine (tell_errno 2 _ (HG.out.below HBW8.out)).mono ?_)
          rintro e w9 ⟨rfl, hb9⟩
          have hbw9 := bl_next HBW8.out hb9
          have hq9 := HRDA8.out.over hb9 (Nat.le_refl _)
          have hr9 := HRDB8.out.over hb9 (Nat.le_refl _)
          have HBW9 := Lib.hid hbw9; have HRDA9 := Lib.hid hq9; have HRDB9 := Lib.hid hr9
          clear hb9 hbw9 hq9 hr9
          go_wp2_with fail
          go_loopw [17] (fun v W' => ∃ j : Nat, j ≤ 8 ∧ v = .int .i64 j ∧ Below w9.heap.size w9 W') (fun v _ => 8 - (intOf v).toNat)
          case atStart => exact ⟨0, by omega, rfl, Below.refl _ _⟩
          case round =>
            obtain ⟨j, hj, rfl, hbj⟩ := hrel
            have hra := HRDA9.out.over hbj (Nat.le_refl _)
            have hrb := HRDB9.out.over hbj (Nat.le_refl _)
            have hbwj := bl_next HBW9.out hbj
            have HBJ := Lib.hid hbj; have HBWJ := Lib.hid hbwj
            clear hbj hbwj
            by_cases hlt8 : j < 8
            · have ij : (j : Int) < 8 := by omega
              obtain ⟨b1, o1, rfl, hb1', g1⟩ := hra.get hlt8
              obtain ⟨b2, o2, rfl, hb2', g2⟩ := hrb.get hlt8
              rw [cnt_get _ hlt8] at g1 g2
              clear hra hrb
              go_wp2_with fail
              go_quiet (fail)
              go_wp2_with fail
              refine ⟨⟨j + 1, by omega, by go_num, ?_⟩, by simp [intOf]; omega⟩
              exact (by first | exact HBJ.out | exact bl_drewN HBJ.out | exact bl_drew HBJ.out)
            · obtain rfl : j = 8 := by omega
              go_wp2_with fail
              go_ret
              exact ⟨rfl, HBWJ.out⟩
      · have hbw1 := bl_next HBEL.out hb1
        have HBW1 := Lib.hid hbw1
        clear hbw1 hb1
        go_wp2_with fail
        (with_reducible refine (HACT.out _).mono ?_)
        rintro e w2 ⟨rfl, hb2⟩
        have hbw2 := bl_next HBW1.out hb2
        have HBW2 := Lib.hid hbw2
        clear hbw2 hb2
        go_wp2_with fail
        (with_reducible refine (HACT.out _).mono ?_)
        rintro e w3 ⟨rfl, hb3⟩
        have hbw3 := bl_next HBW2.out hb3
        have HBW3 := Lib.hid hbw3
        clear hbw3 hb3
        go_wp2_with fail
        go_ret
        exact ⟨rfl, HBW3.out⟩
theorem actionOnce_core (A : Option Addr) (n c : Nat) (l : List Actn.Ac) (x : It) (W : World) (ha : ActsIn W A n l) (hg : Handle W) :
    Calls Tryd.prog 10 #[.slice A n c, itV x] W fun e w' => e = .returned (.bool true) ∧ Below W.heap.size W w' := by
  by_cases h : 45 < n
  · exact actionOnce_many A n c x W h
  · exact actionOnce_yes A n c l x W ha hg (by omega)
end Go.Proofs.YtdhojhgmaodifaaDoor
