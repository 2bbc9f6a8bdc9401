/-
  ActionFields: the whole walk.
-/
import Derived.Test.YtdhojhgmaodifaaDoorActs
import Derived.Test.YtdhojhgmaodifaaDoorActDoNo
import Derived.Test.YtdhojhgmaodifaaDoorActTold
import Derived.Test.YtdhojhgmaodifaaDoorDoorA
namespace Go.Proofs.YtdhojhgmaodifaaDoor
open Go.RowKit Bkt
set_option linter.unusedVariables false

set_option maxHeartbeats 1000000 in
set_option maxRecDepth 100000 in
theorem actionFields_many (A : Option Addr) (n c : Nat) (Ab : Option Addr) (m cb : Nat) (x : It) (W : World) (h : 60 < n ∨ 10 < m) :
    Calls Tryd.prog 9 #[.slice A n c, .slice Ab m cb, itV x] W fun e w' => e = .returned (.bool true) ∧ Below W.heap.size W w' := by
  obtain ⟨xa, xl, xf, xb, xm⟩ := x
  unfold itV
  dsimp only
  by_cases h6 : 60 < n
  · have i6 : decide ((60 : Int) < (n : Int)) = true := decide_eq_true (by omega)
    clear h
    go_enter Tryd.func9, Tryd.ntmps9
    go_wp2_with fail
    go_ret
    exact ⟨rfl, bl_alloc (bl_alloc (Below.refl _ _))⟩
  · have i6 : decide ((60 : Int) < (n : Int)) = false := decide_eq_false (by omega)
    have i10 : decide ((10 : Int) < (m : Int)) = true := decide_eq_true (by omega)
    clear h
    go_enter Tryd.func9, Tryd.ntmps9
    go_wp2_with fail
    go_ret
    exact ⟨rfl, bl_alloc (bl_alloc (Below.refl _ _))⟩

set_option maxHeartbeats 2000000 in
set_option maxRecDepth 100000 in
theorem actionFields_yes (A : Option Addr) (n c : Nat) (l : List Actn.Ac) (Ab : Option Addr) (m cb : Nat) (bs : List Bk) (x : It) (W : World) (ha : ActsIn W A n l) (hb : RdR BkR W W.heap.size Ab m bs) (hg : Handle W) (hn : n ≤ 60) (hm : m ≤ 10) :
    Calls Tryd.prog 9 #[.slice A n c, .slice Ab m cb, itV x] W fun e w' => e = .returned (.bool true) ∧ Below W.heap.size W w' := by
  have i6 : decide ((60 : Int) < (n : Int)) = false := decide_eq_false (by omega)
  have i10 : decide ((10 : Int) < (m : Int)) = false := decide_eq_false (by omega)
  have hbx : Below W.heap.size W ((W.alloc (.cells #[.slice A n c] 54)).alloc (.cells (itArr x) 39)) := bl_alloc (bl_alloc (Below.refl _ _))
  have hr2 := ha.1.over hbx (Nat.le_refl _)
  have hb2 := hb.over hbx (Nat.le_refl _)
  have hll := ha.1.len
  have hlb := hb.len
  have hnew := anew_any A n c l Ab m cb bs _ hr2 hb2 ha.2.1 hn hm
  have hk3 := (Blk.new W 54 #[.slice A n c]).alloc (.cells (itArr x) 39)
  have hk5 : Blk ((W.alloc (.cells #[.slice A n c] 54)).alloc (.cells (itArr x) 39)) (W.heap.size + 1) 39 (itArr x) := by
    have := Blk.new (W.alloc (.cells #[.slice A n c] 54)) 39 (itArr x)
    simpa using this
  have hacts := fun w => acts_yes w
  have HNEW := Lib.hid hnew; have HBX := Lib.hid hbx; have HR := Lib.hid ha.1; have HG := Lib.hid hg; have HACT := Lib.hid hacts; have HK3 := Lib.hid hk3; have HK5 := Lib.hid hk5; have HLL := Lib.hid hll; have HLB := Lib.hid hlb
  clear hnew hbx hr2 hb2 ha hb hg hacts hk3 hk5 hll hlb
  have hxe : x = ⟨x.at_, x.len, x.flow, x.band, x.mark⟩ := rfl
  have HXE := Lib.hid hxe; clear hxe
  unfold itV itArr at *
  go_enter Tryd.func9, Tryd.ntmps9
  go_wp2_with fail
  (with_reducible refine HNEW.out.mono ?_)
  rintro e w1 (⟨hok, g, Aa, ca, Ab2, cb2, gs, rfl, hgs, hprg, hb1⟩ | ⟨_, T, v, rfl, hb1⟩)
  · have hbw1 := bl_next HBX.out hb1
    have hp1 := hb1.size
    have HOK := Lib.hid hok; have HGS := Lib.hid hgs; have HPRG := Lib.hid hprg; have HB1 := Lib.hid hb1; have HBW1 := Lib.hid hbw1
    clear hok hgs hprg hb1 hbw1
    go_wp2_with fail
    (with_reducible refine (HACT.out _).mono ?_)
    rintro e w2 ⟨rfl, hb2⟩
    have hbw2 := bl_next HBW1.out hb2
    have hk5 := (HK5.out.below HB1.out HK5.out.lt).below hb2 (Nat.lt_of_lt_of_le HK5.out.lt hp1)
    have hk3 := (HK3.out.below HB1.out HK3.out.lt).below hb2 (Nat.lt_of_lt_of_le HK3.out.lt hp1)
    have x0 := hk5.cell 0; have x1 := hk5.cell 1; have x2 := hk5.cell 2; have x3 := hk5.cell 3; have x4 := hk5.cell 4
    simp at x0 x1 x2 x3 x4
    have hp2 := HPRG.out.over hb2
    have HBW2 := Lib.hid hbw2; have HP2 := Lib.hid hp2; have HK5b := Lib.hid hk5; have HK3b := Lib.hid hk3
    have hsz2 := hbw2.size
    have hsz1 := hb2.size
    clear hbw2 hp2 hk5 hk3 hb2
    by_cases hx : ItFine x
    · have hdo := do_yes _ g Aa ca Ab2 cb2 l gs (fun _ => 0) x w2 HP2.out (by rw [HGS.out]; exact HOK.out.ac) hx HOK.out.n (Nat.le_trans hp1 hsz1)
      unfold itV at hdo
      have HDO := Lib.hid hdo
      clear hdo
      go_wp2_with fail
      (with_reducible refine HDO.out.mono ?_)
      rintro e w3 ⟨s, on, cyc, rfl, hends, _, hb3⟩
      have hbw3 := HBW2.out.trans (hb3.mono (by have := HBX.out.size; omega))
      have hfl := hends.flds
      have hrd := hends.round
      have hk5 := HK5b.out.below hb3 (Nat.lt_of_lt_of_le HK5.out.lt (Nat.le_refl _))
      have hk3 := HK3b.out.below hb3 (Nat.lt_of_lt_of_le HK3.out.lt (Nat.le_refl _))
      have x0 := hk5.cell 0; have x1 := hk5.cell 1; have x2 := hk5.cell 2; have x3 := hk5.cell 3; have x4 := hk5.cell 4
      simp at x0 x1 x2 x3 x4
      obtain ⟨at_, ⟨ya, yl, yf, yb, ym⟩, d⟩ := s
      obtain ⟨f1, f2, f3, f4, f5⟩ := hfl
      dsimp only at f1 f2 f3 f4 f5 x0 x1 x2 x3 x4
      subst f1; subst f2
      have hr3 := HR.out.over hbw3 (Nat.le_refl _)
      have p3 : w3.cell? ⟨W.heap.size, 0, none⟩ = some (.slice A n c) := hk3.cell 0
      have n5 : W.heap.size + 1 < w3.heap.size := hk5.lt
      have n3 : W.heap.size < w3.heap.size := by omega
      have ht : ∀ (W2 : World) (kind was now : Int), Below w3.heap.size w3 W2 → Actn.Tld l kind was now → Calls Tryd.prog 32 #[.int .i64 kind, .int .i64 was, .int .i64 now, .pointer (some ⟨W.heap.size, 0, none⟩)] W2 fun e w' => e = .returned (.bool true) ∧ W2 = w' := fun W2 kind was now hW hT =>
        told_yes A n c l _ kind was now W2 (hr3.over hW (Nat.le_refl _)) ((hW.cell (p := ⟨W.heap.size, 0, none⟩) n3).trans p3) hn hT
      have HT := Lib.hid ht; have HBW3 := Lib.hid hbw3; have F3 := Lib.hid f3; have F4 := Lib.hid f4; have F5 := Lib.hid f5; have HRD := Lib.hid hrd; have HK5c := Lib.hid hk5
      clear ht hbw3 f3 f4 f5 hrd hb3 hends hk5 hk3 hr3
      unfold itV errV
      dsimp only
      cases cyc
      · dsimp only
        go_wp2_with fail
        (with_reducible refine (HT.out _ _ _ _ ?_ F3.out).mono ?_)
        · exact bl_alloc (Below.refl _ _)
        rintro e w4 ⟨rfl, rfl⟩
        go_wp2_with fail
        (with_reducible refine (HT.out _ _ _ _ ?_ F4.out).mono ?_)
        · exact bl_alloc (Below.refl _ _)
        rintro e w5 ⟨rfl, rfl⟩
        go_wp2_with fail
        (with_reducible refine (HT.out _ _ _ _ ?_ F5.out).mono ?_)
        · exact bl_alloc (Below.refl _ _)
        rintro e w6 ⟨rfl, rfl⟩
        go_wp2_with fail
        go_ret
        exact ⟨rfl, bl_alloc HBW3.out⟩
      · obtain rfl := HRD.out rfl
        dsimp only
        go_wp2_with fail
        (with_reducible refine (tell_errno 11 _ (HG.out.below (bl_alloc HBW3.out))).mono ?_)
        rintro e w4 ⟨rfl, hb4⟩
        have hbw4 := bl_next (bl_alloc HBW3.out) hb4
        have hk9 := (Blk.new w3 39 #[.int .i64 x.at_, .int .i64 x.len, .int .i64 yf, .int .i64 yb, .int .i64 ym]).below hb4 (Blk.new w3 _ _).lt
        have hk5 := (HK5c.out.alloc (.cells #[.int .i64 x.at_, .int .i64 x.len, .int .i64 yf, .int .i64 yb, .int .i64 ym] 39)).below hb4 (HK5c.out.alloc _).lt
        have hb34 : Below w3.heap.size w3 w4 := bl_next (bl_alloc (Below.refl _ _)) hb4
        clear x0 x1 x2 x3 x4
        have x0 := hk5.cell 0; have x1 := hk5.cell 1; have x2 := hk5.cell 2; have x3 := hk5.cell 3; have x4 := hk5.cell 4
        have y0 := hk9.cell 0; have y1 := hk9.cell 1; have y2 := hk9.cell 2; have y3 := hk9.cell 3; have y4 := hk9.cell 4
        simp at x0 x1 x2 x3 x4 y0 y1 y2 y3 y4
        have HBW4 := Lib.hid hbw4; have HB34 := Lib.hid hb34
        clear hb4 hbw4 hk9 hk5 hb34
        go_wp2_with fail
        (with_reducible refine (HT.out _ _ _ _ HB34.out F3.out).mono ?_)
        rintro e w5 ⟨rfl, rfl⟩
        go_wp2_with fail
        (with_reducible refine (HT.out _ _ _ _ HB34.out F4.out).mono ?_)
        rintro e w5 ⟨rfl, rfl⟩
        go_wp2_with fail
        (with_reducible refine (HT.out _ _ _ _ HB34.out F5.out).mono ?_)
        rintro e w5 ⟨rfl, rfl⟩
        go_wp2_with fail
        go_ret
        exact ⟨rfl, HBW4.out⟩
    · have hdo := do_no (.pointer (some ⟨g, 0, none⟩)) x w2 hx
      have hit := fun W => item_rng x W hx
      unfold itV at hdo hit
      unfold It.zero at hdo
      dsimp only at hdo
      have HDO := Lib.hid hdo; have HIT := Lib.hid hit
      clear hdo hit
      go_wp2_with fail
      (with_reducible refine HDO.out.mono ?_)
      rintro e w3 ⟨rfl, hb3⟩
      have hbw3 := bl_next HBW2.out hb3
      have hk5 := HK5b.out.below hb3 HK5b.out.lt
      have x0 := hk5.cell 0; have x1 := hk5.cell 1; have x2 := hk5.cell 2; have x3 := hk5.cell 3; have x4 := hk5.cell 4
      simp at x0 x1 x2 x3 x4
      have HBW3 := Lib.hid hbw3; have HK5c := Lib.hid hk5
      clear hb3 hbw3 hk5
      go_wp2_with fail
      (with_reducible refine (tell_errno 2 _ (HG.out.below (bl_alloc HBW3.out))).mono ?_)
      rintro e w4 ⟨rfl, hb4⟩
      have hbw4 := bl_next (bl_alloc HBW3.out) hb4
      have hk9 := (Blk.new w3 39 #[.int .i64 0, .int .i64 0, .int .i64 0, .int .i64 0, .int .i64 0]).below hb4 (Blk.new w3 _ _).lt
      have hk5 := (HK5c.out.alloc (.cells #[.int .i64 0, .int .i64 0, .int .i64 0, .int .i64 0, .int .i64 0] 39)).below hb4 (HK5c.out.alloc _).lt
      clear x0 x1 x2 x3 x4
      have x0 := hk5.cell 0; have x1 := hk5.cell 1; have x2 := hk5.cell 2; have x3 := hk5.cell 3; have x4 := hk5.cell 4
      have y0 := hk9.cell 0; have y1 := hk9.cell 1; have y2 := hk9.cell 2; have y3 := hk9.cell 3; have y4 := hk9.cell 4
      simp at x0 x1 x2 x3 x4 y0 y1 y2 y3 y4
      have HBW4 := Lib.hid hbw4
      clear hb4 hbw4 hk9 hk5
      go_wp2_with fail
      (with_reducible refine (HIT.out _).mono ?_)
      rintro e w5 ⟨rfl, hb5⟩
      have hbw5 := bl_next HBW4.out hb5
      have HBW5 := Lib.hid hbw5
      clear hb5 hbw5
      go_wp2_with fail
      go_ret
      exact ⟨rfl, HBW5.out⟩
  · have hbw1 := bl_next HBX.out hb1
    have HBW1 := Lib.hid hbw1
    clear hbw1 hb1
    go_wp2_with fail
    (with_reducible refine (HACT.out _).mono ?_)
    rintro e w2 ⟨rfl, hb2⟩
    have hbw2 := bl_next HBW1.out hb2
    have HBW2 := Lib.hid hbw2
    clear hbw2 hb2
    go_wp2_with fail
    (with_reducible refine (HACT.out _).mono ?_)
    rintro e w3 ⟨rfl, hb3⟩
    have hbw3 := bl_next HBW2.out hb3
    have HBW3 := Lib.hid hbw3
    clear hbw3 hb3
    go_wp2_with fail
    go_ret
    exact ⟨rfl, HBW3.out⟩
theorem actionFields_core (A : Option Addr) (n c : Nat) (l : List Actn.Ac) (Ab : Option Addr) (m cb : Nat) (bs : List Bk) (x : It) (W : World) (ha : ActsIn W A n l) (hb : RdR BkR W W.heap.size Ab m bs) (hg : Handle W) :
    Calls Tryd.prog 9 #[.slice A n c, .slice Ab m cb, itV x] W fun e w' => e = .returned (.bool true) ∧ Below W.heap.size W w' := by
  by_cases h : 60 < n ∨ 10 < m
  · exact actionFields_many A n c Ab m cb x W h
  · exact actionFields_yes A n c l Ab m cb bs x W ha hb hg (by omega) (by omega)
end Go.Proofs.YtdhojhgmaodifaaDoor
