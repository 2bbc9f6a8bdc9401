/-
  The walk of the law CurveOnce: it returns true, and leaves all that was there.
-/
import Derived.Test.YtjjmfgoeabmfdaaDelay
import Derived.Test.YtjjmfgoeabmfdaaCurveTwiceWalk
namespace Go.Proofs.Ytjjmfgoeabmfdaa
open Go.RowKit Crv
set_option linter.unusedVariables false

theorem delay_any (A A' : Option Addr) (n n' c c' : Nat) (zs zs' : List Int) (w : World) (hr : RdI w w.heap.size A n zs) (hr' : RdI w w.heap.size A' n' zs') :
    Calls Try.prog 24 #[.slice A n c, .slice A' n' c'] w fun e w' => DelayFine w zs zs' e w' ∨ DelayErr w e w' := by
  by_cases h : Okay zs ∧ Okay zs'
  · exact delay_yes A A' n n' c c' zs zs' w hr hr' h.1 h.2
  · exact (delay_no A A' n n' c c' zs zs' w hr hr' h).mono fun _ _ h' => .inr h'

set_option maxHeartbeats 2000000 in
set_option maxRecDepth 100000 in
theorem curveOnce_core (a0 a1 a2 : Option Addr) (n0 c0 n1 c1 n2 c2 : Nat) (a b c : List Int) (w : World) (ha : RdI w w.heap.size a0 n0 a) (hb : RdI w w.heap.size a1 n1 b) (hc : RdI w w.heap.size a2 n2 c) (hcap : n0 ≤ c0) :
    Calls Try.prog 6 #[.slice a0 n0 c0, .slice a1 n1 c1, .slice a2 n2 c2] w fun e w' => e = .returned (.bool true) ∧ Below w.heap.size w w' := by
  go_enter Try.func6, Try.ntmps6
  go_wp2_with fail
  refine (curved_any w).mono ?_
  rintro e w1 ⟨rfl, hb1⟩
  replace ha := ha.over hb1 (Nat.le_refl _); replace hb := hb.over hb1 (Nat.le_refl _); replace hc := hc.over hb1 (Nat.le_refl _)
  go_wp2_with fail
  refine (lines_any 60 w1.heap.size 3 3 [a, b, c] _ (rdll3 _ ha hb hc) rfl (by omega)).mono ?_
  rintro e w2 ⟨rfl, ⟨hf, rfl⟩ | ⟨_, rfl⟩⟩
  · have hf0 : Fine 60 a := hf 0 (by simp)
    have hf1 : Fine 60 b := hf 1 (by simp)
    have hf2 : Fine 60 c := hf 2 (by simp)
    clear hf
    have hbw := hb1.alloc hb1.size (.cells #[.slice a0 n0 c0, .slice a1 n1 c1, .slice a2 n2 c2] 22)
    replace ha := ha.new (.cells #[.slice a0 n0 c0, .slice a1 n1 c1, .slice a2 n2 c2] 22)
    replace hb := hb.new (.cells #[.slice a0 n0 c0, .slice a1 n1 c1, .slice a2 n2 c2] 22)
    replace hc := hc.new (.cells #[.slice a0 n0 c0, .slice a1 n1 c1, .slice a2 n2 c2] 22)
    clear hb1
    generalize w1.alloc (.cells #[.slice a0 n0 c0, .slice a1 n1 c1, .slice a2 n2 c2] 22) = w2 at *
    have la := ha.len; have lb := hb.len; have lc := hc.len
    have p0 := hf0.2.1.pos; have p1 := hf1.2.1.pos
    have q0 := hf0.1; have q1 := hf1.1
    rw [la] at p0 q0; rw [lb] at p1 q1
    have oka := hf0.2.1; have okb := hf1.2.1; have okc := hf2.2.1
    have ga := hf0.good; have gb := hf1.good; have gc := hf2.good
    have HA := Lib.hid la; have HB := Lib.hid lb; have HC := Lib.hid lc; clear la lb lc hf0 hf1 hf2
    go_wp2_with fail
    refine (then_yes _ _ n1 n2 _ _ b c w2 hb hc okb okc).mono ?_
    intro e w3 hpost
    obtain ⟨N, hN⟩ : ∃ N, N = min n1 n2 := ⟨_, rfl⟩
    obtain ⟨A3, c3, rfl, hb3, hbc⟩ := hpost.at_ (k := N) (by rw [thenL_length, HB.out, HC.out, hN])
    have HN := Lib.hid hN; clear hpost hN
    replace ha := ha.over hb3 (Nat.le_refl _); replace hb := hb.over hb3 (Nat.le_refl _); replace hc := hc.over hb3 (Nat.le_refl _)
    replace hbw := hbw.trans (hb3.mono hbw.size); clear hb3
    go_wp2_with fail
    refine (behind_yes _ _ n0 n1 _ _ a b w3 ha hb oka okb).mono ?_
    intro e w4 hpost
    obtain ⟨K, hK⟩ : ∃ K, K = (min n0 n1 + 1) / 2 := ⟨_, rfl⟩
    obtain ⟨A4, c4, rfl, hb4, hmid⟩ := hpost.at_ (k := K) (by rw [behindL_length, HA.out, HB.out, hK])
    have hK1 : 1 ≤ K := by omega
    have hK2 : K ≤ n0 := by omega
    have HK := Lib.hid hK; clear hpost hK
    replace ha := ha.over hb4 (Nat.le_refl _); replace hb := hb.over hb4 (Nat.le_refl _); replace hc := hc.over hb4 (Nat.le_refl _); replace hbc := hbc.over hb4 (Nat.le_refl _)
    replace hbw := hbw.trans (hb4.mono hbw.size); clear hb4
    go_wp2_with fail
    refine (delay_yes _ _ n0 n1 _ _ a b w4 ha hb oka okb).mono ?_
    rintro e w5 (⟨x, rfl, hb5, hx1, hx⟩ | ⟨k, rfl, hb5⟩)
    · replace ha := ha.over hb5 (Nat.le_refl _); replace hc := hc.over hb5 (Nat.le_refl _); replace hbc := hbc.over hb5 (Nat.le_refl _); replace hmid := hmid.over hb5 (Nat.le_refl _)
      replace hbw := hbw.trans (hb5.mono hbw.size); clear hb5 hb
      have HX := Lib.hid hx; clear hx
      go_wp2_with fail
      refine (delay_any _ _ K n2 _ _ (behindL a b) c w5 hmid hc).mono ?_
      rintro e w6 (⟨y, rfl, hb6, hy1, hy⟩ | ⟨k, rfl, hb6⟩)
      · replace ha := ha.over hb6 (Nat.le_refl _); replace hbc := hbc.over hb6 (Nat.le_refl _)
        replace hbw := hbw.trans (hb6.mono hbw.size); clear hb6 hmid hc
        have HY := Lib.hid hy; clear hy
        have ek : ((K : Int) == 0) = false := by simp; omega
        replace ha := ha.cut hK2
        have ek3 : (K : Int) ≤ (c0 : Int) := by omega
        rcases Nat.lt_or_ge K n0 with hKn | hKn
        · have hKn' : (K : Int) < (n0 : Int) := by omega
          go_wp2_with fail
          refine (delay_any _ _ K N _ _ (a.take K) (thenL b c) w6 ha hbc).mono ?_
          rintro e w7 (⟨z, rfl, hb7, hz1, hz⟩ | ⟨k, rfl, hb7⟩)
          · have hle : z ≤ x + y := once ga gb gc (by have := HA.out; omega) (by rw [behindL_length, HA.out, HB.out, ← HK.out]; omega) HX.out HY.out hz
            have hle' : (z : Int) ≤ (x : Int) + (y : Int) := by omega
            clear hz
            go_wp2_with fail
            go_ret
            exact ⟨rfl, hbw.trans (hb7.mono hbw.size)⟩
          · go_wp2_with fail
            go_ret
            exact ⟨rfl, hbw.trans (hb7.mono hbw.size)⟩
        · obtain rfl : n0 = K := by omega
          go_wp2_with fail
          refine (delay_any _ _ n0 N _ _ (a.take n0) (thenL b c) w6 ha hbc).mono ?_
          rintro e w7 (⟨z, rfl, hb7, hz1, hz⟩ | ⟨k, rfl, hb7⟩)
          · have hle : z ≤ x + y := once ga gb gc (by have := HA.out; omega) (by rw [behindL_length, HA.out, HB.out, ← HK.out]; omega) HX.out HY.out hz
            have hle' : (z : Int) ≤ (x : Int) + (y : Int) := by omega
            clear hz
            go_wp2_with fail
            go_ret
            exact ⟨rfl, hbw.trans (hb7.mono hbw.size)⟩
          · go_wp2_with fail
            go_ret
            exact ⟨rfl, hbw.trans (hb7.mono hbw.size)⟩
      · replace hbw := hbw.trans (hb6.mono hbw.size)
        go_wp2_with fail
        go_ret
        exact ⟨rfl, hbw⟩
    · replace hc := hc.over hb5 (Nat.le_refl _); replace hmid := hmid.over hb5 (Nat.le_refl _)
      replace hbw := hbw.trans (hb5.mono hbw.size); clear hb5 hb
      go_wp2_with fail
      refine (delay_any _ _ K n2 _ _ (behindL a b) c w5 hmid hc).mono ?_
      rintro e w6 (⟨y, rfl, hb6, hy1, hy⟩ | ⟨k, rfl, hb6⟩)
      · clear hy
        replace hbw := hbw.trans (hb6.mono hbw.size)
        go_wp2_with fail
        go_ret
        exact ⟨rfl, hbw⟩
      · replace hbw := hbw.trans (hb6.mono hbw.size)
        go_wp2_with fail
        go_ret
        exact ⟨rfl, hbw⟩
  · go_wp2_with fail
    refine (curved_any _).mono ?_
    rintro e w3 ⟨rfl, hb3⟩
    go_wp2_with fail
    go_ret
    exact ⟨rfl, (hb1.alloc hb1.size _).trans (hb3.mono (by have := hb1.size; simp; omega))⟩
theorem curveOnce_walk (a0 : Option Addr) (len0 cap0 : Nat) (z0 : List Int) (a1 : Option Addr) (len1 cap1 : Nat) (z1 : List Int) (a2 : Option Addr) (len2 cap2 : Nat) (z2 : List Int) (w : World)
    (w0 : IsRow .i64 w a0 len0 cap0 z0) (w1 : IsRow .i64 w a1 len1 cap1 z1) (w2 : IsRow .i64 w a2 len2 cap2 z2) :
    Calls Try.prog 6 #[.slice a0 len0 cap0, .slice a1 len1 cap1, .slice a2 len2 cap2] w fun e w' => e = .returned (.bool true) ∧ Below w.heap.size w w' :=
  curveOnce_core a0 a1 a2 len0 cap0 len1 cap1 len2 cap2 _ _ _ w w0.rd w1.rd w2.rd w0.cap
end Go.Proofs.Ytjjmfgoeabmfdaa
