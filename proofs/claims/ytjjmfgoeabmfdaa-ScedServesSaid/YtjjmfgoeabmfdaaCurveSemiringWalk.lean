/-
  The walk of the law CurveSemiring: it returns true, and leaves all that was there.
-/
import Derived.Test.YtjjmfgoeabmfdaaSame
namespace Go.Proofs.Ytjjmfgoeabmfdaa
open Go.RowKit Crv
set_option linter.unusedVariables false

def CurveVal (w : World) (l : List Int) (e : Ending) (w' : World) : Prop :=
  ∃ A c, e = .returned (.slice A l.length c) ∧ Below w.heap.size w w' ∧ RdI w' w'.heap.size A l.length l

theorem clo_then (A A' : Option Addr) (n n' c c' : Nat) (zs zs' : List Int) (w : World) (hr : RdI w w.heap.size A n zs) (hr' : RdI w w.heap.size A' n' zs') (hy : Okay zs) (hy' : Okay zs') :
    Calls Try.prog 16 #[.slice A n c, .slice A' n' c'] w (CurveVal w (thenL zs zs')) := by
  go_enter Try.func16, Try.ntmps16
  go_wp2_with fail
  refine (then_yes A A' n n' c c' zs zs' w hr hr' hy hy').mono ?_
  rintro e w' ⟨A2, c2, rfl, hb, hrd⟩
  go_wp2_with fail
  go_ret
  exact ⟨A2, c2, rfl, hb, hrd⟩
theorem clo_least (A A' : Option Addr) (n n' c c' : Nat) (zs zs' : List Int) (w : World) (hr : RdI w w.heap.size A n zs) (hr' : RdI w w.heap.size A' n' zs') (hy : Okay zs) (hy' : Okay zs') :
    Calls Try.prog 18 #[.slice A n c, .slice A' n' c'] w (CurveVal w (leastL zs zs')) := by
  go_enter Try.func18, Try.ntmps18
  go_wp2_with fail
  refine (least_yes A A' n n' c c' zs zs' w hr hr' hy hy').mono ?_
  rintro e w' ⟨A2, c2, rfl, hb, hrd⟩
  go_wp2_with fail
  go_ret
  exact ⟨A2, c2, rfl, hb, hrd⟩

/-- three slices in a new block -/
theorem rdll3 {w : World} {A0 A1 A2 : Option Addr} {n0 n1 n2 c0 c1 c2 : Nat} {a b c : List Int} (t : TypeId) (ha : RdI w w.heap.size A0 n0 a) (hb : RdI w w.heap.size A1 n1 b) (hc : RdI w w.heap.size A2 n2 c) :
    RdLL (w.alloc (.cells #[.slice A0 n0 c0, .slice A1 n1 c1, .slice A2 n2 c2] t)) w.heap.size [a, b, c] := by
  intro i hi
  have hi' : i < 3 := hi
  obtain rfl | rfl | rfl : i = 0 ∨ i = 1 ∨ i = 2 := by omega
  · exact ⟨A0, n0, c0, by simp, Reads.more (Reads.alloc ha (Nat.le_refl _) _) (by simp)⟩
  · exact ⟨A1, n1, c1, by simp, Reads.more (Reads.alloc hb (Nat.le_refl _) _) (by simp)⟩
  · exact ⟨A2, n2, c2, by simp, Reads.more (Reads.alloc hc (Nat.le_refl _) _) (by simp)⟩
theorem Fine.good {zs : List Int} (h : Fine 60 zs) : CGood 100000000000 60 zs :=
  ⟨h.2.1.pos, by have := h.1; omega, h.2.1.lo, h.2.2, h.2.1.up⟩
theorem ret_bool {x : Bool} (h : x = true) : Ending.returned (.bool x) = .returned (.bool true) := by rw [h]
theorem okay_of {M : Int} {L : Nat} {zs : List Int} (h : CGood M L zs) (hM : M ≤ 1000000000000) (hL : L ≤ 201) : Okay zs := h.weak hM hL

set_option maxHeartbeats 1000000 in
set_option maxRecDepth 100000 in
theorem curveSemiring_core (a0 a1 a2 : Option Addr) (n0 c0 n1 c1 n2 c2 : Nat) (a b c : List Int) (w : World) (ha : RdI w w.heap.size a0 n0 a) (hb : RdI w w.heap.size a1 n1 b) (hc : RdI w w.heap.size a2 n2 c) :
    Calls Try.prog 4 #[.slice a0 n0 c0, .slice a1 n1 c1, .slice a2 n2 c2] w fun e w' => e = .returned (.bool true) ∧ Below w.heap.size w w' := by
  go_enter Try.func4, Try.ntmps4
  go_wp2_with fail
  refine (curved_any w).mono ?_
  rintro e w1 ⟨rfl, hb1⟩
  have ha1 := ha.over hb1 (Nat.le_refl _); have hbb1 := hb.over hb1 (Nat.le_refl _); have hc1 := hc.over hb1 (Nat.le_refl _)
  clear ha hb hc
  go_wp2_with fail
  refine (lines_any 60 w1.heap.size 3 3 [a, b, c] _ (rdll3 _ ha1 hbb1 hc1) rfl (by omega)).mono ?_
  rintro e w2 ⟨rfl, ⟨hf, rfl⟩ | ⟨_, rfl⟩⟩
  · have hf0 : Fine 60 a := hf 0 (by simp)
    have hf1 : Fine 60 b := hf 1 (by simp)
    have hf2 : Fine 60 c := hf 2 (by simp)
    clear hf
    have oka := hf0.2.1; have okb := hf1.2.1; have okc := hf2.2.1
    have okab : Okay (thenL a b) := okay_of (thenL_good hf0.good hf1.good) (by omega) (by omega)
    have okbc : Okay (thenL b c) := okay_of (thenL_good hf1.good hf2.good) (by omega) (by omega)
    have okac : Okay (thenL a c) := okay_of (thenL_good hf0.good hf2.good) (by omega) (by omega)
    have oklbc : Okay (leastL b c) := okay_of (leastL_good hf1.good hf2.good) (by omega) (by omega)
    have l0 : a.length ≤ 60 := hf0.good.len
    have hn0 := ha1.len; have hn1 := hbb1.len
    have H0 := Lib.hid hn0; have H1 := Lib.hid hn1
    clear hf0 hf1 hf2 hn0 hn1
    have hbw := hb1.alloc hb1.size (.cells #[.slice a0 n0 c0, .slice a1 n1 c1, .slice a2 n2 c2] 22)
    have ha := Reads.more (Reads.alloc ha1 (Nat.le_refl _) (.cells #[.slice a0 n0 c0, .slice a1 n1 c1, .slice a2 n2 c2] 22)) (show _ ≤ (w1.alloc (.cells #[.slice a0 n0 c0, .slice a1 n1 c1, .slice a2 n2 c2] 22)).heap.size by simp)
    have hb := Reads.more (Reads.alloc hbb1 (Nat.le_refl _) (.cells #[.slice a0 n0 c0, .slice a1 n1 c1, .slice a2 n2 c2] 22)) (show _ ≤ (w1.alloc (.cells #[.slice a0 n0 c0, .slice a1 n1 c1, .slice a2 n2 c2] 22)).heap.size by simp)
    have hc := Reads.more (Reads.alloc hc1 (Nat.le_refl _) (.cells #[.slice a0 n0 c0, .slice a1 n1 c1, .slice a2 n2 c2] 22)) (show _ ≤ (w1.alloc (.cells #[.slice a0 n0 c0, .slice a1 n1 c1, .slice a2 n2 c2] 22)).heap.size by simp)
    replace ha : RdI _ _ _ _ a := ha
    replace hb : RdI _ _ _ _ b := hb
    replace hc : RdI _ _ _ _ c := hc
    clear ha1 hbb1 hc1 hb1
    generalize w1.alloc (.cells #[.slice a0 n0 c0, .slice a1 n1 c1, .slice a2 n2 c2] 22) = w2 at *
    go_wp2_with fail
    refine (clo_then _ _ _ _ _ _ a b _ ha hb oka okb).mono ?_
    rintro e w3 ⟨A3, c3, rfl, hb3, kab⟩
    replace ha := ha.over hb3 (Nat.le_refl _)
    replace hb := hb.over hb3 (Nat.le_refl _)
    replace hc := hc.over hb3 (Nat.le_refl _)
    have hab := kab; clear kab
    replace hbw := hbw.trans (hb3.mono hbw.size); clear hb3
    go_wp2_with fail
    refine (clo_then _ _ _ _ _ _ b a _ hb ha okb oka).mono ?_
    rintro e w4 ⟨A4, c4, rfl, hb4, kba⟩
    replace ha := ha.over hb4 (Nat.le_refl _)
    replace hb := hb.over hb4 (Nat.le_refl _)
    replace hc := hc.over hb4 (Nat.le_refl _)
    replace hab := hab.over hb4 (Nat.le_refl _)
    have hba := kba; clear kba
    replace hbw := hbw.trans (hb4.mono hbw.size); clear hb4
    go_wp2_with fail
    refine (same_yes _ _ _ _ _ _ (thenL a b) (thenL b a) _ hab hba (by simp only [thenL_length]; omega) (thenL_comm a b)).mono ?_
    rintro e w5 ⟨rfl, hb5⟩
    clear hab hba
    replace ha := ha.over hb5 (Nat.le_refl _)
    replace hb := hb.over hb5 (Nat.le_refl _)
    replace hc := hc.over hb5 (Nat.le_refl _)
    replace hbw := hbw.trans (hb5.mono hbw.size); clear hb5
    go_wp2_with fail
    refine (clo_then _ _ _ _ _ _ a b _ ha hb oka okb).mono ?_
    rintro e w6 ⟨A6, c6, rfl, hb6, kab2⟩
    replace ha := ha.over hb6 (Nat.le_refl _)
    replace hb := hb.over hb6 (Nat.le_refl _)
    replace hc := hc.over hb6 (Nat.le_refl _)
    have hab2 := kab2; clear kab2
    replace hbw := hbw.trans (hb6.mono hbw.size); clear hb6
    go_wp2_with fail
    refine (clo_then _ _ _ _ _ _ (thenL a b) c _ hab2 hc okab okc).mono ?_
    rintro e w7 ⟨A7, c7, rfl, hb7, kabc⟩
    clear hab2
    replace ha := ha.over hb7 (Nat.le_refl _)
    replace hb := hb.over hb7 (Nat.le_refl _)
    replace hc := hc.over hb7 (Nat.le_refl _)
    have habc := kabc; clear kabc
    replace hbw := hbw.trans (hb7.mono hbw.size); clear hb7
    go_wp2_with fail
    refine (clo_then _ _ _ _ _ _ b c _ hb hc okb okc).mono ?_
    rintro e w8 ⟨A8, c8, rfl, hb8, kbc⟩
    replace ha := ha.over hb8 (Nat.le_refl _)
    replace hb := hb.over hb8 (Nat.le_refl _)
    replace hc := hc.over hb8 (Nat.le_refl _)
    replace habc := habc.over hb8 (Nat.le_refl _)
    have hbc := kbc; clear kbc
    replace hbw := hbw.trans (hb8.mono hbw.size); clear hb8
    go_wp2_with fail
    refine (clo_then _ _ _ _ _ _ a (thenL b c) _ ha hbc oka okbc).mono ?_
    rintro e w9 ⟨A9, c9, rfl, hb9, kabc2⟩
    clear hbc
    replace ha := ha.over hb9 (Nat.le_refl _)
    replace hb := hb.over hb9 (Nat.le_refl _)
    replace hc := hc.over hb9 (Nat.le_refl _)
    replace habc := habc.over hb9 (Nat.le_refl _)
    have habc2 := kabc2; clear kabc2
    replace hbw := hbw.trans (hb9.mono hbw.size); clear hb9
    go_wp2_with fail
    refine (same_yes _ _ _ _ _ _ (thenL (thenL a b) c) (thenL a (thenL b c)) _ habc habc2 (by simp only [thenL_length]; omega) (thenL_assoc a b c)).mono ?_
    rintro e w10 ⟨rfl, hb10⟩
    clear habc habc2
    replace ha := ha.over hb10 (Nat.le_refl _)
    replace hb := hb.over hb10 (Nat.le_refl _)
    replace hc := hc.over hb10 (Nat.le_refl _)
    replace hbw := hbw.trans (hb10.mono hbw.size); clear hb10
    go_wp2_with fail
    refine (clo_least _ _ _ _ _ _ b c _ hb hc okb okc).mono ?_
    rintro e w11 ⟨A11, c11, rfl, hb11, klbc⟩
    replace ha := ha.over hb11 (Nat.le_refl _)
    replace hb := hb.over hb11 (Nat.le_refl _)
    replace hc := hc.over hb11 (Nat.le_refl _)
    have hlbc := klbc; clear klbc
    replace hbw := hbw.trans (hb11.mono hbw.size); clear hb11
    go_wp2_with fail
    refine (clo_then _ _ _ _ _ _ a (leastL b c) _ ha hlbc oka oklbc).mono ?_
    rintro e w12 ⟨A12, c12, rfl, hb12, kalbc⟩
    clear hlbc
    replace ha := ha.over hb12 (Nat.le_refl _)
    replace hb := hb.over hb12 (Nat.le_refl _)
    replace hc := hc.over hb12 (Nat.le_refl _)
    have halbc := kalbc; clear kalbc
    replace hbw := hbw.trans (hb12.mono hbw.size); clear hb12
    go_wp2_with fail
    refine (clo_then _ _ _ _ _ _ a b _ ha hb oka okb).mono ?_
    rintro e w13 ⟨A13, c13, rfl, hb13, kab3⟩
    replace ha := ha.over hb13 (Nat.le_refl _)
    replace hb := hb.over hb13 (Nat.le_refl _)
    replace hc := hc.over hb13 (Nat.le_refl _)
    replace halbc := halbc.over hb13 (Nat.le_refl _)
    have hab3 := kab3; clear kab3
    replace hbw := hbw.trans (hb13.mono hbw.size); clear hb13
    go_wp2_with fail
    refine (clo_then _ _ _ _ _ _ a c _ ha hc oka okc).mono ?_
    rintro e w14 ⟨A14, c14, rfl, hb14, kac⟩
    replace ha := ha.over hb14 (Nat.le_refl _)
    replace hb := hb.over hb14 (Nat.le_refl _)
    replace hc := hc.over hb14 (Nat.le_refl _)
    replace halbc := halbc.over hb14 (Nat.le_refl _)
    replace hab3 := hab3.over hb14 (Nat.le_refl _)
    have hac := kac; clear kac
    replace hbw := hbw.trans (hb14.mono hbw.size); clear hb14
    go_wp2_with fail
    refine (clo_least _ _ _ _ _ _ (thenL a b) (thenL a c) _ hab3 hac okab okac).mono ?_
    rintro e w15 ⟨A15, c15, rfl, hb15, klab⟩
    clear hab3 hac
    replace ha := ha.over hb15 (Nat.le_refl _)
    replace hb := hb.over hb15 (Nat.le_refl _)
    replace hc := hc.over hb15 (Nat.le_refl _)
    replace halbc := halbc.over hb15 (Nat.le_refl _)
    have hlab := klab; clear klab
    replace hbw := hbw.trans (hb15.mono hbw.size); clear hb15
    go_wp2_with fail
    refine (same_yes _ _ _ _ _ _ (thenL a (leastL b c)) (leastL (thenL a b) (thenL a c)) _ halbc hlab (by simp only [thenL_length]; omega) (thenL_least a b c)).mono ?_
    rintro e w16 ⟨rfl, hb16⟩
    clear halbc hlab
    replace ha := ha.over hb16 (Nat.le_refl _)
    replace hb := hb.over hb16 (Nat.le_refl _)
    replace hc := hc.over hb16 (Nat.le_refl _)
    replace hbw := hbw.trans (hb16.mono hbw.size); clear hb16
    go_wp2_with fail
    refine (clo_then _ _ _ _ _ _ a b _ ha hb oka okb).mono ?_
    rintro e w17 ⟨A17, c17, rfl, hb17, kab4⟩
    replace ha := ha.over hb17 (Nat.le_refl _)
    replace hb := hb.over hb17 (Nat.le_refl _)
    replace hc := hc.over hb17 (Nat.le_refl _)
    have hab4 := kab4; clear kab4
    replace hbw := hbw.trans (hb17.mono hbw.size); clear hb17
    go_wp2_with fail
    all_goals
      go_ret
      exact ⟨ret_bool (by have h0 := H0.out; have h1 := H1.out; rw [beq_iff_eq, thenL_length]; omega), hbw⟩
  · go_wp2_with fail
    refine (curved_any _).mono ?_
    rintro e w3 ⟨rfl, hb3⟩
    go_wp2_with fail
    go_ret
    exact ⟨rfl, (hb1.alloc hb1.size _).trans (hb3.mono (by have := hb1.size; simp; omega))⟩
theorem curveSemiring_walk (a0 : Option Addr) (len0 cap0 : Nat) (z0 : List Int) (a1 : Option Addr) (len1 cap1 : Nat) (z1 : List Int) (a2 : Option Addr) (len2 cap2 : Nat) (z2 : List Int) (w : World)
    (w0 : IsRow .i64 w a0 len0 cap0 z0) (w1 : IsRow .i64 w a1 len1 cap1 z1) (w2 : IsRow .i64 w a2 len2 cap2 z2) :
    Calls Try.prog 4 #[.slice a0 len0 cap0, .slice a1 len1 cap1, .slice a2 len2 cap2] w fun e w' => e = .returned (.bool true) ∧ Below w.heap.size w w' :=
  curveSemiring_core a0 a1 a2 len0 cap0 len1 cap1 len2 cap2 _ _ _ w w0.rd w1.rd w2.rd
end Go.Proofs.Ytjjmfgoeabmfdaa
