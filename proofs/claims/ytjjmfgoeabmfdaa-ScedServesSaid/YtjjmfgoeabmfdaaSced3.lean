/-
  What sced.Fits tells.
-/
import Derived.Test.YtjjmfgoeabmfdaaSced1
import Derived.Test.YtjjmfgoeabmfdaaScedLaw
namespace Go.Proofs.Ytjjmfgoeabmfdaa
open Go.RowKit Crv
set_option linter.unusedVariables false

def minN (fs : Nat → FV) : Nat → Nat
  | 0 => (fs 0).n'
  | j + 1 => min (minN fs j) (fs j).n'
theorem minN_le (fs : Nat → FV) : ∀ j i, i < j → minN fs j ≤ (fs i).n' := by
  intro j
  induction j with
  | zero => intro i hi; omega
  | succ j ih =>
    intro i hi
    show min (minN fs j) (fs j).n' ≤ _
    by_cases e : i = j
    · subst e; omega
    · have := ih i (by omega); omega
theorem le_minN (fs : Nat → FV) (x : Nat) (h0 : x ≤ (fs 0).n') : ∀ j, (∀ i, i < j → x ≤ (fs i).n') → x ≤ minN fs j := by
  intro j
  induction j with
  | zero => intro _; exact h0
  | succ j ih =>
    intro h
    have h1 := ih fun i hi => h i (by omega)
    have h2 := h j (by omega)
    show x ≤ min (minN fs j) (fs j).n'
    omega
def FitsP (m : Nat) (fs : Nat → FV) : Prop := ∀ t, t < minN fs m → Sced.sumF (fun i => at0 (fs i).zs t) m ≤ t
def FitsOut (w : World) (m : Nat) (fs : Nat → FV) (e : Ending) (w' : World) : Prop := ∃ b : Bool, e = .returned (.tuple #[.bool b, .nilIface]) ∧ (b = true → FitsP m fs) ∧ Below w.heap.size w w'
def FitsErr (w : World) (e : Ending) (w' : World) : Prop := ∃ k : Int, e = .returned (.tuple #[.bool false, .iface 77 (.int .i64 k)]) ∧ Below w.heap.size w w'

theorem sched_any (A : Option Addr) (m c : Nat) (fs : Nat → FV) (w : World) (hr : RdF w w.heap.size A m fs) : Calls Try.prog 45 #[.slice A m c] w (SchPost m fs w) := by
  rcases Nat.eq_zero_or_pos m with rfl | h1
  · exact sched_none A c fs w
  · by_cases h2 : m ≤ 8
    · exact sched_mid A m c fs w hr h1 h2
    · exact sched_long A m c fs w (by omega)
theorem sched_yes (A : Option Addr) (m c : Nat) (fs : Nat → FV) (w : World) (hr : RdF w w.heap.size A m fs) (h : SOk m fs) : Calls Try.prog 45 #[.slice A m c] w fun e w' => e = .returned .nilIface ∧ Below w.heap.size w w' :=
  (sched_any A m c fs w hr).mono fun _ _ ⟨hb, h'⟩ => by
    rcases h' with ⟨_, he⟩ | ⟨hn, _⟩
    · exact ⟨he, hb⟩
    · exact absurd h hn
theorem sched_no (A : Option Addr) (m c : Nat) (fs : Nat → FV) (w : World) (hr : RdF w w.heap.size A m fs) (h : ¬ SOk m fs) : Calls Try.prog 45 #[.slice A m c] w fun e w' => Err e ∧ Below w.heap.size w w' :=
  (sched_any A m c fs w hr).mono fun _ _ ⟨hb, h'⟩ => by
    rcases h' with ⟨hy, _⟩ | ⟨_, he⟩
    · exact absurd hy h
    · exact ⟨he, hb⟩

theorem fits_no (A : Option Addr) (m c : Nat) (fs : Nat → FV) (w : World) (hr : RdF w w.heap.size A m fs) (h : ¬ SOk m fs) : Calls Try.prog 27 #[.slice A m c] w (FitsErr w) := by
  go_enter Try.func27, Try.ntmps27
  go_wp2_with fail
  refine (sched_no A m c fs w hr h).mono ?_
  rintro e w1 ⟨⟨k, rfl⟩, hb⟩
  go_wp2_with fail
  go_ret2
  exact ⟨k, rfl, hb⟩

set_option maxHeartbeats 2000000 in
set_option maxRecDepth 100000 in
theorem fits_yes (A : Option Addr) (m c : Nat) (fs : Nat → FV) (w : World) (hr : RdF w w.heap.size A m fs) (h : SOk m fs) : Calls Try.prog 27 #[.slice A m c] w (FitsOut w m fs) := by
  obtain ⟨hm1, hm2, hall⟩ := id h
  have H := Lib.hid h; have HALL := Lib.hid hall; clear h hall
  go_enter Try.func27, Try.ntmps27
  go_wp2_with fail
  refine (sched_yes A m c fs w hr H.out).mono ?_
  rintro e w1 ⟨rfl, hb1⟩
  replace hr := hr.over hb1 (Nat.le_refl _)
  obtain ⟨b, off, rfl, hbB, _, d0⟩ := hr.at_ hm1
  rw [Nat.zero_mul, Nat.add_zero] at d0
  have i0 : (0 : Int) < (m : Int) := by omega
  have HN : Hid (minN fs 0 = (fs 0).n') := rfl
  have h201 : (fs 0).n' ≤ 201 := by have h1 := (HALL.out 0 hm1).prom.len; have h2 := (hr.prom 0 hm1).len; omega
  generalize hn0 : (fs 0).n' = n0 at *
  have HN0 := Lib.hid hn0; clear hn0
  generalize (fs 0).A' = A0 at *
  generalize (fs 0).c' = cc0 at *
  go_wp2_with fail
  clear d0
  go_loopw [5, 24] (fun v i wr => ∃ j : Nat, j ≤ m ∧ i = .int .i64 j ∧ v = .int .i64 (minN fs j) ∧ minN fs j ≤ 201 ∧ Below w1.heap.size w1 wr) (fun _ i _ => m - (intOf i).toNat)
  case atStart => exact ⟨0, Nat.zero_le _, rfl, by rw [HN.out], by rw [HN.out]; omega, Below.refl _ _⟩
  case round =>
    obtain ⟨j, hj, rfl, rfl, hmn, hb2⟩ := hrel
    by_cases hlt : j < m
    · obtain ⟨b', off', e, _, c0, c1⟩ := (hr.over hb2 (Nat.le_refl _)).at_ hlt
      injection e with e; injection e with e1 e2; subst e1 e2
      have HS : Hid (minN fs (j + 1) = min (minN fs j) (fs j).n') := rfl
      generalize minN fs j = M at *
      generalize (fs j).n' = nj at *
      generalize (fs j).A = Aj at *
      generalize (fs j).n = nj2 at *
      generalize (fs j).c = cj at *
      generalize (fs j).A' = Aj' at *
      generalize (fs j).c' = cj' at *
      go_wp2_with fail
      all_goals
        go_roundw
        case rel => exact ⟨j + 1, by omega, by go_num, by rw [HS.out]; first | rw [Nat.min_eq_left (by omega)] | rw [Nat.min_eq_right (by omega)] | (congr 1; omega), by rw [HS.out]; omega, hb2.alloc hb2.size _⟩
        case measure => simp [intOf]; omega
    · obtain rfl : j = m := by omega
      have hrw := hr.over hb2 (Nat.le_refl _)
      have hbw : Below w.heap.size w wr := hb1.trans (hb2.mono hb1.size)
      have hfar : ∀ i, i < j → minN fs j ≤ (fs i).n' := fun i hi => minN_le fs j i hi
      have HFAR := Lib.hid hfar
      have HP : Hid (FitsP j fs = ∀ t, t < minN fs j → Sced.sumF (fun i => at0 (fs i).zs t) j ≤ t) := rfl
      generalize minN fs j = M at *
      clear hr hb2 hb1 HN HFAR
      have HFAR := Lib.hid hfar; clear hfar
      obtain ⟨w2, rfl⟩ : ∃ w2 : World, w2 = wr := ⟨_, rfl⟩
      go_wp2_with fail
      go_loopw [35] (fun i wr => ∃ t : Nat, t ≤ M ∧ i = .int .i64 t ∧ (∀ u, u < t → Sced.sumF (fun i => at0 (fs i).zs u) j ≤ u) ∧ Below w2.heap.size w2 wr) (fun i _ => M - (intOf i).toNat)
      case atStart => exact ⟨0, Nat.zero_le _, rfl, fun u hu => by omega, Below.refl _ _⟩
      case round =>
        obtain ⟨t, ht, rfl, hall, hb3⟩ := hrel
        have HA := Lib.hid hall; clear hall
        by_cases hlt : t < M
        · obtain ⟨w3, rfl⟩ : ∃ w3 : World, w3 = wr := ⟨_, rfl⟩
          go_wp2_with fail
          go_loopw [9, 40] (fun s i wr => ∃ k : Nat, k ≤ j ∧ i = .int .i64 k ∧ s = .int .i64 (Sced.sumF (fun i => at0 (fs i).zs t) k) ∧ 0 ≤ Sced.sumF (fun i => at0 (fs i).zs t) k ∧ Sced.sumF (fun i => at0 (fs i).zs t) k ≤ k * 1000000000000 ∧ Below w2.heap.size w2 wr) (fun _ i _ => j - (intOf i).toNat)
          case atStart => exact ⟨0, Nat.zero_le _, rfl, rfl, Int.le_refl _, by show (0 : Int) ≤ ((0 : Nat) : Int) * 1000000000000; omega, hb3⟩
          case round =>
            obtain ⟨k, hk, rfl, rfl, hs0, hs1, hb4⟩ := hrel
            by_cases hkj : k < j
            · have hrw4 := hrw.over hb4 (Nat.le_refl _)
              obtain ⟨b', off', e, _, c0, c1⟩ := hrw4.at_ hkj
              injection e with e; injection e with e1 e2; subst e1 e2
              have hpr := rdI_new (hrw4.prom k hkj) (.cells #[.slice (fs k).A (fs k).n (fs k).c, .slice (fs k).A' (fs k).n' (fs k).c'] 42)
              have htn : t < (fs k).n' := by have := HFAR.out k hkj; omega
              obtain ⟨b2, off2, he, _⟩ := hpr.addr htn
              rw [he] at hpr
              have d1 := hpr.all rfl t htn
              have hbd : 0 ≤ (fs k).zs.getD t 0 ∧ (fs k).zs.getD t 0 ≤ 1000000000000 := ⟨(HALL.out k hkj).prom.lo t (by have := hpr.len; omega), (HALL.out k hkj).prom.hi t (by have := hpr.len; omega)⟩
              have HS : Hid (Sced.sumF (fun i => at0 (fs i).zs t) (k + 1) = Sced.sumF (fun i => at0 (fs i).zs t) k + at0 (fs k).zs t) := rfl
              generalize Sced.sumF (fun i => at0 (fs i).zs t) k = S at *
              rw [show (fs k).zs.getD t 0 = at0 (fs k).zs t from rfl] at d1 hbd
              rw [he] at c1
              clear he hpr hrw4
              generalize at0 (fs k).zs t = x at *
              generalize (fs k).n' = nk at *
              generalize (fs k).A = Ak at *
              generalize (fs k).n = nk2 at *
              generalize (fs k).c = ck at *
              generalize (fs k).c' = ck' at *
              have i1 : (t : Int) < (nk : Int) := by omega
              go_wp2_with fail
              go_roundw
              case rel => exact ⟨k + 1, by omega, by go_num, by rw [HS.out], by rw [HS.out]; omega, by rw [HS.out]; omega, hb4.alloc hb4.size _⟩
              case measure => simp [intOf]; omega
            · obtain rfl : k = j := by omega
              have hcond : Hid (Sced.sumF (fun i => at0 (fs i).zs t) k = Sced.sumF (fun i => at0 (fs i).zs t) k) := rfl
              by_cases hc : (t : Int) < Sced.sumF (fun i => at0 (fs i).zs t) k
              · generalize hS : Sced.sumF (fun i => at0 (fs i).zs t) k = S at *
                have HS := Lib.hid hS; clear hS
                go_wp2_with fail
                go_ret2
                exact ⟨false, rfl, (fun h => by cases h), hbw.trans (hb4.mono hbw.size)⟩
              · have HC := Lib.hid hc
                generalize hS : Sced.sumF (fun i => at0 (fs i).zs t) k = S at hc hs0 hs1 ⊢
                have HS := Lib.hid hS; clear hS
                have hc' : S ≤ t := by omega
                go_wp2_with fail
                go_roundw
                case rel => exact ⟨t + 1, by omega, by go_num, fun u hu => by
                  by_cases e : u = t
                  · have := HC.out; rw [e]; omega
                  · exact HA.out u (by omega), hb4⟩
                case measure => simp [intOf]; omega
        · obtain rfl : t = M := by omega
          go_wp2_with fail
          go_ret2
          exact ⟨true, rfl, fun _ => by rw [HP.out]; exact HA.out, hbw.trans (hb3.mono hbw.size)⟩
end Go.Proofs.Ytjjmfgoeabmfdaa
