/-
  What sketch.Rate computes: at each number the mean goes part of the way; an error where an argument is beyond its bounds.
-/
import Derived.Test.YtjjmfgoeabmfdaaMem
import Derived.Test.YtjjmfgoeabmfdaaRateLaw
import Derived.Outline
import Derived.Deep.DeepMust
namespace Go.Proofs.Ytjjmfgoeabmfdaa
open Go.RowKit Crv
set_option linter.unusedVariables false

/-- an error of the program's own, and nothing -/
def RateErr (w : World) (e : Ending) (w' : World) : Prop := ∃ k : Int, e = .returned (.tuple #[.slice none 0 0, .iface 77 (.int .i64 k)]) ∧ Below w.heap.size w w'
def RateFine (w : World) (n : Nat) (zs : List Int) (h : Int) (e : Ending) (w' : World) : Prop :=
  ∃ A c, e = .returned (.tuple #[.slice A n c, .nilIface]) ∧ Below w.heap.size w w' ∧ RdI w' w'.heap.size A n (rateL h zs n) ∧ n ≤ 100 ∧ ∀ i, i < n → 0 ≤ zs.getD i 0 ∧ zs.getD i 0 ≤ 1000000
def RatePost (w : World) (n : Nat) (zs : List Int) (h : Int) (e : Ending) (w' : World) : Prop := (RateErr w e w' ∧ (h < 0 ∨ 10 < h ∨ 100 < n ∨ ∃ i, i < n ∧ ¬ (0 ≤ zs.getD i 0 ∧ zs.getD i 0 ≤ 1000000))) ∨ RateFine w n zs h e w'

theorem rate_bad (A : Option Addr) (n c : Nat) (hv : Int) (w : World) (hb : hv < 0 ∨ 10 < hv) :
    Calls Try.prog 13 #[.slice A n c, .int .i64 hv] w (RateErr w) := by
  rcases hb with hb | hb
  · go_enter Try.func13, Try.ntmps13
    go_wp2
    go_ret2
    exact ⟨_, rfl, Below.refl _ _⟩
  · have hb' : 0 ≤ hv := by omega
    go_enter Try.func13, Try.ntmps13
    go_wp2
    go_ret2
    exact ⟨_, rfl, Below.refl _ _⟩
theorem rate_long (A : Option Addr) (n c : Nat) (hv : Int) (w : World) (h0 : 0 ≤ hv) (h1 : hv ≤ 10) (hn : 100 < n) :
    Calls Try.prog 13 #[.slice A n c, .int .i64 hv] w (RateErr w) := by
  have hn' : (100 : Int) < (n : Int) := by omega
  go_enter Try.func13, Try.ntmps13
  go_wp2
  go_ret2
  exact ⟨_, rfl, Below.refl _ _⟩

set_option maxHeartbeats 400000 in
set_option maxRecDepth 100000 in
theorem rate_ok (A : Option Addr) (n c : Nat) (zs : List Int) (hv : Int) (w : World) (hr : RdI w w.heap.size A n zs) (h0 : 0 ≤ hv) (h1 : hv ≤ 10) (hn : n ≤ 100) :
    Calls Try.prog 13 #[.slice A n c, .int .i64 hv] w (RatePost w n zs hv) := by
  go_enter Try.func13, Try.ntmps13
  go_wp2
  go_loopw [6, 7, 23] (fun m v i wr => ∃ k : Nat, k ≤ n ∧ i = .int .i64 k ∧ m = .int .i64 (rateTo hv zs k) ∧ wr.ownsRow w.heap.size 3 1 v k ((rateL hv zs k).map (Value.int .i64)) ∧ Below w.heap.size w wr ∧ ∀ i, i < k → 0 ≤ zs.getD i 0 ∧ zs.getD i 0 ≤ 1000000)
    (fun _ _ i _ => n - (intOf i).toNat)
  case atStart => exact ⟨0, Nat.zero_le _, rfl, rfl, World.ownsRow_nil _ _ _ _, Below.refl _ _, fun i hi => by omega⟩
  case round =>
    obtain ⟨k, hk, rfl, rfl, hown, hb, hall⟩ := hrel
    have hbd := rateTo_bd hv zs k hall
    have HA := Lib.hid hall; clear hall
    by_cases hlt : k < n
    · obtain ⟨b, off, rfl, hbB, hc0⟩ := hr.get hlt
      have hc : wr.cell? ⟨b, off + k, none⟩ = some (.int .i64 (zs.getD k 0)) := (hb.cell (p := ⟨b, off + k, none⟩) hbB).trans hc0
      clear hc0
      generalize hx : zs.getD k 0 = x at *
      have HX := Lib.hid hx; clear hx
      by_cases hin : 0 ≤ x ∧ x ≤ 1000000
      · obtain ⟨hx0, hx1⟩ := hin
        have HT : Hid (rateTo hv zs (k + 1) = rateTo hv zs k + (1000 * x - rateTo hv zs k) / 2 ^ hv.toNat) := by rw [← HX.out]; rfl
        have hq := step_bd (rateTo hv zs k) x 1000000 hv hbd.1 (by omega) hx0 hx1
        generalize hy : rateTo hv zs k = y at *
        have HY := Lib.hid hy; clear hy
        go_wp2_with (at_builtin; go_must (refine wpList_pushI rfl _ _ rfl w.heap.size _ k _ (y + (1000 * x - y) / 2 ^ hv.toNat) hown rfl rfl (by omega) hb.size ?_); intro v' w' hown' hg' hb')
        go_roundw
        case rel =>
          refine ⟨k + 1, by omega, by go_num, by rw [HT.out], ?_, hb.trans hb', ?_⟩
          · have e : rateL hv zs (k + 1) = rateL hv zs k ++ [y + (1000 * x - y) / 2 ^ hv.toNat] := by unfold rateL; rw [tab_succ, HT.out]
            rw [e]; exact hown'
          · intro i hi
            by_cases ei : i = k
            · subst ei; rw [HX.out]; exact ⟨hx0, hx1⟩
            · exact HA.out i (by omega)
        case measure => simp [intOf]; omega
      · by_cases hx0 : 0 ≤ x
        · have hx1 : 1000000 < x := by omega
          clear hin
          go_wp2_with fail
          go_ret2
          exact .inl ⟨⟨_, rfl, hb⟩, .inr (.inr (.inr ⟨k, hlt, by rw [HX.out]; omega⟩))⟩
        · clear hin
          go_wp2_with fail
          go_ret2
          exact .inl ⟨⟨_, rfl, hb⟩, .inr (.inr (.inr ⟨k, hlt, by rw [HX.out]; omega⟩))⟩
    · obtain rfl : k = n := by omega
      obtain ⟨A', c', rfl, hrd⟩ := own_reads hown
      go_wp2_with fail
      go_ret2
      exact .inr ⟨A', c', rfl, hb, hrd, hn, HA.out⟩

theorem rate_any (A : Option Addr) (n c : Nat) (zs : List Int) (hv : Int) (w : World) (hr : RdI w w.heap.size A n zs) :
    Calls Try.prog 13 #[.slice A n c, .int .i64 hv] w (RatePost w n zs hv) := by
  by_cases h1 : hv < 0 ∨ 10 < hv
  · exact (rate_bad A n c hv w h1).mono fun _ _ hh => .inl ⟨hh, by omega⟩
  · by_cases h2 : 100 < n
    · exact (rate_long A n c hv w (by omega) (by omega) h2).mono fun _ _ hh => .inl ⟨hh, by omega⟩
    · exact rate_ok A n c zs hv w hr (by omega) (by omega) (by omega)

/-- the fact that the law asks ahead of all: of 8 alone, by one halving: 4000 -/
theorem rate_8 (w : World) : Calls Try.prog 13 #[.slice (some ⟨w.heap.size, 0, none⟩) 1 1, .int .i64 1] (w.alloc (.cells #[.int .i64 8] 3)) fun e w' =>
    ∃ b off c, e = .returned (.tuple #[.slice (some ⟨b, off, none⟩) 1 c, .nilIface]) ∧ Below w.heap.size w w' ∧ w'.cell? ⟨b, off, none⟩ = some (.int .i64 4000) := by
  have hrd : RdI (w.alloc (.cells #[.int .i64 8] 3)) (w.alloc (.cells #[.int .i64 8] 3)).heap.size (some ⟨w.heap.size, 0, none⟩) 1 [8] :=
    ⟨by simp, fun _ => ⟨_, rfl, by simp, cell_one_new _ _ _⟩⟩
  refine (rate_any _ _ _ _ _ _ hrd).mono ?_
  rintro e w' (⟨_, h⟩ | ⟨A, c, rfl, hb, hr, _, _⟩)
  · rcases h with h | h | h | ⟨i, hi, h⟩
    · omega
    · omega
    · omega
    · obtain rfl : i = 0 := by omega
      simp at h
  · obtain ⟨b, off, rfl, _, hc⟩ := hr.get (show 0 < 1 by omega)
    have e4 : (rateL 1 [8] 1).getD 0 0 = 4000 := by decide
    rw [e4] at hc
    exact ⟨b, off, c, rfl, ((Below.refl _ w).alloc (Nat.le_refl _) _).trans (hb.mono (by simp)), by simpa using hc⟩
end Go.Proofs.Ytjjmfgoeabmfdaa
