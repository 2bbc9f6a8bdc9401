/-
  What curve.Check tells: nothing where the curve may be (CGood), else an error of the program's own; it reads alone.
-/
import Derived.Test.YtjjmfgoeabmfdaaMem
import Derived.Test.YtjjmfgoeabmfdaaCrvLaw
import Derived.Outline
import Derived.Deep.DeepMust
namespace Go.Proofs.Ytjjmfgoeabmfdaa
open Go.RowKit Crv
set_option linter.unusedVariables false

/-- a curve as the program takes it -/
def Okay (zs : List Int) : Prop := CGood 1000000000000 201 zs
theorem Okay.of {zs : List Int} (h1 : 1 ≤ zs.length) (h2 : zs.length ≤ 201) (h3 : ∀ i, i < zs.length → 0 ≤ zs.getD i 0 ∧ zs.getD i 0 ≤ 1000000000000) (h4 : ∀ i, i + 1 < zs.length → zs.getD i 0 ≤ zs.getD (i + 1) 0) : Okay zs :=
  ⟨h1, h2, fun i hi => (h3 i hi).1, fun i hi => (h3 i hi).2, h4⟩
def Err (e : Ending) : Prop := ∃ k : Int, e = .returned (.iface 77 (.int .i64 k))
def CheckPost (zs : List Int) (w : World) (e : Ending) (w' : World) : Prop := w = w' ∧ ((Okay zs ∧ e = .returned .nilIface) ∨ (¬ Okay zs ∧ Err e))

theorem check_none (A : Option Addr) (c : Nat) (zs : List Int) (w : World) (hr : RdI w w.heap.size A 0 zs) :
    Calls Try.prog 42 #[.slice A 0 c] w (CheckPost zs w) := by
  have hl := hr.len
  go_enter Try.func42, Try.ntmps42
  go_wp2_with fail
  go_ret
  exact ⟨rfl, .inr ⟨fun h => by have := h.pos; omega, _, rfl⟩⟩
theorem check_long (A : Option Addr) (n c : Nat) (zs : List Int) (w : World) (hr : RdI w w.heap.size A n zs) (hn : 201 < n) :
    Calls Try.prog 42 #[.slice A n c] w (CheckPost zs w) := by
  have hl := hr.len
  have HL := Lib.hid hl; clear hl
  have hn' : (201 : Int) < (n : Int) := by omega
  have hn2 : ¬ (n : Int) < 1 := by omega
  go_enter Try.func42, Try.ntmps42
  go_wp2_with fail
  go_ret
  exact ⟨rfl, .inr ⟨fun h => by have := h.len; have := HL.out; omega, _, rfl⟩⟩

set_option maxHeartbeats 400000 in
set_option maxRecDepth 100000 in
theorem check_mid (A : Option Addr) (n c : Nat) (zs : List Int) (w : World) (hr : RdI w w.heap.size A n zs) (h1 : 1 ≤ n) (h2 : n ≤ 201) :
    Calls Try.prog 42 #[.slice A n c] w (CheckPost zs w) := by
  have hl := hr.len
  have HL := Lib.hid hl; clear hl
  have hn2 : ¬ (n : Int) < 1 := by omega
  go_enter Try.func42, Try.ntmps42
  go_wp2_with fail
  go_loop [16] (fun i => ∃ k : Nat, k ≤ n ∧ i = .int .i64 k ∧ (∀ i, i < k → 0 ≤ zs.getD i 0 ∧ zs.getD i 0 ≤ 1000000000000) ∧ ∀ i, i + 1 < k → zs.getD i 0 ≤ zs.getD (i + 1) 0)
    (fun i => n - (intOf i).toNat)
  case atStart => exact ⟨0, Nat.zero_le _, rfl, fun i hi => by omega, fun i hi => by omega⟩
  case round =>
    obtain ⟨k, hk, rfl, hall, hup⟩ := hrel
    have HA := Lib.hid hall; have HU := Lib.hid hup; clear hall hup
    by_cases hlt : k < n
    · obtain ⟨b, off, rfl, _, hc⟩ := hr.get hlt
      rcases k with _ | j
      · have hc' : w.cell? ⟨b, off, none⟩ = some (.int .i64 (zs.getD 0 0)) := by simpa using hc
        clear hc
        generalize hx : zs.getD 0 0 = x at *
        have HX := Lib.hid hx; clear hx
        by_cases hx0 : 0 ≤ x
        · by_cases hx1 : x ≤ 1000000000000
          · go_wp2_with fail
            go_round
            case rel => exact ⟨1, by omega, by go_num, fun i hi => by (obtain rfl : i = 0 := by omega); rw [HX.out]; omega, fun i hi => by omega⟩
            case measure => simp [intOf]; omega
          · have hx1' : 1000000000000 < x := by omega
            go_wp2_with fail
            go_ret
            exact ⟨rfl, .inr ⟨fun h => by have := h.hi 0 (by have := HL.out; omega); have e := HX.out; unfold at0 at this; omega, _, rfl⟩⟩
        · have hx0' : x < 0 := by omega
          go_wp2_with fail
          go_ret
          exact ⟨rfl, .inr ⟨fun h => by have := h.lo 0 (by have := HL.out; omega); have e := HX.out; unfold at0 at this; omega, _, rfl⟩⟩
      · have hcj := hr.all rfl j (by omega)
        generalize hx : zs.getD (j + 1) 0 = x at *
        generalize hy : zs.getD j 0 = y at *
        have HX := Lib.hid hx; have HY := Lib.hid hy; clear hx hy
        by_cases hx0 : 0 ≤ x
        · by_cases hx1 : x ≤ 1000000000000
          · by_cases hxy : y ≤ x
            · go_wp2_with fail
              go_round
              case rel => exact ⟨j + 1 + 1, by omega, by go_num, fun i hi => by
                by_cases e : i = j + 1
                · subst e; rw [HX.out]; omega
                · exact HA.out i (by omega), fun i hi => by
                by_cases e : i = j
                · subst e; rw [HX.out, HY.out]; omega
                · exact HU.out i (by omega)⟩
              case measure => simp [intOf]; omega
            · have hxy' : x < y := by omega
              go_wp2_with fail
              go_ret
              exact ⟨rfl, .inr ⟨fun h => by have := h.up j (by have := HL.out; omega); have e := HX.out; have e' := HY.out; unfold at0 at this; omega, _, rfl⟩⟩
          · have hx1' : 1000000000000 < x := by omega
            go_wp2_with fail
            go_ret
            exact ⟨rfl, .inr ⟨fun h => by have := h.hi (j + 1) (by have := HL.out; omega); have e := HX.out; unfold at0 at this; omega, _, rfl⟩⟩
        · have hx0' : x < 0 := by omega
          go_wp2_with fail
          go_ret
          exact ⟨rfl, .inr ⟨fun h => by have := h.lo (j + 1) (by have := HL.out; omega); have e := HX.out; unfold at0 at this; omega, _, rfl⟩⟩
    · obtain rfl : k = n := by omega
      go_wp2_with fail
      go_ret
      exact ⟨rfl, .inl ⟨Okay.of (by have := HL.out; omega) (by have := HL.out; omega) (fun i hi => HA.out i (by have := HL.out; omega)) (fun i hi => HU.out i (by have := HL.out; omega)), rfl⟩⟩
theorem check_any (A : Option Addr) (n c : Nat) (zs : List Int) (w : World) (hr : RdI w w.heap.size A n zs) :
    Calls Try.prog 42 #[.slice A n c] w (CheckPost zs w) := by
  rcases Nat.eq_zero_or_pos n with rfl | h1
  · exact check_none A c zs w hr
  · by_cases h2 : n ≤ 201
    · exact check_mid A n c zs w hr h1 h2
    · exact check_long A n c zs w hr (by omega)
theorem check_yes (A : Option Addr) (n c : Nat) (zs : List Int) (w : World) (hr : RdI w w.heap.size A n zs) (h : Okay zs) :
    Calls Try.prog 42 #[.slice A n c] w fun e w' => e = .returned .nilIface ∧ w = w' :=
  (check_any A n c zs w hr).mono fun _ _ ⟨hw, h'⟩ => by
    rcases h' with ⟨_, he⟩ | ⟨hn, _⟩
    · exact ⟨he, hw⟩
    · exact absurd h hn
theorem check_no (A : Option Addr) (n c : Nat) (zs : List Int) (w : World) (hr : RdI w w.heap.size A n zs) (h : ¬ Okay zs) :
    Calls Try.prog 42 #[.slice A n c] w fun e w' => Err e ∧ w = w' :=
  (check_any A n c zs w hr).mono fun _ _ ⟨hw, h'⟩ => by
    rcases h' with ⟨hn, _⟩ | ⟨_, he⟩
    · exact absurd hn h
    · exact ⟨he, hw⟩
/-- both curves may be -/
theorem both_yes (A A' : Option Addr) (n n' c c' : Nat) (zs zs' : List Int) (w : World) (hr : RdI w w.heap.size A n zs) (hr' : RdI w w.heap.size A' n' zs') (h : Okay zs) (h' : Okay zs') :
    Calls Try.prog 43 #[.slice A n c, .slice A' n' c'] w fun e w' => e = .returned .nilIface ∧ w = w' := by
  go_enter Try.func43, Try.ntmps43
  go_wp2_with fail
  refine (check_yes A n c zs w hr h).mono ?_
  rintro e w' ⟨rfl, rfl⟩
  go_wp2_with fail
  refine (check_yes A' n' c' zs' w hr' h').mono ?_
  rintro e w' ⟨rfl, rfl⟩
  go_wp2_with fail
  go_ret
  exact ⟨rfl, rfl⟩
theorem both_no (A A' : Option Addr) (n n' c c' : Nat) (zs zs' : List Int) (w : World) (hr : RdI w w.heap.size A n zs) (hr' : RdI w w.heap.size A' n' zs') (h : ¬ (Okay zs ∧ Okay zs')) :
    Calls Try.prog 43 #[.slice A n c, .slice A' n' c'] w fun e w' => Err e ∧ w = w' := by
  by_cases h1 : Okay zs
  · go_enter Try.func43, Try.ntmps43
    go_wp2_with fail
    refine (check_yes A n c zs w hr h1).mono ?_
    rintro e w' ⟨rfl, rfl⟩
    go_wp2_with fail
    refine (check_no A' n' c' zs' w hr' (fun h2 => h ⟨h1, h2⟩)).mono ?_
    rintro e w' ⟨⟨k, rfl⟩, rfl⟩
    go_wp2_with fail
    go_ret
    exact ⟨⟨_, rfl⟩, rfl⟩
  · go_enter Try.func43, Try.ntmps43
    go_wp2_with fail
    refine (check_no A n c zs w hr h1).mono ?_
    rintro e w' ⟨⟨k, rfl⟩, rfl⟩
    go_wp2_with fail
    go_ret
    exact ⟨⟨_, rfl⟩, rfl⟩
#print axioms both_no
end Go.Proofs.Ytjjmfgoeabmfdaa
