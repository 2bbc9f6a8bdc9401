/-
  Texts of this claim, one behind the other: SameI.
-/
import Derived.Test.YtgdijbaodfghjaaGreatDoorZ02
import Derived.Test.YtgdijbaodfghjaaGreatDoorZ01
import Derived.BigQuiet
/-
  What sameInts tells.
-/
namespace Go.Proofs.YtgdijbaodfghjaaGreatDoor
open Go.RowKit Crv
set_option linter.unusedVariables false

theorem list_ext_at0 {a b : List Int} (h : a.length = b.length) (h' : ∀ i, i < a.length → at0 a i = at0 b i) : a = b := by
  apply List.ext_getElem h
  intro i h1 h2
  have := h' i h1
  simpa [at0, h1, h2] using this

def SamePost (zs zs' : List Int) (w : World) (e : Ending) (w' : World) : Prop := Below w.heap.size w w' ∧ ((zs = zs' ∧ e = .returned (.bool true)) ∨ (zs ≠ zs' ∧ e = .returned (.bool false)))

set_option maxHeartbeats 1000000 in
theorem same_any (A A' : Option Addr) (n n' c c' : Nat) (zs zs' : List Int) (w : World) (hr : RdI w w.heap.size A n zs) (hr' : RdI w w.heap.size A' n' zs') (h63 : n ≤ 1000000) :
    Calls Tryz.prog 14 #[.slice A n c, .slice A' n' c'] w (SamePost zs zs' w) := by
  have hl := hr.len
  have hl' := hr'.len
  have HL := Lib.hid hl; have HL' := Lib.hid hl'
  clear hl hl'
  by_cases hn : n = n'
  · subst hn
    go_enter Tryz.func14, Tryz.ntmps14
    go_wp2_with fail
    go_loopw [5] (fun i wr => ∃ k q : Nat, k ≤ n ∧ i = .int .i64 k ∧ wr = w.drewN q ∧ ∀ j, j < k → at0 zs j = at0 zs' j) (fun i _ => n - (intOf i).toNat)
    case atStart => exact ⟨0, 0, Nat.zero_le _, rfl, rfl, fun j hj => by omega⟩
    case round =>
      obtain ⟨k, q, hk, rfl, rfl, hall⟩ := hrel
      have HA := Lib.hid hall; clear hall
      have hbq : Below w.heap.size w (w.drewN q) := ⟨rfl, rfl, rfl, Nat.le_refl _, fun _ _ => rfl⟩
      by_cases hlt : k < n
      · obtain ⟨b, off, rfl, _⟩ := hr.addr hlt
        obtain ⟨b', off', rfl, _⟩ := hr'.addr hlt
        have c0 : w.cell? ⟨b, off + k, none⟩ = some (.int .i64 (at0 zs k)) := hr.all rfl k hlt
        have c1 : w.cell? ⟨b', off' + k, none⟩ = some (.int .i64 (at0 zs' k)) := hr'.all rfl k hlt
        have i1 : (k : Int) < (n : Int) := by omega
        generalize hx : at0 zs k = x at *
        generalize hy : at0 zs' k = y at *
        have HX := Lib.hid hx; have HY := Lib.hid hy; clear hx hy
        by_cases hxy : x = y
        · subst hxy
          go_wp2_with fail
          go_quiet (fail)
          go_wp2_with fail
          go_roundw
          case rel => exact ⟨k + 1, _, by omega, by go_num, rfl, fun j hj => by
            by_cases e : j = k
            · subst e; rw [HX.out, HY.out]
            · exact HA.out j (by omega)⟩
          case measure => simp [intOf]; omega
        · have hb1 : (x != y) = true := by simpa using hxy
          have hb2 : (x == y) = false := by simpa using hxy
          go_wp2_with fail
          go_quiet (fail)
          go_wp2_with fail
          go_ret
          exact ⟨⟨rfl, rfl, rfl, Nat.le_refl _, fun _ _ => rfl⟩, .inr ⟨fun e => hxy (by rw [← HX.out, ← HY.out, e]), rfl⟩⟩
      · obtain rfl : k = n := by omega
        go_wp2_with fail
        go_ret
        exact ⟨hbq, .inl ⟨list_ext_at0 (by rw [HL.out, HL'.out]) (fun i hi => HA.out i (by have := HL.out; omega)), rfl⟩⟩
  · have h1 : ((n : Int) != (n' : Int)) = true := by simp; omega
    have h2 : ((n : Int) == (n' : Int)) = false := by simp; omega
    go_enter Tryz.func14, Tryz.ntmps14
    go_wp2_with fail
    go_ret
    exact ⟨Below.refl _ _, .inr ⟨fun e => hn (by rw [← HL.out, ← HL'.out, e]), rfl⟩⟩
theorem same_yes (A A' : Option Addr) (n n' c c' : Nat) (zs zs' : List Int) (w : World) (hr : RdI w w.heap.size A n zs) (hr' : RdI w w.heap.size A' n' zs') (h63 : n ≤ 1000000) (he : zs = zs') :
    Calls Tryz.prog 14 #[.slice A n c, .slice A' n' c'] w fun e w' => e = .returned (.bool true) ∧ Below w.heap.size w w' :=
  (same_any A A' n n' c c' zs zs' w hr hr' h63).mono fun _ _ ⟨hb, h⟩ => by
    rcases h with ⟨_, h⟩ | ⟨h, _⟩
    · exact ⟨h, hb⟩
    · exact absurd he h

end Go.Proofs.YtgdijbaodfghjaaGreatDoor
