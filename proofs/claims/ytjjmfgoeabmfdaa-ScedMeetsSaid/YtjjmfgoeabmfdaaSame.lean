/-
  What sameInts, lines and curved tell.
-/
import Derived.Test.YtjjmfgoeabmfdaaLeast
namespace Go.Proofs.Ytjjmfgoeabmfdaa
open Go.RowKit Crv
set_option linter.unusedVariables false

theorem list_ext_at0 {a b : List Int} (h : a.length = b.length) (h' : ∀ i, i < a.length → at0 a i = at0 b i) : a = b := by
  apply List.ext_getElem h
  intro i h1 h2
  have := h' i h1
  simpa [at0, h1, h2] using this

def SamePost (zs zs' : List Int) (w : World) (e : Ending) (w' : World) : Prop := Below w.heap.size w w' ∧ ((zs = zs' ∧ e = .returned (.bool true)) ∨ (zs ≠ zs' ∧ e = .returned (.bool false)))

set_option maxHeartbeats 1000000 in
theorem same_any (A A' : Option Addr) (n n' c c' : Nat) (zs zs' : List Int) (w : World) (hr : RdI w w.heap.size A n zs) (hr' : RdI w w.heap.size A' n' zs') (h63 : n ≤ 1000000) :
    Calls Try.prog 20 #[.slice A n c, .slice A' n' c'] w (SamePost zs zs' w) := by
  have hl := hr.len
  have hl' := hr'.len
  have HL := Lib.hid hl; have HL' := Lib.hid hl'
  clear hl hl'
  by_cases hn : n = n'
  · subst hn
    go_enter Try.func20, Try.ntmps20
    go_wp2_with fail
    go_loopw [5] (fun i wr => ∃ k q : Nat, k ≤ n ∧ i = .int .i64 k ∧ wr = w.drewN q ∧ ∀ j, j < k → at0 zs j = at0 zs' j) (fun i _ => n - (intOf i).toNat)
    case atStart => exact ⟨0, 0, Nat.zero_le _, rfl, rfl, fun j hj => by omega⟩
    case round =>
      obtain ⟨k, q, hk, rfl, rfl, hall⟩ := hrel
      have HA := Lib.hid hall; clear hall
      have hbq : Below w.heap.size w (w.drewN q) := ⟨rfl, rfl, rfl, Nat.le_refl _, fun _ _ => rfl⟩
      by_cases hlt : k < n
      · obtain ⟨b, off, rfl, _⟩ := hr.addr hlt
        obtain ⟨b', off', rfl, _⟩ := hr'.addr hlt
        have c0 : w.cell? ⟨b, off + k, none⟩ = some (.int .i64 (at0 zs k)) := hr.all rfl k hlt
        have c1 : w.cell? ⟨b', off' + k, none⟩ = some (.int .i64 (at0 zs' k)) := hr'.all rfl k hlt
        have i1 : (k : Int) < (n : Int) := by omega
        generalize hx : at0 zs k = x at *
        generalize hy : at0 zs' k = y at *
        have HX := Lib.hid hx; have HY := Lib.hid hy; clear hx hy
        by_cases hxy : x = y
        · subst hxy
          go_wp2_with fail
          go_quiet (fail)
          go_wp2_with fail
          go_roundw
          case rel => exact ⟨k + 1, _, by omega, by go_num, rfl, fun j hj => by
            by_cases e : j = k
            · subst e; rw [HX.out, HY.out]
            · exact HA.out j (by omega)⟩
          case measure => simp [intOf]; omega
        · have hb1 : (x != y) = true := by simpa using hxy
          have hb2 : (x == y) = false := by simpa using hxy
          go_wp2_with fail
          go_quiet (fail)
          go_wp2_with fail
          go_ret
          exact ⟨⟨rfl, rfl, rfl, Nat.le_refl _, fun _ _ => rfl⟩, .inr ⟨fun e => hxy (by rw [← HX.out, ← HY.out, e]), rfl⟩⟩
      · obtain rfl : k = n := by omega
        go_wp2_with fail
        go_ret
        exact ⟨hbq, .inl ⟨list_ext_at0 (by rw [HL.out, HL'.out]) (fun i hi => HA.out i (by have := HL.out; omega)), rfl⟩⟩
  · have h1 : ((n : Int) != (n' : Int)) = true := by simp; omega
    have h2 : ((n : Int) == (n' : Int)) = false := by simp; omega
    go_enter Try.func20, Try.ntmps20
    go_wp2_with fail
    go_ret
    exact ⟨Below.refl _ _, .inr ⟨fun e => hn (by rw [← HL.out, ← HL'.out, e]), rfl⟩⟩
theorem same_yes (A A' : Option Addr) (n n' c c' : Nat) (zs zs' : List Int) (w : World) (hr : RdI w w.heap.size A n zs) (hr' : RdI w w.heap.size A' n' zs') (h63 : n ≤ 1000000) (he : zs = zs') :
    Calls Try.prog 20 #[.slice A n c, .slice A' n' c'] w fun e w' => e = .returned (.bool true) ∧ Below w.heap.size w w' :=
  (same_any A A' n n' c c' zs zs' w hr hr' h63).mono fun _ _ ⟨hb, h⟩ => by
    rcases h with ⟨_, h⟩ | ⟨h, _⟩
    · exact ⟨h, hb⟩
    · exact absurd he h

/-- curves of at most so many numbers, each at most 100000000000 -/
def Fine (most : Int) (zs : List Int) : Prop := (zs.length : Int) ≤ most ∧ Okay zs ∧ ∀ i, i < zs.length → at0 zs i ≤ 100000000000
/-- a block of slices of ints -/
def RdLL (w : World) (g : Nat) (L : List (List Int)) : Prop := ∀ i, i < L.length → ∃ A n c, w.cell? ⟨g, i, none⟩ = some (.slice A n c) ∧ RdI w w.heap.size A n (L.getD i [])
def LinesPost (most : Int) (L : List (List Int)) (w : World) (e : Ending) (w' : World) : Prop := w = w' ∧ (((∀ i, i < L.length → Fine most (L.getD i [])) ∧ e = .returned (.bool true)) ∨ (¬ (∀ i, i < L.length → Fine most (L.getD i [])) ∧ e = .returned (.bool false)))

set_option maxHeartbeats 1000000 in
set_option maxRecDepth 100000 in
theorem lines_any (most : Int) (g m c : Nat) (L : List (List Int)) (w : World) (hL : RdLL w g L) (hm : L.length = m) (hm6 : m ≤ 60) :
    Calls Try.prog 15 #[.int .i64 most, .slice (some ⟨g, 0, none⟩) m c] w (LinesPost most L w) := by
  have HM := Lib.hid hm; clear hm
  go_enter Try.func15, Try.ntmps15
  go_wp2_with fail
  go_loop [5] (fun i => ∃ k : Nat, k ≤ m ∧ i = .int .i64 k ∧ ∀ j, j < k → Fine most (L.getD j [])) (fun i => m - (intOf i).toNat)
  case atStart => exact ⟨0, Nat.zero_le _, rfl, fun j hj => by omega⟩
  case round =>
    obtain ⟨k, hk, rfl, hall⟩ := hrel
    have HA := Lib.hid hall; clear hall
    by_cases hlt : k < m
    · obtain ⟨A, n, cn, hcell, hr⟩ := hL k (by have := HM.out; omega)
      have hlen := hr.len
      generalize hz : L.getD k [] = zs at *
      have HZ := Lib.hid hz; have HN := Lib.hid hlen; clear hz hlen
      have hbad : ¬ Fine most zs → ¬ (∀ i, i < L.length → Fine most (L.getD i [])) := fun h h' => h (by rw [← HZ.out]; exact h' k (by have := HM.out; omega))
      have HBAD := Lib.hid hbad; clear hbad
      by_cases hlong : most < (n : Int)
      · go_wp2_with fail
        go_ret
        exact ⟨rfl, .inr ⟨HBAD.out fun h => by have := h.1; rw [HN.out] at this; omega, rfl⟩⟩
      · by_cases hok : Okay zs
        · have h201 : n ≤ 201 := by have := hok.len; rw [HN.out] at this; exact this
          go_wp2_with fail
          refine (check_yes A n cn zs w hr hok).mono ?_
          rintro e w' ⟨rfl, rfl⟩
          go_wp2_with fail
          go_loop [6] (fun i => ∃ q : Nat, q ≤ n ∧ i = .int .i64 q ∧ ∀ j, j < q → at0 zs j ≤ 100000000000) (fun i => n - (intOf i).toNat)
          case atStart => exact ⟨0, Nat.zero_le _, rfl, fun j hj => by omega⟩
          case round =>
            obtain ⟨q, hq, rfl, hsm⟩ := hrel
            have HS := Lib.hid hsm; clear hsm
            by_cases hqn : q < n
            · obtain ⟨b, off, rfl, _⟩ := hr.addr hqn
              have c0 : w.cell? ⟨b, off + q, none⟩ = some (.int .i64 (at0 zs q)) := hr.all rfl q hqn
              generalize hx : at0 zs q = x at *
              have HX := Lib.hid hx; clear hx
              by_cases hx1 : x ≤ 100000000000
              · go_wp2_with fail
                go_round
                case rel => exact ⟨q + 1, by omega, by go_num, fun j hj => by
                  by_cases e : j = q
                  · subst e; rw [HX.out]; omega
                  · exact HS.out j (by omega)⟩
                case measure => simp [intOf]; omega
              · have hx2 : 100000000000 < x := by omega
                go_wp2_with fail
                go_ret
                exact ⟨rfl, .inr ⟨HBAD.out fun h => by have := h.2.2 q (by rw [HN.out]; omega); rw [HX.out] at this; omega, rfl⟩⟩
            · obtain rfl : q = n := by omega
              have hfine : Fine most zs := ⟨by rw [HN.out]; omega, hok, fun i hi => HS.out i (by rw [HN.out] at hi; exact hi)⟩
              have HF := Lib.hid hfine; clear hfine
              go_wp2_with fail
              go_round
              case rel => exact ⟨k + 1, by omega, by go_num, fun j hj => by
                by_cases e : j = k
                · subst e; rw [HZ.out]; exact HF.out
                · exact HA.out j (by omega)⟩
              case measure => simp [intOf]; omega
        · go_wp2_with fail
          refine (check_no A n cn zs w hr hok).mono ?_
          rintro e w' ⟨⟨kk, rfl⟩, rfl⟩
          go_wp2_with fail
          go_ret
          exact ⟨rfl, .inr ⟨HBAD.out fun h => hok h.2.1, rfl⟩⟩
    · obtain rfl : k = m := by omega
      go_wp2_with fail
      go_ret
      exact ⟨rfl, .inl ⟨fun i hi => HA.out i (by have := HM.out; omega), rfl⟩⟩

/-- three cells of a new block read as a list -/
theorem rd3 (w : World) (x y z : Int) (t : TypeId) : RdI (w.alloc (.cells #[.int .i64 x, .int .i64 y, .int .i64 z] t)) (w.alloc (.cells #[.int .i64 x, .int .i64 y, .int .i64 z] t)).heap.size (some ⟨w.heap.size, 0, none⟩) 3 [x, y, z] := by
  refine ⟨rfl, fun _ => ⟨_, rfl, by simp, fun j u hj => ?_⟩⟩
  match j, hj with
  | 0, hj => simp at hj; subst hj; simp [Addr.add]
  | 1, hj => simp at hj; subst hj; simp [Addr.add]
  | 2, hj => simp at hj; subst hj; simp [Addr.add]
theorem okay3 (x y z : Int) (h0 : 0 ≤ x) (h1 : x ≤ y) (h2 : y ≤ z) (h3 : z ≤ 1000) : Okay [x, y, z] := by
  refine Okay.of (by simp) (by simp) (fun i hi => ?_) (fun i hi => ?_)
  · have hi' : i < 3 := hi
    obtain rfl | rfl | rfl : i = 0 ∨ i = 1 ∨ i = 2 := by omega
    · simp; omega
    · simp; omega
    · simp; omega
  · have hi' : i + 1 < 3 := hi
    obtain rfl | rfl : i = 0 ∨ i = 1 := by omega
    · simpa using h1
    · simpa using h2
set_option maxHeartbeats 400000 in
theorem curved_any (w : World) : Calls Try.prog 14 #[] w fun e w' => e = .returned (.bool true) ∧ Below w.heap.size w w' := by
  go_enter Try.func14, Try.ntmps14
  go_wp2_with fail
  refine (then_yes _ _ 3 3 3 3 [0, 2, 3] [0, 1, 5] _ ?_ ?_ (okay3 0 2 3 (by omega) (by omega) (by omega) (by omega)) (okay3 0 1 5 (by omega) (by omega) (by omega) (by omega))).mono ?_
  · exact Reads.more (Reads.alloc (rd3 w 0 2 3 _) (Nat.le_refl _) _) (by simp)
  · have h := rd3 (w.alloc (.cells #[.int .i64 0, .int .i64 2, .int .i64 3] 3)) 0 1 5 3
    simpa using h
  · rintro e w' ⟨A, c, rfl, hb, hr⟩
    have e3 : thenL [0, 2, 3] [0, 1, 5] = [0, 1, 3] := by decide
    rw [e3] at hr ⊢
    obtain ⟨b, off, rfl, _⟩ := hr.addr (show 1 < 3 by omega)
    have c1 : w'.cell? ⟨b, off + 1, none⟩ = some (.int .i64 1) := hr.all rfl 1 (by decide)
    have c2 : w'.cell? ⟨b, off + 2, none⟩ = some (.int .i64 3) := hr.all rfl 2 (by decide)
    go_wp2_with fail
    go_ret
    exact ⟨rfl, (((Below.refl _ w).alloc (Nat.le_refl _) _).alloc (by simp) _).trans (hb.mono (by simp; omega))⟩
#print axioms curved_any
end Go.Proofs.Ytjjmfgoeabmfdaa
