/-
  What come makes: a row of numbers that keeps to the curve.
-/
import Derived.Test.YtjjmfgoeabmfdaaFits
import Derived.Test.YtjjmfgoeabmfdaaPick
import Derived.Test.YtjjmfgoeabmfdaaCurveTwiceWalk
import Derived.ArgAppend
namespace Go.Proofs.Ytjjmfgoeabmfdaa
open Go.RowKit Crv
set_option linter.unusedVariables false

set_option maxRecDepth 100000 in
/-- 'append(s[:n:n], x)': it must grow: a new row, all else as it was -/
theorem wpList_grow1 {w : World} {ops : Array Oper} {rest : List Oper} {o : Oper} {a : Act} {Q : Exit → Act → World → Prop} (hg : o.guard = none) (s x : Operand) (t : TypeId) (ht : Try.prog.underlying t = some (.slice 3))
    (hop : o.op = .call { callee := .builtin .append, args := #[s, x], argTypes := #[t, t] })
    (ao : Option Addr) (n : Nat) (zs : List Int) (u : Int) (hr : RdI w w.heap.size ao n zs) (hs : a.eval s = .slice ao n n) (hnone : ao = none → n = 0)
    (hx : a.eval x = .slice (some ⟨w.heap.size, 0, none⟩) 1 1) (hn : n ≤ 1000000)
    (hK : ∀ A' c' w', RdI w' w'.heap.size A' (n + 1) (zs ++ [u]) → Below w.heap.size w w' → wpList Try.prog ops Q rest (a.put o.dst (.slice A' (n + 1) c')) w') :
    wpList Try.prog ops Q (o :: rest) a (w.alloc (.cells #[.int .i64 u] 3)) := by
  obtain ⟨i0, hi, hz0, hz1, hz2⟩ := info_parts Try.intInfo
  have hl := hr.len
  refine wpList_append_grows _ hg s x t hop 3 i0 (.int .i64 0) 1 8 ht hi hz0 hz1 hz2 rfl (by decide) ao n n (zs.map (Value.int .i64)) hs (fun h => ⟨hnone h, hnone h⟩) (by simp; omega) ?_
    ⟨w.heap.size, 0, none⟩ 1 1 [.int .i64 u] hx rfl (cell_one_new _ _ _) (by intro y hy; simp at hy; subst hy; rfl) (by omega) (by simp only [maxLen]; omega) (by omega) ?_
  · intro b hb j y hj
    have hj' : j < n := by
      rcases Nat.lt_or_ge j n with h | h
      · exact h
      · rw [List.getElem?_eq_none (by simp; omega)] at hj; simp at hj
    obtain ⟨ad, e, hB, hc⟩ := hr.2 (by omega)
    rw [hb] at e
    injection e with e
    subst e
    exact (World.cell?_alloc_lt w _ _ (by rw [block_of_add]; exact hB)).trans (hc j y hj)
  · intro v' w' hown hg'
    have hown2 : w'.ownsRow (w.alloc (.cells #[.int .i64 u] 3)).heap.size 3 1 v' (n + 1) ((zs ++ [u]).map (Value.int .i64)) := by simpa using hown
    obtain ⟨A', c', rfl, hrd⟩ := own_reads hown2
    exact hK A' c' w' hrd (((Below.refl _ w).alloc (Nat.le_refl _) _).grown hg' (by simp) (fun k hk => by cases hk))
theorem own_cap {w : World} {base : Nat} {e : TypeId} {size n c : Nat} {A : Option Addr} {xs : List Value} (h : w.ownsRow base e size (.slice A n c) n xs) : n ≤ c ∧ (A = none → n = 0) := by
  rcases h.2 with ⟨h', rfl⟩ | ⟨g, cap, cur, h', _, _, hc, _⟩
  · exact ⟨by omega, fun _ => rfl⟩
  · injection h' with h1 h2 h3
    subst h1 h3
    exact ⟨hc, fun h => by cases h⟩
theorem own_over {w w' : World} {base : Nat} {e : TypeId} {size n : Nat} {v : Value} {xs : List Value} (h : w.ownsRow base e size v n xs) (hb : Below w.heap.size w w') : w'.ownsRow base e size v n xs :=
  h.kept (row := none) ⟨hb.os, hb.tape, hb.output, hb.size, fun i hi _ => hb.block i hi⟩ (by cases v.ownBlock <;> simp)

/-- the row that come makes -/
def ComeOut (w : World) (a : List Int) (m : Nat) (e : Ending) (w' : World) : Prop :=
  ∃ (A : Option Addr) (k c : Nat) (xs : List Int), e = .returned (.slice A k c) ∧ k ≤ c ∧ (A = none → k = 0) ∧ Below w.heap.size w w' ∧ RdI w' w'.heap.size A k xs ∧ k ≤ m ∧ k + 1 ≤ a.length ∧ FitsP xs a ∧ ∀ i, i < k → 0 ≤ at0 xs i ∧ at0 xs i ≤ 2000

set_option maxHeartbeats 2000000 in
set_option maxRecDepth 100000 in
theorem come_yes (A A' : Option Addr) (n n' c c' : Nat) (l zs : List Int) (w : World) (hr : RdI w w.heap.size A n l) (hr' : RdI w w.heap.size A' n' zs) (hy : Okay zs) (hn : n ≤ 30) (hbd : ∀ i, i < n → -9223372036854775808 ≤ at0 l i ∧ at0 l i ≤ 9223372036854775807) :
    Calls Try.prog 25 #[.slice A n c, .slice A' n' c'] w (ComeOut w zs n) := by
  have hl' := hr'.len
  have hp := hy.pos
  rw [hl'] at hp
  have HL' := Lib.hid hl'; have HB := Lib.hid hbd
  clear hl' hbd
  go_enter Try.func25, Try.ntmps25
  go_wp2_with fail
  go_loopw [5, 6] (fun v i wr => ∃ (k : Nat) (xs : List Int), k ≤ n ∧ k + 1 ≤ n' ∧ i = .int .i64 k ∧ wr.ownsRow w.heap.size 3 1 v k (xs.map (Value.int .i64)) ∧ Below w.heap.size w wr ∧ FitsP xs zs ∧ ∀ i, i < k → 0 ≤ at0 xs i ∧ at0 xs i ≤ 2000)
    (fun _ i _ => n - (intOf i).toNat)
  case atStart => exact ⟨0, [], Nat.zero_le _, by omega, rfl, World.ownsRow_nil _ _ _ _, Below.refl _ _, FitsP.nil _, fun i hi => by omega⟩
  case round =>
    obtain ⟨k, xs, hk, hk', rfl, hown, hb, hfit, hxs⟩ := hrel
    have HF := Lib.hid hfit; have HXS := Lib.hid hxs; clear hfit hxs
    obtain ⟨A1, c1, rfl, hx1⟩ := own_reads hown
    have hx : RdI wr wr.heap.size A1 k xs := hx1
    obtain ⟨hc1, hA1⟩ := own_cap hown
    clear hx1
    by_cases hlt : k < n ∧ k + 1 < n'
    · obtain ⟨hlt1, hlt2⟩ := hlt
      obtain ⟨b, off, rfl, hbB⟩ := hr.addr hlt1
      have k0 : wr.cell? ⟨b, off + k, none⟩ = some (.int .i64 (at0 l k)) := (hb.cell (p := ⟨b, off + k, none⟩) hbB).trans (hr.all rfl k hlt1)
      have hlb := HB.out k hlt1
      generalize at0 l k = z at *
      have hr2 := hr'.over hb (Nat.le_refl _)
      go_wp2_with fail
      refine (pick_any z 2000 wr (by omega) (by omega) hlb.1 hlb.2).mono ?_
      rintro e w' ⟨r, hr0, hr1, rfl, rfl⟩
      clear k0 hlb
      obtain ⟨wo, rfl⟩ : ∃ wo : World, wo = wr := ⟨_, rfl⟩
      go_wp2_with fail
      go_loopw [7] (fun v wi => ∃ m : Int, v = .int .i64 m ∧ 0 ≤ m ∧ m ≤ 2000 ∧ Below wo.heap.size wo wi) (fun v _ => (intOf v).toNat)
      case atStart => exact ⟨r, rfl, hr0, by omega, Below.refl _ _⟩
      case round =>
        obtain ⟨m, rfl, hm0, hm1, hbi⟩ := hrel
        have hown2 := own_over hown hbi
        have hx2 := hx.over hbi (Nat.le_refl _)
        have hr3 := hr2.over hbi (Nat.le_refl _)
        have hbw := hb.trans (hbi.mono hb.size)
        obtain ⟨wj, rfl⟩ : ∃ wj : World, wj = wr := ⟨_, rfl⟩
        by_cases hmz : 0 < m
        · go_wp2_with (at_builtin; refine wpList_grow1 rfl _ _ _ Try.underlying22 rfl A1 k xs m hx2 rfl hA1 rfl (by omega) ?_; intro A2 c2 w2 hx3 hb2)
          have hbw2 := hbw.trans (hb2.mono hbw.size)
          have hbi2 := hbi.trans (hb2.mono hbi.size)
          have hown3 := own_over hown2 hb2
          have hr4 := hr3.over hb2 (Nat.le_refl _)
          have hxl := hx.len
          have HXL := Lib.hid hxl
          have hfb : ∀ i, i < k + 1 → 0 ≤ at0 (xs ++ [m]) i ∧ at0 (xs ++ [m]) i ≤ 2000 := fun i hi => by
            by_cases e : i = k
            · rw [e, ← hxl, at0_app_last]; omega
            · rw [at0_app_lt (by omega)]; exact HXS.out i (by omega)
          clear hxl hown2 hx2 hr3
          have HFB := Lib.hid hfb; clear hfb
          refine (fits_yes _ _ (k + 1) n' _ _ (xs ++ [m]) zs w2 hx3 hr4 hy (by omega) (fun i hi => by have := HFB.out i hi; omega)).mono ?_
          rintro e w3 ⟨rfl, ⟨hfit, rfl⟩ | ⟨_, rfl⟩⟩
          · have HFIT := Lib.hid hfit; clear hfit
            go_wp2_with (at_builtin; refine wpList_pushI rfl _ _ _ Try.underlying22 rfl w.heap.size _ k xs m hown3 rfl rfl (by omega) hbw2.size ?_; intro v' w4 hown' hg' hb')
            go_roundw
            case rel => exact ⟨k + 1, xs ++ [m], by omega, by omega, by go_num, hown', hbw2.trans hb', HFIT.out, HFB.out⟩
            case measure => simp [intOf]; omega
          · go_wp2_with fail
            go_roundw
            case rel => exact ⟨m / 2, rfl, by omega, by omega, hbi2⟩
            case measure => simp [intOf]; omega
        · obtain rfl : m = 0 := by omega
          have hxl := hx.len
          have hfit0 : FitsP (xs ++ [0]) zs := HF.out.more0 hy.up hy.lo (by have := HL'.out; omega)
          have hfb : ∀ i, i < k + 1 → 0 ≤ at0 (xs ++ [0]) i ∧ at0 (xs ++ [0]) i ≤ 2000 := fun i hi => by
            by_cases e : i = k
            · rw [e, ← hxl, at0_app_last]; omega
            · rw [at0_app_lt (by omega)]; exact HXS.out i (by omega)
          have HFIT := Lib.hid hfit0; have HFB := Lib.hid hfb
          clear hxl hfit0 hfb hx2 hr3
          go_wp2_with (at_builtin; refine wpList_pushI rfl _ _ _ Try.underlying22 rfl w.heap.size _ k xs 0 hown2 rfl rfl (by omega) hbw.size ?_; intro v' w4 hown' hg' hb')
          go_roundw
          case rel => exact ⟨k + 1, xs ++ [0], by omega, by omega, by go_num, hown', hbw.trans hb', HFIT.out, HFB.out⟩
          case measure => simp [intOf]; omega
    · by_cases hlt1 : k < n
      · have hlt2 : ¬ k + 1 < n' := by omega
        have g1 : (n' : Int) ≤ (k : Int) + 1 := by omega
        go_wp2_with fail
        go_ret
        exact ⟨A1, k, c1, xs, rfl, hc1, hA1, hb, hx, hk, by rw [HL'.out]; exact hk', HF.out, HXS.out⟩
      · go_wp2_with fail
        go_ret
        exact ⟨A1, k, c1, xs, rfl, hc1, hA1, hb, hx, hk, by rw [HL'.out]; exact hk', HF.out, HXS.out⟩
end Go.Proofs.Ytjjmfgoeabmfdaa
