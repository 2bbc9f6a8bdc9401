/-
  Pairs sorted: the comparison of sketch.sorted; slices.SortFunc over pairs leaves a permutation.
-/
import Derived.Test.YtdddpdhjkeanmaaSkShelf
import Derived.Test.YtdddpdhjkeanmaaChg
import Derived.Test.YtdddpdhjkeanmaaRec
import Derived.Deep.RegionLaw
namespace Go.Proofs.Ytdddpdhjkeanmaa
open Go.RowKit Go.Sort Go.Shelf
set_option linter.unusedVariables false
def encPr (p : Int × Int) : List Value := [.int .i64 p.1, .int .i64 p.2]
def PrR : Rec (Int × Int) := ⟨2, encPr, fun _ => rfl, by decide, (0, 0)⟩
theorem pr_one (p : Int × Int) : ∀ u ∈ encPr p, u.oneCell' = true := by
  intro u hu
  simp [encPr] at hu
  rcases hu with rfl | rfl <;> rfl
def cmpI (x y : Int) : Int := if x < y then -1 else if y < x then 1 else 0
def orI (x y : Int) : Int := if x = 0 then y else x
def prCmp (a b : Int × Int) : Int := orI (cmpI b.2 a.2) (cmpI a.1 b.1)
theorem pr_lt (a b : Int × Int) : ltOf prCmp a b = decide (b.2 < a.2 ∨ (b.2 = a.2 ∧ a.1 < b.1)) := by
  unfold ltOf prCmp orI cmpI
  by_cases h1 : b.2 < a.2
  · simp [h1]
  · by_cases h2 : a.2 < b.2
    · have : ¬ b.2 = a.2 := by omega
      simp [h1, h2, this]
    · have : b.2 = a.2 := by omega
      by_cases h3 : a.1 < b.1
      · simp [h3, this]
      · by_cases h4 : b.1 < a.1
        · simp [h3, h4, this]
        · simp [h3, h4, this]
theorem pr_swo : SWO (ltOf prCmp) where
  irrefl x := by rw [pr_lt]; simp
  trans x y z h1 h2 := by rw [pr_lt] at *; simp at *; omega
  ntrans x y z h1 h2 := by rw [pr_lt] at *; simp at *; omega
set_option maxRecDepth 100000 in
theorem cmp_any (x y : Int) (w : World) : Calls Try.prog 19 #[.int .i64 x, .int .i64 y] w fun e w' => e = .returned (.int .i64 (cmpI x y)) ∧ w' = w := by
  have hn : ∀ x w, Calls Try.prog 22 #[.int .i64 x] w fun e w' => e = .returned (.bool false) ∧ w' = w := fun x w => by
    go_enter Try.func22, Try.ntmps22
    go_wp2_with fail
    go_ret
    exact ⟨rfl, rfl⟩
  have HN := Lib.hid hn; clear hn
  by_cases h1 : x < y
  · have e : cmpI x y = -1 := by unfold cmpI; rw [if_pos h1]
    have d1 : decide (x < y) = true := decide_eq_true h1
    rw [e]; clear e
    go_enter Try.func19, Try.ntmps19
    go_wp2_with (go_at_call 22; (with_reducible refine (HN.out _ _).mono ?_); rintro e w' ⟨rfl, rfl⟩)
    go_ret
    exact ⟨rfl, rfl⟩
  · have d1 : decide (x < y) = false := decide_eq_false h1
    by_cases h2 : y < x
    · have e : cmpI x y = 1 := by unfold cmpI; rw [if_neg h1, if_pos h2]
      have d2 : decide (y < x) = true := decide_eq_true h2
      rw [e]; clear e
      go_enter Try.func19, Try.ntmps19
      go_wp2_with (go_at_call 22; (with_reducible refine (HN.out _ _).mono ?_); rintro e w' ⟨rfl, rfl⟩)
      go_ret
      exact ⟨rfl, rfl⟩
    · have e : cmpI x y = 0 := by unfold cmpI; rw [if_neg h1, if_neg h2]
      have d2 : decide (y < x) = false := decide_eq_false h2
      rw [e]; clear e
      go_enter Try.func19, Try.ntmps19
      go_wp2_with (go_at_call 22; (with_reducible refine (HN.out _ _).mono ?_); rintro e w' ⟨rfl, rfl⟩)
      go_ret
      exact ⟨rfl, rfl⟩
set_option maxRecDepth 100000 in
theorem or_any (x y : Int) (g : Nat) (w : World) (h0 : w.cell? ⟨g, 0, none⟩ = some (.int .i64 x)) (h1 : w.cell? ⟨g, 1, none⟩ = some (.int .i64 y)) :
    Calls Try.prog 18 #[.slice (some ⟨g, 0, none⟩) 2 2] w fun e w' => e = .returned (.int .i64 (orI x y)) ∧ w' = w := by
  by_cases hx : x = 0
  · have e : orI x y = y := by unfold orI; rw [if_pos hx]
    rw [e]; clear e
    subst hx
    by_cases hy : y = 0
    · subst hy
      go_enter Try.func18, Try.ntmps18
      go_wp2_with fail
      go_loopw [5, 8] (fun _ i wr => ∃ k : Nat, k ≤ 2 ∧ i = .int .i64 k ∧ wr = w) (fun _ i _ => 2 - (intOf i).toNat)
      case atStart => exact ⟨0, by omega, rfl, rfl⟩
      case round =>
        obtain ⟨k, hk, rfl, rfl⟩ := hrel
        by_cases h2 : k < 2
        · have ik : (k : Int) < 2 := by omega
          have hc : wr.cell? ⟨g, k, none⟩ = some (.int .i64 0) := by
            rcases (show k = 0 ∨ k = 1 by omega) with rfl | rfl
            · exact h0
            · exact h1
          clear h0 h1
          go_wp2_with fail
          exact ⟨⟨k + 1, by omega, by go_num, by first | rfl | trivial⟩, by simp [intOf]; omega⟩
        · obtain rfl : k = 2 := by omega
          go_wp2_with fail
          go_ret
          exact ⟨rfl, rfl⟩
    · have dy : (y == 0) = false := by simpa using hy
      go_enter Try.func18, Try.ntmps18
      go_wp2_with fail
      go_loopw [5, 8] (fun _ i wr => ∃ k : Nat, k ≤ 1 ∧ i = .int .i64 k ∧ wr = w) (fun _ i _ => 2 - (intOf i).toNat)
      case atStart => exact ⟨0, by omega, rfl, rfl⟩
      case round =>
        obtain ⟨k, hk, rfl, rfl⟩ := hrel
        by_cases h2 : k = 0
        · subst h2
          go_wp2_with fail
          exact ⟨⟨1, by omega, by go_num, by first | rfl | trivial⟩, by simp [intOf]⟩
        · obtain rfl : k = 1 := by omega
          go_wp2_with fail
          go_ret
          exact ⟨rfl, rfl⟩
  · have e : orI x y = x := by unfold orI; rw [if_neg hx]
    have dx : (x == 0) = false := by simpa using hx
    rw [e]; clear e
    go_enter Try.func18, Try.ntmps18
    go_wp2_with fail
    go_loopw [5, 8] (fun _ i wr => i = .int .i64 0 ∧ wr = w) (fun _ i _ => 2 - (intOf i).toNat)
    case atStart => exact ⟨rfl, rfl⟩
    case round =>
      obtain ⟨rfl, rfl⟩ := hrel
      go_wp2_with fail
      go_ret
      exact ⟨rfl, rfl⟩
set_option maxHeartbeats 1000000 in
set_option maxRecDepth 100000 in
theorem closure_any (a b : Int × Int) (W : World) : Calls Try.prog 17 #[.agg #[.int .i64 a.1, .int .i64 a.2], .agg #[.int .i64 b.1, .int .i64 b.2]] W fun e w' => e = .returned (.int .i64 (prCmp a b)) ∧ ∃ q os', w' = grow (W.drewN q) os' := by
  have hc := fun x y w => cmp_any x y w
  have ho := fun x y g w h0 h1 => or_any x y g w h0 h1
  have HC := Lib.hid hc; have HO := Lib.hid ho
  clear hc ho
  obtain ⟨ak, am⟩ := a
  obtain ⟨bk, bm⟩ := b
  have e : prCmp (ak, am) (bk, bm) = orI (cmpI bm am) (cmpI ak bk) := rfl
  rw [e]; clear e
  dsimp only
  generalize h1 : cmpI bm am = c1
  generalize h2 : cmpI ak bk = c2
  have H1 := Lib.hid (fun w => h1 ▸ HC.out bm am w); have H2 := Lib.hid (fun w => h2 ▸ HC.out ak bk w)
  have h3 : Calls Try.prog 18 #[.slice (some ⟨W.heap.size + 1 + 1, 0, none⟩) 2 2] (((W.alloc (.cells #[.int .i64 ak, .int .i64 am] 32)).alloc (.cells #[.int .i64 bk, .int .i64 bm] 32)).alloc (.cells #[.int .i64 c1, .int .i64 c2] 3)).drew
      fun e w' => e = .returned (.int .i64 (orI c1 c2)) ∧ w' = (((W.alloc (.cells #[.int .i64 ak, .int .i64 am] 32)).alloc (.cells #[.int .i64 bk, .int .i64 bm] 32)).alloc (.cells #[.int .i64 c1, .int .i64 c2] 3)).drew := by
    have hb := (Blk.new ((W.alloc (.cells #[.int .i64 ak, .int .i64 am] 32)).alloc (.cells #[.int .i64 bk, .int .i64 bm] 32)) 3 #[.int .i64 c1, .int .i64 c2]).drew
    have hs : ((W.alloc (.cells #[.int .i64 ak, .int .i64 am] 32)).alloc (.cells #[.int .i64 bk, .int .i64 bm] 32)).heap.size = W.heap.size + 1 + 1 := by simp
    rw [hs] at hb
    exact HO.out c1 c2 _ _ (hb.cell 0) (hb.cell 1)
  have H3 := Lib.hid h3
  clear HC HO h1 h2 h3
  go_enter Try.func17, Try.ntmps17
  go_wp2_with fail
  go_region_law ((go_simp; first | (go_at_call 19; first | ((with_reducible refine (H1.out _).mono ?_); rintro e w' ⟨rfl, rfl⟩) | ((with_reducible refine (H2.out _).mono ?_); rintro e w' ⟨rfl, rfl⟩)) | (go_at_call 18; (with_reducible refine H3.out.mono ?_); rintro e w' ⟨rfl, rfl⟩)))
  all_goals
    go_wp2_with fail
    go_ret
    exact ⟨rfl, 1, _, by rw [alloc_eq_grow, alloc_eq_grow, alloc_eq_grow, grow_grow, grow_grow]; rfl⟩
theorem cmpLays_pr (blk off size : Nat) (w : World) : CmpLays Try.prog 17 #[] encPr 2 prCmp blk off size w :=
  fun _ _ _ _ x y => closure_any x y _
end Go.Proofs.Ytdddpdhjkeanmaa
