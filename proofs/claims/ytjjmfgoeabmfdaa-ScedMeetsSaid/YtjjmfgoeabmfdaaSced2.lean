/-
  What sced.Fits and sced.due compute.
-/
import Derived.Test.YtjjmfgoeabmfdaaSced1
import Derived.Test.YtjjmfgoeabmfdaaRowI
import Derived.Test.YtjjmfgoeabmfdaaServe
import Derived.Test.YtjjmfgoeabmfdaaScedLaw
namespace Go.Proofs.Ytjjmfgoeabmfdaa
open Go.RowKit Crv
set_option linter.unusedVariables false

theorem first_at {g : Nat → Int} {x : Int} {n t : Nat} (ht : t < n) (h : x ≤ g t) (hu : ∀ u, u < t → g u < x) : Sced.first g x n = t := by
  rcases Sced.first_spec g x n with ⟨_, h2⟩ | ⟨u, h1, h2, h3, h4⟩
  · have := h2 t ht; omega
  · rw [h2]
    rcases Nat.lt_trichotomy u t with e | e | e
    · have := hu u e; omega
    · rw [e]
    · have := h4 t e; omega
theorem first_no {g : Nat → Int} {x : Int} {n : Nat} (hu : ∀ u, u < n → g u < x) : Sced.first g x n = -1 := by
  rcases Sced.first_spec g x n with ⟨h1, _⟩ | ⟨u, h1, h2, h3, h4⟩
  · exact h1
  · have := hu u h1; omega

/-- a list that is handed back -/
def ROut (w : World) (l : List Int) (e : Ending) (w' : World) : Prop :=
  ∃ A c, e = .returned (.slice A l.length c) ∧ Below w.heap.size w w' ∧ RdI w' w'.heap.size A l.length l ∧ ∀ ad, A = some ad → w.heap.size ≤ ad.block
theorem rOut_mk {w w' : World} {l : List Int} {e : Ending} {A : Option Addr} {k c : Nat} (he : e = .returned (.slice A k c)) (hk : l.length = k) (hb : Below w.heap.size w w') (hr : RdI w' w'.heap.size A k l) (hA : ∀ ad, A = some ad → w.heap.size ≤ ad.block) : ROut w l e w' := by
  subst hk
  exact ⟨A, c, he, hb, hr, hA⟩
theorem ROut.at_ {w w' : World} {l : List Int} {e : Ending} (h : ROut w l e w') {k : Nat} (hk : l.length = k) : ∃ A c, e = .returned (.slice A k c) ∧ Below w.heap.size w w' ∧ RdI w' w'.heap.size A k l ∧ ∀ ad, A = some ad → w.heap.size ≤ ad.block := by
  subst hk; exact h
/-- what comes, with nothing behind -/
def padded (xs : List Int) (n N : Nat) : List Int := xs ++ (List.replicate N (0 : Int)).drop n
theorem padded_at (xs : List Int) {n N : Nat} (hn : xs.length = n) (i : Nat) : at0 (padded xs n N) i = at0 xs i := by
  unfold padded at0
  rcases Nat.lt_or_ge i xs.length with h | h
  · simp [List.getD, List.getElem?_append_left h]
  · have e1 : xs[i]? = none := List.getElem?_eq_none h
    rw [show (xs ++ (List.replicate N (0 : Int)).drop n).getD i 0 = ((List.replicate N (0 : Int)).drop n).getD (i - xs.length) 0 from by simp [List.getD, List.getElem?_append_right h]]
    rw [show xs.getD i 0 = 0 from by simp [List.getD, e1]]
    simp only [List.getD, List.getElem?_drop, List.getElem?_replicate]
    split <;> rfl
theorem padded_sum (xs : List Int) {n N : Nat} (hn : xs.length = n) : ∀ t, sumTo (padded xs n N) t = sumTo xs t := by
  intro t
  induction t with
  | zero => rfl
  | succ t ih => show sumTo (padded xs n N) t + at0 (padded xs n N) t = sumTo xs t + at0 xs t; rw [ih, padded_at xs hn]
theorem padded_len (xs : List Int) {n N : Nat} (hn : xs.length = n) (h : n ≤ N) : (padded xs n N).length = N := by
  unfold padded
  simp; omega
/-- by when each cell is promised, of a flow -/
def dueF (xs zs : List Int) (T : Nat) (k : Nat) : Int := Sced.first (conv (sumTo xs) (at0 zs)) ((k : Int) + 1) (T + 1)
def fvV (f : FV) : Value := .agg #[.slice f.A f.n f.c, .slice f.A' f.n' f.c']

set_option maxHeartbeats 2000000 in
set_option maxRecDepth 100000 in
theorem due_yes (f : FV) (n0 T K : Nat) (w : World) (hx : RdI w w.heap.size f.A f.n f.xs) (hz : RdI w w.heap.size f.A' f.n' f.zs) (hok : FOk f n0) (hT1 : f.n ≤ T) (hT2 : T < f.n') (hK : sumTo f.xs f.n = K) :
    Calls Try.prog 46 #[fvV f, .int .i64 T] w (ROut w (tab K (dueF f.xs f.zs T))) := by
  obtain ⟨hzo, hln, hfar, hcome, hsum⟩ := hok
  clear hln
  obtain ⟨A1, n1, c1, xs, A2, n2, c2, zs⟩ := f
  dsimp only at hx hz hzo hfar hcome hsum hT1 hT2 hK ⊢
  unfold fvV
  dsimp only
  have hlx := hx.len; have hlz := hz.len
  have h201 := hzo.len
  rw [hlz] at h201
  have hK0 := hsum n1 (Nat.le_refl _)
  rw [hK] at hK0
  have hKb : K ≤ 100 := by omega
  have hx1 := rdI_new hx (.cells #[.slice A1 n1 c1, .slice A2 n2 c2] 42)
  have hz1 := rdI_new hz (.cells #[.slice A1 n1 c1, .slice A2 n2 c2] 42)
  have HLX := Lib.hid hlx; have HLZ := Lib.hid hlz; have HC := Lib.hid hcome; have HS := Lib.hid hsum; have HK := Lib.hid hK
  clear hlx hlz hcome hsum hK hK0 hx hz
  have hb1 : Below w.heap.size w (w.alloc (.cells #[.slice A1 n1 c1, .slice A2 n2 c2] 42)) := (Below.refl _ w).alloc (Nat.le_refl _) _
  have hk1 := Blk.new w 42 #[.slice A1 n1 c1, .slice A2 n2 c2]
  have hgw : w.heap.size < (w.alloc (.cells #[.slice A1 n1 c1, .slice A2 n2 c2] 42)).heap.size := by simp
  go_enter Try.func46, Try.ntmps46
  go_upto_region 2 with fail
  generalize (w.alloc (.cells #[.slice A1 n1 c1, .slice A2 n2 c2] 42)) = w1 at *
  go_upto_region 3 with (at_make; refine wpList_makeI rfl _ _ _ Try.underlying22 rfl (T + 1) _ _ rfl rfl (by omega) (by omega) (by omega) ?_; intro w2 hown hb2)
  have hk2 := hk1.below hb2 hgw
  have q0 : w2.cell? ⟨w.heap.size, 0, none⟩ = some (.slice A1 n1 c1) := hk2.cell 0
  have q1 : w2.cell? ⟨w.heap.size, 1, none⟩ = some (.slice A2 n2 c2) := hk2.cell 1
  have hx2 := hx1.over hb2 (Nat.le_refl _)
  go_wp2_with ((with_reducible refine wpList_copyI rfl _ _ _ _ Try.underlying22 rfl w1.heap.size w1.heap.size (T + 1) _ rfl hown A1 n1 c1 _ xs rfl hx2 (by omega) (by omega) w1 hb2 ?_); intro w3 hown3 hb3; have r0 : w3.cell? ⟨w.heap.size, 0, none⟩ = some (.slice A1 n1 c1) := (hk1.below hb3 hgw).cell 0; have r1 : w3.cell? ⟨w.heap.size, 1, none⟩ = some (.slice A2 n2 c2) := (hk1.below hb3 hgw).cell 1)
  clear hown hb2 hk2 q0 q1 hx2
  have hbw : Below w.heap.size w w3 := hb1.trans (hb3.mono (by omega))
  have hk3 := hk1.below hb3 hgw
  have hx3 := hx1.over hb3 (Nat.le_refl _); have hz3 := hz1.over hb3 (Nat.le_refl _)
  have hpad : RdI w3 w3.heap.size (some ⟨w1.heap.size, 0, none⟩) (T + 1) (padded xs n1 (T + 1)) := own_rd hown3
  clear hown3
  go_wp2_with fail
  refine (serve_yes _ _ (T + 1) n2 _ _ (padded xs n1 (T + 1)) zs w3 hpad hz3 hzo (by omega) (fun i _ => by
    rw [padded_at xs HLX.out]
    rcases Nat.lt_or_ge i n1 with h | h
    · have := HC.out i h; omega
    · have : at0 xs i = 0 := by simp [at0, List.getD, List.getElem?_eq_none (show xs.length ≤ i by have := HLX.out; omega)]
      omega)).mono ?_
  intro e w4 hpost
  obtain ⟨A4, c4, rfl, hb4, hby⟩ := hpost.at_ (k := T + 1) (by rw [serveL_length, padded_len xs HLX.out (by omega)])
  clear hpost
  have hbw4 := hbw.trans (hb4.mono hbw.size)
  have hk4 := hk3.below hb4 (by have := hb3.size; omega)
  have q0 : w4.cell? ⟨w.heap.size, 0, none⟩ = some (.slice A1 n1 c1) := hk4.cell 0
  have q1 : w4.cell? ⟨w.heap.size, 1, none⟩ = some (.slice A2 n2 c2) := hk4.cell 1
  have hx4 := hx3.over hb4 (Nat.le_refl _)
  have hat : ∀ t, t < T + 1 → at0 (serveL (padded xs n1 (T + 1)) zs) t = conv (sumTo xs) (at0 zs) t := fun t ht => by
    rw [serveL_at (by rw [padded_len xs HLX.out (by omega)]; exact ht)]
    exact conv_congr (fun s _ => padded_sum xs HLX.out s) (fun _ _ => rfl)
  generalize serveL (padded xs n1 (T + 1)) zs = by_ at hby hat
  have HAT := Lib.hid hat
  clear r0 r1
  clear hat hpad hx3 hz3 hx1 hz1 hb3 hb4 hbw hk3 hk1 hb1 hgw
  go_wp2_with fail
  go_loop [9, 35] (fun s i => ∃ k : Nat, k ≤ n1 ∧ i = .int .i64 k ∧ s = .int .i64 (sumTo xs k) ∧ 0 ≤ sumTo xs k ∧ sumTo xs k ≤ 100) (fun _ i => n1 - (intOf i).toNat)
  case atStart => exact ⟨0, Nat.zero_le _, rfl, rfl, Int.le_refl _, by show (0 : Int) ≤ 100; omega⟩
  case round =>
    obtain ⟨k, hk, rfl, rfl, hs0, hs1⟩ := hrel
    by_cases hlt : k < n1
    · obtain ⟨b, off, rfl, _⟩ := hx4.addr hlt
      have d0 : w4.cell? ⟨b, off + k, none⟩ = some (.int .i64 (at0 xs k)) := hx4.all rfl k hlt
      have hb := HC.out k hlt
      have hs := HS.out (k + 1) (by omega)
      have HE : Hid (sumTo xs (k + 1) = sumTo xs k + at0 xs k) := rfl
      rw [HE.out] at hs
      generalize at0 xs k = x at *
      go_wp2_with fail
      go_round
      case rel => exact ⟨k + 1, by omega, by go_num, by rw [HE.out], by rw [HE.out]; omega, by rw [HE.out]; omega⟩
      case measure => simp [intOf]; omega
    · obtain rfl : k = n1 := by omega
      rw [HK.out]
      clear hs0 hs1
      go_wp2_with fail
      go_loopw [5, 12] (fun v i wr => ∃ j : Nat, j ≤ K ∧ i = .int .i64 ((j : Int) + 1) ∧ wr.ownsRow w4.heap.size 3 1 v j ((tab j (dueF xs zs T)).map (Value.int .i64)) ∧ Below w4.heap.size w4 wr) (fun _ i _ => K + 1 - (intOf i).toNat)
      case atStart => exact ⟨0, Nat.zero_le _, rfl, World.ownsRow_nil _ _ _ _, Below.refl _ _⟩
      case round =>
        obtain ⟨j, hj, rfl, hown, hb5⟩ := hrel
        by_cases hjlt : j < K
        · have i1 : (j : Int) + 1 ≤ (K : Int) := by omega
          have hby5 := hby.over hb5 (Nat.le_refl _)
          obtain ⟨b, off, rfl, hbB⟩ := hby5.addr (show 0 < T + 1 by omega)
          go_wp2_with fail
          go_loop [13, 50] (fun v13 i => ∃ t : Nat, t ≤ T + 1 ∧ i = .int .i64 t ∧ v13 = .int .i64 (-1) ∧ ∀ u, u < t → conv (sumTo xs) (at0 zs) u < (j : Int) + 1) (fun _ i => T + 1 - (intOf i).toNat)
          case atStart => exact ⟨0, by omega, rfl, rfl, fun u hu => by omega⟩
          case round =>
            obtain ⟨t, ht, rfl, rfl, hall⟩ := hrel
            have HALL := Lib.hid hall; clear hall
            by_cases htlt : t < T + 1
            · have d0 : wr.cell? ⟨b, off + t, none⟩ = some (.int .i64 (at0 by_ t)) := hby5.all rfl t htlt
              rw [HAT.out t htlt] at d0
              have hsum1 : dueF xs zs T j = dueF xs zs T j := rfl
              by_cases hc : (j : Int) + 1 ≤ conv (sumTo xs) (at0 zs) t
              · have hd : Hid (dueF xs zs T j = t) := first_at htlt hc HALL.out
                generalize conv (sumTo xs) (at0 zs) t = x at *
                go_wp2_with (at_builtin; refine wpList_pushI rfl _ _ _ Try.underlying22 rfl w4.heap.size _ j _ (t : Int) hown rfl rfl (by omega) hb5.size ?_; intro v' w' hown' hg' hb')
                go_roundw
                case rel =>
                  refine ⟨j + 1, by omega, by go_num, ?_, hb5.trans hb'⟩
                  rw [tab_succ, hd.out]; exact hown'
                case measure => simp [intOf]; omega
              · have hc' : conv (sumTo xs) (at0 zs) t < (j : Int) + 1 := by omega
                have HC' := Lib.hid hc'
                generalize hgx : conv (sumTo xs) (at0 zs) t = x at d0 hc hc'
                have HGX := Lib.hid hgx; clear hgx
                go_wp2_with fail
                go_round
                case rel => exact ⟨t + 1, by omega, by go_num, rfl, fun u hu => by
                  by_cases e : u = t
                  · rw [e]; exact HC'.out
                  · exact HALL.out u (by omega)⟩
                case measure => simp [intOf]; omega
            · obtain rfl : t = T + 1 := by omega
              have hd : Hid (dueF xs zs T j = -1) := first_no HALL.out
              go_wp2_with (at_builtin; refine wpList_pushI rfl _ _ _ Try.underlying22 rfl w4.heap.size _ j _ (-1 : Int) hown rfl rfl (by omega) hb5.size ?_; intro v' w' hown' hg' hb')
              go_roundw
              case rel =>
                refine ⟨j + 1, by omega, by go_num, ?_, hb5.trans hb'⟩
                rw [tab_succ, hd.out]; exact hown'
              case measure => simp [intOf]; omega
        · obtain rfl : j = K := by omega
          have hlt5 := hown.lt
          obtain ⟨A5, c5, rfl, hrd⟩ := own_reads hown
          have hA5 : ∀ ad, A5 = some ad → w.heap.size ≤ ad.block := fun ad e => by
            subst e
            have := (hlt5 ad.block rfl).1
            have := hbw4.size
            omega
          have hbb := hbw4.trans (hb5.mono hbw4.size)
          go_wp2_with fail
          go_ret
          exact rOut_mk rfl (tab_length _ _) hbb hrd hA5
end Go.Proofs.Ytjjmfgoeabmfdaa
