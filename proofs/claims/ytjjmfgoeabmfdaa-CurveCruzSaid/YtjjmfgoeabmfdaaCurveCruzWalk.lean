/-
  The walk of the law CurveCruz: it returns true, and leaves all that was there.
-/
import Derived.Test.YtjjmfgoeabmfdaaCome
import Derived.Test.YtjjmfgoeabmfdaaCurveOnceWalk
namespace Go.Proofs.Ytjjmfgoeabmfdaa
open Go.RowKit Crv
set_option linter.unusedVariables false

theorem drewN_below (w : World) (q : Nat) : Below w.heap.size w (w.drewN q) := ⟨rfl, rfl, rfl, Nat.le_refl _, fun _ _ => rfl⟩
/-- what has gone by each tick, a tick more than what came -/
structure Gone (X a b out Y : List Int) (K : Nat) (bl : Int) : Prop where
  back : ∀ t, t ≤ K → sumTo X t - at0 Y t ≤ bl
  less : ∀ t, t ≤ K → at0 Y t ≤ sumTo X t
  behind : ∀ s t, s ≤ t → t ≤ K → t - s < out.length → at0 Y t - at0 Y s ≤ at0 out (t - s)
  bd : ∀ t, t ≤ K → 0 ≤ at0 Y t ∧ at0 Y t ≤ 100000
  delay : ∀ d t, IsDelay a b d → t + d ≤ K → sumTo X t ≤ at0 Y (t + d)
theorem gone_of {X a b : List Int} {K : Nat} (hK : X.length = K) (hf : FitsP X a) (hx : ∀ i, i < K → 0 ≤ at0 X i ∧ at0 X i ≤ 2000) (hK2 : K ≤ 40) (ha : K + 1 ≤ a.length) (hb : K + 1 ≤ b.length) (ha0 : at0 a 0 = 0) (hb0 : at0 b 0 = 0) (gb : Okay b) :
    Gone X a b (behindL a b) (serveL (X ++ [0]) b) K (backlog a b) := by
  have hlen : (X ++ [(0 : Int)]).length = K + 1 := by simp [hK]
  have e1 : ∀ k, k ≤ K → sumTo (X ++ [0]) k = sumTo X k := fun k hk => sumTo_congr k fun i hi => at0_app_lt (by omega)
  have e2 : ∀ t, t ≤ K → at0 (serveL (X ++ [0]) b) t = conv (sumTo X) (at0 b) t := fun t ht => by
    rw [serveL_at (by omega)]
    exact conv_congr (fun s hs => e1 s (by omega)) (fun _ _ => rfl)
  have hx0 : ∀ i, i < X.length → 0 ≤ at0 X i := fun i hi => (hx i (by omega)).1
  have hless : ∀ t, t ≤ K → conv (sumTo X) (at0 b) t ≤ sumTo X t := fun t ht => by
    have := conv_le (sumTo X) (at0 b) t t (by omega)
    rw [show t - t = 0 from by omega, hb0] at this
    omega
  refine ⟨fun t ht => ?_, fun t ht => ?_, fun s t hst ht hl => ?_, fun t ht => ?_, fun d t hd ht => ?_⟩
  · rw [e2 t ht]; exact cruz_back hf (by omega) (by omega) ha0 (by omega)
  · rw [e2 t ht]; exact hless t ht
  · rw [e2 t ht, e2 s (by omega)]; exact cruz_behind hf (by omega) (by omega) ha0 hb0 hst (by omega) hl
  · have h1 := serveL_nonneg (xs := X ++ [0]) (b := b) (t := t) (fun i hi => by
      by_cases e : i < X.length
      · rw [at0_app_lt e]; exact hx0 i e
      · obtain rfl : i = X.length := by omega
        rw [at0_app_last]; omega) gb.lo (by omega) (by omega)
    rw [e2 t ht] at h1 ⊢
    have h2 := hless t ht
    have h3 := (sumTo_bd X 2000 t fun i hi => hx i (by omega)).2
    omega
  · rw [e2 _ ht]; exact cruz_delay hf hx0 (by omega) (by omega) ha0 gb hd (by omega)
theorem backlog_bd {a b : List Int} (ha : ∀ i, i < a.length → 0 ≤ at0 a i ∧ at0 a i ≤ 1000000000000) (hb : ∀ i, i < b.length → 0 ≤ at0 b i) : 0 ≤ backlog a b ∧ backlog a b ≤ 1000000000000 :=
  backTo_bd (at0 a) (at0 b) _ (by omega) _ fun s hs => by
    have := ha s (by omega); have := hb s (by omega); omega
theorem behindL_bd {a b : List Int} (ha : ∀ i, i < a.length → 0 ≤ at0 a i ∧ at0 a i ≤ 1000000000000) (hb : ∀ i, i < b.length → 0 ≤ at0 b i) (i : Nat) : 0 ≤ at0 (behindL a b) i ∧ at0 (behindL a b) i ≤ 1000000000000 := by
  by_cases h : i < (min a.length b.length + 1) / 2
  · unfold behindL
    rw [at0_tab h]
    exact bhTo_bd _ _ _ _ (by omega) _ fun s hs => by
      have := ha (i + s) (by omega); have := hb s (by omega); omega
  · rw [at0_none (by rw [behindL_length]; omega)]; omega

set_option maxHeartbeats 2000000 in
set_option maxRecDepth 100000 in
theorem curveCruz_core (a0 a1 a2 : Option Addr) (n0 c0 n1 c1 n2 c2 : Nat) (a b l : List Int) (w : World) (ha : RdI w w.heap.size a0 n0 a) (hb : RdI w w.heap.size a1 n1 b) (hl : RdI w w.heap.size a2 n2 l)
    (hbd : ∀ i, -9223372036854775808 ≤ at0 l i ∧ at0 l i ≤ 9223372036854775807) :
    Calls Try.prog 7 #[.slice a0 n0 c0, .slice a1 n1 c1, .slice a2 n2 c2] w fun e w' => e = .returned (.bool true) ∧ Below w.heap.size w w' := by
  have HBD := Lib.hid hbd; clear hbd
  by_cases h30 : 30 < n2
  · have h30' : decide (30 < n2) = true := by simpa using h30
    go_enter Try.func7, Try.ntmps7
    go_wp2_with fail
    refine (curved_any w).mono ?_
    rintro e w1 ⟨rfl, hb1⟩
    go_wp2_with fail
    go_ret
    exact ⟨rfl, hb1⟩
  · have h30' : decide (30 < n2) = false := by simpa using h30
    go_enter Try.func7, Try.ntmps7
    go_wp2_with fail
    refine (curved_any w).mono ?_
    rintro e w1 ⟨rfl, hb1⟩
    replace hl := hl.over hb1 (Nat.le_refl _); replace hb := hb.over hb1 (Nat.le_refl _); replace ha := ha.over hb1 (Nat.le_refl _)
    go_wp2_with fail
    refine (lines_any 60 w1.heap.size 2 2 [a, b] _ (rdll2 _ ha hb) rfl (by omega)).mono ?_
    rintro e w2 ⟨rfl, ⟨hf, rfl⟩ | ⟨_, rfl⟩⟩
    · have hf0 : Fine 60 a := hf 0 (by simp)
      have hf1 : Fine 60 b := hf 1 (by simp)
      clear hf
      have hbw := hb1.alloc hb1.size (.cells #[.slice a0 n0 c0, .slice a1 n1 c1] 22)
      replace hl := hl.new (.cells #[.slice a0 n0 c0, .slice a1 n1 c1] 22)
      replace hb := hb.new (.cells #[.slice a0 n0 c0, .slice a1 n1 c1] 22)
      replace ha := ha.new (.cells #[.slice a0 n0 c0, .slice a1 n1 c1] 22)
      clear hb1
      generalize w1.alloc (.cells #[.slice a0 n0 c0, .slice a1 n1 c1] 22) = w2 at *
      have la := ha.len; have lb := hb.len
      have p0 := hf0.2.1.pos; have p1 := hf1.2.1.pos
      have q0 := hf0.1; have q1 := hf1.1
      rw [la] at p0 q0; rw [lb] at p1 q1
      have HA := Lib.hid la; have HB := Lib.hid lb; clear la lb
      obtain ⟨ba, oa, rfl, _⟩ := ha.addr (show 0 < n0 by omega)
      obtain ⟨bb, ob, rfl, _⟩ := hb.addr (show 0 < n1 by omega)
      have ka : w2.cell? ⟨ba, oa, none⟩ = some (.int .i64 (at0 a 0)) := ha.first (by omega)
      have kb : w2.cell? ⟨bb, ob, none⟩ = some (.int .i64 (at0 b 0)) := hb.first (by omega)
      have i1 : (0 : Int) < (n0 : Int) := by omega
      have i2 : (0 : Int) < (n1 : Int) := by omega
      generalize hx : at0 a 0 = x at *
      generalize hy : at0 b 0 = y at *
      have HX := Lib.hid hx; have HY := Lib.hid hy; clear hx hy
      by_cases hy0 : y = 0
      · by_cases hx0 : x = 0
        · subst hx0 hy0
          go_upto_region 3 with (fail)
          clear ka kb
          have oka := hf0.2.1; have okb := hf1.2.1
          clear hf0 hf1
          go_wp2_with fail
          refine (come_yes _ _ n2 n0 _ _ l a w2 hl ha oka (by omega) (fun i _ => HBD.out i)).mono ?_
          rintro e w3 ⟨A3, k, c3, xs, rfl, hkc, hkn, hb3, hxs, hk30, hka, hfit, hxb⟩
          replace ha := ha.over hb3 (Nat.le_refl _); replace hb := hb.over hb3 (Nat.le_refl _)
          replace hbw := hbw.trans (hb3.mono hbw.size); clear hb3 hl
          rw [HA.out] at hka
          have HFIT := Lib.hid hfit; have HXB := Lib.hid hxb; clear hfit hxb
          obtain ⟨K, hK⟩ : ∃ K, K = min k (n1 - 1) := ⟨_, rfl⟩
          have HK := Lib.hid hK; clear hK
          go_upto_if 59 with (fail)
          go_cut [7] (fun v wx => v = .slice A3 K c3 ∧ wx = w3)
          case first =>
            by_cases hcut : n1 - 1 < k
            · obtain ⟨M, rfl⟩ : ∃ M, n1 = M + 1 := ⟨n1 - 1, by omega⟩
              have hM : M < k := by omega
              have hM2 : M ≤ c3 := by omega
              have he : K = M := by have := HK.out; omega
              subst he
              clear hcut
              go_wp2_with fail
              all_goals
                go_meet
                first
                  | exact ⟨rfl, rfl⟩
                  | (obtain rfl : K = 0 := by omega
                     exact ⟨rfl, rfl⟩)
            · have he : K = k := by have := HK.out; omega
              subst he
              go_wp2_with fail
              go_meet
              exact ⟨rfl, rfl⟩
          case rest =>
            obtain ⟨rfl, rfl⟩ := hcut
            have hKk : K ≤ k := by have := HK.out; omega
            have hK1 : K + 1 ≤ n1 := by have := HK.out; omega
            have hK0 : K + 1 ≤ n0 := by omega
            have hK30 : K ≤ 30 := by omega
            have hKc : K ≤ c3 := by omega
            replace hxs := hxs.cut hKk
            have hKn : A3 = none → K = 0 := fun h => by have := hkn h; omega
            have hxl := hxs.len
            have hXB : ∀ i, i < K → 0 ≤ at0 (xs.take K) i ∧ at0 (xs.take K) i ≤ 2000 := fun i hi => by rw [at0_take hi]; exact HXB.out i (by omega)
            have hG := gone_of hxl (HFIT.out.cut K) hXB (by omega) (by rw [HA.out]; exact hK0) (by rw [HB.out]; exact hK1) HX.out HY.out okb
            generalize xs.take K = X at hxs hXB hG hxl
            have HXX := Lib.hid hXB; have HG := Lib.hid hG; have HXL := Lib.hid hxl
            clear hXB hG hkn hkc hxl
            go_wp2_with (at_builtin; refine wpList_grow1 rfl _ _ _ Try.underlying22 rfl A3 K X 0 hxs rfl hKn rfl (by omega) ?_; intro A4 c4 w4 hx4 hb4)
            have hxw := hxs.over hb4 (Nat.le_refl _); replace ha := ha.over hb4 (Nat.le_refl _); replace hb := hb.over hb4 (Nat.le_refl _)
            replace hbw := hbw.trans (hb4.mono hbw.size); clear hb4 hxs
            refine (serve_yes _ _ (K + 1) n1 _ _ (X ++ [0]) b w4 hx4 hb okb hK1 (fun i hi => by
              have h0 := HXL.out
              by_cases e : i = K
              · rw [e, ← h0, at0_app_last]; omega
              · rw [at0_app_lt (by omega)]; have := HXX.out i (by omega); omega)).mono ?_
            intro e w5 hpost
            obtain ⟨A5, c5, rfl, hb5, hby⟩ := hpost.at_ (k := K + 1) (by rw [serveL_length, List.length_append, HXL.out]; rfl)
            clear hpost hx4
            replace hxw := hxw.over hb5 (Nat.le_refl _); replace ha := ha.over hb5 (Nat.le_refl _); replace hb := hb.over hb5 (Nat.le_refl _)
            replace hbw := hbw.trans (hb5.mono hbw.size); clear hb5
            go_wp2_with fail
            refine (backlog_yes _ _ n0 n1 _ _ a b w5 ha hb oka okb).mono ?_
            rintro e w6 ⟨rfl, hb6⟩
            replace hxw := hxw.over hb6 (Nat.le_refl _); replace ha := ha.over hb6 (Nat.le_refl _); replace hb := hb.over hb6 (Nat.le_refl _); replace hby := hby.over hb6 (Nat.le_refl _)
            replace hbw := hbw.trans (hb6.mono hbw.size); clear hb6
            go_wp2_with fail
            refine (behind_yes _ _ n0 n1 _ _ a b w6 ha hb oka okb).mono ?_
            rintro e w7 ⟨A7, c7, rfl, hb7, hout⟩
            replace hxw := hxw.over hb7 (Nat.le_refl _); replace ha := ha.over hb7 (Nat.le_refl _); replace hb := hb.over hb7 (Nat.le_refl _); replace hby := hby.over hb7 (Nat.le_refl _)
            replace hbw := hbw.trans (hb7.mono hbw.size); clear hb7
            have hbl := backlog_bd (a := a) (b := b) (fun i hi => oka.bd hi) okb.lo
            have hol := behindL_bd (a := a) (b := b) (fun i hi => oka.bd hi) okb.lo
            generalize hz1 : backlog a b = bl at *
            generalize hz2 : serveL (X ++ [0]) b = Y at *
            have hol2 := behindL_length a b
            generalize hz3 : behindL a b = O at *
            generalize hz4 : O.length = M at *
            have hM : M ≤ 60 := by have := HA.out; omega
            have HOB := Lib.hid hol; have HOM := Lib.hid hz4
            clear hz1 hz2 hz3 hz4 hol hol2
            obtain ⟨bl1, bl2⟩ := hbl
            go_wp2_with fail
            go_loopw [14, 15] (fun m i wr => ∃ t q : Nat, t ≤ K + 1 ∧ i = .int .i64 t ∧ m = .int .i64 (sumTo X (min t K)) ∧ wr = w7.drewN q)
              (fun _ i _ => K + 1 - (intOf i).toNat)
            case atStart => exact ⟨0, 0, by omega, rfl, by rw [Nat.zero_min]; rfl, rfl⟩
            case round =>
              obtain ⟨t, q, ht, rfl, rfl, rfl⟩ := hrel
              by_cases htk : t ≤ K
              · rw [show min t K = t from by omega]
                obtain ⟨b5, o5, rfl, _⟩ := hby.addr (show 0 < K + 1 by omega)
                have k5 : w7.cell? ⟨b5, o5 + t, none⟩ = some (.int .i64 (at0 Y t)) := hby.all rfl t (by omega)
                have f1 := HG.out.back t htk
                have f2 := HG.out.less t htk
                have f3 := HG.out.bd t htk
                have hs0 := sumTo_bd X 2000 t fun i hi => HXX.out i (by omega)
                have hs1 : 0 ≤ sumTo X t ∧ sumTo X t ≤ 100000 := by omega
                clear hs0
                generalize hS : sumTo X t = S at *
                generalize hyt : at0 Y t = yt at *
                have HS := Lib.hid hS; have HYT := Lib.hid hyt; clear hS hyt
                have g1 : (t : Int) < (K : Int) + 1 := by omega
                go_wp2_with fail
                go_loopw [16] (fun s wi => ∃ j p : Nat, j ≤ t + 1 ∧ s = .int .i64 j ∧ wi = w7.drewN p) (fun s _ => t + 1 - (intOf s).toNat)
                case atStart => exact ⟨0, q, by omega, rfl, rfl⟩
                case round =>
                  obtain ⟨j, p, hj, rfl, rfl⟩ := hrel
                  by_cases hjt : j ≤ t
                  · by_cases hjM : t - j < M
                    · obtain ⟨b7, o7, rfl, _⟩ := hout.addr hjM
                      have k6 : w7.cell? ⟨b5, o5 + j, none⟩ = some (.int .i64 (at0 Y j)) := hby.all rfl j (by omega)
                      have k7 : w7.cell? ⟨b7, o7 + (t - j), none⟩ = some (.int .i64 (at0 O (t - j))) := hout.all rfl (t - j) hjM
                      have f4 := HG.out.behind j t hjt htk (by rw [HOM.out]; exact hjM)
                      rw [HYT.out] at f4
                      have f5 := HG.out.bd j (by omega)
                      have f6 := HOB.out (t - j)
                      generalize at0 Y j = yj at *
                      generalize at0 O (t - j) = ot at *
                      have j1 : (j : Int) ≤ (t : Int) := by omega
                      have j2 : (t : Int) - (j : Int) < (M : Int) := by omega
                      have j3 : 0 ≤ (t : Int) - (j : Int) := by omega
                      have j4 : ((t : Int) - (j : Int)).toNat = t - j := by omega
                      have j5 : (j : Int) < (K : Int) + 1 := by omega
                      go_wp2_with fail
                      go_quiet (fail)
                      go_wp2_with fail
                      go_roundw
                      case rel => exact ⟨j + 1, _, by omega, by go_num, rfl⟩
                      case measure => simp [intOf]; omega
                    · have j1 : (j : Int) ≤ (t : Int) := by omega
                      have j2 : (M : Int) ≤ (t : Int) - (j : Int) := by omega
                      by_cases htK : t < K
                      · obtain ⟨b3, o3, rfl, _⟩ := hxw.addr htK
                        have k3 : w7.cell? ⟨b3, o3 + t, none⟩ = some (.int .i64 (at0 X t)) := hxw.all rfl t htK
                        have hxt := HXX.out t htK
                        have HS2 : Hid (sumTo X (min (t + 1) K) = S + at0 X t) := by rw [show min (t + 1) K = t + 1 from by omega, ← HS.out]; rfl
                        generalize at0 X t = xt at *
                        go_wp2_with fail
                        go_roundw
                        case rel => exact ⟨t + 1, _, by omega, by go_num, by rw [HS2.out], rfl⟩
                        case measure => simp [intOf]; omega
                      · have HS2 : Hid (sumTo X (min (t + 1) K) = S) := by rw [show min (t + 1) K = t from by omega]; exact HS.out
                        go_wp2_with fail
                        go_roundw
                        case rel => exact ⟨t + 1, _, by omega, by go_num, by rw [HS2.out], rfl⟩
                        case measure => simp [intOf]; omega
                  · obtain rfl : j = t + 1 := by omega
                    by_cases htK : t < K
                    · obtain ⟨b3, o3, rfl, _⟩ := hxw.addr htK
                      have k3 : w7.cell? ⟨b3, o3 + t, none⟩ = some (.int .i64 (at0 X t)) := hxw.all rfl t htK
                      have hxt := HXX.out t htK
                      have HS2 : Hid (sumTo X (min (t + 1) K) = S + at0 X t) := by rw [show min (t + 1) K = t + 1 from by omega, ← HS.out]; rfl
                      generalize at0 X t = xt at *
                      go_wp2_with fail
                      go_roundw
                      case rel => exact ⟨t + 1, _, by omega, by go_num, by rw [HS2.out], rfl⟩
                      case measure => simp [intOf]; omega
                    · have HS2 : Hid (sumTo X (min (t + 1) K) = S) := by rw [show min (t + 1) K = t from by omega]; exact HS.out
                      go_wp2_with fail
                      go_roundw
                      case rel => exact ⟨t + 1, _, by omega, by go_num, by rw [HS2.out], rfl⟩
                      case measure => simp [intOf]; omega
              · obtain rfl : t = K + 1 := by omega
                rw [show min (K + 1) K = K from by omega]
                have ha' : RdI (w7.drewN q) (w7.drewN q).heap.size _ n0 a := ha
                have hb' : RdI (w7.drewN q) (w7.drewN q).heap.size _ n1 b := hb
                have hby' : RdI (w7.drewN q) (w7.drewN q).heap.size _ (K + 1) Y := hby
                have hxw' : RdI (w7.drewN q) (w7.drewN q).heap.size _ K X := hxw
                have hbw' := hbw.trans ((drewN_below w7 q).mono hbw.size)
                clear ha hb hby hxw hbw
                generalize w7.drewN q = w8 at *
                go_wp2_with fail
                refine (delay_yes _ _ n0 n1 _ _ a b w8 ha' hb' oka okb).mono ?_
                rintro e w9 (⟨d, rfl, hb9, hd1, hd⟩ | ⟨kk, rfl, hb9⟩)
                · replace hby' := hby'.over hb9 (Nat.le_refl _); replace hxw' := hxw'.over hb9 (Nat.le_refl _)
                  replace hbw' := hbw'.trans (hb9.mono hbw'.size)
                  clear hb9 ha' hb'
                  have HD := Lib.hid hd; clear hd
                  go_wp2_with fail
                  go_loop [14, 18] (fun m i => ∃ t : Nat, t ≤ K + 1 ∧ i = .int .i64 t ∧ m = .int .i64 (sumTo X (min t K))) (fun _ i => K + 1 - (intOf i).toNat)
                  case atStart => exact ⟨0, by omega, rfl, by rw [Nat.zero_min]; rfl⟩
                  case round =>
                    obtain ⟨t, ht, rfl, rfl⟩ := hrel
                    by_cases htd : t + d < K + 1
                    · rw [show min t K = t from by omega]
                      obtain ⟨b5, o5, rfl, _⟩ := hby'.addr (show 0 < K + 1 by omega)
                      have k5 : w9.cell? ⟨b5, o5 + (t + d), none⟩ = some (.int .i64 (at0 Y (t + d))) := hby'.all rfl (t + d) htd
                      have f1 := HG.out.delay d t HD.out (by omega)
                      have hs0 := sumTo_bd X 2000 t fun i hi => HXX.out i (by omega)
                      have hs1 : 0 ≤ sumTo X t ∧ sumTo X t ≤ 100000 := by omega
                      clear hs0
                      have g1 : (t : Int) + (d : Int) < (K : Int) + 1 := by omega
                      have g2 : ((t : Int) + (d : Int)).toNat = t + d := by omega
                      generalize hS : sumTo X t = S at *
                      generalize at0 Y (t + d) = yt at *
                      have HS := Lib.hid hS; clear hS
                      by_cases htK : t < K
                      · obtain ⟨b3, o3, rfl, _⟩ := hxw'.addr htK
                        have k3 : w9.cell? ⟨b3, o3 + t, none⟩ = some (.int .i64 (at0 X t)) := hxw'.all rfl t htK
                        have hxt := HXX.out t htK
                        have HS2 : Hid (sumTo X (min (t + 1) K) = S + at0 X t) := by rw [show min (t + 1) K = t + 1 from by omega, ← HS.out]; rfl
                        generalize at0 X t = xt at *
                        go_wp2_with fail
                        go_round
                        case rel => exact ⟨t + 1, by omega, by go_num, by rw [HS2.out]⟩
                        case measure => simp [intOf]; omega
                      · have HS2 : Hid (sumTo X (min (t + 1) K) = S) := by rw [show min (t + 1) K = t from by omega]; exact HS.out
                        go_wp2_with fail
                        go_round
                        case rel => exact ⟨t + 1, by omega, by go_num, by rw [HS2.out]⟩
                        case measure => simp [intOf]; omega
                    · have g1 : (K : Int) + 1 ≤ (t : Int) + (d : Int) := by omega
                      go_wp2_with fail
                      go_ret
                      exact ⟨rfl, hbw'⟩
                · go_wp2_with fail
                  go_ret
                  exact ⟨rfl, hbw'.trans (hb9.mono hbw'.size)⟩
        · have t1 : (x != 0) = true := by simpa using hx0
          have t2 : (y != 0) = false := by simpa using hy0
          go_wp2_with fail
          refine (curved_any _).mono ?_
          rintro e w3 ⟨rfl, hb3⟩
          go_wp2_with fail
          go_ret
          exact ⟨rfl, hbw.trans (hb3.mono hbw.size)⟩
      · have t2 : (y != 0) = true := by simpa using hy0
        go_wp2_with fail
        refine (curved_any _).mono ?_
        rintro e w3 ⟨rfl, hb3⟩
        go_wp2_with fail
        go_ret
        exact ⟨rfl, hbw.trans (hb3.mono hbw.size)⟩
    · go_wp2_with fail
      refine (curved_any _).mono ?_
      rintro e w3 ⟨rfl, hb3⟩
      go_wp2_with fail
      go_ret
      exact ⟨rfl, (hb1.alloc hb1.size _).trans (hb3.mono (by have := hb1.size; simp; omega))⟩
theorem curveCruz_walk (a0 : Option Addr) (len0 cap0 : Nat) (z0 : List Int) (a1 : Option Addr) (len1 cap1 : Nat) (z1 : List Int) (a2 : Option Addr) (len2 cap2 : Nat) (z2 : List Int) (w : World)
    (w0 : IsRow .i64 w a0 len0 cap0 z0) (w1 : IsRow .i64 w a1 len1 cap1 z1) (w2 : IsRow .i64 w a2 len2 cap2 z2) :
    Calls Try.prog 7 #[.slice a0 len0 cap0, .slice a1 len1 cap1, .slice a2 len2 cap2] w fun e w' => e = .returned (.bool true) ∧ Below w.heap.size w w' :=
  curveCruz_core a0 a1 a2 len0 cap0 len1 cap1 len2 cap2 _ _ _ w w0.rd w1.rd w2.rd w2.bd
end Go.Proofs.Ytjjmfgoeabmfdaa
