/-
  The walk of the law ScedServes: it returns true, and leaves all that was there.
-/
import Derived.Test.YtjjmfgoeabmfdaaScedMeetsWalk
import Derived.Test.YtjjmfgoeabmfdaaServeF
namespace Go.Proofs.Ytjjmfgoeabmfdaa
open Go.RowKit Crv
set_option linter.unusedVariables false

/-- what waits ahead of a tick -/
def w0 (p : Sced.Pl) (t : Nat) : Int := Sced.sumF (fun i => Sced.cum p i t - (Sced.sentT p t i : Int)) p.m
theorem w0_waits (p : Sced.Pl) (t : Nat) : Sced.waits p t = w0 p t + Sced.sumF (fun i => at0 (p.fl i).come t) p.m := by
  unfold w0 Sced.waits
  rw [← Sced.sumF_add]
  exact Sced.sumF_congr _ fun i _ => by
    show Sced.cum p i t + at0 (p.fl i).come t - _ = _
    omega
theorem w0_succ (p : Sced.Pl) (t : Nat) : w0 p (t + 1) = Sced.waits p t - (if Sced.bestOf p (Sced.sentT p t) t < 0 then 0 else 1) := by
  unfold w0
  rcases Sced.pick_spec (fun i => decide ((Sced.sentT p t i : Int) ≠ Sced.cum p i (t + 1))) (fun i => Sced.keyOf p i (Sced.sentT p t i)) p.m with ⟨e, hall⟩ | ⟨b, hbm, e, hw, _, hmin⟩
  · have eb : Sced.bestOf p (Sced.sentT p t) t = -1 := e
    rw [eb, if_pos (by omega)]
    have : Sced.sumF (fun i => Sced.cum p i (t + 1) - (Sced.sentT p (t + 1) i : Int)) p.m = Sced.waits p t := Sced.sumF_congr _ fun i _ => by
      rw [sentT_succ, eb, if_neg (by omega)]
    rw [this]; omega
  · have eb : Sced.bestOf p (Sced.sentT p t) t = b := e
    rw [eb, if_neg (by omega)]
    have : Sced.sumF (fun i => Sced.cum p i (t + 1) - (Sced.sentT p (t + 1) i : Int)) p.m = Sced.waits p t + (-1) := Sced.sumF_one (b := b) p.m hbm (fun i _ hne => by
      rw [sentT_succ, eb, if_neg (by omega)]) (by rw [sentT_succ, eb, if_pos rfl]; omega)
    rw [this]; omega
theorem w0_zero (p : Sced.Pl) : w0 p 0 = 0 := by
  unfold w0
  have h2 : ∀ m, Sced.sumF (fun i => Sced.cum p i 0 - (Sced.sentT p 0 i : Int)) m = 0 := by
    intro m
    induction m with
    | zero => rfl
    | succ m ih => show Sced.sumF _ m + (0 - ((0 : Nat) : Int)) = 0; rw [ih]; rfl
  exact h2 _
theorem w0_bd {m T : Nat} {fs : Nat → FV} (h : FGood m T fs) (t : Nat) : 0 ≤ w0 (plOf m fs T) t ∧ w0 (plOf m fs T) t ≤ m * 100 := by
  have hb : ∀ i, i < m → 0 ≤ Sced.cum (plOf m fs T) i t - (Sced.sentT (plOf m fs T) t i : Int) ∧ Sced.cum (plOf m fs T) i t - (Sced.sentT (plOf m fs T) t i : Int) ≤ 100 := fun i hi => by
    have h1 := Sced.sent_le h.pl t i hi
    have h2 := h.cum_le hi t
    have h3 : Sced.cum (plOf m fs T) i t = sumTo (fs i).xs t := rfl
    omega
  have key : ∀ j, j ≤ m → 0 ≤ Sced.sumF (fun i => Sced.cum (plOf m fs T) i t - (Sced.sentT (plOf m fs T) t i : Int)) j ∧ Sced.sumF (fun i => Sced.cum (plOf m fs T) i t - (Sced.sentT (plOf m fs T) t i : Int)) j ≤ j * 100 := by
    intro j
    induction j with
    | zero => intro _; exact ⟨Int.le_refl _, by show (0 : Int) ≤ ((0 : Nat) : Int) * 100; omega⟩
    | succ j ih =>
      intro hj
      have h1 := ih (by omega)
      have h2 := hb j (by omega)
      show 0 ≤ Sced.sumF _ j + (Sced.cum (plOf m fs T) j t - (Sced.sentT (plOf m fs T) t j : Int)) ∧ Sced.sumF _ j + (Sced.cum (plOf m fs T) j t - (Sced.sentT (plOf m fs T) t j : Int)) ≤ _
      omega
  exact key m (Nat.le_refl _)
theorem comeSum_bd {m T : Nat} {fs : Nat → FV} (h : FGood m T fs) (t : Nat) : ∀ j, j ≤ m → 0 ≤ Sced.sumF (fun i => at0 (fs i).xs t) j ∧ Sced.sumF (fun i => at0 (fs i).xs t) j ≤ j * 100 := by
  intro j
  induction j with
  | zero => intro _; exact ⟨Int.le_refl _, by show (0 : Int) ≤ ((0 : Nat) : Int) * 100; omega⟩
  | succ j ih =>
    intro hj
    have h1 := ih (by omega)
    have h2 := h.come (i := j) (by omega) t
    show 0 ≤ Sced.sumF _ j + at0 (fs j).xs t ∧ Sced.sumF _ j + at0 (fs j).xs t ≤ _
    omega

/-- rows of length n that are stored one behind the other -/
def RowAt (W wx : World) (n : Nat) (l : List Int) (v : Value) : Prop := ∃ A c, v = .slice A n c ∧ RdI wx wx.heap.size A n l ∧ ∀ ad, A = some ad → W.heap.size ≤ ad.block
theorem RowAt.chg {W wx wy : World} {n : Nat} {l : List Int} {v : Value} {S : Nat → Prop} (h : RowAt W wx n l v) (hc : Chg wx wy S) (hS : ∀ b, S b → b < W.heap.size) : RowAt W wy n l v := by
  obtain ⟨A, c, rfl, hr, hA⟩ := h
  exact ⟨A, c, rfl, Reads.more (RdI.chg hr (Nat.le_refl _) hc (fun ad e hb => by have := hA ad e; have := hS _ hb; omega)) hc.size, hA⟩
def RInv (W wr : World) (n m g j : Nat) (LL : Nat → List Int) (V : Nat → Value) : Prop := RowV wr g 22 m V ∧ (∀ i, i < j → RowAt W wr n (LL i) (V i)) ∧ Chg W wr (fun b => b = g)
theorem rinv_step {W wr w4 : World} {n m g j : Nat} {LL : Nat → List Int} {V : Nat → Value} {v : Value} (h : RInv W wr n m g j LL V) (hb : Below wr.heap.size wr w4) (hg : g < W.heap.size) (hj : j < m) (hv : RowAt W w4 n (LL j) v) :
    RInv W (w4.setCell ⟨g, j, none⟩ v) n m g (j + 1) LL (upd V j v) := by
  obtain ⟨h1, h2, h3⟩ := h
  have hc : Chg w4 (w4.setCell ⟨g, j, none⟩ v) (fun b => b = g) := Chg.setCell (p := ⟨g, j, none⟩) (Chg.refl w4 (fun b => b = g)) (fun _ => rfl) v
  have hS : ∀ b, b = g → b < W.heap.size := fun b e => by omega
  refine ⟨(h1.below hb h1.lt).set_ hj v, fun i hi => ?_, (h3.trans (Chg.of_below (S := fun b => b = g) hb) (fun b _ e => e)).setCell (p := ⟨g, j, none⟩) (fun _ => rfl) v⟩
  by_cases e : i = j
  · subst e; rw [upd_same]; exact hv.chg hc hS
  · rw [upd_ne _ _ e]
    exact ((h2 i (by omega)).chg (Chg.of_below (S := fun b => b = g) hb) hS).chg hc hS
/-- what went in the midst of it: the counts, and all else as it was -/
def GInv (W wr : World) (m g : Nat) (s : Nat → Nat) : Prop := RowV wr g 3 m (fun i => .int .i64 (s i : Int)) ∧ Chg W wr (fun b => b = g)
theorem GInv.drewN {W wr : World} {m g : Nat} {s : Nat → Nat} (h : GInv W wr m g s) (n : Nat) : GInv W (wr.drewN n) m g s := ⟨h.1.drewN n, h.2.drewN n⟩
theorem GInv.step {W wr : World} {m g b : Nat} {s s' : Nat → Nat} (h : GInv W wr m g s) (hb : b < m) (hs : ∀ i, s' i = if i = b then s i + 1 else s i) : GInv W (wr.setCell ⟨g, b, none⟩ (.int .i64 ((s b : Int) + 1))) m g s' := by
  refine ⟨(h.1.set_ hb _).congr fun i hi => ?_, h.2.setCell (p := ⟨g, b, none⟩) (fun _ => rfl) _⟩
  unfold upd
  rw [hs]
  by_cases e : i = b
  · subst e; rw [if_pos rfl, if_pos rfl]; congr 1
  · rw [if_neg e, if_neg e]

set_option maxHeartbeats 8000000 in
set_option maxRecDepth 100000 in
theorem scedServes_core (a0 : Option Addr) (m c0 : Nat) (T : Int) (fs : Nat → FV) (w : World) (hr : RdF w w.heap.size a0 m fs) (hm : m ≤ 9223372036854775807) :
    Calls Try.prog 9 #[.slice a0 m c0, .int .i64 T] w fun e w' => e = .returned (.bool true) ∧ Below w.heap.size w w' := by
  go_enter Try.func9, Try.ntmps9
  go_wp2_with fail
  go_loopw [5, 6] (fun v i wr => ∃ (k q : Nat) (N : Int), k ≤ m ∧ i = .int .i64 k ∧ v = .int .i64 N ∧ wr = w.drewN q) (fun _ i _ => m - (intOf i).toNat)
  case atStart => exact ⟨0, 0, 0, Nat.zero_le _, rfl, rfl, rfl⟩
  case round =>
    obtain ⟨k, q, N, hk, rfl, rfl, rfl⟩ := hrel
    by_cases hlt : k < m
    · obtain ⟨b, off, rfl, hbB, c0, c1⟩ := hr.at_ hlt
      have i1 : (k : Int) < (m : Int) := by omega
      go_wp2_with fail
      go_quiet (fail)
      go_wp2_with fail
      go_roundw
      case rel => exact ⟨k + 1, _, _, by omega, by go_num, rfl, rfl⟩
      case measure => simp [intOf]; omega
    · obtain rfl : k = m := by omega
      have hrW := hr.drewN q
      have hbW : Below w.heap.size w (w.drewN q) := bl_drewN (Below.refl _ _)
      have hrW' : RdF (w.drewN q) (w.drewN q).heap.size a0 k fs := hrW
      have HR0 := Lib.hid hr
      clear hr hrW
      generalize w.drewN q = W at *
      by_cases h600 : 600 < N
      · go_wp2_with fail
        go_ret
        exact ⟨rfl, hbW⟩
      · by_cases h10 : (10 : Int) < (k : Int)
        · go_wp2_with fail
          go_ret
          exact ⟨rfl, hbW⟩
        · by_cases hs : SOk k fs
          · by_cases hrng : InRange k fs T
            · have hT0 : 0 ≤ T := by have := (hrng 0 hs.1).1; omega
              obtain ⟨T, rfl⟩ : ∃ n : Nat, T = (n : Int) := ⟨T.toNat, by omega⟩
              have hg : FGood k T fs := ⟨hs, hrng, fun i hi => (hrW'.come i hi).len, fun i hi => (hrW'.prom i hi).len⟩
              have hT2 : T < 201 := by have h1 := (hrng 0 hs.1).2; have h2 := (hs.2.2 0 hs.1).prom.len; have h3 := (hrW'.prom 0 hs.1).len; omega
              have hk1 := hs.1; have hk8 := hs.2.1
              have HG := Lib.hid hg; have HS := Lib.hid hs; have HR := Lib.hid hrng
              clear hg hs hrng
              go_wp2_with fail
              refine (fits_yes a0 k c0 fs W hrW' HS.out).mono ?_
              rintro e w1 ⟨fb, rfl, hfb, hb1⟩
              have HFB := Lib.hid hfb; clear hfb
              replace hrW' := hrW'.over hb1 (Nat.le_refl _)
              go_wp2_with fail
              refine (make_yes a0 k c0 fs T w1 hrW' HS.out HR.out).mono ?_
              rintro e w2 ⟨SA, Sc, gP, gT, rfl, hb2, hS, hP, hT⟩
              replace hrW' := hrW'.over hb2 (Nat.le_refl _)
              have hkp := Blk.new w2 47 #[.slice SA T Sc, .slice (some ⟨gP, 0, none⟩) k k, .slice (some ⟨gT, 0, none⟩) k k]
              have hba : Below w2.heap.size w2 (w2.alloc (.cells #[.slice SA T Sc, .slice (some ⟨gP, 0, none⟩) k k, .slice (some ⟨gT, 0, none⟩) k k] 47)) := (Below.refl _ _).alloc (Nat.le_refl _) _
              have hbw := bl_next (bl_next (bl_next hbW hb1) hb2) hba
              replace hrW' := hrW'.over hba (Nat.le_refl _)
              replace hS := hS.over hba (Nat.le_refl _)
              have HKP := Lib.hid hkp; have HBW := Lib.hid hbw; have HRW := Lib.hid hrW'; have HSS := Lib.hid hS
              clear hkp hP hT hbw hrW' hS hba
              go_wp2_with fail
              refine (promised_any _).mono ?_
              rintro e w3 ⟨rfl, hb3⟩
              have hkp := HKP.out.below hb3 HKP.out.lt
              have r0 : w3.cell? ⟨w2.heap.size, 0, none⟩ = some (.slice SA T Sc) := hkp.cell 0
              have HKP3 := Lib.hid hkp; have HBW3 := Lib.hid (bl_next HBW.out hb3); have HRW3 := Lib.hid (HRW.out.over hb3 (Nat.le_refl _)); have HS3 := Lib.hid (HSS.out.over hb3 (Nat.le_refl _))
              clear hkp HKP HBW HRW HSS hb3
              go_upto_region 15 with fail
              have hmk := made_rows k (by omega)
              have hmi := made_ints k (by omega)
              obtain ⟨bl1, bl2, bl3⟩ := blk2 w3 3 22 (madeCells #[.int .i64 0] k) (madeCells #[.slice none 0 0] k)
              have hgone := rowV_made bl1; have hbyr := rowV_made bl2
              have hgg : w3.heap.size < ((w3.alloc (.cells (madeCells #[.int .i64 0] k) 3)).alloc (.cells (madeCells #[.slice none 0 0] k) 22)).heap.size := hgone.lt
              have HGONE := Lib.hid hgone; have HBYR := Lib.hid hbyr; have HB4 := Lib.hid bl3
              clear r0 bl1 bl2 bl3 hgone hbyr
              go_upto_region 17 with fail
              clear hmk hmi
              generalize ((w3.alloc (.cells (madeCells #[.int .i64 0] k) 3)).alloc (.cells (madeCells #[.slice none 0 0] k) 22)) = w4 at *
              obtain ⟨gg, hggd⟩ : ∃ gg, gg = w3.heap.size := ⟨_, rfl⟩
              obtain ⟨gb, hgbd⟩ : ∃ gb, gb = w3.heap.size + 1 := ⟨_, rfl⟩
              have hgl : gb < w4.heap.size := by have := HBYR.out.lt; omega
              have hkp4 := HKP3.out.below HB4.out HKP3.out.lt
              have hgo4 := HGONE.out; have hby4 := HBYR.out
              have hS4 := HS3.out.over HB4.out (Nat.le_refl _)
              have hrw4 := HRW3.out.over HB4.out (Nat.le_refl _)
              have hbw4 := bl_next HBW3.out HB4.out
              have hne1 : gg < gb := by omega
              have hne2 : w2.heap.size < gg := by have := HKP3.out.lt; omega
              have hlow : w.heap.size < gg := by have := HBW3.out.size; have := HKP3.out.lt; have := hb1.size; have := hb2.size; have := hbW.size; omega
              rw [← hgbd, ← hggd]
              rw [← hggd] at hgo4 hgg
              rw [← hgbd] at hby4
              have hinv0 : RInv w4 w4 (T + 1) k gb 0 (fun i => serveL (padded (fs i).xs (fs i).n (T + 1)) (fs i).zs) (fun _ => .slice none 0 0) := ⟨hby4, fun i hi => by omega, Chg.refl _ _⟩
              have HGO4 := Lib.hid hgo4; have HKP4 := Lib.hid hkp4; have HS4 := Lib.hid hS4; have HBW4 := Lib.hid hbw4; have HS3S := Lib.hid (show ∀ ad, 0 < T → SA = some ad → ad.block < gg from fun ad h0 e => by
                obtain ⟨ad', e', hb', _⟩ := HS3.out.2 h0
                rw [e] at e'; injection e' with e'; subst e'; omega)
              clear hggd hgbd HKP3 HGONE HBYR HB4 HBW3 HRW3 HS3 hgo4 hkp4 hS4 hrw4 hbw4 hby4 hb1 hb2 hbW
              go_wp2_with fail
              go_loopw [14] (fun i wr => ∃ (j : Nat) (V : Nat → Value), j ≤ k ∧ i = .int .i64 j ∧ RInv w4 wr (T + 1) k gb j (fun i => serveL (padded (fs i).xs (fs i).n (T + 1)) (fs i).zs) V) (fun i _ => k - (intOf i).toNat)
              case atStart => exact ⟨0, _, Nat.zero_le _, rfl, hinv0⟩
              case round =>
                clear hinv0
                obtain ⟨j, V, hj, rfl, hinv⟩ := hrel
                have HI := Lib.hid hinv
                have hchg := hinv.2.2
                have hbj : Below w.heap.size w wr := HBW4.out.trans (hchg.below HBW4.out.size (fun i hi e => by have e' : i = gb := e; omega))
                clear hinv
                by_cases hlt2 : j < k
                · have hrj := HR0.out.over hbj (Nat.le_refl _)
                  obtain ⟨b, off, rfl, hbB, c0, c1⟩ := hrj.at_ hlt2
                  have hok := HS.out.2.2 j hlt2
                  obtain ⟨hin1, hin2⟩ := HR.out j hlt2
                  have hx := hrj.come j hlt2
                  have hz := hrj.prom j hlt2
                  have hlx := hx.len
                  have hserve : ∀ W A c, RdI W W.heap.size A (T + 1) (padded (fs j).xs (fs j).n (T + 1)) → Below wr.heap.size wr W → Calls Try.prog 22 #[.slice A (T + 1) c, .slice (fs j).A' (fs j).n' (fs j).c'] W fun e w' => ∃ A c, e = .returned (.tuple #[.slice A (T + 1) c, .nilIface]) ∧ Below W.heap.size W w' ∧ RdI w' w'.heap.size A (T + 1) (serveL (padded (fs j).xs (fs j).n (T + 1)) (fs j).zs) ∧ ∀ ad, A = some ad → W.heap.size ≤ ad.block := fun W A c hp hW =>
                    (serve_fresh A _ (T + 1) _ c _ _ _ W hp (hz.over hW (Nat.le_refl _)) hok.prom (by omega) (fun i _ => by
                      rw [padded_at _ hlx]
                      have := HG.out.come hlt2 i
                      omega)).mono fun e w' h => h.at_ (by rw [serveL_length, padded_len _ hlx (by omega)])
                  have HSERVE := Lib.hid hserve
                  have HRA := Lib.hid (show ∀ w5 A c, RdI w5 w5.heap.size A (T + 1) (serveL (padded (fs j).xs (fs j).n (T + 1)) (fs j).zs) → (∀ ad, A = some ad → w4.heap.size ≤ ad.block) → RowAt w4 w5 (T + 1) ((fun i => serveL (padded (fs i).xs (fs i).n (T + 1)) (fs i).zs) j) (.slice A (T + 1) c) from fun w5 A c h1 h2 => ⟨A, c, rfl, h1, h2⟩)
                  clear hserve hok hz hrj hin2 hlx
                  have hnT : (fs j).n ≤ T := by omega
                  generalize serveL (padded (fs j).xs (fs j).n (T + 1)) (fs j).zs = by_ at HSERVE HRA
                  generalize (fs j).A = A1 at *
                  generalize (fs j).n = n1 at *
                  generalize (fs j).c = c1' at *
                  generalize (fs j).A' = A2 at *
                  generalize (fs j).n' = n2 at *
                  generalize (fs j).c' = c2' at *
                  have i1 : (j : Int) < (k : Int) := by omega
                  have hsz := hchg.size
                  go_upto_region 21 with (at_make; refine wpList_makeI rfl _ _ _ Try.underlying22 rfl (T + 1) _ _ rfl rfl (by omega) (by omega) (by omega) ?_; intro w5 hown hb5)
                  have d0 : w5.cell? ⟨b, off + j * 2, none⟩ = some (.slice A1 n1 c1') := (hb5.cell (p := ⟨b, off + j * 2, none⟩) hbB).trans c0
                  have hx5 := hx.over hb5 (Nat.le_refl _)
                  go_upto_region 23 with ((with_reducible refine wpList_copyI rfl _ _ _ _ Try.underlying22 rfl wr.heap.size wr.heap.size (T + 1) _ rfl hown A1 n1 c1' _ _ rfl hx5 (by omega) (by omega) wr hb5 ?_); intro w6 hown6 hb6)
                  have hpad : RdI w6 w6.heap.size (some ⟨wr.heap.size, 0, none⟩) (T + 1) (padded (fs j).xs n1 (T + 1)) := own_rd hown6
                  have d1 : w6.cell? ⟨b, off + j * 2 + 1, none⟩ = some (.slice A2 n2 c2') := (hb6.cell (p := ⟨b, off + j * 2 + 1, none⟩) hbB).trans c1
                  clear hown hb5 hx5 d0 c0 hown6
                  go_wp2_with fail
                  refine (HSERVE.out w6 _ _ hpad hb6).mono ?_
                  rintro e w7 ⟨A7, c7, rfl, hb7, hr7, hA7⟩
                  have hb67 := bl_next hb6 hb7
                  have hfin := rinv_step HI.out hb67 hgl hlt2 (HRA.out w7 A7 c7 hr7 (fun ad e => by have h1 := hA7 ad e; have h2 := hb6.size; omega))
                  have kb := HI.out.1.below hb67 HI.out.1.lt
                  have s0 : w7.cell? ⟨gb, j, none⟩ = some (V j) := kb.cell hlt2
                  have s1 : w7.frozen? ⟨gb, j, none⟩ = false := kb.frozen j
                  have HFIN := Lib.hid hfin
                  have s2 : (w7.setCell ⟨gb, j, none⟩ (.slice A7 (T + 1) c7)).cell? ⟨gb, j, none⟩ = some (.slice A7 (T + 1) c7) := (hfin.1.cell hlt2).trans (by rw [upd_same])
                  have HS2 := Lib.hid s2
                  clear hfin kb hb7 hr7 hA7 hb67 s2
                  go_wp2_with fail
                  go_roundw
                  case rel => exact ⟨j + 1, _, by omega, by go_num, HFIN.out⟩
                  case measure => simp [intOf]; omega
                · obtain rfl : k = j := by omega
                  obtain ⟨hV5, hrows, _⟩ := HI.out
                  have hrw5 := HR0.out.over hbj (Nat.le_refl _)
                  have hgo5 := HGO4.out.chg hchg (fun e => by have e' : gg = gb := e; omega)
                  have hkp5 := HKP4.out.chg hchg (fun e => by have e' : w2.heap.size = gb := e; omega)
                  have hS5 : 0 < T → RdI wr wr.heap.size SA T (Sced.sentL (plOf k fs T) T) := fun h0 => Reads.more (RdI.chg HS4.out (Nat.le_refl _) hchg (fun ad e h => by have h' : ad.block = gb := h; have := HS3S.out ad h0 e; omega)) hchg.size
                  have hsz := hchg.size
                  have hg5 : gg < wr.heap.size := by omega
                  have hgi : GInv wr wr k gg (fun i => Sced.sentT (plOf k fs T) 0 i) := ⟨hgo5.congr (fun i _ => rfl), Chg.refl _ _⟩
                  have HV5 := Lib.hid hV5; have HROWS := Lib.hid hrows; have HRW5 := Lib.hid hrw5; have HKP5 := Lib.hid hkp5; have HS5 := Lib.hid hS5; have HBW5 := Lib.hid hbj
                  clear hV5 hrows hrw5 hgo5 hkp5 hS5 hbj hchg HI HGO4 HKP4 HS4 hlt2 HBW4
                  obtain ⟨w5, rfl⟩ : ∃ w5 : World, w5 = wr := ⟨_, rfl⟩
                  have hw00 : w0 (plOf k fs T) 0 = 0 := w0_zero _
                  go_wp2_with fail
                  go_loopw [11, 17] (fun v i wr => ∃ t : Nat, t ≤ T ∧ i = .int .i64 t ∧ v = .int .i64 (w0 (plOf k fs T) t) ∧ GInv w5 wr k gg (fun i => Sced.sentT (plOf k fs T) t i)) (fun _ i _ => T - (intOf i).toNat)
                  case atStart => exact ⟨0, Nat.zero_le _, rfl, by rw [hw00], hgi⟩
                  case round =>
                    clear hw00 hgi
                    obtain ⟨t, ht, rfl, rfl, hgi⟩ := hrel
                    have HGI := Lib.hid hgi; clear hgi
                    by_cases hlt2 : t < T
                    · have hwb := w0_bd HG.out t
                      obtain ⟨wt, rfl⟩ : ∃ wt : World, wt = wr := ⟨_, rfl⟩
                      go_wp2_with fail
                      go_loopw [11, 18] (fun v i wi => ∃ j : Nat, j ≤ k ∧ i = .int .i64 j ∧ v = .int .i64 (w0 (plOf k fs T) t + Sced.sumF (fun i => at0 (fs i).xs t) j) ∧ GInv w5 wi k gg (fun i => Sced.sentT (plOf k fs T) t i)) (fun _ i _ => k - (intOf i).toNat)
                      case atStart => exact ⟨0, Nat.zero_le _, rfl, by rw [show Sced.sumF (fun i => at0 (fs i).xs t) 0 = 0 from rfl, Int.add_zero], HGI.out⟩
                      case round =>
                        obtain ⟨j, hj, rfl, rfl, hgi⟩ := hrel
                        have hbj : Below w.heap.size w wr := HBW5.out.trans (hgi.2.below HBW5.out.size (fun i hi e => by have e' : i = gg := e; omega))
                        have HGJ := Lib.hid hgi
                        by_cases hlt3 : j < k
                        · have hrj := HR0.out.over hbj (Nat.le_refl _)
                          obtain ⟨b, off, rfl, hbB, c0, _⟩ := hrj.at_ hlt3
                          obtain ⟨Aj, cj, hVj, hrow, hfresh⟩ := (HROWS.out j hlt3).chg hgi.2 (fun b e => by have e' : b = gg := e; omega)
                          obtain ⟨bj, oj, rfl, _⟩ := hrow.addr (show t < T + 1 by omega)
                          have g0 : wr.cell? ⟨gg, j, none⟩ = some (.int .i64 (Sced.sentT (plOf k fs T) t j : Int)) := hgi.1.cell hlt3
                          have v0 : wr.cell? ⟨gb, j, none⟩ = some (.slice (some ⟨bj, oj, none⟩) (T + 1) cj) := ((HV5.out.chg hgi.2 (fun e => by have e' : gb = gg := e; omega)).cell hlt3).trans (by rw [hVj])
                          have x0 : wr.cell? ⟨bj, oj + t, none⟩ = some (.int .i64 (at0 (serveL (padded (fs j).xs (fs j).n (T + 1)) (fs j).zs) t)) := hrow.all rfl t (by omega)
                          have hby : fb = true → at0 (serveL (padded (fs j).xs (fs j).n (T + 1)) (fs j).zs) t ≤ (Sced.sentT (plOf k fs T) t j : Int) := fun hf => by
                            have h1 := Sced.kept HG.out.pl (fits_hf (HFB.out hf) HS.out.1 HR.out) (d := t) (by show t ≤ T; omega) hlt3
                            have h2 : at0 (serveL (padded (fs j).xs (fs j).n (T + 1)) (fs j).zs) t = Sced.byT (plOf k fs T) j t := by
                              rw [serveL_at (by rw [padded_len _ (HG.out.lx j hlt3) (by have := (HR.out j hlt3).1; omega)]; omega)]
                              exact conv_congr (fun s _ => padded_sum _ (HG.out.lx j hlt3) s) (fun _ _ => rfl)
                            omega
                          have HSUM : Hid (Sced.sumF (fun i => at0 (fs i).xs t) (j + 1) = Sced.sumF (fun i => at0 (fs i).xs t) j + at0 (fs j).xs t) := rfl
                          have hsb := comeSum_bd HG.out t j (by omega)
                          have hcb := HG.out.come hlt3 t
                          have hx := hrj.come j hlt3
                          have hnn : at0 (fs j).xs t = 0 ∨ t < (fs j).n := by
                            rcases Nat.lt_or_ge t (fs j).n with h | h
                            · exact .inr h
                            · left; exact at0_out (by rw [HG.out.lx j hlt3]; exact h)
                          have HNN := Lib.hid hnn; have HBY := Lib.hid hby
                          have i1 : (j : Int) < (k : Int) := by omega
                          have i2 : (t : Int) < (T : Int) + 1 := by omega
                          clear hnn hby hVj hrow hfresh hrj hgi hbj
                          generalize at0 (serveL (padded (fs j).xs (fs j).n (T + 1)) (fs j).zs) t = y at *
                          generalize Sced.sumF (fun i => at0 (fs i).xs t) j = S at *
                          by_cases htn : t < (fs j).n
                          · obtain ⟨bx, ox, hA, _⟩ := hx.addr htn
                            rw [hA] at hx c0
                            have x1 : wr.cell? ⟨bx, ox + t, none⟩ = some (.int .i64 (at0 (fs j).xs t)) := hx.all rfl t htn
                            have i3 : (t : Int) < ((fs j).n : Int) := by omega
                            clear hx hA
                            generalize at0 (fs j).xs t = x at *
                            generalize (fs j).n = n1 at *
                            generalize (fs j).c = c1' at *
                            cases fb
                            · have hd : decide (false = true) = false := rfl
                              go_wp2_with fail
                              go_quiet (fail)
                              go_wp2_with fail
                              go_roundw
                              case rel => exact ⟨j + 1, by omega, by go_num, by rw [HSUM.out, Int.add_assoc], HGJ.out.drewN _⟩
                              case measure => simp [intOf]; omega
                            · have hle := HBY.out rfl
                              go_wp2_with fail
                              go_quiet (fail)
                              go_wp2_with fail
                              go_roundw
                              case rel => exact ⟨j + 1, by omega, by go_num, by rw [HSUM.out, Int.add_assoc], HGJ.out.drewN _⟩
                              case measure => simp [intOf]; omega
                          · have h0 := HNN.out.resolve_right htn
                            rw [h0, Int.add_zero] at HSUM
                            clear h0 hx hcb
                            generalize (fs j).A = A1 at *
                            generalize (fs j).n = n1 at *
                            generalize (fs j).c = c1' at *
                            cases fb
                            · go_wp2_with fail
                              go_quiet (fail)
                              go_wp2_with fail
                              go_roundw
                              case rel => exact ⟨j + 1, by omega, by go_num, by rw [HSUM.out], HGJ.out.drewN _⟩
                              case measure => simp [intOf]; omega
                            · have hle := HBY.out rfl
                              go_wp2_with fail
                              go_quiet (fail)
                              go_wp2_with fail
                              go_roundw
                              case rel => exact ⟨j + 1, by omega, by go_num, by rw [HSUM.out], HGJ.out.drewN _⟩
                              case measure => simp [intOf]; omega
                        · obtain rfl : k = j := by omega
                          have e1 : w0 (plOf k fs T) t + Sced.sumF (fun i => at0 (fs i).xs t) k = Sced.waits (plOf k fs T) t := (w0_waits (plOf k fs T) t).symm
                          rw [e1]
                          have hwt : 0 ≤ Sced.waits (plOf k fs T) t ∧ Sced.waits (plOf k fs T) t ≤ 100000 := by
                            have := comeSum_bd HG.out t k (Nat.le_refl _)
                            omega
                          have HW1 := Lib.hid (w0_succ (plOf k fs T) t)
                          have hidle := Sced.idle HG.out.pl t
                          have hbd := Sced.best_bd (p := plOf k fs T) t
                          have hbd2 : -1 ≤ Sced.bestOf (plOf k fs T) (Sced.sentT (plOf k fs T) t) t ∧ Sced.bestOf (plOf k fs T) (Sced.sentT (plOf k fs T) t) t < (k : Int) := hbd
                          have hSr := HS5.out (by omega)
                          have hSr2 : RdI wr w5.heap.size SA T (Sced.sentL (plOf k fs T) T) := RdI.chg hSr (Nat.le_refl _) hgi.2 (fun ad e h => by have h' : ad.block = gg := h; have := HS3S.out ad (by omega) e; omega)
                          obtain ⟨bs, os, rfl, _⟩ := hSr2.addr hlt2
                          have x0 : wr.cell? ⟨bs, os + t, none⟩ = some (.int .i64 (Sced.bestOf (plOf k fs T) (Sced.sentT (plOf k fs T) t) t)) := (hSr2.all rfl t hlt2).trans (by rw [show (Sced.sentL (plOf k fs T) T).getD t 0 = Sced.bestOf (plOf k fs T) (Sced.sentT (plOf k fs T) t) t from Sced.sentL_at T t hlt2])
                          have x1 : wr.cell? ⟨w2.heap.size, 0, none⟩ = some (.slice (some ⟨bs, os, none⟩) T Sc) := (HKP5.out.chg hgi.2 (fun e => by have e' : w2.heap.size = gg := e; omega)).cell 0
                          have HST := Lib.hid (fun i => sentT_succ (plOf k fs T) i t)
                          have i1 : (t : Int) < (T : Int) := by omega
                          clear e1 hbd hSr hSr2 hbj hgi
                          by_cases hneg : Sced.bestOf (plOf k fs T) (Sced.sentT (plOf k fs T) t) t < 0
                          · have hz : Sced.waits (plOf k fs T) t = 0 := by rw [← hidle]; exact hneg
                            have hbm : Sced.bestOf (plOf k fs T) (Sced.sentT (plOf k fs T) t) t = -1 := by omega
                            have HBM := Lib.hid hbm
                            have HFIN : Hid (GInv w5 wr k gg (fun i => Sced.sentT (plOf k fs T) (t + 1) i)) := ⟨HGJ.out.1.congr (fun i _ => by show Value.int .i64 (Sced.sentT (plOf k fs T) t i : Int) = .int .i64 (Sced.sentT (plOf k fs T) (t + 1) i : Int); rw [HST.out, if_neg (by rw [HBM.out]; omega)]), HGJ.out.2⟩
                            rw [hz] at HW1
                            rw [hbm] at x0 HW1
                            rw [hz]
                            clear hidle hneg hz hbm hbd2 hwt
                            go_wp2_with fail
                            go_roundw
                            case rel => exact ⟨t + 1, by omega, by go_num, by rw [HW1.out, if_pos (by omega), Int.sub_zero], HFIN.out⟩
                            case measure => simp [intOf]; omega
                          · obtain ⟨b, hbb⟩ : ∃ b : Nat, Sced.bestOf (plOf k fs T) (Sced.sentT (plOf k fs T) t) t = (b : Int) := ⟨(Sced.bestOf (plOf k fs T) (Sced.sentT (plOf k fs T) t) t).toNat, by omega⟩
                            have hnz : Sced.waits (plOf k fs T) t ≠ 0 := fun h => hneg (by rw [hidle]; exact h)
                            have hbk : b < k := by omega
                            have hw1 : (Sced.waits (plOf k fs T) t == 0) = false := by simpa using hnz
                            have HBB := Lib.hid hbb
                            rw [hbb] at x0 HW1
                            have HFIN := Lib.hid (HGJ.out.step (s' := fun i => Sced.sentT (plOf k fs T) (t + 1) i) hbk (fun i => by
                              rw [HST.out]
                              by_cases e : i = b
                              · subst e; rw [if_pos HBB.out, if_pos rfl]
                              · rw [if_neg (by rw [HBB.out]; omega), if_neg e]))
                            have g0 : wr.cell? ⟨gg, b, none⟩ = some (.int .i64 (Sced.sentT (plOf k fs T) t b : Int)) := HGJ.out.1.cell hbk
                            have g1 : wr.frozen? ⟨gg, b, none⟩ = false := HGJ.out.1.frozen b
                            have hsb : (Sced.sentT (plOf k fs T) t b : Int) ≤ 100 := by have h1 := HG.out.sent_tot hbk t; have h2 := (HG.out.cum_le hbk t).2.2; omega
                            have i2 : (b : Int) < (k : Int) := by omega
                            clear hidle hneg hbb hbd2
                            generalize Sced.waits (plOf k fs T) t = z at *
                            go_wp2_with fail
                            go_roundw
                            case rel => exact ⟨t + 1, by omega, by go_num, by rw [HW1.out, if_neg (by omega)], HFIN.out⟩
                            case measure => simp [intOf]; omega
                    · go_wp2_with fail
                      go_ret
                      exact ⟨rfl, HBW5.out.trans (HGI.out.2.below HBW5.out.size (fun i hi e => by have e' : i = gg := e; omega))⟩
            · go_wp2_with fail
              refine (fits_yes a0 k c0 fs W hrW' hs).mono ?_
              rintro e w1 ⟨fb, rfl, hfb, hb1⟩
              have HS := Lib.hid hs; have HR := Lib.hid hrng; clear hs hrng hfb
              go_wp2_with fail
              refine (make_far a0 k c0 fs T w1 (hrW'.over hb1 (Nat.le_refl _)) HS.out HR.out).mono ?_
              rintro e w2 ⟨k2, rfl, hb2⟩
              go_wp2_with fail
              refine (promised_any _).mono ?_
              rintro e w3 ⟨rfl, hb3⟩
              go_wp2_with fail
              refine (promised_any _).mono ?_
              rintro e w4 ⟨rfl, hb4⟩
              go_wp2_with fail
              go_ret
              exact ⟨rfl, bl_next (bl_next (bl_alloc (bl_next (bl_next hbW hb1) hb2)) hb3) hb4⟩
          · go_wp2_with fail
            refine (fits_no a0 k c0 fs W hrW' hs).mono ?_
            rintro e w1 ⟨k1, rfl, hb1⟩
            have HS := Lib.hid hs; clear hs
            go_wp2_with fail
            refine (make_no a0 k c0 fs T w1 (hrW'.over hb1 (Nat.le_refl _)) HS.out).mono ?_
            rintro e w2 ⟨k2, rfl, hb2⟩
            go_wp2_with fail
            refine (promised_any _).mono ?_
            rintro e w3 ⟨rfl, hb3⟩
            go_wp2_with fail
            refine (promised_any _).mono ?_
            rintro e w4 ⟨rfl, hb4⟩
            go_wp2_with fail
            go_ret
            exact ⟨rfl, bl_next (bl_next (bl_alloc (bl_next (bl_next hbW hb1) hb2)) hb3) hb4⟩
end Go.Proofs.Ytjjmfgoeabmfdaa
