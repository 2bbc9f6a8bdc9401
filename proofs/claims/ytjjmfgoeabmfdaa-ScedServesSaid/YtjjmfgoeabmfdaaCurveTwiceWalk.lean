/-
  The walk of the law CurveTwice: it returns true, and leaves all that was there.
-/
import Derived.Test.YtjjmfgoeabmfdaaServe
import Derived.Test.YtjjmfgoeabmfdaaPick
import Derived.Test.YtjjmfgoeabmfdaaCurveSemiringWalk
import Derived.Deep.DeepCutAuto
namespace Go.Proofs.Ytjjmfgoeabmfdaa
open Go.RowKit Crv
set_option linter.unusedVariables false

theorem rdll2 {w : World} {A0 A1 : Option Addr} {n0 n1 c0 c1 : Nat} {a b : List Int} (t : TypeId) (ha : RdI w w.heap.size A0 n0 a) (hb : RdI w w.heap.size A1 n1 b) :
    RdLL (w.alloc (.cells #[.slice A0 n0 c0, .slice A1 n1 c1] t)) w.heap.size [a, b] := by
  intro i hi
  have hi' : i < 2 := hi
  obtain rfl | rfl : i = 0 ∨ i = 1 := by omega
  · exact ⟨A0, n0, c0, by simp, Reads.more (Reads.alloc ha (Nat.le_refl _) _) (by simp)⟩
  · exact ⟨A1, n1, c1, by simp, Reads.more (Reads.alloc hb (Nat.le_refl _) _) (by simp)⟩
theorem CurveOut.at_ {w w' : World} {l : List Int} {e : Ending} (h : CurveOut w l e w') {k : Nat} (hk : l.length = k) : ∃ A c, e = .returned (.tuple #[.slice A k c, .nilIface]) ∧ Below w.heap.size w w' ∧ RdI w' w'.heap.size A k l := by
  subst hk; exact h
/-- a fact on a new block: what was read before is read behind it -/
theorem RdI.new {w : World} {A : Option Addr} {n : Nat} {zs : List Int} (h : RdI w w.heap.size A n zs) (o : Obj) : RdI (w.alloc o) (w.alloc o).heap.size A n zs :=
  Reads.more (Reads.alloc h (Nat.le_refl _) o) (by simp)
theorem RdI.first {w : World} {B : Nat} {b off n : Nat} {zs : List Int} (h : RdI w B (some ⟨b, off, none⟩) n zs) (hn : 0 < n) : w.cell? ⟨b, off, none⟩ = some (.int .i64 (at0 zs 0)) := by
  have := h.all rfl 0 hn
  rw [Nat.add_zero] at this
  exact this
theorem RdI.cut {w : World} {B : Nat} {A : Option Addr} {n : Nat} {zs : List Int} (h : RdI w B A n zs) {k : Nat} (hk : k ≤ n) : RdI w B A k (zs.take k) := by
  refine ⟨by have := h.len; simp; omega, fun h0 => ?_⟩
  obtain ⟨ad, e, hb, hc⟩ := h.2 (by omega)
  refine ⟨ad, e, hb, fun j u hj => ?_⟩
  rw [List.getElem?_map] at hj
  have hjk : j < k := by
    rcases Nat.lt_or_ge j k with hlt | hge
    · exact hlt
    · rw [List.getElem?_eq_none (by simp; omega)] at hj; simp at hj
  rw [List.getElem?_take_of_lt hjk, ← List.getElem?_map] at hj
  exact hc j u hj

/-- 'make([]int, n)', n not great -/
theorem wpList_makeI {w : World} {ops : Array Oper} {rest : List Oper} {o : Oper} {a : Act} {Q : Exit → Act → World → Prop} (hg : o.guard = none) (l c : Operand) (t : TypeId) (ht : Try.prog.underlying t = some (.slice 3)) (hop : o.op = Op.makeSlice t l c)
    (n : Nat) (L C : Int) (hl : a.eval l = .int .i64 L) (hc : a.eval c = .int .i64 C) (hL : L = (n : Int)) (hC : C = (n : Int)) (hn : n ≤ 1000000)
    (hK : ∀ w', w'.ownsRow w.heap.size 3 1 (.slice (some ⟨w.heap.size, 0, none⟩) n n) n ((List.replicate n (0 : Int)).map (Value.int .i64)) → Below w.heap.size w w' → wpList Try.prog ops Q rest (a.put o.dst (.slice (some ⟨w.heap.size, 0, none⟩) n n)) w') :
    wpList Try.prog ops Q (o :: rest) a w := by
  obtain ⟨i0, hi, hz0, hz1, hz2⟩ := info_parts Try.intInfo
  refine wpList_make_full w hg l c t hop w.heap.size 3 i0 (.int .i64 0) 1 ht hi hz0 hz1 .i64 .i64 L C n hl hc hL hC (by rw [hz2]; omega) (by simp only [maxLen]; omega) (Nat.le_refl _) ?_
  intro w' h1 h2
  refine hK w' ?_ ((Below.refl _ _).grown h2 (Nat.le_refl _) (fun k hk => by cases hk))
  have e : (madeCells (Value.int .i64 0).cells (n * 1)).toList = (List.replicate n (0 : Int)).map (Value.int .i64) := by
    rw [Nat.mul_one]
    show (madeCells #[Value.int .i64 0] n).toList = _
    rw [toList_madeCells_one, List.map_replicate]
  rw [← e]
  exact h1
theorem at0_set {ys : List Int} {k : Nat} {r : Int} (hk : k < ys.length) (i : Nat) : at0 (ys.set k r) i = if i = k then r else at0 ys i := by
  unfold at0
  by_cases e : i = k
  · subst e; simp [hk]
  · rw [if_neg e]
    simp [Ne.symm e]
theorem at0_replicate (n i : Nat) : at0 (List.replicate n (0 : Int)) i = 0 := by
  unfold at0
  by_cases h : i < n <;> simp [h]
theorem own_rd {w : World} {base g n c : Nat} {ys : List Int} (h : w.ownsRow base 3 1 (.slice (some ⟨g, 0, none⟩) n c) n (ys.map (Value.int .i64))) : RdI w w.heap.size (some ⟨g, 0, none⟩) n ys := Reads.of_own h
theorem own_cell {w : World} {base g n c : Nat} {ys : List Int} (h : w.ownsRow base 3 1 (.slice (some ⟨g, 0, none⟩) n c) n (ys.map (Value.int .i64))) {k : Nat} (hk : k < n) : w.cell? ⟨g, k, none⟩ = some (.int .i64 (at0 ys k)) := by
  have hl := (own_rd h).len
  have := h.cellAt k (by omega)
  rw [this, List.getElem?_map]
  simp [at0, List.getElem?_eq_getElem (show k < ys.length by omega)]
theorem own_set {w : World} {base g n c : Nat} {ys : List Int} (h : w.ownsRow base 3 1 (.slice (some ⟨g, 0, none⟩) n c) n (ys.map (Value.int .i64))) (k : Nat) (r : Int) :
    (w.setCell ⟨g, k, none⟩ (.int .i64 r)).ownsRow base 3 1 (.slice (some ⟨g, 0, none⟩) n c) n ((ys.set k r).map (Value.int .i64)) := by
  have := (h.stored k (.int .i64 r)).1
  rwa [← List.map_set] at this

set_option maxHeartbeats 2000000 in
set_option maxRecDepth 100000 in
theorem curveTwice_core (a0 a1 a2 : Option Addr) (n0 c0 n1 c1 n2 c2 : Nat) (l b c : List Int) (w : World) (hl : RdI w w.heap.size a0 n0 l) (hb : RdI w w.heap.size a1 n1 b) (hc : RdI w w.heap.size a2 n2 c)
    (hcap : n0 ≤ c0) (hbd : ∀ i, -9223372036854775808 ≤ at0 l i ∧ at0 l i ≤ 9223372036854775807) :
    Calls Try.prog 5 #[.slice a0 n0 c0, .slice a1 n1 c1, .slice a2 n2 c2] w fun e w' => e = .returned (.bool true) ∧ Below w.heap.size w w' := by
  have HBD := Lib.hid hbd; clear hbd
  by_cases h40 : 40 < n0
  · have h40' : decide (40 < n0) = true := by simpa using h40
    go_enter Try.func5, Try.ntmps5
    go_wp2_with fail
    refine (curved_any w).mono ?_
    rintro e w1 ⟨rfl, hb1⟩
    go_wp2_with fail
    go_ret
    exact ⟨rfl, hb1⟩
  · have h40' : decide (40 < n0) = false := by simpa using h40
    go_enter Try.func5, Try.ntmps5
    go_wp2_with fail
    refine (curved_any w).mono ?_
    rintro e w1 ⟨rfl, hb1⟩
    replace hl := hl.over hb1 (Nat.le_refl _); replace hb := hb.over hb1 (Nat.le_refl _); replace hc := hc.over hb1 (Nat.le_refl _)
    go_wp2_with fail
    refine (lines_any 60 w1.heap.size 2 2 [b, c] _ (rdll2 _ hb hc) rfl (by omega)).mono ?_
    rintro e w2 ⟨rfl, ⟨hf, rfl⟩ | ⟨_, rfl⟩⟩
    · have hf1 : Fine 60 b := hf 0 (by simp)
      have hf2 : Fine 60 c := hf 1 (by simp)
      clear hf
      have hbw := hb1.alloc hb1.size (.cells #[.slice a1 n1 c1, .slice a2 n2 c2] 22)
      replace hl := hl.new (.cells #[.slice a1 n1 c1, .slice a2 n2 c2] 22)
      replace hb := hb.new (.cells #[.slice a1 n1 c1, .slice a2 n2 c2] 22)
      replace hc := hc.new (.cells #[.slice a1 n1 c1, .slice a2 n2 c2] 22)
      clear hb1
      generalize w1.alloc (.cells #[.slice a1 n1 c1, .slice a2 n2 c2] 22) = w2 at *
      have lb := hb.len; have lc := hc.len
      have p1 := hf1.2.1.pos; have p2 := hf2.2.1.pos
      have q1 := hf1.1; have q2 := hf2.1
      rw [lb] at p1 q1; rw [lc] at p2 q2
      have HB := Lib.hid lb; have HC := Lib.hid lc; clear lb lc
      obtain ⟨bb, ob, rfl, _⟩ := hb.addr (show 0 < n1 by omega)
      obtain ⟨bc, oc, rfl, _⟩ := hc.addr (show 0 < n2 by omega)
      have kb : w2.cell? ⟨bb, ob, none⟩ = some (.int .i64 (at0 b 0)) := hb.first (by omega)
      have kc : w2.cell? ⟨bc, oc, none⟩ = some (.int .i64 (at0 c 0)) := hc.first (by omega)
      have i1 : (0 : Int) < (n1 : Int) := by omega
      have i2 : (0 : Int) < (n2 : Int) := by omega
      generalize hx : at0 b 0 = x at *
      generalize hy : at0 c 0 = y at *
      have HX := Lib.hid hx; have HY := Lib.hid hy; clear hx hy
      by_cases hx0 : x = 0
      · by_cases hy0 : y = 0
        · subst hx0 hy0
          go_upto_region 3 with (fail)
          clear kb kc
          go_cut [7] (fun v wx => v = .int .i64 ((min n1 n2 : Nat) : Int) ∧ wx = w2)
          case first =>
            go_wp2_with fail
            all_goals (go_meet; exact ⟨by first | rw [Nat.min_eq_right (by omega)] | rw [Nat.min_eq_left (by omega)], rfl⟩)
          case rest =>
            obtain ⟨rfl, rfl⟩ := hcut
            obtain ⟨N, hN⟩ : ∃ N, N = min n1 n2 := ⟨_, rfl⟩
            rw [← hN]
            have hN1 : 1 ≤ N := by omega
            have hN2 : N ≤ n1 := by omega
            have hN3 : N ≤ n2 := by omega
            have HN := Lib.hid hN; clear hN
            obtain ⟨m, hm⟩ : ∃ m, m = min n0 (N - 1) := ⟨_, rfl⟩
            have HM := Lib.hid hm; clear hm
            go_upto_if 61 with (fail)
            go_cut [0] (fun v wx => v = .slice a0 m c0 ∧ wx = wc)
            case first =>
              by_cases hcut : N - 1 < n0
              · obtain ⟨M, rfl⟩ : ∃ M, N = M + 1 := ⟨N - 1, by omega⟩
                have hM : M < n0 := by omega
                have hM2 : M ≤ c0 := by omega
                have he : m = M := by have := HM.out; omega
                subst he
                clear hcut
                go_wp2_with fail
                all_goals
                  go_meet
                  first
                    | exact ⟨rfl, rfl⟩
                    | (obtain rfl : m = 0 := by omega
                       exact ⟨rfl, rfl⟩)
              · have he : m = n0 := by have := HM.out; omega
                subst he
                go_wp2_with fail
                go_meet
                exact ⟨rfl, rfl⟩
            case rest =>
              obtain ⟨rfl, rfl⟩ := hcut
              have hm0 : m ≤ n0 := by have := HM.out; omega
              have hm1 : m + 1 ≤ N := by have := HM.out; omega
              have hm2 : m ≤ 40 := by omega
              replace hl := hl.cut hm0
              have hbd2 : ∀ i, i < m → -9223372036854775808 ≤ at0 (l.take m) i ∧ at0 (l.take m) i ≤ 9223372036854775807 := fun i hi => by
                have e : at0 (l.take m) i = at0 l i := by unfold at0; simp [List.getD, List.getElem?_take_of_lt hi]
                rw [e]; exact HBD.out i
              generalize l.take m = l2 at hl hbd2
              have HB2 := Lib.hid hbd2; clear hbd2
              go_wp2_with (at_make; refine wpList_makeI rfl _ _ _ Try.underlying22 rfl (m + 1) _ _ rfl rfl (by omega) (by omega) (by omega) ?_; intro w3 hown hb3)
              have hrep : Hid (∀ i, 0 ≤ at0 (List.replicate (m + 1) (0 : Int)) i ∧ at0 (List.replicate (m + 1) (0 : Int)) i ≤ 1000) := fun i => by rw [at0_replicate]; omega
              go_loopw [9] (fun i wr => ∃ (k : Nat) (ys : List Int), k ≤ m ∧ i = .int .i64 k ∧ (∀ i, 0 ≤ at0 ys i ∧ at0 ys i ≤ 1000) ∧ wr.ownsRow wc.heap.size 3 1 (.slice (some ⟨wc.heap.size, 0, none⟩) (m + 1) (m + 1)) (m + 1) (ys.map (Value.int .i64)) ∧ Below wc.heap.size wc wr)
                (fun i _ => m - (intOf i).toNat)
              case atStart => exact ⟨0, _, Nat.zero_le _, rfl, hrep.out, hown, hb3⟩
              case round =>
                clear hown hb3 hrep
                obtain ⟨k, ys, hk, rfl, hys, hown, hb3⟩ := hrel
                have HYS := Lib.hid hys; clear hys
                by_cases hlt : k < m
                · obtain ⟨bl, ol, rfl, hblB⟩ := hl.addr hlt
                  have c1 : wr.cell? ⟨bl, ol + k, none⟩ = some (.int .i64 (at0 l2 k)) := (hb3.cell (p := ⟨bl, ol + k, none⟩) hblB).trans (hl.all rfl k hlt)
                  have c2 := own_cell hown (k := k) (by omega)
                  have c3 := hown.frozenAt k
                  have hlb := HB2.out k hlt
                  generalize at0 l2 k = z at *
                  generalize at0 ys k = y0 at *
                  go_wp2_with fail
                  refine (pick_any z 1000 wr (by omega) (by omega) hlb.1 hlb.2).mono ?_
                  rintro e w' ⟨r, hr0, hr1, rfl, rfl⟩
                  go_wp2_with fail
                  go_roundw
                  case rel =>
                    refine ⟨k + 1, ys.set k r, by omega, by go_num, fun i => ?_, own_set hown k r, hb3.setCell (Nat.le_refl _) _⟩
                    have hlen := (own_rd hown).len
                    rw [at0_set (by omega)]
                    split
                    · omega
                    · exact HYS.out i
                  case measure => simp [intOf]; omega
                · obtain rfl : k = m := by omega
                  have hx := own_rd hown
                  have hb2 := hb.over hb3 (Nat.le_refl _); have hc2 := hc.over hb3 (Nat.le_refl _)
                  have hbw3 := hbw.trans (hb3.mono hbw.size)
                  clear hown hb3 hl hb hc hbw
                  obtain ⟨w4, rfl⟩ : ∃ w4 : World, w4 = wr := ⟨_, rfl⟩
                  have hxl := hx.len
                  have okb := hf1.2.1; have okc := hf2.2.1
                  have okbc : Okay (thenL b c) := okay_of (thenL_good hf1.good hf2.good) (by omega) (by omega)
                  have HXL := Lib.hid hxl; clear hxl
                  go_wp2_with fail
                  refine (serve_yes _ _ (k + 1) n1 _ _ ys b w4 hx hb2 okb (by omega) (fun i _ => by have := HYS.out i; omega)).mono ?_
                  intro e w5 hpost
                  obtain ⟨A5, c5, rfl, hb5, hf⟩ := hpost.at_ (k := k + 1) (by rw [serveL_length, HXL.out])
                  clear hpost
                  replace hx := hx.over hb5 (Nat.le_refl _); replace hb2 := hb2.over hb5 (Nat.le_refl _); replace hc2 := hc2.over hb5 (Nat.le_refl _)
                  replace hbw3 := hbw3.trans (hb5.mono hbw3.size); clear hb5
                  go_wp2_with fail
                  refine (then_yes _ _ n1 n2 _ _ b c w5 hb2 hc2 okb okc).mono ?_
                  intro e w6 hpost
                  obtain ⟨A6, c6, rfl, hb6, hbc⟩ := hpost.at_ (k := N) (by rw [thenL_length, HB.out, HC.out, HN.out])
                  clear hpost
                  replace hx := hx.over hb6 (Nat.le_refl _); replace hf := hf.over hb6 (Nat.le_refl _); replace hc2 := hc2.over hb6 (Nat.le_refl _)
                  replace hbw3 := hbw3.trans (hb6.mono hbw3.size); clear hb6 hb2
                  have tw := twice ys b c (by have := HXL.out; have := HB.out; omega) (by have := HXL.out; have := HC.out; omega) HX.out
                  have TW := Lib.hid tw; clear tw
                  have hup : ∀ i, i + 1 < k + 1 → at0 (serveL ys b) i ≤ at0 (serveL ys b) (i + 1) := fun i hi => serveL_up (fun j _ => (HYS.out j).1) okb.up (by have := HXL.out; have := HB.out; omega) (by have := HXL.out; omega)
                  have hbd : ∀ i, i < k + 1 → 0 ≤ at0 (serveL ys b) i ∧ at0 (serveL ys b) i ≤ 100000 := fun i hi => by
                    have h1 := serveL_nonneg (xs := ys) (b := b) (fun j _ => (HYS.out j).1) okb.lo (by have := HXL.out; have := HB.out; omega) (t := i) (by have := HXL.out; omega)
                    have h2 := serveL_le (xs := ys) (b := b) HX.out (t := i) (by have := HXL.out; omega)
                    have h3 := (sumTo_bd ys 1000 i fun j _ => HYS.out j).2
                    omega
                  have hfl := hf.len
                  generalize serveL ys b = f at *
                  have HUP := Lib.hid hup; have HBD2 := Lib.hid hbd; have HFL := Lib.hid hfl
                  clear hup hbd hfl
                  go_wp2_with (at_make; refine wpList_makeI rfl _ _ _ Try.underlying22 rfl (k + 1) _ _ rfl rfl (by omega) (by omega) (by omega) ?_; intro w7 hown hb7)
                  have hrep : Hid ((∀ i, i < 0 → at0 (List.replicate (k + 1) (0 : Int)) i = at0 f (i + 1) - at0 f i) ∧ ∀ i, 0 ≤ i → at0 (List.replicate (k + 1) (0 : Int)) i = 0) := ⟨fun i hi => by omega, fun i _ => at0_replicate _ i⟩
                  go_loopw [15] (fun i wr => ∃ (t : Nat) (zs : List Int), t ≤ k ∧ i = .int .i64 t ∧ ((∀ i, i < t → at0 zs i = at0 f (i + 1) - at0 f i) ∧ ∀ i, t ≤ i → at0 zs i = 0) ∧ wr.ownsRow w6.heap.size 3 1 (.slice (some ⟨w6.heap.size, 0, none⟩) (k + 1) (k + 1)) (k + 1) (zs.map (Value.int .i64)) ∧ Below w6.heap.size w6 wr)
                    (fun i _ => k - (intOf i).toNat)
                  case atStart => exact ⟨0, _, Nat.zero_le _, rfl, hrep.out, hown, hb7⟩
                  case round =>
                    clear hown hb7 hrep
                    obtain ⟨t, zs, ht, rfl, hzs, hown, hb7⟩ := hrel
                    have HZS := Lib.hid hzs; clear hzs
                    by_cases hlt : t < k
                    · obtain ⟨bf, of, rfl, hbfB⟩ := hf.addr (show 0 < k + 1 by omega)
                      have d1 : wr.cell? ⟨bf, of + t, none⟩ = some (.int .i64 (at0 f t)) := (hb7.cell (p := ⟨bf, of + t, none⟩) hbfB).trans (hf.all rfl t (by omega))
                      have d2 : wr.cell? ⟨bf, of + (t + 1), none⟩ = some (.int .i64 (at0 f (t + 1))) := (hb7.cell (p := ⟨bf, of + (t + 1), none⟩) hbfB).trans (hf.all rfl (t + 1) (by omega))
                      have d3 := own_cell hown (k := t) (by omega)
                      have d4 := hown.frozenAt t
                      have f1 := HBD2.out t (by omega)
                      have f2 := HBD2.out (t + 1) (by omega)
                      have f3 := HUP.out t (by omega)
                      have i3 : (t : Int) < (k : Int) + 1 := by omega
                      have i4 : (t : Int) + 1 < (k : Int) + 1 := by omega
                      generalize hp : at0 f t = p at *
                      generalize hq : at0 f (t + 1) = q at *
                      have HP := Lib.hid hp; have HQ := Lib.hid hq; clear hp hq
                      generalize at0 zs t = y0 at *
                      go_wp2_with fail
                      go_region
                      go_wp2_with fail
                      go_roundw
                      case rel =>
                        have hlen := (own_rd hown).len
                        refine ⟨t + 1, zs.set t (q - p), by omega, by go_num, ⟨fun i hi => ?_, fun i hi => ?_⟩, own_set hown t (q - p), ⟨hb7.os, hb7.tape, hb7.output, by simpa using hb7.size, fun j hj => (hb7.setCell (Nat.le_refl _) _).block j hj⟩⟩
                        · rw [at0_set (by omega)]
                          split
                          · rename_i e; subst e; rw [HP.out, HQ.out]
                          · exact HZS.out.1 i (by omega)
                        · rw [at0_set (by omega), if_neg (by omega)]
                          exact HZS.out.2 i (by omega)
                      case measure => simp [intOf]; omega
                    · obtain rfl : t = k := by omega
                      have hmid := own_rd hown
                      have hzl := hmid.len
                      have ez : zs = midL f := list_ext_at0 (by rw [hzl, midL_length, HFL.out]) (fun i hi => by
                        rw [midL, at0_tab (by rw [HFL.out]; omega), HFL.out]
                        by_cases hit : i < t
                        · rw [if_pos (by omega)]; exact HZS.out.1 i hit
                        · rw [if_neg (by omega)]; exact HZS.out.2 i (by omega))
                      have hmb : ∀ i, i < t + 1 → 0 ≤ at0 zs i ∧ at0 zs i ≤ 1000000 := fun i hi => by
                        by_cases hit : i < t
                        · rw [HZS.out.1 i hit]
                          have := HUP.out i (by omega); have := HBD2.out i (by omega); have := HBD2.out (i + 1) (by omega)
                          omega
                        · rw [HZS.out.2 i (by omega)]; omega
                      rw [← ez] at TW
                      replace hx := hx.over hb7 (Nat.le_refl _); replace hc2 := hc2.over hb7 (Nat.le_refl _); replace hbc := hbc.over hb7 (Nat.le_refl _)
                      replace hbw3 := hbw3.trans (hb7.mono hbw3.size)
                      clear hown hb7 hf
                      obtain ⟨w8, rfl⟩ : ∃ w8 : World, w8 = wr := ⟨_, rfl⟩
                      have HZL := Lib.hid hzl; have HMB := Lib.hid hmb; have HEZ := Lib.hid ez
                      clear hzl hmb ez
                      go_wp2_with fail
                      refine (serve_yes _ _ (t + 1) n2 _ _ zs c w8 hmid hc2 okc (by omega) HMB.out).mono ?_
                      intro e w9 hpost
                      obtain ⟨A9, c9, rfl, hb9, hout⟩ := hpost.at_ (k := t + 1) (by rw [serveL_length, HZL.out])
                      clear hpost
                      replace hx := hx.over hb9 (Nat.le_refl _); replace hbc := hbc.over hb9 (Nat.le_refl _)
                      replace hbw3 := hbw3.trans (hb9.mono hbw3.size); clear hb9 hmid hc2
                      go_wp2_with fail
                      refine (serve_yes _ _ (t + 1) N _ _ ys (thenL b c) w9 hx hbc okbc (by omega) (fun i _ => by have := HYS.out i; omega)).mono ?_
                      intro e w10 hpost
                      obtain ⟨A10, c10, rfl, hb10, hwant⟩ := hpost.at_ (k := t + 1) (by rw [serveL_length, HXL.out])
                      clear hpost
                      replace hout := hout.over hb10 (Nat.le_refl _)
                      replace hbw3 := hbw3.trans (hb10.mono hbw3.size); clear hb10 hx hbc
                      go_wp2_with fail
                      refine (same_yes _ _ _ _ _ _ _ _ w10 hout hwant (by omega) TW.out).mono ?_
                      rintro e w11 ⟨rfl, hb11⟩
                      go_wp2_with fail
                      go_ret
                      exact ⟨rfl, hbw3.trans (hb11.mono hbw3.size)⟩
        · have t1 : (y != 0) = true := by simpa using hy0
          have t2 : (x != 0) = false := by simpa using hx0
          go_wp2_with fail
          refine (curved_any _).mono ?_
          rintro e w3 ⟨rfl, hb3⟩
          go_wp2_with fail
          go_ret
          exact ⟨rfl, hbw.trans (hb3.mono hbw.size)⟩
      · have t2 : (x != 0) = true := by simpa using hx0
        go_wp2_with fail
        refine (curved_any _).mono ?_
        rintro e w3 ⟨rfl, hb3⟩
        go_wp2_with fail
        go_ret
        exact ⟨rfl, hbw.trans (hb3.mono hbw.size)⟩
    · go_wp2_with fail
      refine (curved_any _).mono ?_
      rintro e w3 ⟨rfl, hb3⟩
      go_wp2_with fail
      go_ret
      exact ⟨rfl, (hb1.alloc hb1.size _).trans (hb3.mono (by have := hb1.size; simp; omega))⟩
theorem IsRow.cap {w : World} {A : Option Addr} {n c : Nat} {zs : List Int} (h : IsRow .i64 w A n c zs) : n ≤ c := by
  rcases h with ⟨rfl, rfl, rfl, rfl⟩ | ⟨x, rfl, h1, _⟩ <;> omega
theorem curveTwice_walk (a0 : Option Addr) (len0 cap0 : Nat) (z0 : List Int) (a1 : Option Addr) (len1 cap1 : Nat) (z1 : List Int) (a2 : Option Addr) (len2 cap2 : Nat) (z2 : List Int) (w : World)
    (w0 : IsRow .i64 w a0 len0 cap0 z0) (w1 : IsRow .i64 w a1 len1 cap1 z1) (w2 : IsRow .i64 w a2 len2 cap2 z2) :
    Calls Try.prog 5 #[.slice a0 len0 cap0, .slice a1 len1 cap1, .slice a2 len2 cap2] w fun e w' => e = .returned (.bool true) ∧ Below w.heap.size w w' :=
  curveTwice_core a0 a1 a2 len0 cap0 len1 cap1 len2 cap2 _ _ _ w w0.rd w1.rd w2.rd w0.cap w0.bd
#print axioms curveTwice_walk
end Go.Proofs.Ytjjmfgoeabmfdaa
