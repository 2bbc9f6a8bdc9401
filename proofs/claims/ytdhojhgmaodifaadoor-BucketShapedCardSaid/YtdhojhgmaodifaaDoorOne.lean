/-
  What bucket.One tells: colours by one rate and two rooms.
-/
import Derived.Test.YtdhojhgmaodifaaDoorConform
import Derived.Test.YtdhojhgmaodifaaDoorColLaw
import Derived.Test.YtdhojhgmaodifaaDoorHeld
import Derived.Deep.CutRange
import Derived.Deep.DeepCutAuto
namespace Go.Proofs.YtdhojhgmaodifaaDoor
open Go.RowKit Bkt Crv
set_option linter.unusedVariables false

def IntsOut (w : World) (n : Nat) (f : Nat → Int) (e : Ending) (w' : World) : Prop := ∃ A c, e = .returned (.tuple #[.slice A n c, .nilIface]) ∧ Below w.heap.size w w' ∧ RdI w' w'.heap.size A n (tab n f)
def ColNext (k : Bk) (x : Int) (s : C1) (now n : Int) (f se c : Int) : Prop := (c1Next k x s now n).first = f ∧ (c1Next k x s now n).second = se ∧ (c1Next k x s now n).last = now ∧ c1Col k x s now n = c
theorem col_green {k : Bk} {x : Int} {s : C1} {now n : Int} (h : n * k.t ≤ c1F k s now) : ColNext k x s now n (c1F k s now - n * k.t) (c1S k x s now) 1 := by
  unfold ColNext c1Next c1Col; simp [h]
theorem col_yellow {k : Bk} {x : Int} {s : C1} {now n : Int} (h : ¬ n * k.t ≤ c1F k s now) (h2 : n * k.t ≤ c1S k x s now) : ColNext k x s now n (c1F k s now) (c1S k x s now - n * k.t) 2 := by
  unfold ColNext c1Next c1Col; simp [h, h2]
theorem col_red {k : Bk} {x : Int} {s : C1} {now n : Int} (h : ¬ n * k.t ≤ c1F k s now) (h2 : ¬ n * k.t ≤ c1S k x s now) : ColNext k x s now n (c1F k s now) (c1S k x s now) 3 := by
  unfold ColNext c1Next c1Col; simp [h, h2]
theorem c1_bd {k : Bk} {x : Int} {l : List It} (hk : BkOk k) (hx : 0 ≤ x) (hl : ItOk l) {j : Nat} (hj : j < l.length) :
    0 ≤ (c1To k x l j).last ∧ (c1To k x l j).last ≤ (ix l j).at_ ∧ 0 ≤ (c1To k x l j).first ∧ (c1To k x l j).first ≤ k.r * k.t ∧ 0 ≤ (c1To k x l j).second ∧ (c1To k x l j).second ≤ x * k.t := by
  have h := cinv_all (x := x) hk hx hl j (by omega)
  have h1 := inv_all hk hl j (by omega)
  have h2 := h1.last j hj (Nat.le_refl _)
  exact ⟨by rw [h.last]; exact h1.last0, by rw [h.last]; exact h2, by rw [h.first]; exact has_nonneg hk hl j (by omega), by rw [h.first]; exact has_bd hk hl (by omega), h.s0, h.s1⟩
theorem ite_min' (p r : Int) : (if r < p then r else p) = min p r := by split <;> omega
theorem ite_max' (p r : Int) : (if p < r then r else p) = max p r := by split <;> omega

set_option maxHeartbeats 4000000 in
set_option maxRecDepth 100000 in
theorem one_yes (k : Bk) (x : Int) (A : Option Addr) (n c : Nat) (l : List It) (w : World) (hr : RdIt w w.heap.size A n l) (hg : Handle w) (hk : BkOk k) (hx0 : 0 ≤ x) (hx1 : x ≤ 1000000) (hf : ListFine l) :
    Calls Tryd.prog 22 #[bkV k, .int .i64 x, .slice A n c] w (IntsOut w n (col1 k x l)) := by
  have hl := hr.len
  have hi := itOk_of hf
  have hn : n ≤ 100 := by have := hf.1; omega
  have hbd := fun j (hj : j < n) => c1_bd (x := x) hk hx0 hi (j := j) (by omega)
  have hib : ∀ j, j < n → ((ix l j).at_ ≤ 1000000000) ∧ 1 ≤ (ix l j).len ∧ (ix l j).len ≤ 10000 := fun j hj => by
    have h1 := hi.at0 j (by omega); have h2 := hi.len j (by omega); omega
  have hchk := fun W => bcheck_yes k W hk
  obtain ⟨m0, m1⟩ := mul_bd hk.r.1 (show (0 : Int) ≤ k.t by have := hk.t.1; omega) hk.r.2 hk.t.2
  obtain ⟨p0, p1⟩ := mul_bd hx0 (show (0 : Int) ≤ k.t by have := hk.t.1; omega) hx1 hk.t.2
  have m1' : k.r * k.t ≤ 1000000000000 := m1
  have p1' : x * k.t ≤ 1000000000000 := p1
  clear m1 p1
  have HBD := Lib.hid hbd; have HIB := Lib.hid hib; have HG := Lib.hid hg; have HF := Lib.hid hf; have HK := Lib.hid hk
  obtain ⟨kb, kt, kr⟩ := k
  unfold bkV at hchk ⊢
  dsimp only at hchk m0 m1' p0 p1' ⊢
  have HC := Lib.hid hchk
  clear hbd hib hg hf hk hchk hi hl
  go_enter Tryd.func22, Tryd.ntmps22
  go_wp2_with fail
  refine (HC.out _).mono ?_
  rintro e w1 ⟨rfl, hb1⟩
  have s0 : w1.cell? ⟨w.heap.size, 0, none⟩ = some (.int .i64 kb) := (hb1.cell (p := ⟨w.heap.size, 0, none⟩) (by simp)).trans (by simp)
  have s1 : w1.cell? ⟨w.heap.size, 1, none⟩ = some (.int .i64 kt) := (hb1.cell (p := ⟨w.heap.size, 1, none⟩) (by simp)).trans (by simp)
  have s2 : w1.cell? ⟨w.heap.size, 2, none⟩ = some (.int .i64 kr) := (hb1.cell (p := ⟨w.heap.size, 2, none⟩) (by simp)).trans (by simp)
  have hbw : Below w.heap.size w w1 := ((Below.refl _ w).alloc (Nat.le_refl _) _).trans (hb1.mono (by simp))
  clear hb1
  have hs1 : w.heap.size < w1.heap.size := lt_of_cell s0
  go_wp2_with fail
  refine (list_any A n c l w1 (hr.over hbw (Nat.le_refl _)) (HG.out.below hbw)).mono ?_
  rintro e w2 (⟨_, rfl, hb2⟩ | ⟨hbad, _⟩)
  · replace s0 := (hb2.cell (p := ⟨w.heap.size, 0, none⟩) hs1).trans s0
    replace s1 := (hb2.cell (p := ⟨w.heap.size, 1, none⟩) hs1).trans s1
    replace s2 := (hb2.cell (p := ⟨w.heap.size, 2, none⟩) hs1).trans s2
    replace hbw := hbw.trans (hb2.mono hbw.size)
    replace hr := hr.over hbw (Nat.le_refl _)
    have hs2 : w.heap.size < w2.heap.size := lt_of_cell s0
    clear hb2 hs1
    have e1 : IntKind.i64.wrap (kr * kt) = kr * kt := IntWalk.i64_in _ (by omega)
    have e2 : IntKind.i64.wrap (x * kt) = x * kt := IntWalk.i64_in _ (by omega)
    go_wp2_with fail
    go_quiet (fail)
    have E1 := Lib.hid e1; have E2 := Lib.hid e2; clear e1 e2
    have hb0 : Below w.heap.size w (w2.drewN nq) := below_drewN hbw _
    have t0 : (w2.drewN nq).cell? ⟨w.heap.size, 0, none⟩ = some (.int .i64 kb) := s0
    have t1 : (w2.drewN nq).cell? ⟨w.heap.size, 1, none⟩ = some (.int .i64 kt) := s1
    have t2 : (w2.drewN nq).cell? ⟨w.heap.size, 2, none⟩ = some (.int .i64 kr) := s2
    have hr3 : RdIt (w2.drewN nq) (w2.drewN nq).heap.size A n l := hr
    have hs3 : w.heap.size < (w2.drewN nq).heap.size := hs2
    clear s0 s1 s2 hr hs2 hbw
    generalize w2.drewN nq = w3 at *
    go_wp2_with fail
    go_loopw [10, 11, 12, 13, 49] (fun f s la v i wr => ∃ j : Nat, j ≤ n ∧ i = .int .i64 j ∧ f = .int .i64 (c1To ⟨kb, kt, kr⟩ x l j).first ∧ s = .int .i64 (c1To ⟨kb, kt, kr⟩ x l j).second ∧ la = .int .i64 (c1To ⟨kb, kt, kr⟩ x l j).last ∧
        wr.ownsRow w3.heap.size 3 1 v j ((tab j (col1 ⟨kb, kt, kr⟩ x l)).map (Value.int .i64)) ∧ Below w3.heap.size w3 wr)
      (fun _ _ _ _ i _ => n - (intOf i).toNat)
    case atStart => exact ⟨0, Nat.zero_le _, rfl, rfl, rfl, rfl, World.ownsRow_nil _ _ _ _, Below.refl _ _⟩
    case round =>
      obtain ⟨j, hj, rfl, rfl, rfl, rfl, hown, hb⟩ := hrel
      by_cases hlt : j < n
      · obtain ⟨b, off, rfl, hbB⟩ := hr3.addr hlt
        obtain ⟨c0, c1, c2, c3, c4⟩ := (hr3.over hb (Nat.le_refl _)).cells hlt
        have a0 : wr.cell? ⟨w.heap.size, 0, none⟩ = some (.int .i64 kb) := (hb.cell (p := ⟨w.heap.size, 0, none⟩) hs3).trans t0
        have a1 : wr.cell? ⟨w.heap.size, 1, none⟩ = some (.int .i64 kt) := (hb.cell (p := ⟨w.heap.size, 1, none⟩) hs3).trans t1
        have a2 : wr.cell? ⟨w.heap.size, 2, none⟩ = some (.int .i64 kr) := (hb.cell (p := ⟨w.heap.size, 2, none⟩) hs3).trans t2
        have nb0 : w.heap.size < wr.heap.size := lt_of_cell a0
        have n3 : wr.heap.size ≠ w.heap.size := by omega
        have n4 : w.heap.size ≠ wr.heap.size := by omega
        obtain ⟨s0, s1, s2, s3, s4, s5⟩ := HBD.out j hlt
        obtain ⟨i0, i1, i2⟩ := HIB.out j hlt
        have HNX : Hid (c1To ⟨kb, kt, kr⟩ x l (j + 1) = c1Next ⟨kb, kt, kr⟩ x (c1To ⟨kb, kt, kr⟩ x l j) (ix l j).at_ (ix l j).len) := rfl
        have HCL : Hid (col1 ⟨kb, kt, kr⟩ x l j = c1Col ⟨kb, kt, kr⟩ x (c1To ⟨kb, kt, kr⟩ x l j) (ix l j).at_ (ix l j).len) := rfl
        generalize c1To ⟨kb, kt, kr⟩ x l j = s at *
        generalize ix l j = y at *
        obtain ⟨la, f, se⟩ := s
        obtain ⟨ta, tn, y2, y3, y4⟩ := y
        dsimp only at s0 s1 s2 s3 s4 s5 i0 i1 i2 c0 c1 c2 c3 c4
        obtain ⟨q0, q1⟩ := mul_bd (a := ta - la) (b := kb) (A := 1000000000) (B := 1000000) (by omega) (by have := HK.out.b.1; dsimp only at this; omega) (by omega) HK.out.b.2
        have q1' : (ta - la) * kb ≤ 1000000000000000 := q1
        obtain ⟨n0, n1⟩ := mul_bd (a := tn) (b := kt) (A := 10000) (B := 1000000) (by omega) (by have := HK.out.t.1; dsimp only at this; omega) (by omega) HK.out.t.2
        have n1' : tn * kt ≤ 10000000000 := n1
        have HF1 : Hid (c1F ⟨kb, kt, kr⟩ ⟨la, f, se⟩ ta = f + min ((ta - la) * kb) (kr * kt - f)) := rfl
        have HS1 : Hid (c1S ⟨kb, kt, kr⟩ x ⟨la, f, se⟩ ta = min (x * kt) (se + max 0 ((ta - la) * kb - (kr * kt - f)))) := rfl
        have hF0 : 0 ≤ c1F ⟨kb, kt, kr⟩ ⟨la, f, se⟩ ta ∧ c1F ⟨kb, kt, kr⟩ ⟨la, f, se⟩ ta ≤ 1000000000000 := by rw [HF1.out]; omega
        have hS0 : 0 ≤ c1S ⟨kb, kt, kr⟩ x ⟨la, f, se⟩ ta ∧ c1S ⟨kb, kt, kr⟩ x ⟨la, f, se⟩ ta ≤ 1000000000000 := by rw [HS1.out]; omega
        have hgr := fun h => col_green (k := ⟨kb, kt, kr⟩) (x := x) (s := ⟨la, f, se⟩) (now := ta) (n := tn) h
        have hye := fun h h2 => col_yellow (k := ⟨kb, kt, kr⟩) (x := x) (s := ⟨la, f, se⟩) (now := ta) (n := tn) h h2
        have hre := fun h h2 => col_red (k := ⟨kb, kt, kr⟩) (x := x) (s := ⟨la, f, se⟩) (now := ta) (n := tn) h h2
        unfold ColNext at hgr hye hre
        rw [← HNX.out, ← HCL.out] at hgr hye hre
        dsimp only at hgr hye hre
        have HGR := Lib.hid hgr; have HYE := Lib.hid hye; have HRE := Lib.hid hre
        clear hgr hye hre q1 n1 HNX HCL
        generalize c1F ⟨kb, kt, kr⟩ ⟨la, f, se⟩ ta = F at *
        generalize c1S ⟨kb, kt, kr⟩ x ⟨la, f, se⟩ ta = S at *
        go_upto_region 18 with fail
        have hbW : Below w3.heap.size w3 (wr.alloc (.cells #[.int .i64 ta, .int .i64 tn, .int .i64 y2, .int .i64 y3, .int .i64 y4] 39)) := hb.alloc hb.size _
        have hownW := hown.alloc (.cells #[.int .i64 ta, .int .i64 tn, .int .i64 y2, .int .i64 y3, .int .i64 y4] 39)
        have z0 : (wr.alloc (.cells #[.int .i64 ta, .int .i64 tn, .int .i64 y2, .int .i64 y3, .int .i64 y4] 39)).cell? ⟨wr.heap.size, 1, none⟩ = some (.int .i64 tn) := by simp
        have a0' : (wr.alloc (.cells #[.int .i64 ta, .int .i64 tn, .int .i64 y2, .int .i64 y3, .int .i64 y4] 39)).cell? ⟨w.heap.size, 0, none⟩ = some (.int .i64 kb) := (World.cell?_alloc_lt wr _ ⟨w.heap.size, 0, none⟩ nb0).trans a0
        have a1' : (wr.alloc (.cells #[.int .i64 ta, .int .i64 tn, .int .i64 y2, .int .i64 y3, .int .i64 y4] 39)).cell? ⟨w.heap.size, 1, none⟩ = some (.int .i64 kt) := (World.cell?_alloc_lt wr _ ⟨w.heap.size, 1, none⟩ nb0).trans a1
        clear a0 a1 a2 c0 c1 c2 c3 c4
        generalize wr.alloc (.cells #[.int .i64 ta, .int .i64 tn, .int .i64 y2, .int .i64 y3, .int .i64 y4] 39) = W at *
        go_cut [10] (fun f' wx => f' = .int .i64 F ∧ wx = W)
        case first =>
          go_wp2_with fail
          all_goals (go_meet; exact ⟨by rw [HF1.out]; congr 1; omega, rfl⟩)
        case rest =>
          obtain ⟨rfl, rfl⟩ := hcut
          go_upto_region 19 with fail
          go_cut [11] (fun f' wx => f' = .int .i64 S ∧ wx = wc)
          case first =>
            go_wp2_with fail
            all_goals (go_meet; exact ⟨by rw [HS1.out]; congr 1; omega, rfl⟩)
          case rest =>
            obtain ⟨rfl, rfl⟩ := hcut
            by_cases h1 : tn * kt ≤ F
            · obtain ⟨g1, g2, g3, g4⟩ := HGR.out h1
              have G1 := Lib.hid g1; have G2 := Lib.hid g2; have G3 := Lib.hid g3; have G4 := Lib.hid g4
              clear g1 g2 g3 g4
              go_wp2_with (at_builtin; refine wpList_pushI rfl _ _ _ Tryd.underlying37 rfl w3.heap.size _ j _ 1 hownW rfl rfl (by omega) hbW.size ?_; intro v' w4 hown' hg' hb')
              refine ⟨⟨j + 1, by omega, by go_num, by rw [G1.out], by rw [G2.out], by rw [G3.out], ?_, hbW.trans hb'⟩, by simp [intOf]; omega⟩
              rw [tab_succ, G4.out]; exact hown'
            · by_cases h2 : tn * kt ≤ S
              · obtain ⟨g1, g2, g3, g4⟩ := HYE.out h1 h2
                have G1 := Lib.hid g1; have G2 := Lib.hid g2; have G3 := Lib.hid g3; have G4 := Lib.hid g4
                clear g1 g2 g3 g4
                go_wp2_with (at_builtin; refine wpList_pushI rfl _ _ _ Tryd.underlying37 rfl w3.heap.size _ j _ 2 hownW rfl rfl (by omega) hbW.size ?_; intro v' w4 hown' hg' hb')
                refine ⟨⟨j + 1, by omega, by go_num, by rw [G1.out], by rw [G2.out], by rw [G3.out], ?_, hbW.trans hb'⟩, by simp [intOf]; omega⟩
                rw [tab_succ, G4.out]; exact hown'
              · obtain ⟨g1, g2, g3, g4⟩ := HRE.out h1 h2
                have G1 := Lib.hid g1; have G2 := Lib.hid g2; have G3 := Lib.hid g3; have G4 := Lib.hid g4
                clear g1 g2 g3 g4
                go_wp2_with (at_builtin; refine wpList_pushI rfl _ _ _ Tryd.underlying37 rfl w3.heap.size _ j _ 3 hownW rfl rfl (by omega) hbW.size ?_; intro v' w4 hown' hg' hb')
                refine ⟨⟨j + 1, by omega, by go_num, by rw [G1.out], by rw [G2.out], by rw [G3.out], ?_, hbW.trans hb'⟩, by simp [intOf]; omega⟩
                rw [tab_succ, G4.out]; exact hown'
      · obtain rfl : j = n := by omega
        obtain ⟨A2, c2, rfl, hrd⟩ := own_reads hown
        go_wp2_with fail
        go_ret2
        exact ⟨A2, c2, rfl, hb0.trans (hb.mono hb0.size), hrd⟩
  · exact absurd HF.out hbad

set_option maxHeartbeats 1000000 in
theorem one_no (k : Bk) (x : Int) (A : Option Addr) (n c : Nat) (l : List It) (w : World) (hr : RdIt w w.heap.size A n l) (hg : Handle w) (hx0 : 0 ≤ x) (hx1 : x ≤ 1000000) (h : ¬ (BkOk k ∧ ListFine l)) :
    Calls Tryd.prog 22 #[bkV k, .int .i64 x, .slice A n c] w (NilErr w) := by
  have HG := Lib.hid hg; clear hg
  by_cases hk : BkOk k
  · have hbad : ¬ ListFine l := fun hf => h ⟨hk, hf⟩
    have hchk := fun W => bcheck_yes k W hk
    obtain ⟨kb, kt, kr⟩ := k
    unfold bkV at hchk ⊢
    dsimp only at hchk ⊢
    have HC := Lib.hid hchk; have HB := Lib.hid hbad
    clear hchk hk h hbad
    go_enter Tryd.func22, Tryd.ntmps22
    go_wp2_with fail
    refine (HC.out _).mono ?_
    rintro e w1 ⟨rfl, hb1⟩
    have hbw : Below w.heap.size w w1 := ((Below.refl _ w).alloc (Nat.le_refl _) _).trans (hb1.mono (by simp))
    clear hb1
    go_wp2_with fail
    refine (list_any A n c l w1 (hr.over hbw (Nat.le_refl _)) (HG.out.below hbw)).mono ?_
    rintro e w2 (⟨hgood, _⟩ | ⟨_, T, v, rfl, hb2⟩)
    · exact absurd hgood HB.out
    · go_wp2_with fail
      go_ret2
      exact ⟨_, _, rfl, hbw.trans (hb2.mono hbw.size)⟩
  · have hchk := fun W => bcheck_no k W hk
    obtain ⟨kb, kt, kr⟩ := k
    unfold bkV at hchk ⊢
    dsimp only at hchk ⊢
    have HC := Lib.hid hchk
    clear hchk hk h
    go_enter Tryd.func22, Tryd.ntmps22
    go_wp2_with fail
    refine (HC.out _).mono ?_
    rintro e w1 ⟨kk, rfl, hb1⟩
    go_wp2_with fail
    go_ret2
    exact ⟨_, _, rfl, ((Below.refl _ w).alloc (Nat.le_refl _) _).trans (hb1.mono (by simp))⟩
end Go.Proofs.YtdhojhgmaodifaaDoor
