/-
  Random early detection in memory: how it is made.
-/
import Derived.Test.YthhgbpbaihgogaaRedPut
namespace Go.Proofs.Ythhgbpbaihgogaa
open Go.RowKit Bkt
set_option linter.unusedVariables false

def suV (U : Pl.SU) : Value := .agg #[.int .i64 U.low, .int .i64 U.high, .int .i64 U.often, .int .i64 U.slow, .bool U.mark]
def NewRedOut (w : World) (U : Pl.SU) (p : Pl.FP) (zs : List Int) (e : Ending) (w' : World) : Prop :=
  ∃ g v cs tv, e = .returned (.tuple #[.pointer (some ⟨g, 0, none⟩), .nilIface]) ∧ w.heap.size ≤ g ∧ Below w.heap.size w w' ∧ Rmm w' w.heap.size g v cs U p [] 0 tv zs ∧ v = .slice none 0 0
def NewRedNo (w : World) (e : Ending) (w' : World) : Prop := (∃ k : Int, e = .returned (.tuple #[.pointer none, .iface 80 (.int .i64 k)])) ∧ Below w.heap.size w w'

set_option maxHeartbeats 1000000 in
set_option maxRecDepth 100000 in
theorem newRed_no (U : Pl.SU) (pk : Int) (A : Option Addr) (n c : Nat) (w : World) (hp : 0 ≤ pk ∧ pk ≤ 1000000) (hU : ¬ Pl.SUOk U) :
    Calls Try.prog 17 #[suV U, .int .i64 pk, .int .i64 1000000, .slice A n c] w (NewRedNo w) := by
  have hnf := newFifo_yes ⟨pk, 1000000, false⟩ (w.alloc (.cells #[.int .i64 U.low, .int .i64 U.high, .int .i64 U.often, .int .i64 U.slow, .bool U.mark] 47)) ⟨by simp only []; omega, by simp only []; omega⟩
  have hb0 : Below w.heap.size w (w.alloc (.cells #[.int .i64 U.low, .int .i64 U.high, .int .i64 U.often, .int .i64 U.slow, .bool U.mark] 47)) := (Below.refl _ _).alloc (Nat.le_refl _) _
  have hk0 : Blk (w.alloc (.cells #[.int .i64 U.low, .int .i64 U.high, .int .i64 U.often, .int .i64 U.slow, .bool U.mark] 47)) w.heap.size 47 #[.int .i64 U.low, .int .i64 U.high, .int .i64 U.often, .int .i64 U.slow, .bool U.mark] := Blk.new _ _ _
  obtain ⟨lo, hi, of_, sl, mk⟩ := U
  unfold suV
  dsimp only at hnf hb0 hk0 ⊢
  have hno : lo < 0 ∨ (¬ lo < 0 ∧ hi ≤ lo) ∨ (¬ lo < 0 ∧ ¬ hi ≤ lo ∧ 1000000 < hi) ∨ (¬ lo < 0 ∧ ¬ hi ≤ lo ∧ ¬ 1000000 < hi ∧ of_ < 1) ∨ (¬ lo < 0 ∧ ¬ hi ≤ lo ∧ ¬ 1000000 < hi ∧ ¬ of_ < 1 ∧ 1000 < of_) ∨ (¬ lo < 0 ∧ ¬ hi ≤ lo ∧ ¬ 1000000 < hi ∧ ¬ of_ < 1 ∧ ¬ 1000 < of_ ∧ sl < 0) ∨ (¬ lo < 0 ∧ ¬ hi ≤ lo ∧ ¬ 1000000 < hi ∧ ¬ of_ < 1 ∧ ¬ 1000 < of_ ∧ ¬ sl < 0 ∧ 10 < sl) := by
    by_cases h : lo < 0 ∨ hi ≤ lo ∨ 1000000 < hi ∨ of_ < 1 ∨ 1000 < of_ ∨ sl < 0 ∨ 10 < sl
    · omega
    · exact absurd ⟨⟨by simp only []; omega, by simp only []; omega, by simp only []; omega⟩, ⟨by simp only []; omega, by simp only []; omega⟩, ⟨by simp only []; omega, by simp only []; omega⟩⟩ hU
  have HN := Lib.hid hnf; have HB0 := Lib.hid hb0; have HK0 := Lib.hid hk0; have HNO := Lib.hid hno
  clear hnf hb0 hk0 hU hno
  go_enter Try.func17, Try.ntmps17
  go_upto_region 1 with fail
  generalize w.alloc (.cells #[.int .i64 lo, .int .i64 hi, .int .i64 of_, .int .i64 sl, .bool mk] 47) = w0 at *
  go_wp2_with fail
  (with_reducible refine HN.out.mono ?_)
  rintro e w1 ⟨g, rfl, hg, hb1, _⟩
  have hsz := HB0.out.size
  have hk1 := HK0.out.below hb1 HK0.out.lt
  have hb2 := bl_next HB0.out hb1
  have z0 := hk1.cell 0; have z1 := hk1.cell 1; have z2 := hk1.cell 2; have z3 := hk1.cell 3; have z4 := hk1.cell 4
  simp at z0 z1 z2 z3 z4
  have HB2 := Lib.hid hb2
  clear hk1 hb1 hb2
  have hno := HNO.out
  clear HNO HN
  rcases hno with c1 | ⟨c1, c2⟩ | ⟨c1, c2, c3⟩ | ⟨c1, c2, c3, c4⟩ | ⟨c1, c2, c3, c4, c5⟩ | ⟨c1, c2, c3, c4, c5, c6⟩ | ⟨c1, c2, c3, c4, c5, c6, c7⟩
  all_goals
    go_wp2_with fail
    go_ret2
    exact ⟨⟨_, rfl⟩, HB2.out⟩

theorem newRed_fin {w w' : World} {U : Pl.SU} {pk : Int} {zs : List Int} {A' : Option Addr} {m c' B : Nat} (h1 : w'.ownsRow B 3 1 (.slice A' m c') m ([] ++ zs.map (Value.int .i64))) (hm : m = zs.length) (hb : Below w.heap.size w w') (hB : w.heap.size ≤ B) :
    NewRedOut w U ⟨pk, 1000000, false⟩ zs (.returned (.tuple #[.pointer (some ⟨w'.heap.size, 0, none⟩), .nilIface]))
      (w'.alloc (.cells #[.slice none 0 0, .int .i64 0, .int .i64 pk, .int .i64 1000000, .bool false, .int .i64 U.low, .int .i64 U.high, .int .i64 U.often, .int .i64 U.slow, .bool U.mark, .slice A' m c', .int .i64 0, .int .i64 0] 63)) := by
  subst hm
  have ho := (OwnW.of_own h1).mono hB
  refine ⟨w'.heap.size, .slice none 0 0, _, _, rfl, hb.size, hb.alloc hb.size _, ⟨⟨⟨Blk.new _ _ _, rfl, rfl, OwnW.nil _ _ _ _, by decide⟩, rfl, rfl, rfl⟩, rfl, rfl, rfl, rfl, rfl, rfl, rfl, ⟨0, rfl⟩, ho.alloc _, fun i _ e => by simp [Value.ownBlock] at e, fun e => by have := (ho.lt _ e).2; omega⟩, rfl⟩

set_option maxHeartbeats 1000000 in
set_option maxRecDepth 100000 in
theorem newRed_yes (U : Pl.SU) (pk : Int) (A : Option Addr) (n c : Nat) (zs : List Int) (w : World) (hr : RdI w w.heap.size A n zs) (hp : 0 ≤ pk ∧ pk ≤ 1000000) (hU : Pl.SUOk U) (hn : n ≤ 500) :
    Calls Try.prog 17 #[suV U, .int .i64 pk, .int .i64 1000000, .slice A n c] w (NewRedOut w U ⟨pk, 1000000, false⟩ zs) := by
  have hnf := newFifo_yes ⟨pk, 1000000, false⟩ (w.alloc (.cells #[.int .i64 U.low, .int .i64 U.high, .int .i64 U.often, .int .i64 U.slow, .bool U.mark] 47)) ⟨by simp only []; omega, by simp only []; omega⟩
  have hb0 : Below w.heap.size w (w.alloc (.cells #[.int .i64 U.low, .int .i64 U.high, .int .i64 U.often, .int .i64 U.slow, .bool U.mark] 47)) := (Below.refl _ _).alloc (Nat.le_refl _) _
  have hk0 : Blk (w.alloc (.cells #[.int .i64 U.low, .int .i64 U.high, .int .i64 U.often, .int .i64 U.slow, .bool U.mark] 47)) w.heap.size 47 #[.int .i64 U.low, .int .i64 U.high, .int .i64 U.often, .int .i64 U.slow, .bool U.mark] := Blk.new _ _ _
  have hsz0 : w.heap.size < (w.alloc (.cells #[.int .i64 U.low, .int .i64 U.high, .int .i64 U.often, .int .i64 U.slow, .bool U.mark] 47)).heap.size := by simp
  obtain ⟨lo, hi, of_, sl, mk⟩ := U
  obtain ⟨⟨u1, u2, u3⟩, ⟨u4, u5⟩, ⟨u6, u7⟩⟩ := hU
  unfold suV
  dsimp only at hnf hb0 hk0 hsz0 u1 u2 u3 u4 u5 u6 u7 ⊢
  have HN := Lib.hid hnf; have HB0 := Lib.hid hb0; have HK0 := Lib.hid hk0; have HR := Lib.hid hr
  clear hnf hb0 hk0 hr
  go_enter Try.func17, Try.ntmps17
  go_upto_region 1 with fail
  generalize w.alloc (.cells #[.int .i64 lo, .int .i64 hi, .int .i64 of_, .int .i64 sl, .bool mk] 47) = w0 at *
  go_wp2_with fail
  (with_reducible refine HN.out.mono ?_)
  rintro e w1 ⟨g, rfl, hg, hb1, hf⟩
  have hsz := HB0.out.size
  have hk1 := HK0.out.below hb1 HK0.out.lt
  have hb2 := bl_next HB0.out hb1
  have z0 := hk1.cell 0; have z1 := hk1.cell 1; have z2 := hk1.cell 2; have z3 := hk1.cell 3; have z4 := hk1.cell 4
  have hk := hf.lst.blk
  have q0 := hk.cell 0; have q1 := hk.cell 1; have q2 := hk.cell 2; have q3 := hk.cell 3; have q4 := hk.cell 4
  simp at z0 z1 z2 z3 z4 q0 q1 q2 q3 q4
  have hr2 := HR.out.below hb2
  have hzl := HR.out.len
  have hsz1 := hb1.size
  have hk1l := hk1.lt
  have hgl := hk.lt
  have hr3 : Reads (w1.alloc (.cells #[] 3)).drew w.heap.size 1 A n (zs.map (.int .i64)) := Reads.drew (Reads.alloc hr2 (by omega) _)
  have hgr : ∀ w', (w1.alloc (.cells #[] 3)).drew.grownBy w' (some w1.heap.size) → Blk w' w.heap.size 47 #[.int .i64 lo, .int .i64 hi, .int .i64 of_, .int .i64 sl, .bool mk] ∧ Blk w' g 61 #[.slice none 0 0, .int .i64 0, .int .i64 pk, .int .i64 1000000, .bool false] ∧ Below w.heap.size w w' := fun w' h => by
    refine ⟨Blk.grown ((hk1.alloc _).drew) h (fun e => by injection e with e; omega), Blk.grown ((hk.alloc _).drew) h (fun e => by injection e with e; omega), ?_⟩
    exact Below.grown (B := w.heap.size) (bl_drew (bl_alloc hb2)) h (by simp; omega) (fun i hi => by injection hi with hi; omega)
  have hro : (w1.alloc (.cells #[] 3)).drew.ownsRow w1.heap.size 3 1 (.slice (some ⟨w1.heap.size, 0, none⟩) 0 0) 0 [] := by
    refine ⟨by simp, .inr ⟨w1.heap.size, 0, #[], rfl, Nat.le_refl _, ?_, Nat.le_refl _, by simp [maxLen], by simp, by simp⟩⟩
    exact Blk.drew (Blk.new w1 _ _)
  have hle : w1.heap.size ≤ (w1.alloc (.cells #[] 3)).drew.heap.size := by show w1.heap.size ≤ (w1.alloc (.cells #[] 3)).heap.size; simp
  have hoc : ∀ u ∈ zs.map (Value.int .i64), u.oneCell' = true := fun u hu => by obtain ⟨x, _, rfl⟩ := List.mem_map.1 hu; rfl
  have HOC := Lib.hid hoc; clear hoc
  have HSZ := Lib.hid (Nat.le_trans (Nat.le_of_lt hk1l) (Nat.le_refl _) : w.heap.size ≤ w1.heap.size)
  have HLE := Lib.hid hle; clear hle
  have HB2 := Lib.hid hb2; have HR3 := Lib.hid hr3; have HGR := Lib.hid hgr; have HRO := Lib.hid hro
  clear hk1 hb1 hb2 hk hf hr2 HN hr3 hgr hro
  go_upto_region 8 with fail
  obtain ⟨i0, hi0, hz0, hz1, hz2⟩ := info_parts Try.intInfo
  have I0 := Lib.hid hi0; have I1 := Lib.hid hz0; have I2 := Lib.hid hz1; have I3 := Lib.hid hz2
  clear hi0 hz0 hz1 hz2
  go_region_law ((refine step_append_any _ (by rfl) (.tmp 65) (.tmp 66) _ (by rfl) w1.heap.size 3 i0 (.int .i64 0) 1 8 Try.underlying32 I0.out I1.out I2.out I3.out rfl (by decide) _ 0 [] (by rfl) ?_ w.heap.size A n c (zs.map (.int .i64)) (by rfl) ?_ ?_ ?_ ?_ ?_ ?_; (exact HRO.out); (exact HR3.out); (exact HOC.out); (simp only [maxLen]; omega); (omega); (exact HLE.out); (intro v' w' h1 h2 _; obtain ⟨A', c', rfl, _⟩ := own_reads h1; obtain ⟨y1, y2, y3⟩ := HGR.out w' h2; have z0 := y1.cell 0; have z1 := y1.cell 1; have z2 := y1.cell 2; have z3 := y1.cell 3; have z4 := y1.cell 4; have q0 := y2.cell 0; have q1 := y2.cell 1; have q2 := y2.cell 2; have q3 := y2.cell 3; have q4 := y2.cell 4; (simp at z0 z1 z2 z3 z4 q0 q1 q2 q3 q4); have H1 := Lib.hid h1; have HB3 := Lib.hid y3; clear h1 h2 y1 y2 y3)))
  all_goals
    go_wp2_with fail
    go_ret2
    first
      | exact newRed_fin H1.out (by omega) HB3.out HSZ.out
      | (have e0 := H1.out; rw [Nat.zero_add] at e0; exact newRed_fin e0 (by omega) HB3.out HSZ.out)
end Go.Proofs.Ythhgbpbaihgogaa
