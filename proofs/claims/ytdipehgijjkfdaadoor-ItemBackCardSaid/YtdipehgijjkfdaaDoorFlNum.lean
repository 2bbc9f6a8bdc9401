/-
  The reader of filters: number.
-/
import Derived.Test.YtdipehgijjkfdaaDoorFlRd
import Derived.Test.YtdipehgijjkfdaaDoorItShelf
import Derived.Test.YtdipehgijjkfdaaDoorHeld
import Derived.WalkSmall
import Derived.Lib.SmallJoins
import Derived.Lib.AppendIntMem
import Derived.Lib.QuietBelow
namespace Go.Proofs.YtdipehgijjkfdaaDoor
open Go.RowKit
set_option linter.unusedVariables false
theorem gl_syn : Tryd.prog.globalNamed "strconv.ErrSyntax" = some 5 := by kernel_rfl
theorem gl_rng : Tryd.prog.globalNamed "strconv.ErrRange" = some 6 := by kernel_rfl
theorem gl_tab : Tryd.prog.globalNamed "internal/strconv.uint64pow10" = some 7 := by kernel_rfl
/-- what the laid variables hold -/
structure Pv (w : World) : Prop where
  syn : ∃ tp p, w.var? Tryd.prog "strconv.ErrSyntax" = some #[.iface tp p]
  rng : ∃ tp p, w.var? Tryd.prog "strconv.ErrRange" = some #[.iface tp p]
  tab : Lib.TabIs Tryd.prog w "internal/strconv.uint64pow10" .u64 Lib.pow10Tab
  mx : ∃ m, w.cell? ⟨4, 0, none⟩ = some (.int .i64 m)
  fld : ∀ i, i < 5 → w.cell? ⟨0, i, none⟩ = some (.string ⟨(Fl.nm i).toArray⟩)
  sz : 10 ≤ w.heap.size
theorem Pv.below {w w' : World} {B : Nat} (h : Pv w) (hb : Below B w w') (hB : 10 ≤ B) : Pv w' := by
  obtain ⟨⟨tp, p, h2⟩, ⟨tp', p', h3⟩, h4, ⟨m, hm⟩, hf, h5⟩ := h
  refine ⟨⟨tp, p, ?_⟩, ⟨tp', p', ?_⟩, ?_, ⟨m, ?_⟩, fun i hi => ?_, Nat.le_trans h5 hb.size⟩
  · exact var?_below hb gl_syn (by omega) h2
  · exact var?_below hb gl_rng (by omega) h3
  · exact var?_below hb gl_tab (by omega) h4
  · exact (hb.cell (p := ⟨4, 0, none⟩) (show 4 < B by omega)).trans hm
  · exact (hb.cell (p := ⟨0, i, none⟩) (show 0 < B by omega)).trans (hf i hi)
theorem Pv.over {w w' : World} (h : Pv w) (hb : Below w.heap.size w w') : Pv w' := h.below hb h.sz
theorem Pv.chg {w w' : World} {S : Nat → Prop} (h : Pv w) (hc : Chg w w' S) (hs : ∀ i, S i → 10 ≤ i) : Pv w' :=
  h.below (hc.below h.sz (fun i hi hS => by have := hs i hS; omega)) (Nat.le_refl _)
/-- Atoi's two results -/
def AtoiEnd (s : List UInt8) (n : Int) (x : Value) : Prop := (Lib.atoiAll s = .ok n ∧ x = .nilIface) ∨ ((∀ v, Lib.atoiAll s ≠ .ok v) ∧ ∃ (T N : Nat), x = .iface T (.pointer (some ⟨N, 0, none⟩)))
theorem atoi_any (s : List UInt8) (hs : s.length ≤ 2000) (w : World) (h : Pv w) : Calls Tryd.prog 26 #[.string ⟨s.toArray⟩] w fun e w' => Below w.heap.size w w' ∧ ∃ n x, e = .returned (.tuple #[.int .i64 n, x]) ∧ AtoiEnd s n x := by
  have hsz : (⟨s.toArray⟩ : ByteArray).size ≤ 2000 := by show s.toArray.size ≤ 2000; simpa using hs
  cases hc : Lib.atoiAll s
  · rename_i v
    refine (Tryd.strconv_Atoi_ok ⟨s.toArray⟩ (by omega) v (by simpa using hc) w).mono ?_
    rintro e w' ⟨rfl, hw⟩
    refine ⟨?_, v, _, rfl, Or.inl ⟨hc, rfl⟩⟩
    rcases hw with rfl | ⟨t, rfl⟩
    · exact Below.refl _ _
    · exact Lib.bytesWorld_below _ _ _
  · skip
    obtain ⟨tp, p, hv⟩ := h.syn
    refine (Any.strconv_Atoi_syntax_var Tryd.laysC172 ⟨s.toArray⟩ (by omega) (by simpa using hc) tp p w hv).mono ?_
    rintro e w' ⟨N, rfl, _, _, hb⟩
    exact ⟨hb, _, _, rfl, Or.inr ⟨fun v hq => by rw [hc] at hq; simp at hq, _, N, rfl⟩⟩
  · skip
    obtain ⟨tp, p, hv⟩ := h.rng
    refine (Tryd.strconv_Atoi_range_var ⟨s.toArray⟩ (by omega) (by simpa using hc) tp p w hv).mono ?_
    rintro e w' ⟨N, rfl, _, _, hb⟩
    exact ⟨hb, _, _, rfl, Or.inr ⟨fun v hq => by rw [hc] at hq; simp at hq, _, N, rfl⟩⟩
theorem itoa_any (v : Int) (h0 : -9223372036854775808 ≤ v) (h1 : v ≤ 9223372036854775807) (w : World) (h : Pv w) : Calls Tryd.prog 20 #[.int .i64 v] w fun e w' => Below w.heap.size w w' ∧ e = .returned (.string ⟨(Lib.itoa v).toArray⟩) := by
  refine (Tryd.strconv_Itoa v h0 h1 w h.tab).mono ?_
  rintro e w' ⟨rfl, k, os, rfl⟩
  exact ⟨Lib.below_grow _ w (Nat.le_refl _) k os, rfl⟩
theorem atoi_fits (l : List UInt8) (v : Int) (h : Lib.atoiAll l = .ok v) : -9223372036854775808 ≤ v ∧ v ≤ 9223372036854775807 := by
  unfold Lib.atoiAll at h
  split at h
  · simp at h
  · dsimp only at h
    split at h
    · simp at h
    · simp at h
    · split at h
      · simp at h
      · split at h
        · simp at h
        · injection h with h
          split at h <;> omega
/-- number's two results -/
def NumEnd (s : List UInt8) (n e : Int) : Prop := (Fl.numF s = .ok n ∧ e = 0) ∨ (Fl.numF s = .error e ∧ e ≠ 0)
set_option maxHeartbeats 1000000 in
set_option maxRecDepth 100000 in
theorem number_f (s : List UInt8) (hs : s.length ≤ 2000) (w : World) (h : Pv w) :
    Calls Tryd.prog 44 #[.string ⟨s.toArray⟩] w fun e w' => Below w.heap.size w w' ∧ ∃ n er : Int, e = .returned (.tuple #[.int .i64 n, .int .i64 er]) ∧ NumEnd s n er := by
  have HA := Lib.hid (atoi_any s hs w h)
  have HV := Lib.hid h
  clear h
  go_enter Tryd.func44, Tryd.ntmps44
  go_wp2_with fail
  (with_reducible refine HA.out.mono ?_)
  rintro e w1 ⟨hb1, n, x, rfl, ⟨hok, rfl⟩ | ⟨hno, T, N, rfl⟩⟩
  · obtain ⟨h0, h1⟩ := atoi_fits _ _ hok
    have HI := Lib.hid (itoa_any n h0 h1 w1 (HV.out.over hb1))
    have hnq : Fl.numF s = if Lib.itoa n = s then (if n < 0 ∨ 1000000000 < n then .error 2 else .ok n) else .error 3 := by unfold Fl.numF; rw [hok]
    have HNQ := Lib.hid hnq
    clear hnq hok
    go_wp2_with fail
    (with_reducible refine HI.out.mono ?_)
    rintro e w2 ⟨hb2, rfl⟩
    have HB := Lib.hid (hb1.trans (hb2.mono hb1.size))
    clear hb1 hb2
    have hte : Lib.itoa n = s ∨ Lib.itoa n ≠ s := Classical.em _
    rcases hte with hq | hq
    · have hd : (Lib.itoa n == s) = true := beq_iff_eq.mpr hq
      rcases Int.lt_or_le n 0 with h2 | h2
      · go_wp2_with fail
        go_ret2
        exact ⟨HB.out, 0, 2, rfl, .inr ⟨by rw [HNQ.out, if_pos hq, if_pos (.inl h2)], by decide⟩⟩
      · rcases Int.lt_or_le 1000000000 n with h3 | h3
        · go_wp2_with fail
          go_ret2
          exact ⟨HB.out, 0, 2, rfl, .inr ⟨by rw [HNQ.out, if_pos hq, if_pos (.inr h3)], by decide⟩⟩
        · go_wp2_with fail
          go_ret2
          exact ⟨HB.out, n, 0, rfl, .inl ⟨by rw [HNQ.out, if_pos hq, if_neg (by omega)], rfl⟩⟩
    · have hd : (Lib.itoa n == s) = false := beq_eq_false_iff_ne.mpr hq
      go_wp2_with fail
      go_ret2
      exact ⟨HB.out, 0, 3, rfl, .inr ⟨by rw [HNQ.out, if_neg hq], by decide⟩⟩
  · have hnq : Fl.numF s = .error 3 := by
      unfold Fl.numF
      split
      · rename_i v hv; exact absurd hv (hno v)
      · rfl
    go_wp2_with fail
    go_ret2
    exact ⟨hb1, 0, 3, rfl, .inr ⟨hnq, by decide⟩⟩
end Go.Proofs.YtdipehgijjkfdaaDoor
