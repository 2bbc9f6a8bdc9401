/-
  Texts of this claim, one behind the other: State.
-/
import Derived.Test.YtgdijbaodfghjaaGreatDoorZ07
import Derived.Test.YtgdijbaodfghjaaGreatDoorZ04
import Derived.StillTailTactics
import Derived.BigRegion
/-
  What bucket.New, fill and Take do.
-/
namespace Go.Proofs.YtgdijbaodfghjaaGreatDoor
open Go.RowKit Bkt
set_option linter.unusedVariables false

def StB (w : World) (g : Nat) (k : Bk) (s : St) : Prop := Blk w g 151 #[.int .i64 k.b, .int .i64 k.t, .int .i64 k.r, .int .i64 s.last, .int .i64 s.has]
def NewOut (w : World) (k : Bk) (e : Ending) (w' : World) : Prop := ∃ g, w.heap.size ≤ g ∧ e = .returned (.tuple #[.pointer (some ⟨g, 0, none⟩), .nilIface]) ∧ Below w.heap.size w w' ∧ StB w' g k (Bkt.start k)
def NewErr (w : World) (e : Ending) (w' : World) : Prop := ∃ j : Int, e = .returned (.tuple #[.pointer none, .iface 69 (.int .i64 j)]) ∧ Below w.heap.size w w'
theorem mul_bd {a b A B : Int} (ha : 0 ≤ a) (hb : 0 ≤ b) (hA : a ≤ A) (hB : b ≤ B) : 0 ≤ a * b ∧ a * b ≤ A * B :=
  ⟨Int.mul_nonneg ha hb, Int.le_trans (Int.mul_le_mul_of_nonneg_right hA hb) (Int.mul_le_mul_of_nonneg_left hB (by omega))⟩

set_option maxHeartbeats 1000000 in
theorem new_yes (k : Bk) (w : World) (h : BkOk k) : Calls Tryz.prog 44 #[bkV k] w (NewOut w k) := by
  obtain ⟨b, t, r⟩ := k
  have hq := bcheck_yes ⟨b, t, r⟩ (w.alloc (.cells #[.int .i64 b, .int .i64 t, .int .i64 r] 111)) h
  have hrt := mul_bd h.r.1 (show (0 : Int) ≤ t by have := h.t.1; dsimp only at this; omega) h.r.2 h.t.2
  obtain ⟨m0, m1⟩ := hrt
  have m1' : r * t ≤ 1000000000000 := m1
  dsimp only at m0
  clear h m1
  unfold bkV at hq ⊢
  dsimp only at hq ⊢
  have HQ := Lib.hid hq; clear hq
  go_enter Tryz.func44, Tryz.ntmps44
  go_wp2_with fail
  refine (HQ.out).mono ?_
  rintro e w1 ⟨rfl, hb⟩
  have c0 : w1.cell? ⟨w.heap.size, 0, none⟩ = some (.int .i64 b) := (hb.cell (p := ⟨w.heap.size, 0, none⟩) (by simp)).trans (by simp)
  have c1 : w1.cell? ⟨w.heap.size, 1, none⟩ = some (.int .i64 t) := (hb.cell (p := ⟨w.heap.size, 1, none⟩) (by simp)).trans (by simp)
  have c2 : w1.cell? ⟨w.heap.size, 2, none⟩ = some (.int .i64 r) := (hb.cell (p := ⟨w.heap.size, 2, none⟩) (by simp)).trans (by simp)
  go_wp2_with fail
  go_ret2
  have hs : w.heap.size + 1 ≤ w1.heap.size := by have := hb.size; simp at this; omega
  exact ⟨w1.heap.size, by omega, rfl, (((Below.refl _ w).alloc (Nat.le_refl _) _).trans (hb.mono (by simp))).alloc (by omega) _, Blk.new _ _ _⟩
set_option maxHeartbeats 1000000 in
theorem new_no (k : Bk) (w : World) (h : ¬ BkOk k) : Calls Tryz.prog 44 #[bkV k] w (NewErr w) := by
  obtain ⟨b, t, r⟩ := k
  have hq := bcheck_no ⟨b, t, r⟩ (w.alloc (.cells #[.int .i64 b, .int .i64 t, .int .i64 r] 111)) h
  clear h
  unfold bkV at hq ⊢
  dsimp only at hq ⊢
  have HQ := Lib.hid hq; clear hq
  go_enter Tryz.func44, Tryz.ntmps44
  go_wp2_with fail
  refine (HQ.out).mono ?_
  rintro e w1 ⟨j, rfl, hb⟩
  go_wp2_with fail
  go_ret2
  exact ⟨j, rfl, ((Below.refl _ w).alloc (Nat.le_refl _) _).trans (hb.mono (by simp))⟩

def FillOut (w : World) (g : Nat) (k : Bk) (s : St) (e : Ending) (w' : World) : Prop := e = .returned (.tuple #[]) ∧ w.grownBy w' (some g) ∧ StB w' g k s
theorem stB_fill {w : World} {g : Nat} {k : Bk} {s : St} (h : StB w g k s) (v n : Int) : StB ((w.setCell ⟨g, 4, none⟩ (.int .i64 v)).setCell ⟨g, 3, none⟩ (.int .i64 n)).drew g k ⟨n, v⟩ :=
  Blk.drew (Blk.set_ (Blk.set_ h 4 (.int .i64 v)) 3 (.int .i64 n))
theorem only_fill (w : World) (g : Nat) (u v : Value) : w.grownBy ((w.setCell ⟨g, 4, none⟩ u).setCell ⟨g, 3, none⟩ v).drew (some g) :=
  only_drew (only_setCell (p := ⟨g, 3, none⟩) (only_setCell (p := ⟨g, 4, none⟩) (World.grownBy.refl w (some g)) (.inl rfl) u) (.inl rfl) v)
theorem stB_take {w : World} {g : Nat} {k : Bk} {s : St} (h : StB w g k s) (v : Int) : StB (w.setCell ⟨g, 4, none⟩ (.int .i64 v)) g k ⟨s.last, v⟩ := Blk.set_ h 4 (.int .i64 v)
set_option maxHeartbeats 1000000 in
set_option maxRecDepth 100000 in
theorem fill_any (k : Bk) (s : St) (g : Nat) (now : Int) (w : World) (hk : BkOk k) (hs : StB w g k s) (h0 : 0 ≤ s.last) (h1 : now ≤ 1000000000) (h2 : 0 ≤ s.has) (h3 : s.has ≤ k.r * k.t) :
    Calls Tryz.prog 140 #[.pointer (some ⟨g, 0, none⟩), .int .i64 now] w (FillOut w g k (fill k s now)) := by
  obtain ⟨b, t, r⟩ := k
  obtain ⟨last, has⟩ := s
  dsimp only at h0 h2 h3
  have c0 : w.cell? ⟨g, 0, none⟩ = some (.int .i64 b) := hs.cell 0
  have c1 : w.cell? ⟨g, 1, none⟩ = some (.int .i64 t) := hs.cell 1
  have c2 : w.cell? ⟨g, 2, none⟩ = some (.int .i64 r) := hs.cell 2
  have c3 : w.cell? ⟨g, 3, none⟩ = some (.int .i64 last) := hs.cell 3
  have c4 : w.cell? ⟨g, 4, none⟩ = some (.int .i64 has) := hs.cell 4
  have f3 : w.frozen? ⟨g, 3, none⟩ = false := hs.frozen 3
  have f4 : w.frozen? ⟨g, 4, none⟩ = false := hs.frozen 4
  have hrt := mul_bd hk.r.1 (show (0 : Int) ≤ t by have := hk.t.1; dsimp only at this; omega) hk.r.2 hk.t.2
  obtain ⟨m0, m1⟩ := hrt
  have m1' : r * t ≤ 1000000000000 := m1
  dsimp only at m0
  clear m1
  by_cases hlt : last < now
  · have hp := mul_bd (a := now - last) (b := b) (A := 1000000000) (B := 1000000) (by omega) (by have := hk.b.1; dsimp only at this; omega) (by omega) hk.b.2
    obtain ⟨p0, p1⟩ := hp
    have p1' : (now - last) * b ≤ 1000000000000000 := p1
    clear p1 hk
    have HE : Hid (fill ⟨b, t, r⟩ ⟨last, has⟩ now = ⟨now, min (r * t) (has + (now - last) * b)⟩) := by show fill _ _ _ = _; unfold fill; rw [if_pos hlt]
    have HS := Lib.hid hs; clear hs
    have e1 : IntKind.i64.wrap (r * t) = r * t := IntWalk.i64_in _ (by omega)
    have e2 : IntKind.i64.wrap (now - last) = now - last := IntWalk.i64_in _ (by omega)
    have e3 : IntKind.i64.wrap ((now - last) * b) = (now - last) * b := IntWalk.i64_in _ (by omega)
    have e4 : IntKind.i64.wrap (has + (now - last) * b) = has + (now - last) * b := IntWalk.i64_in _ (by omega)
    go_enter Tryz.func140, Tryz.ntmps140
    go_wp2_with fail
    go_still_tail 34, (by kernel_rfl)
    change wpList _ _ _ _ _ w.drew
    go_wp2_with fail
    · go_end0
      have hm : min (r * t) (has + (now - last) * b) = has + (now - last) * b := by omega
      rw [hm] at HE
      exact ⟨rfl, only_fill w g _ _, by rw [HE.out]; exact stB_fill HS.out _ _⟩
    · go_end0
      have hm : min (r * t) (has + (now - last) * b) = r * t := by omega
      rw [hm] at HE
      exact ⟨rfl, only_fill w g _ _, by rw [HE.out]; exact stB_fill HS.out _ _⟩
  · have HE : Hid (fill ⟨b, t, r⟩ ⟨last, has⟩ now = ⟨last, has⟩) := by show fill _ _ _ = _; unfold fill; rw [if_neg hlt]
    have HS := Lib.hid hs; clear hs
    go_enter Tryz.func140, Tryz.ntmps140
    go_wp2_with fail
    go_end0
    exact ⟨rfl, World.grownBy.refl _ _, by rw [HE.out]; exact HS.out⟩

def BTakeOut (w : World) (g : Nat) (s : St) (k : Bk) (b : Bool) (e : Ending) (w' : World) : Prop := e = .returned (.bool b) ∧ w.grownBy w' (some g) ∧ StB w' g k s
theorem takeOut_mk {w w' : World} {g : Nat} {s s' : St} {k : Bk} {b b' : Bool} {e : Ending} (he : e = .returned (.bool b')) (hb : b = b') (hg : w.grownBy w' (some g)) (hs : s = s') (hst : StB w' g k s') : BTakeOut w g s k b e w' := by
  subst hb hs; exact ⟨he, hg, hst⟩
set_option maxHeartbeats 1000000 in
set_option maxRecDepth 100000 in
theorem take_any (k : Bk) (s : St) (g : Nat) (now n : Int) (w : World) (hk : BkOk k) (hs : StB w g k s) (h0 : 0 ≤ s.last) (hl : s.last ≤ 1000000000) (h1 : now ≤ 1000000000) (h2 : 0 ≤ s.has) (h3 : s.has ≤ k.r * k.t) (hn0 : 0 ≤ n) (hn1 : n ≤ 1000000) :
    Calls Tryz.prog 138 #[.pointer (some ⟨g, 0, none⟩), .int .i64 now, .int .i64 n] w (BTakeOut w g (Bkt.take k s now n) k (okB k s now n)) := by
  have hfill := fill_any k s g now w hk hs h0 h1 h2 h3
  have hF := Lib.hid hfill; clear hfill
  have hfl : 0 ≤ (fill k s now).has ∧ (fill k s now).has ≤ k.r * k.t := by
    unfold fill
    split
    · have := mul_bd (a := now - s.last) (b := k.b) (by omega) (by have := hk.b.1; omega) (Int.le_refl _) (Int.le_refl _)
      dsimp only
      omega
    · exact ⟨h2, h3⟩
  have hnt := mul_bd hn0 (show (0 : Int) ≤ k.t by have := hk.t.1; omega) hn1 hk.t.2
  have hrt := mul_bd hk.r.1 (show (0 : Int) ≤ k.t by have := hk.t.1; omega) hk.r.2 hk.t.2
  have HOK : Hid (okB k s now n = decide (n * k.t ≤ (fill k s now).has)) := rfl
  have HTK : Hid (Bkt.take k s now n = if okB k s now n then ⟨(fill k s now).last, (fill k s now).has - n * k.t⟩ else fill k s now) := rfl
  generalize fill k s now = f at *
  obtain ⟨fl, fh⟩ := f
  obtain ⟨b, t, r⟩ := k
  dsimp only at hfl hnt hrt
  have q0 : 0 ≤ n * t := hnt.1
  have q1 : n * t ≤ 1000000000000 := hnt.2
  have q2 : 0 ≤ fh := hfl.1
  have q3 : fh ≤ 1000000000000 := Int.le_trans hfl.2 hrt.2
  clear hfl hnt hrt hs h0 hl h2 h3 hk
  by_cases hc : n * t ≤ fh
  · have e1 : okB ⟨b, t, r⟩ s now n = true := by rw [HOK.out]; exact decide_eq_true hc
    have e2 : Bkt.take ⟨b, t, r⟩ s now n = ⟨fl, fh - n * t⟩ := by rw [HTK.out, e1]; rfl
    have E1 := Lib.hid e1; have E2 := Lib.hid e2; clear e1 e2 HOK HTK
    go_enter Tryz.func138, Tryz.ntmps138
    go_wp2_with fail
    refine (hF.out).mono ?_
    rintro e w1 ⟨rfl, hg, hst⟩
    have c1 : w1.cell? ⟨g, 1, none⟩ = some (.int .i64 t) := hst.cell 1
    have c4 : w1.cell? ⟨g, 4, none⟩ = some (.int .i64 fh) := hst.cell 4
    have f4 : w1.frozen? ⟨g, 4, none⟩ = false := hst.frozen 4
    have HST := Lib.hid hst; clear hst
    go_wp2_with fail
    go_ret
    exact takeOut_mk rfl E1.out (only_setCell (p := ⟨g, 4, none⟩) hg (.inl rfl) _) E2.out (stB_take HST.out _)
  · have e1 : okB ⟨b, t, r⟩ s now n = false := by rw [HOK.out]; exact decide_eq_false hc
    have e2 : Bkt.take ⟨b, t, r⟩ s now n = ⟨fl, fh⟩ := by rw [HTK.out, e1]; rfl
    have E1 := Lib.hid e1; have E2 := Lib.hid e2; clear e1 e2 HOK HTK
    have hc' : fh < n * t := by omega
    go_enter Tryz.func138, Tryz.ntmps138
    go_wp2_with fail
    refine (hF.out).mono ?_
    rintro e w1 ⟨rfl, hg, hst⟩
    have c1 : w1.cell? ⟨g, 1, none⟩ = some (.int .i64 t) := hst.cell 1
    have c4 : w1.cell? ⟨g, 4, none⟩ = some (.int .i64 fh) := hst.cell 4
    have HST := Lib.hid hst; clear hst
    go_wp2_with fail
    go_ret
    exact takeOut_mk rfl E1.out hg E2.out HST.out
end Go.Proofs.YtgdijbaodfghjaaGreatDoor
