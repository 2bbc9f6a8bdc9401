/-
  What a filter means.
-/
import Derived.Test.YtdipehgijjkfdaaDoorFlMeth
namespace Go.Proofs.YtdipehgijjkfdaaDoor
open Go.RowKit
set_option linter.unusedVariables false
/-- a packet by its five numbers -/
def itX (x : Nat → Int) : Value := .agg #[.int .i64 (x 0), .int .i64 (x 1), .int .i64 (x 2), .int .i64 (x 3), .int .i64 (x 4)]
theorem ix_int (c0 c1 c2 c3 c4 : Int) (w : World) : (Instr.index 58 (.agg #[.int .i64 c0, .int .i64 c1, .int .i64 c2, .int .i64 c3, .int .i64 c4]) (.int .i64 0)).run Tryd.prog w = .ok (.int .i64 c0) w ∧ (Instr.index 58 (.agg #[.int .i64 c0, .int .i64 c1, .int .i64 c2, .int .i64 c3, .int .i64 c4]) (.int .i64 1)).run Tryd.prog w = .ok (.int .i64 c1) w ∧
    (Instr.index 58 (.agg #[.int .i64 c0, .int .i64 c1, .int .i64 c2, .int .i64 c3, .int .i64 c4]) (.int .i64 2)).run Tryd.prog w = .ok (.int .i64 c2) w ∧ (Instr.index 58 (.agg #[.int .i64 c0, .int .i64 c1, .int .i64 c2, .int .i64 c3, .int .i64 c4]) (.int .i64 3)).run Tryd.prog w = .ok (.int .i64 c3) w ∧
    (Instr.index 58 (.agg #[.int .i64 c0, .int .i64 c1, .int .i64 c2, .int .i64 c3, .int .i64 c4]) (.int .i64 4)).run Tryd.prog w = .ok (.int .i64 c4) w := by
  refine ⟨?_, ?_, ?_, ?_, ?_⟩ <;> simp [Instr.index, run_underlying Tryd.underlying58, asIntOf, part, Tryd.sizeOf3, Tryd.isAgg3, go_sem]
theorem ix_at (x : Nat → Int) (f : Nat) (hf : f < 5) (w : World) : (Instr.index 58 (itX x) (.int .i64 (f : Nat))).run Tryd.prog w = .ok (.int .i64 (x f)) w := by
  obtain ⟨h0, h1, h2, h3, h4⟩ := ix_int (x 0) (x 1) (x 2) (x 3) (x 4) w
  rcases (by omega : f = 0 ∨ f = 1 ∨ f = 2 ∨ f = 3 ∨ f = 4) with rfl | rfl | rfl | rfl | rfl
  · exact h0
  · exact h1
  · exact h2
  · exact h3
  · exact h4
set_option maxHeartbeats 1000000 in
set_option maxRecDepth 100000 in
theorem value_f (x : Nat → Int) (f : Nat) (hf : f < 5) (w : World) :
    Calls Tryd.prog 114 #[itX x, .int .i64 (f : Nat)] w fun e w' => e = .returned (.int .i64 (x f)) ∧ Below w.heap.size w w' := by
  have hix := fun W => ix_at x f hf W
  unfold itX at hix ⊢
  go_enter Tryd.func114, Tryd.ntmps114
  go_wp2_with fail
  go_ret
  exact ⟨rfl, (Below.refl _ _).alloc (Nat.le_refl _) _⟩
/-- a filter's Meant, whatever lies about -/
def MeantOk (x : Nat → Int) (B E : Nat) (v : Value) (t : Fl.Ft) : Prop := ∀ T r, v = .iface T r → ∀ W, FtV B E W v t → E ≤ W.heap.size →
  Calls Tryd.prog (meantOf t) #[r, itX x] W fun e w' => e = .returned (.bool (Fl.meantF x t)) ∧ Below W.heap.size W w'
set_option maxHeartbeats 2000000 in
set_option maxRecDepth 100000 in
theorem tst_meant (x : Nat → Int) (f : Nat) (lo hi : Int) (b : Bool) (hf : f < 5) (w : World) :
    Calls Tryd.prog 112 #[.agg #[.int .i64 (f : Nat), .int .i64 lo, .int .i64 hi, .bool b], itX x] w fun e w' => e = .returned (.bool (Fl.meantF x (.tst f lo hi b))) ∧ Below w.heap.size w w' := by
  have hval := fun W => value_f x f hf W
  rw [Fl.meantF]
  unfold itX at hval ⊢
  have HVAL := Lib.hid hval
  generalize x f = y at *
  clear hval
  go_enter Tryd.func112, Tryd.ntmps112
  go_wp2_with fail
  (with_reducible refine (HVAL.out _).mono ?_)
  rintro e w1 ⟨rfl, hb⟩
  have hbb : Below w.heap.size w w1 := (((Below.refl w.heap.size w).alloc (Nat.le_refl _) _).alloc (by simp) _).trans (hb.mono (by simp; omega))
  have k0 : w1.cell? ⟨w.heap.size, 1, none⟩ = some (.int .i64 lo) := (hb.cell (p := ⟨w.heap.size, 1, none⟩) (by simp; omega)).trans (by simp)
  have k1 : w1.cell? ⟨w.heap.size, 2, none⟩ = some (.int .i64 hi) := (hb.cell (p := ⟨w.heap.size, 2, none⟩) (by simp; omega)).trans (by simp)
  have k2 : w1.cell? ⟨w.heap.size, 3, none⟩ = some (.bool b) := (hb.cell (p := ⟨w.heap.size, 3, none⟩) (by simp; omega)).trans (by simp)
  have HBB := Lib.hid hbb
  clear hb hbb
  cases b with
  | true =>
    go_wp2_with fail
    go_ret
    exact ⟨rfl, HBB.out⟩
  | false =>
    rcases Int.lt_or_le y lo with h1 | h1
    · have d1 : decide (lo ≤ y) = false := decide_eq_false (by omega)
      go_wp2_with fail
      go_ret
      exact ⟨(by first | (simp; done) | simp [d1]), HBB.out⟩
    · have d1 : decide (lo ≤ y) = true := decide_eq_true h1
      go_wp2_with fail
      go_ret
      exact ⟨(by first | (simp; done) | simp [d1]), HBB.out⟩
theorem rdV_at {w : World} {B n : Nat} {A : Option Addr} {vs : List Value} (h : Reads w B 1 A n vs) {k : Nat} (hk : k < n) : ∃ b off u, A = some ⟨b, off, none⟩ ∧ b < B ∧ vs[k]? = some u ∧ w.cell? ⟨b, off + k, none⟩ = some u := by
  obtain ⟨ad, u, rfl, hb, hx, hc⟩ := Reads.at_ h hk
  obtain ⟨ad0, u0, hA0, _, _, hc0⟩ := Reads.at_ h (show 0 < n by omega)
  injection hA0 with hA0
  subst hA0
  obtain ⟨b, off, spot⟩ := ad
  have hs' : spot = none := by simpa [Addr.add] using World.cell?_spot hc0
  subst hs'
  refine ⟨b, off, u, rfl, hb, hx, ?_⟩
  have e2 : (⟨b, off, none⟩ : Addr).add k = ⟨b, off + k, none⟩ := by unfold Addr.add; split <;> simp_all
  rw [← e2, hc]
set_option maxHeartbeats 1000000 in
set_option maxRecDepth 100000 in
theorem not_meant (x : Nat → Int) (B E : Nat) (t : Fl.Ft) (v : Value) (ih : MeantOk x B E v t) (w : World) (h : FtV B E w v t) (hE : E ≤ w.heap.size) :
    Calls Tryd.prog 99 #[.agg #[v], itX x] w fun e w' => e = .returned (.bool (Fl.meantF x (.not t))) ∧ Below w.heap.size w w' := by
  obtain ⟨T, r, rfl, hm, _⟩ := h.meth
  have HC := Lib.hid (fun W (hb : Below w.heap.size w W) => ih T r rfl W (h.over hE hb) (Nat.le_trans hE hb.size))
  have HM := Lib.hid hm
  rw [Fl.meantF]
  unfold itX at HC ⊢
  generalize Fl.meantF x t = mt at *
  clear ih h hm
  go_enter Tryd.func99, Tryd.ntmps99
  have hb2 : Below w.heap.size w ((w.alloc (.cells #[.iface T r] 71)).alloc (.cells #[.int .i64 (x 0), .int .i64 (x 1), .int .i64 (x 2), .int .i64 (x 3), .int .i64 (x 4)] 31)) := ((Below.refl w.heap.size w).alloc (Nat.le_refl _) _).alloc (by simp) _
  have HC2 := Lib.hid (HC.out _ hb2)
  go_wp2_with (refine wpList_invoke1 (vx := .agg #[.int .i64 (x 0), .int .i64 (x 1), .int .i64 (x 2), .int .i64 (x 3), .int .i64 (x 4)]) rfl (.tmp 6) (.tmp 7) #[31] rfl HM.out rfl rfl HC2.out (fun e w' h => ⟨_, h.1⟩) ?_; rintro v3 w3 ⟨e3, hb3⟩; injection e3 with e3; subst e3)
  go_ret
  exact ⟨rfl, hb2.trans (hb3.mono hb2.size)⟩
set_option maxHeartbeats 4000000 in
set_option maxRecDepth 100000 in
theorem sev_meant (x : Nat → Int) (B E : Nat) (l : List Fl.Ft) (hll : l.length ≤ 1000000) (a : Bool) (ih : ∀ (i : Nat) (t : Fl.Ft), l[i]? = some t → ∀ v, MeantOk x B E v t) (r : Value) (T : TypeId) (w : World) (h : FtV B E w (.iface T r) (.sev l a)) (hE : E ≤ w.heap.size) :
    Calls Tryd.prog 101 #[r, itX x] w fun e w' => e = .returned (.bool (Fl.meantF x (.sev l a))) ∧ Below w.heap.size w w' := by
  obtain ⟨A, c, vs, rfl, hr, _, hel⟩ := h.sev_inv
  have hC : ∀ (i : Nat) (u : Value) (t : Fl.Ft), vs[i]? = some u → l[i]? = some t → ∀ W, Below w.heap.size w W → ∃ T r, u = .iface T r ∧ Meth u "Meant" (meantOf t) r ∧ Calls Tryd.prog (meantOf t) #[r, itX x] W fun e w' => e = .returned (.bool (Fl.meantF x t)) ∧ Below W.heap.size W w' := fun i u t hu ht W hb => by
    have hf := hel i u t hu ht
    obtain ⟨T, r, rfl, hm, _⟩ := hf.meth
    exact ⟨T, r, rfl, hm, ih i t ht _ T r rfl W (hf.over hE hb) (Nat.le_trans hE hb.size)⟩
  have HC := Lib.hid hC; have HR := Lib.hid hr
  rw [Fl.meantF]
  unfold itX at HC ⊢
  have hvl : vs.length = l.length := by have := hr.1; omega
  clear ih h hel hC hr
  go_enter Tryd.func101, Tryd.ntmps101
  go_wp2_with fail
  have hb2 : Below w.heap.size w ((w.alloc (.cells #[.slice A l.length c, .bool a] 73)).alloc (.cells #[.int .i64 (x 0), .int .i64 (x 1), .int .i64 (x 2), .int .i64 (x 3), .int .i64 (x 4)] 31)) := ((Below.refl w.heap.size w).alloc (Nat.le_refl _) _).alloc (by simp) _
  have hk1 : Blk ((w.alloc (.cells #[.slice A l.length c, .bool a] 73)).alloc (.cells #[.int .i64 (x 0), .int .i64 (x 1), .int .i64 (x 2), .int .i64 (x 3), .int .i64 (x 4)] 31)) w.heap.size 73 #[.slice A l.length c, .bool a] := (Blk.new w _ _).alloc _
  have hk2 : Blk ((w.alloc (.cells #[.slice A l.length c, .bool a] 73)).alloc (.cells #[.int .i64 (x 0), .int .i64 (x 1), .int .i64 (x 2), .int .i64 (x 3), .int .i64 (x 4)] 31)) (w.heap.size + 1) 31 #[.int .i64 (x 0), .int .i64 (x 1), .int .i64 (x 2), .int .i64 (x 3), .int .i64 (x 4)] := by
    have := Blk.new (w.alloc (.cells #[.slice A l.length c, .bool a] 73)) 31 #[.int .i64 (x 0), .int .i64 (x 1), .int .i64 (x 2), .int .i64 (x 3), .int .i64 (x 4)]
    rwa [World.size_alloc] at this
  have HB2 := Lib.hid hb2; have HK1 := Lib.hid hk1; have HK2 := Lib.hid hk2
  clear hb2 hk1 hk2
  generalize (w.alloc (.cells #[.slice A l.length c, .bool a] 73)).alloc (.cells #[.int .i64 (x 0), .int .i64 (x 1), .int .i64 (x 2), .int .i64 (x 3), .int .i64 (x 4)] 31) = W2 at *
  go_loopw [10] (fun iv wr => ∃ i : Nat, iv = .int .i64 i ∧ i ≤ l.length ∧ Hid (Below W2.heap.size W2 wr ∧ Fl.meantL x a l = Fl.meantL x a (l.drop i))) (fun iv _ => l.length - (intOf iv).toNat)
  case atStart => exact ⟨0, rfl, Nat.zero_le _, Lib.hid ⟨Below.refl _ _, rfl⟩⟩
  case round =>
    obtain ⟨i, rfl, hi, hx⟩ := hrel
    obtain ⟨hb, hml⟩ := hx.out
    have hk1 := HK1.out.below hb HK1.out.lt
    have hk2 := HK2.out.below hb HK2.out.lt
    have hbw : Below w.heap.size w wr := HB2.out.trans (hb.mono HB2.out.size)
    have p1 := hk1.cell 1
    simp at p1
    by_cases hlt : i < l.length
    · have ii : (i : Int) < (l.length : Int) := by omega
      obtain ⟨b, off, u, rfl, hbb, hu, hc⟩ := rdV_at HR.out hlt
      have x0 := (hbw.cell (p := ⟨b, off + i, none⟩) (by show b < _; omega)).trans hc
      obtain ⟨t, ht⟩ : ∃ t, l[i]? = some t := ⟨_, List.getElem?_eq_getElem hlt⟩
      obtain ⟨T1, r1, rfl, hm, hcall⟩ := HC.out i u t hu ht wr hbw
      have hcalls := fun W (hb3 : Below wr.heap.size wr W) => HC.out i _ t hu ht W (hbw.trans (hb3.mono hbw.size))
      have HM := Lib.hid hm
      have HCS : Hid (∀ W, Below wr.heap.size wr W → Calls Tryd.prog (meantOf t) #[r1, .agg #[.int .i64 (x 0), .int .i64 (x 1), .int .i64 (x 2), .int .i64 (x 3), .int .i64 (x 4)]] W fun e w' => e = .returned (.bool (Fl.meantF x t)) ∧ Below W.heap.size W w') := Lib.hid fun W hb3 => by
        obtain ⟨T2, r2, e2, _, h2⟩ := hcalls W hb3
        injection e2 with _ e2
        subst e2
        exact h2
      have hstep : Fl.meantL x a (l.drop i) = if Fl.meantF x t = a then a else Fl.meantL x a (l.drop (i + 1)) := by
        rw [drop_some ht, Fl.meantL]
      have hS3 : ∀ W, Below wr.heap.size wr W → W.cell? ⟨w.heap.size, 1, none⟩ = some (.bool a) ∧ W.cell? ⟨w.heap.size + 1, 0, none⟩ = some (.int .i64 (x 0)) ∧ W.cell? ⟨w.heap.size + 1, 1, none⟩ = some (.int .i64 (x 1)) ∧ W.cell? ⟨w.heap.size + 1, 2, none⟩ = some (.int .i64 (x 2)) ∧ W.cell? ⟨w.heap.size + 1, 3, none⟩ = some (.int .i64 (x 3)) ∧ W.cell? ⟨w.heap.size + 1, 4, none⟩ = some (.int .i64 (x 4)) := fun W hW => by
        have q1 := hk1.below hW hk1.lt; have q2 := hk2.below hW hk2.lt
        exact ⟨q1.cell 1, q2.cell 0, q2.cell 1, q2.cell 2, q2.cell 3, q2.cell 4⟩
      have HS3 := Lib.hid hS3; have HST := Lib.hid hstep; have HBW := Lib.hid hbw; have HML := Lib.hid hml; have HBX := Lib.hid hb
      clear hk1 hk2 hbw hcall hcalls hm hstep hS3 hml hx hc hu ht hb
      go_upto_region 4 with fail
      go_region_held3 (fun wx => wx.cell? ⟨w.heap.size, 1, none⟩ = some (.bool a) ∧ wx.cell? ⟨w.heap.size + 1, 0, none⟩ = some (.int .i64 (x 0)) ∧ wx.cell? ⟨w.heap.size + 1, 1, none⟩ = some (.int .i64 (x 1)) ∧ wx.cell? ⟨w.heap.size + 1, 2, none⟩ = some (.int .i64 (x 2)) ∧ wx.cell? ⟨w.heap.size + 1, 3, none⟩ = some (.int .i64 (x 3)) ∧ wx.cell? ⟨w.heap.size + 1, 4, none⟩ = some (.int .i64 (x 4)))
        (first
          | exact HS3.out _ HB3.out
          | exact HS3.out _ (below_drewN (Below.refl _ _) 1))
        (first
          | (refine step_invoke1 (by rfl) (.tmp 14) (.tmp 15) _ rfl HM.out (by rfl) (by rfl) (HCS.out _ (below_drewN (Below.refl _ _) 1)) (fun e w' h => ⟨_, h.1⟩) ?_; rintro v3 w3 ⟨e3, hb3⟩; injection e3 with e3; subst e3; have HB3 : Hid (Below wr.heap.size wr w3) := Lib.hid ((below_drewN (Below.refl _ _) 1).trans hb3); clear hb3)
          | fail)
      have p3 := (HS3.out _ HB3.out).1
      have HB4 := Lib.hid (HBX.out.trans (HB3.out.mono HBX.out.size)); have HB5 := Lib.hid (HBW.out.trans (HB3.out.mono HBW.out.size))
      clear p1 x0
      go_wp2_with fail
      · rename_i hbq
        have hma : Fl.meantF x t = a := beq_iff_eq.1 hbq
        have hfin : Fl.meantL x a l = a := by rw [HML.out, HST.out, if_pos hma]
        have HF := Lib.hid hfin
        clear hfin hma hbq
        go_ret
        exact ⟨by rw [HF.out]; rfl, HB5.out⟩
      · rename_i hbq
        have hma : ¬ Fl.meantF x t = a := beq_eq_false_iff_ne.1 hbq
        have hnx : Fl.meantL x a l = Fl.meantL x a (l.drop (i + 1)) := by rw [HML.out, HST.out, if_neg hma]
        exact ⟨⟨i + 1, by go_num, by omega, Lib.hid ⟨HB4.out, hnx⟩⟩, by simp [intOf]; omega⟩
    · obtain rfl : i = l.length := by omega
      have hfin : Fl.meantL x a l = !a := by rw [hml, List.drop_length, Fl.meantL]
      have HF := Lib.hid hfin; have HB5 := Lib.hid hbw
      clear hfin hml hx hb hk1 hk2 hbw
      go_wp2_with fail
      go_ret
      exact ⟨by rw [HF.out]; rfl, HB5.out⟩
theorem any_meant (x : Nat → Int) (w : World) :
    Calls Tryd.prog 107 #[.agg #[], itX x] w fun e w' => e = .returned (.bool true) ∧ Below w.heap.size w w' := by
  unfold itX
  go_enter Tryd.func107, Tryd.ntmps107
  go_wp2_with fail
  go_ret
  exact ⟨rfl, ((Below.refl w.heap.size w).alloc (Nat.le_refl _) _).alloc (by simp) _⟩
theorem cnt_pos1 (t : Fl.Ft) : 1 ≤ Fl.cnt t := by cases t <;> simp [Fl.cnt]
theorem cntL_len : ∀ l : List Fl.Ft, l.length ≤ Fl.cntL l
  | [] => Nat.zero_le _
  | t :: r => by simp only [List.length_cons, Fl.cntL]; have := cntL_len r; have := cnt_pos1 t; omega
theorem cntL_at : ∀ {l : List Fl.Ft} {i : Nat} {t : Fl.Ft}, l[i]? = some t → Fl.cnt t ≤ Fl.cntL l
  | _ :: _, 0, _, e => by simp at e; subst e; simp only [Fl.cntL]; omega
  | _ :: r, i + 1, _, e => by have := cntL_at (l := r) (i := i) (by simpa using e); simp only [Fl.cntL]; omega
theorem okL_at : ∀ {l : List Fl.Ft} {i : Nat} {t : Fl.Ft}, Fl.okL l → l[i]? = some t → Fl.okF t
  | _ :: _, 0, _, h, e => by simp at e; subst e; exact h.1
  | _ :: _, i + 1, _, h, e => okL_at (i := i) h.2 (by simpa using e)
mutual
theorem meant_any (x : Nat → Int) (B E : Nat) : ∀ t : Fl.Ft, Fl.okF t → Fl.cnt t ≤ 1000000 → ∀ v, MeantOk x B E v t
  | .tst f lo hi b, ok, _, v => by
    intro T r e W hW hE
    subst e
    cases hW
    exact tst_meant x f lo hi b ok.1 W
  | .any, ok, _, v => by
    intro T r e W hW hE
    subst e
    cases hW
    rw [Fl.meantF]
    exact any_meant x W
  | .not t, ok, hn, v => by
    intro T r e W hW hE
    subst e
    cases hW with
    | not h => exact not_meant x B E t _ (meant_any x B E t ok (by simp only [Fl.cnt] at hn; omega) _) W h hE
  | .sev l a, ok, hn, v => by
    intro T r e W hW hE
    subst e
    simp only [Fl.cnt] at hn
    exact sev_meant x B E l (by have := cntL_len l; omega) a (meant_anyL x B E l ok.2 (by omega)) r T W hW hE
theorem meant_anyL (x : Nat → Int) (B E : Nat) : ∀ l : List Fl.Ft, Fl.okL l → Fl.cntL l ≤ 1000000 → ∀ (i : Nat) (t : Fl.Ft), l[i]? = some t → ∀ v, MeantOk x B E v t
  | [], _, _, i, t, e, v => by simp at e
  | t :: r, ok, hn, 0, t', e, v => by
    simp at e
    subst e
    exact meant_any x B E t ok.1 (by simp only [Fl.cntL] at hn; omega) v
  | t :: r, ok, hn, i + 1, t', e, v => meant_anyL x B E r ok.2 (by simp only [Fl.cntL] at hn; omega) i t' (by simpa using e) v
end
/-- f.Meant(x), whatever the filter -/
theorem FtV.meant {B E : Nat} {w : World} {v : Value} {t : Fl.Ft} (h : FtV B E w v t) (ok : Fl.okF t) (hn : Fl.cnt t ≤ 1000000) (x : Nat → Int) : ∃ T r, v = .iface T r ∧ Meth v "Meant" (meantOf t) r ∧ ∀ W, FtV B E W v t → E ≤ W.heap.size →
    Calls Tryd.prog (meantOf t) #[r, itX x] W fun e w' => e = .returned (.bool (Fl.meantF x t)) ∧ Below W.heap.size W w' := by
  obtain ⟨T, r, e, hm, _⟩ := h.meth
  exact ⟨T, r, e, hm, fun W h1 h2 => meant_any x B E t ok hn v T r e W h1 h2⟩
end Go.Proofs.YtdipehgijjkfdaaDoor
