/-
  Texts of this claim, one behind the other: PlNum, PlMade, PlNums.
-/
import Derived.Test.YtgdijbaodfghjaaGreatDoorZ05
import Derived.Test.YtgdijbaodfghjaaGreatDoorZ06
import Derived.Test.YtgdijbaodfghjaaGreatDoorZ07
import Derived.Test.YtgdijbaodfghjaaGreatDoorZ08
import Derived.WalkSmall
import Derived.Lib.SmallJoins
import Derived.Lib.AppendIntMem
import Derived.Lib.QuietBelow
/-
  plant's reader: number.
-/
namespace Go.Proofs.YtgdijbaodfghjaaGreatDoor
open Go.RowKit
set_option linter.unusedVariables false
structure Pv (w : World) : Prop where
  h : Handle w
  syn : ∃ tp p, w.var? Tryz.prog "strconv.ErrSyntax" = some #[.iface tp p]
  rng : ∃ tp p, w.var? Tryz.prog "strconv.ErrRange" = some #[.iface tp p]
  tab : Lib.TabIs Tryz.prog w "internal/strconv.uint64pow10" .u64 Lib.pow10Tab
  sz : 6 ≤ w.heap.size
theorem Pv.below {w w' : World} {B : Nat} (h : Pv w) (hb : Below B w w') (hB : 6 ≤ B) : Pv w' := by
  obtain ⟨h1, ⟨tp, p, h2⟩, ⟨tp', p', h3⟩, h4, h5⟩ := h
  refine ⟨?_, ⟨tp, p, ?_⟩, ⟨tp', p', ?_⟩, ?_, Nat.le_trans h5 hb.size⟩
  · exact (hb.cell (p := ⟨0, 0, none⟩) (show 0 < B by omega)).trans h1
  · exact var?_below hb gl_syn (by omega) h2
  · exact var?_below hb gl_rng (by omega) h3
  · exact var?_below hb gl_tab (by omega) h4
theorem Pv.chg {w w' : World} {S : Nat → Prop} (h : Pv w) (hc : Chg w w' S) (hs : ∀ i, S i → 6 ≤ i) : Pv w' :=
  h.below (hc.below h.sz (fun i hi hS => by have := hs i hS; omega)) (Nat.le_refl _)
def numW (s : ByteArray) : Option Int := match Lib.atoiAll s.data.toList with
  | .ok v => if Lib.itoa v = s.data.toList then some v else none
  | _ => none
def numAt (ws : List ByteArray) (at_ : Nat) : Option Int := ws[at_]?.bind numW
def NumRd (w : World) (g : Nat) (Aw : Option Addr) (cw : Nat) (Ap : Option Addr) (cp : Nat) (ws : List ByteArray) (ps : List Int) (at_ : Nat) (end_ : Int) (vt : Value) (many : Int) (e : Ending) (w' : World) : Prop :=
  (∃ v, numAt ws at_ = some v ∧ e = .returned (.tuple #[.int .i64 v, .nilIface]) ∧ Hid (RdrM w' g Aw cw Ap cp ws ps (at_ + 1) end_ vt many ∧ Chg w w' (fun i => i = g))) ∨
  (numAt ws at_ = none ∧ ∃ q : Nat, e = .returned (.tuple #[.int .i64 0, .iface 113 (.pointer (some ⟨q, 0, none⟩))]) ∧ Hid (Blk w' q 115 #[.int .i64 3, .int .i64 (whereAt ws ps at_ end_)] ∧ w.heap.size ≤ q ∧ Below w.heap.size w w'))
def AtoiEnd (s : ByteArray) (n : Int) (x : Value) : Prop := (Lib.atoiAll s.data.toList = .ok n ∧ x = .nilIface) ∨ ((∀ v, Lib.atoiAll s.data.toList ≠ .ok v) ∧ ∃ N : Nat, x = .iface 190 (.pointer (some ⟨N, 0, none⟩)))
theorem atoi_any (s : ByteArray) (hs : s.size ≤ 2000) (w : World) (h : Pv w) : Calls Tryz.prog 47 #[.string s] w fun e w' => Below w.heap.size w w' ∧ ∃ n x, e = .returned (.tuple #[.int .i64 n, x]) ∧ AtoiEnd s n x := by
  cases hc : Lib.atoiAll s.data.toList
  · rename_i v
    refine (Tryz.strconv_Atoi_ok s (by omega) v hc w).mono ?_
    rintro e w' ⟨rfl, hw⟩
    refine ⟨?_, v, _, rfl, Or.inl ⟨hc, rfl⟩⟩
    rcases hw with rfl | ⟨t, rfl⟩
    · exact Below.refl _ _
    · exact Lib.bytesWorld_below _ _ _
  · skip
    obtain ⟨tp, p, hv⟩ := h.syn
    refine (Any.strconv_Atoi_syntax_var Tryz.laysC172 s (by omega) hc tp p w hv).mono ?_
    rintro e w' ⟨N, rfl, _, _, hb⟩
    exact ⟨hb, _, _, rfl, Or.inr ⟨fun v hq => by rw [hc] at hq; simp at hq, N, rfl⟩⟩
  · skip
    obtain ⟨tp, p, hv⟩ := h.rng
    refine (Tryz.strconv_Atoi_range_var s (by omega) hc tp p w hv).mono ?_
    rintro e w' ⟨N, rfl, _, _, hb⟩
    exact ⟨hb, _, _, rfl, Or.inr ⟨fun v hq => by rw [hc] at hq; simp at hq, N, rfl⟩⟩
theorem atoi_fits (l : List UInt8) (v : Int) (h : Lib.atoiAll l = .ok v) : -9223372036854775808 ≤ v ∧ v ≤ 9223372036854775807 := by
  unfold Lib.atoiAll at h
  split at h
  · simp at h
  · dsimp only at h
    split at h
    · simp at h
    · simp at h
    · split at h
      · simp at h
      · split at h
        · simp at h
        · injection h with h
          split at h <;> omega
theorem itoa_any (v : Int) (h0 : -9223372036854775808 ≤ v) (h1 : v ≤ 9223372036854775807) (w : World) (h : Pv w) : Calls Tryz.prog 48 #[.int .i64 v] w fun e w' => Below w.heap.size w w' ∧ e = .returned (.string ⟨(Lib.itoa v).toArray⟩) := by
  refine (Tryz.strconv_Itoa v h0 h1 w h.tab).mono ?_
  rintro e w' ⟨rfl, k, os, rfl⟩
  exact ⟨Lib.below_grow _ w (Nat.le_refl _) k os, rfl⟩
set_option maxHeartbeats 2000000 in
set_option maxRecDepth 100000 in
theorem number_rd (g : Nat) (Aw : Option Addr) (cw : Nat) (Ap : Option Addr) (cp : Nat) (ws : List ByteArray) (ps : List Int) (at_ : Nat) (end_ : Int) (vt : Value) (many : Int) (w : World) (h : RdrM w g Aw cw Ap cp ws ps at_ end_ vt many) (hv : Pv w) (hsz : ∀ s ∈ ws, s.size ≤ 2000) :
    Calls Tryz.prog 42 #[.pointer (some ⟨g, 0, none⟩)] w (NumRd w g Aw cw Ap cp ws ps at_ end_ vt many) := by
  have c0 := h.blk.cell 0; have c2 := h.blk.cell 2
  simp at c0 c2
  have hn := h.n
  by_cases hlt : at_ = ws.length
  · have hnone : numAt ws at_ = none := by unfold numAt; rw [List.getElem?_eq_none (by omega)]; rfl
    have HFAIL := Lib.hid (fun W (hb : Below w.heap.size w W) => fail_rd g Aw cw Ap cp ws ps at_ end_ vt many 3 W (h.below hb))
    have HN := Lib.hid hnone
    clear h hnone
    have il : (at_ : Int) = (ws.length : Int) := by omega
    generalize hl : ws.length = n at *
    subst hlt
    go_enter Tryz.func42, Tryz.ntmps42
    go_upto_region 1 with fail
    go_quiet (fail)
    go_wp2_with fail
    refine (HFAIL.out _ (below_drewN (Below.refl _ w) _)).mono ?_
    rintro e w1 ⟨q, rfl, hq, hqs, hb⟩
    go_wp2_with fail
    go_ret2
    exact Or.inr ⟨HN.out, q, rfl, Lib.hid ⟨hq, hqs, Below.trans (below_drewN (Below.refl _ w) _) hb⟩⟩
  · have hlt2 : at_ < ws.length := by have := h.le; omega
    obtain ⟨b, off, rfl, hb⟩ := h.rw_.addr hlt2
    have x0 := h.rw_.all hlt2 0 _ rfl
    have hx : ws[at_]? = some (ixR StrR ws at_) := by unfold ixR; rw [List.getD, List.getElem?_eq_getElem hlt2]; rfl
    have e1 : off + (at_ * StrR.sz + 0) = off + at_ := by show off + (at_ * 1 + 0) = _; omega
    rw [e1] at x0
    have hm : ixR StrR ws at_ ∈ ws := List.mem_of_getElem? hx
    have hts := hsz _ hm
    have HNEXT := Lib.hid (fun W (hb : Below w.heap.size w W) => (h.below hb).next hlt2 0)
    have HFAIL := Lib.hid (fun W (hb : Below w.heap.size w W) => fail_rd g (some ⟨b, off, none⟩) cw Ap cp ws ps at_ end_ vt many 3 W (h.below hb))
    have H := Lib.hid h; have HV := Lib.hid hv
    have hgl := h.blk.lt
    clear h hv e1 hm
    generalize ixR StrR ws at_ = t at *
    have HC := Lib.hid (fun W (hbW : Below w.heap.size w W) => (⟨(hbW.cell (p := ⟨g, 0, none⟩) hgl).trans c0, (hbW.cell (p := ⟨g, 2, none⟩) hgl).trans c2, (hbW.cell (p := ⟨b, off + at_, none⟩) hb).trans x0⟩ : W.cell? ⟨g, 0, none⟩ = _ ∧ W.cell? ⟨g, 2, none⟩ = _ ∧ W.cell? ⟨b, off + at_, none⟩ = _))
    have HA := Lib.hid (fun W (hb : Below w.heap.size w W) => atoi_any t hts W (HV.out.below hb HV.out.sz))
    have hnw : numAt ws at_ = numW t := by unfold numAt; rw [hx]; rfl
    have HNW := Lib.hid hnw
    clear hnw hx
    have il : (at_ : Int) < (ws.length : Int) := by omega
    have il2 : decide ((at_ : Int) = (ws.length : Int)) = false := decide_eq_false (by omega)
    generalize hl : ws.length = n at *
    go_enter Tryz.func42, Tryz.ntmps42
    go_upto_region 1 with fail
    go_quiet (fail)
    go_wp2_with fail
    go_upto_region 3 with fail
    go_cut [4, 5] from 15 to 31 (fun x4 x5 wx => Below w.heap.size w wx ∧ ∃ n1 : Int, x4 = .int .i64 n1 ∧ AtoiEnd t n1 x5)
    case first =>
      go_region_law ((go_simp; go_at_call 47; (with_reducible refine (HA.out _ ?_).mono ?_); (repeat (first | assumption | exact Below.refl _ _ | apply below_drewN)); rintro e w' ⟨hb1, n1, x1, rfl, hx1⟩))
      all_goals
        go_wp2_with fail
        go_meet
        case rel => exact ⟨Below.trans (below_drewN (Below.refl _ w) _) hb1, _, rfl, hx1⟩
    case rest =>
      obtain ⟨hb1, n1, rfl, hx1⟩ := hcut
      clear c0 c2 x0
      obtain ⟨c0, c2, x0⟩ := HC.out wc hb1
      rcases hx1 with ⟨hok, rfl⟩ | ⟨hno, N1, rfl⟩
      · have hit := fun W (hbW : Below w.heap.size w W) => itoa_any n1 (atoi_fits _ _ hok).1 (atoi_fits _ _ hok).2 W (HV.out.below hbW HV.out.sz)
        have k0 := cell_regrown c0
        have k2 := cell_regrown c2
        have kx := cell_regrown x0
        have cI : ∀ d os, Calls Tryz.prog 48 #[.int .i64 n1] (Sort.grow (redrawn wc d) os) fun e w'' => e = .returned (.string ⟨(Lib.itoa n1).toArray⟩) ∧ ∃ p : Regrown, w'' = Sort.grow (redrawn wc p.d) p.os := fun d os => Calls.regrown_of ((hit _ (hb1.trans (Below.mono (below_regrown wc d os) hb1.size))).mono fun e w'' h => ⟨h.2, h.1⟩)
        have hnq : numW t = if Lib.itoa n1 = t.data.toList then some n1 else none := by unfold numW; rw [hok]
        have hte : t.toList = t.data.toList := ByteArray.toList_eq t
        clear hok HA hit
        by_cases hq : Lib.itoa n1 = t.data.toList
        · have hd : (Lib.itoa n1 == t.toList) = true := by rw [hte]; exact beq_iff_eq.mpr hq
          rw [if_pos hq] at hnq
          have HNQ := Lib.hid (HNW.out.trans hnq)
          clear hnq hte hq
          go_upto_region 4 with fail
          refine wp_region_quiet_below (by kernel_rfl) (by kernel_rfl) ?_
          repeat (quiet_step (exact cI _ _))
          refine wpQuiet_nil ?_
          intro _ hw'
          obtain ⟨⟨dq, osq⟩, hw''⟩ := hw'
          subst hw''
          have hb4 : Below w.heap.size w (Sort.grow (redrawn wc dq) osq) := hb1.trans (Below.mono (below_regrown wc dq osq) hb1.size)
          have k2q := k2 dq osq
          have f2q := (H.out.below hb4).blk.frozen 2
          have hnx := HNEXT.out _ hb4
          have HNX := Lib.hid hnx
          clear k0 k2 kx cI hnx
          generalize Sort.grow (redrawn wc dq) osq = w5 at *
          go_wp2_with fail
          go_ret2
          exact Or.inl ⟨n1, HNQ.out, rfl, Lib.hid ⟨HNX.out.1, Chg.trans (Chg.of_below hb4) HNX.out.2 (fun i _ e => e)⟩⟩
        · have hd : (Lib.itoa n1 == t.toList) = false := by rw [hte]; exact beq_eq_false_iff_ne.mpr hq
          rw [if_neg hq] at hnq
          have HN := Lib.hid (HNW.out.trans hnq)
          clear hnq hte hq
          go_upto_region 4 with fail
          refine wp_region_quiet_below (by kernel_rfl) (by kernel_rfl) ?_
          repeat (quiet_step (exact cI _ _))
          refine wpQuiet_nil ?_
          intro _ hw'
          obtain ⟨⟨dq, osq⟩, hw''⟩ := hw'
          subst hw''
          have hb4 : Below w.heap.size w (Sort.grow (redrawn wc dq) osq) := hb1.trans (Below.mono (below_regrown wc dq osq) hb1.size)
          clear k0 k2 kx cI
          go_wp2_with fail
          refine (HFAIL.out _ hb4).mono ?_
          rintro e w1 ⟨q, rfl, hq, hqs, hb5⟩
          go_wp2_with fail
          go_ret2
          exact Or.inr ⟨HN.out, q, rfl, Lib.hid ⟨hq, Nat.le_trans hb4.size hqs, hb4.trans (Below.mono hb5 hb4.size)⟩⟩
      · have hnone : numAt ws at_ = none := by
          rw [HNW.out]; unfold numW
          split
          · rename_i v hv; exact absurd hv (hno v)
          · rfl
        have HN := Lib.hid hnone
        clear hnone
        go_upto_region 4 with fail
        go_quiet (fail)
        go_wp2_with fail
        have hb4 : Below w.heap.size w (wc.drewN nq) := below_drewN hb1 _
        refine (HFAIL.out _ hb4).mono ?_
        rintro e w1 ⟨q, rfl, hq, hqs, hb5⟩
        go_wp2_with fail
        go_ret2
        exact Or.inr ⟨HN.out, q, rfl, Lib.hid ⟨hq, Nat.le_trans hb4.size hqs, hb4.trans (Below.mono hb5 hb4.size)⟩⟩
end Go.Proofs.YtgdijbaodfghjaaGreatDoor

/-
  plant's reader: made.
-/
namespace Go.Proofs.YtgdijbaodfghjaaGreatDoor
open Go.RowKit
set_option linter.unusedVariables false
set_option maxHeartbeats 1000000 in
set_option maxRecDepth 100000 in
theorem made_ok (g : Nat) (k : Int) (q : Value) (w : World) :
    Calls Tryz.prog 33 #[.pointer (some ⟨g, 0, none⟩), .int .i64 k, q, .nilIface] w fun e w' => e = .returned (.tuple #[q, .nilIface]) ∧ w' = w := by
  go_enter Tryz.func33, Tryz.ntmps33
  go_wp2_with fail
  go_ret2
  exact ⟨rfl, rfl⟩
set_option maxHeartbeats 2000000 in
set_option maxRecDepth 100000 in
theorem made_no (g : Nat) (Aw : Option Addr) (cw : Nat) (Ap : Option Addr) (cp : Nat) (ws : List ByteArray) (ps : List Int) (at_ : Nat) (end_ : Int) (vt : Value) (many : Int) (k : Nat) (q : Value) (er : Int) (w : World) (h : RdrM w g Aw cw Ap cp ws ps at_ end_ vt many) (hk : k < ws.length) (hv : Pv w) :
    Calls Tryz.prog 33 #[.pointer (some ⟨g, 0, none⟩), .int .i64 k, q, .iface 69 (.int .i64 er)] w fun e w' => ∃ n : Nat, e = .returned (.tuple #[.nilIface, .iface 113 (.pointer (some ⟨n, 0, none⟩))]) ∧ Blk w' n 115 #[.int .i64 er, .int .i64 (ps.getD k 0)] ∧ w.heap.size ≤ n ∧ Below w.heap.size w w' := by
  have c1 := h.blk.cell 1
  simp at c1
  have hgl := h.blk.lt
  obtain ⟨b, off, rfl, hb⟩ := h.rp.addr hk
  have x0 := h.rp.all rfl k hk
  have hn := h.n
  have HT := Lib.hid (fun W (hbW : Below w.heap.size w W) => tell_errno er W (hv.below hbW hv.sz).h)
  have HC := Lib.hid (fun W (hbW : Below w.heap.size w W) => (⟨(hbW.cell (p := ⟨g, 1, none⟩) hgl).trans c1, (hbW.cell (p := ⟨b, off + k, none⟩) hb).trans x0⟩ : W.cell? ⟨g, 1, none⟩ = _ ∧ W.cell? ⟨b, off + k, none⟩ = _))
  clear h hv
  have il : (k : Int) < (ws.length : Int) := by omega
  generalize hl : ws.length = n at *
  generalize ps.getD k 0 = z at *
  go_enter Tryz.func33, Tryz.ntmps33
  go_upto_region 2 with fail
  go_region_law ((go_simp; go_at_call 41; (with_reducible refine (HT.out _ ?_).mono ?_); (repeat (first | assumption | exact Below.refl _ _ | apply below_drewN)); rintro e w' ⟨rfl, hb2⟩; have hb3 : Below w.heap.size w w' := Below.trans (below_drewN (Below.refl _ w) _) hb2; obtain ⟨y1, y2⟩ := HC.out w' hb3))
  all_goals
    go_wp2_with fail
    go_ret2
    exact ⟨_, rfl, Blk.new _ _ _, hb3.size, by first | exact Below.alloc hb3 hb3.size _ | exact Below.alloc (below_drewN hb3 _) hb3.size _⟩
end Go.Proofs.YtgdijbaodfghjaaGreatDoor

/-
  plant's reader: numbers (the plain part: so many numbers from a place on).
-/
namespace Go.Proofs.YtgdijbaodfghjaaGreatDoor
open Go.RowKit
set_option linter.unusedVariables false
def numsAt (ws : List ByteArray) (at_ : Nat) : Nat → Option (List Int)
  | 0 => some []
  | k + 1 => match numsAt ws at_ k, numAt ws (at_ + k) with
    | some vs, some v => some (vs ++ [v])
    | _, _ => none
theorem numsAt_len {ws : List ByteArray} {at_ : Nat} : ∀ {k : Nat} {vs : List Int}, numsAt ws at_ k = some vs → vs.length = k
  | 0, vs, h => by simp [numsAt] at h; subst h; rfl
  | k + 1, vs, h => by
    unfold numsAt at h
    split at h
    · rename_i vs' v h1 h2
      injection h with h; subst h
      simp [numsAt_len h1]
    · simp at h
theorem numsAt_none {ws : List ByteArray} {at_ k : Nat} (h : numsAt ws at_ k = none) : ∀ j, numsAt ws at_ (k + j) = none
  | 0 => h
  | j + 1 => by
    show numsAt ws at_ ((k + j) + 1) = none
    unfold numsAt
    rw [numsAt_none h j]
theorem numsAt_yes {ws : List ByteArray} {at_ k : Nat} {vs : List Int} {v : Int} (h : numsAt ws at_ k = some vs) (h2 : numAt ws (at_ + k) = some v) : numsAt ws at_ (k + 1) = some (vs ++ [v]) := by
  unfold numsAt; rw [h, h2]
theorem numsAt_no {ws : List ByteArray} {at_ k : Nat} (h2 : numAt ws (at_ + k) = none) : numsAt ws at_ (k + 1) = none := by
  unfold numsAt; rw [h2]; cases numsAt ws at_ k <;> rfl
theorem chg_below {w w1 w' : World} {S : Nat → Prop} (hc : Chg w w1 S) (hb : Below w.heap.size w1 w') : Chg w w' S :=
  ⟨hb.os.trans hc.os, hb.tape.trans hc.tape, hb.output.trans hc.output, Nat.le_trans hc.size hb.size, fun i hi hn => (hb.block i hi).trans (hc.block i hi hn)⟩
theorem RdrM.over {w w1 w' : World} {g : Nat} {Aw : Option Addr} {cw : Nat} {Ap : Option Addr} {cp : Nat} {ws : List ByteArray} {ps : List Int} {at_ at1 : Nat} {end_ : Int} {vt : Value} {many : Int}
    (h : RdrM w g Aw cw Ap cp ws ps at_ end_ vt many) (hc : Chg w w1 (fun i => i = g)) (h1 : RdrM w1 g Aw cw Ap cp ws ps at1 end_ vt many) (hb : Below w.heap.size w1 w') : RdrM w' g Aw cw Ap cp ws ps at1 end_ vt many := by
  have hc' := chg_below hc hb
  refine ⟨h1.blk.below hb h.blk.lt, ?_, ?_, h.nw, h.np, h1.le, h.n⟩
  · have := h.rw_.chg (Nat.le_refl _) hc' (by intro ad e hg; exact h.nw ad e hg)
    exact this.more hc'.size
  · have := h.rp.chg (Nat.le_refl _) hc' (fun ad e hg => h.np ad e hg)
    exact this.more hc'.size
def NumsRd (w : World) (g : Nat) (Aw : Option Addr) (cw : Nat) (Ap : Option Addr) (cp : Nat) (ws : List ByteArray) (ps : List Int) (at_ : Nat) (end_ : Int) (vt : Value) (many : Int) (n : Nat) (e : Ending) (w' : World) : Prop :=
  (∃ vs v, numsAt ws at_ n = some vs ∧ e = .returned (.tuple #[v, .nilIface]) ∧ Hid (w'.ownsRow w.heap.size 3 1 v n (vs.map (Value.int .i64)) ∧ RdrM w' g Aw cw Ap cp ws ps (at_ + n) end_ vt many ∧ Chg w w' (fun i => i = g))) ∨
  (numsAt ws at_ n = none ∧ ∃ (q : Nat) (p : Int), e = .returned (.tuple #[.slice none 0 0, .iface 113 (.pointer (some ⟨q, 0, none⟩))]) ∧ Hid (Blk w' q 115 #[.int .i64 3, .int .i64 p] ∧ w.heap.size ≤ q ∧ Chg w w' (fun i => i = g)))
set_option maxHeartbeats 2000000 in
set_option maxRecDepth 100000 in
theorem numbers_rd (g : Nat) (Aw : Option Addr) (cw : Nat) (Ap : Option Addr) (cp : Nat) (ws : List ByteArray) (ps : List Int) (at_ : Nat) (end_ : Int) (vt : Value) (many : Int) (n : Nat) (hn : n ≤ 10) (w : World) (h : RdrM w g Aw cw Ap cp ws ps at_ end_ vt many) (hg : 6 ≤ g) (hv : Pv w) (hsz : ∀ s ∈ ws, s.size ≤ 2000) :
    Calls Tryz.prog 32 #[.pointer (some ⟨g, 0, none⟩), .int .i64 n] w (NumsRd w g Aw cw Ap cp ws ps at_ end_ vt many n) := by
  have hgl := h.blk.lt
  have HH := Lib.hid h; have HV := Lib.hid hv; have HSZ := Lib.hid hsz
  clear hv hsz
  go_enter Tryz.func32, Tryz.ntmps32
  go_wp2_with fail
  go_loopw [6, 10] (fun v i wr => ∃ (k : Nat) (vs : List Int), k ≤ n ∧ i = .int .i64 k ∧ Hid (numsAt ws at_ k = some vs) ∧ wr.ownsRow w.heap.size 3 1 v k (vs.map (Value.int .i64)) ∧ Hid (RdrM wr g Aw cw Ap cp ws ps (at_ + k) end_ vt many ∧ Chg w wr (fun i => i = g)))
    (fun _ i _ => n - (intOf i).toNat)
  case atStart => exact ⟨0, [], Nat.zero_le _, rfl, Lib.hid rfl, World.ownsRow_nil _ _ _ _, Lib.hid ⟨h, Chg.refl w _⟩⟩
  case round =>
    obtain ⟨k, vs, hk, rfl, HVS, hown, HR⟩ := hrel
    by_cases hlt : k < n
    · have il : (k : Int) < (n : Int) := by omega
      have HNUM := Lib.hid (number_rd g Aw cw Ap cp ws ps (at_ + k) end_ vt many wr HR.out.1 (HV.out.chg HR.out.2 (fun i e => by omega)) HSZ.out)
      go_wp2_with fail
      (with_reducible refine HNUM.out.mono ?_)
      rintro e w1 (⟨v1, hv1, rfl, H1⟩ | ⟨hno, q, rfl, H1⟩)
      · have hob : ∀ g', u6.ownBlock = some g' → ¬ g' = g := by
          intro g' e he
          rcases hown.2 with ⟨rfl, _⟩ | ⟨gq, cap, cur, rfl, hge, _⟩
          · simp [Value.ownBlock] at e
          · simp [Value.ownBlock] at e; omega
        have hown1 := ownsRow_chg hown H1.out.2 hob
        have hc1 : Chg w w1 (fun i => i = g) := Chg.trans HR.out.2 H1.out.2 (fun i _ e => e)
        have hz1 : w.heap.size ≤ w1.heap.size := hc1.size
        have HC1 := Lib.hid hc1
        have HOB := Lib.hid hob
        have HN1 := Lib.hid (numsAt_yes HVS.out hv1)
        clear hown hc1 hob hv1 HNUM h
        go_wp2_with (at_builtin; refine wpList_pushI rfl _ _ _ Tryz.underlying26 rfl w.heap.size _ k vs v1 hown1 rfl rfl (by omega) hz1 ?_; intro v' w' hown' hg' hb')
        go_roundw
        case rel =>
          exact ⟨k + 1, vs ++ [v1], by omega, by go_num, HN1, hown', Lib.hid ⟨HH.out.over HC1.out H1.out.1 hb', chg_below HC1.out hb'⟩⟩
        case measure => simp [intOf]; omega
      · have hnone : numsAt ws at_ n = none := by
          have := numsAt_none (numsAt_no hno) (n - (k + 1))
          rw [show k + 1 + (n - (k + 1)) = n by omega] at this
          exact this
        have HN1 := Lib.hid hnone
        have hz1 : w.heap.size ≤ wr.heap.size := HR.out.2.size
        clear hnone hno HNUM h
        go_wp2_with fail
        go_ret2
        exact Or.inr ⟨HN1.out, q, _, rfl, Lib.hid ⟨H1.out.1, Nat.le_trans hz1 H1.out.2.1, Chg.trans HR.out.2 (Chg.of_below H1.out.2.2) (fun i _ e => e)⟩⟩
    · have ek : k = n := by omega
      subst ek
      go_wp2_with fail
      go_ret2
      exact Or.inl ⟨vs, _, HVS.out, rfl, Lib.hid ⟨hown, HR.out.1, HR.out.2⟩⟩
end Go.Proofs.YtgdijbaodfghjaaGreatDoor
