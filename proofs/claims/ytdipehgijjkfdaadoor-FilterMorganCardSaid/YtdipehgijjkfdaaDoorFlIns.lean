/-
  Inside: the same filter with not ahead of tests alone.
-/
import Derived.Test.YtdipehgijjkfdaaDoorFlInsM
import Derived.Test.YtdipehgijjkfdaaDoorFlLexM
namespace Go.Proofs.YtdipehgijjkfdaaDoor
open Go.RowKit
set_option linter.unusedVariables false
theorem ta_tst_not (x : Value) : ∀ w, (Instr.typeAssert (.iface 101 x) 34 71 true).run Tryd.prog w = .ok (.tuple #[.agg #[.nilIface], .bool false]) w := fun w => by kernel_rfl
theorem ta_any_not (x : Value) : ∀ w, (Instr.typeAssert (.iface 80 x) 34 71 true).run Tryd.prog w = .ok (.tuple #[.agg #[.nilIface], .bool false]) w := fun w => by kernel_rfl
theorem ta_sev_not (x : Value) : ∀ w, (Instr.typeAssert (.iface 73 x) 34 71 true).run Tryd.prog w = .ok (.tuple #[.agg #[.nilIface], .bool false]) w := fun w => by kernel_rfl
theorem ta_tst_sev (x : Value) : ∀ w, (Instr.typeAssert (.iface 101 x) 34 73 true).run Tryd.prog w = .ok (.tuple #[.agg #[.slice none 0 0, .bool false], .bool false]) w := fun w => by kernel_rfl
theorem ta_any_sev (x : Value) : ∀ w, (Instr.typeAssert (.iface 80 x) 34 73 true).run Tryd.prog w = .ok (.tuple #[.agg #[.slice none 0 0, .bool false], .bool false]) w := fun w => by kernel_rfl
theorem ta_not_sev (x : Value) : ∀ w, (Instr.typeAssert (.iface 71 x) 34 73 true).run Tryd.prog w = .ok (.tuple #[.agg #[.slice none 0 0, .bool false], .bool false]) w := fun w => by kernel_rfl
theorem ta_not_not (x : Value) : ∀ w, (Instr.typeAssert (.iface 71 x) 34 71 true).run Tryd.prog w = .ok (.tuple #[x, .bool true]) w := fun w => by kernel_rfl
theorem ta_sev_sev (x : Value) : ∀ w, (Instr.typeAssert (.iface 73 x) 34 73 true).run Tryd.prog w = .ok (.tuple #[x, .bool true]) w := fun w => by kernel_rfl
def InsEnd (W : World) (t : Fl.Ft) (e : Ending) (w' : World) : Prop := ∃ T r, e = .returned (.iface T r) ∧ Hid (FtV W.heap.size w'.heap.size w' (.iface T r) t ∧ Below W.heap.size W w')
def InsOk (v : Value) (t : Fl.Ft) : Prop := ∀ B E W, FtV B E W v t → E ≤ W.heap.size → Calls Tryd.prog 12 #[v] W (InsEnd W (Fl.insF false t))
set_option maxHeartbeats 1000000 in
set_option maxRecDepth 100000 in
theorem ins_tst (f : Nat) (lo hi : Int) (b : Bool) (v : Value) : InsOk v (.tst f lo hi b) := by
  intro B E w h hE
  cases h
  have z1 := ta_tst_not; have z2 := ta_tst_sev
  go_enter Tryd.func12, Tryd.ntmps12
  go_wp2_with fail
  go_ret
  exact ⟨_, _, rfl, Lib.hid ⟨.tst f lo hi b, Below.refl _ _⟩⟩
set_option maxHeartbeats 1000000 in
set_option maxRecDepth 100000 in
theorem ins_any (v : Value) : InsOk v .any := by
  intro B E w h hE
  cases h
  have z1 := ta_any_not; have z2 := ta_any_sev
  go_enter Tryd.func12, Tryd.ntmps12
  go_wp2_with fail
  go_ret
  exact ⟨_, _, rfl, Lib.hid ⟨.any, Below.refl _ _⟩⟩
set_option maxHeartbeats 1000000 in
set_option maxRecDepth 100000 in
theorem ins_not_tst (f : Nat) (lo hi : Int) (b : Bool) (v : Value) : InsOk v (.not (.tst f lo hi b)) := by
  intro B E w h hE
  cases h with
  | not h =>
  cases h
  have z1 := ta_tst_not; have z2 := ta_tst_sev
  have z0 := ta_not_not
  go_enter Tryd.func12, Tryd.ntmps12
  go_wp2_with fail
  go_ret
  exact ⟨_, _, rfl, Lib.hid ⟨.not (.tst f lo hi b), (Below.refl w.heap.size w).alloc (Nat.le_refl _) _⟩⟩
set_option maxHeartbeats 1000000 in
set_option maxRecDepth 100000 in
theorem ins_not_any (v : Value) : InsOk v (.not .any) := by
  intro B E w h hE
  cases h with
  | not h =>
  cases h
  have z1 := ta_any_not; have z2 := ta_any_sev
  have z0 := ta_not_not
  go_enter Tryd.func12, Tryd.ntmps12
  go_wp2_with fail
  go_ret
  exact ⟨_, _, rfl, Lib.hid ⟨.not .any, (Below.refl w.heap.size w).alloc (Nat.le_refl _) _⟩⟩
set_option maxHeartbeats 1000000 in
set_option maxRecDepth 100000 in
theorem ins_not_not (t : Fl.Ft) (ih : ∀ v, InsOk v t) (v : Value) : InsOk v (.not (.not t)) := by
  intro B E w h hE
  cases h with
  | not h =>
  cases h with
  | not h =>
  rename_i v1
  have hb2 : Below w.heap.size w ((w.alloc (.cells #[.iface 71 (.agg #[v1])] 71)).alloc (.cells #[v1] 71)) := ((Below.refl w.heap.size w).alloc (Nat.le_refl _) _).alloc (by simp) _
  have hc := ih v1 _ _ _ (h.over hE hb2) (Nat.le_trans hE hb2.size)
  obtain ⟨T1, r1, rfl⟩ := h.form
  have HC := Lib.hid hc; have HB := Lib.hid hb2
  clear h hc ih hb2
  have z0 := ta_not_not
  go_enter Tryd.func12, Tryd.ntmps12
  go_wp2_with fail
  (with_reducible refine HC.out.mono ?_)
  rintro e w3 ⟨T, r, rfl, h3⟩
  go_wp2_with fail
  go_ret
  exact ⟨_, _, rfl, Lib.hid ⟨h3.out.1.wide HB.out.size (Nat.le_refl _), HB.out.trans (h3.out.2.mono HB.out.size)⟩⟩
theorem InM.blk3' {nb : Nat} {bb : Bool} {wr w2 w3 : World} {o : Obj} {vs : List Value} {v : Value} {ts : List Fl.Ft} (h : InM nb bb wr vs v ts) (hb : Below wr.heap.size wr w2) (hg : (w2.alloc o).grownBy w3 v.ownBlock) : Blk w3 nb 73 #[v, .bool bb] :=
  ((h.over hb).over ((Below.refl _ _).alloc (Nat.le_refl _) o)).blk3 hg
theorem bl_next2 {w : World} {bb : Bool} {wr w2 w3 : World} {o : Obj} {vs : List Value} {v v' : Value} {nb : Nat} {ts : List Fl.Ft} (hw : Below w.heap.size w wr) (h : InM (nb + 1) bb wr vs v ts) (hb : Below wr.heap.size wr w2) (hg : (w2.alloc o).grownBy w3 v.ownBlock) (hn : w.heap.size ≤ nb := by exact Nat.le_refl _) : Below w.heap.size w (w3.setCell ⟨nb + 1, 0, none⟩ v') := by
  have h1 : Below w.heap.size w (w2.alloc o) := (hw.trans (hb.mono hw.size)).alloc (Nat.le_trans hw.size hb.size) o
  have h2 : Below w.heap.size w w3 := h1.grown hg (h1.size) (fun j hj => by have := (h.own.lt j hj).1; omega)
  exact h2.setCell (p := ⟨nb + 1, 0, none⟩) (by show _ ≤ nb + 1; omega) _
/-- the filters of a row, each by Inside (or: not of each) -/
def InsRow (w : World) (neg : Bool) (l : List Fl.Ft) (vs : List Value) : Prop := ∀ (i : Nat) (u : Value) (t : Fl.Ft), vs[i]? = some u → l[i]? = some t → (∃ T r, u = .iface T r) ∧ ∀ W, Below w.heap.size w W → Calls Tryd.prog 12 #[if neg then .iface 71 (.agg #[u]) else u] W (InsEnd W (Fl.insF neg t))
theorem InsRow.at_ {w wr : World} {neg : Bool} {u : Value} {t : Fl.Ft} (h : ∀ W, Below w.heap.size w W → Calls Tryd.prog 12 #[if neg then .iface 71 (.agg #[u]) else u] W (InsEnd W (Fl.insF neg t))) (hw : Below w.heap.size w wr) :
    ∀ W, Below wr.heap.size wr W → Calls Tryd.prog 12 #[if neg then .iface 71 (.agg #[u]) else u] W (fun e w' => ∃ T r, e = .returned (.iface T r) ∧ Hid (FtV wr.heap.size w'.heap.size w' (.iface T r) (Fl.insF neg t) ∧ Below wr.heap.size wr w')) := fun W hb =>
  (h W (hw.trans (hb.mono hw.size))).mono fun e w' ⟨T, r, he, h2⟩ => ⟨T, r, he, Lib.hid ⟨h2.out.1.wide hb.size (Nat.le_refl _), hb.trans (h2.out.2.mono hb.size)⟩⟩
structure InR (w W2 : World) (nb : Nat) (bb neg : Bool) (l : List Fl.Ft) (i : Nat) (wr : World) (v : Value) (vs : List Value) : Prop where
  m : InM nb bb wr vs v ((Fl.insL neg l).take i)
  b : Below W2.heap.size W2 wr
set_option maxHeartbeats 4000000 in
set_option maxRecDepth 100000 in
theorem ins_sev (l : List Fl.Ft) (hll : l.length ≤ 1000000) (a : Bool) (r : Value) (T : TypeId) (w : World) (B E : Nat) (h : FtV B E w (.iface T r) (.sev l a)) (hE : E ≤ w.heap.size) (ih : ∀ (i : Nat) (t : Fl.Ft), l[i]? = some t → ∀ v, InsOk v t) :
    Calls Tryd.prog 12 #[.iface T r] w (InsEnd w (Fl.insF false (.sev l a))) := by
  obtain rfl : T = 73 := by cases h; rfl
  obtain ⟨A, c, vs0, rfl, hr, _, hel⟩ := h.sev_inv
  have hrow : InsRow w false l vs0 := fun i u t hu ht => ⟨(hel i u t hu ht).form, fun W hb => ih i t ht u B E W ((hel i u t hu ht).over hE hb) (Nat.le_trans hE hb.size)⟩
  have HROW := Lib.hid hrow; have HR := Lib.hid hr
  have hvl : vs0.length = l.length := by have := hr.1; omega
  have hil := Fl.insL_len false l
  have z0 := ta_sev_sev; have z1 := ta_sev_not
  rw [Fl.insF]
  rw [show (a != false) = a by cases a <;> rfl]
  clear hrow hr ih h hel
  go_enter Tryd.func12, Tryd.ntmps12
  go_wp2_with fail
  have hb2 : Below w.heap.size w ((w.alloc (.cells #[.slice A l.length c, .bool a] 73)).alloc (.cells #[.slice none 0 0, .bool a] 73)) := ((Below.refl w.heap.size w).alloc (Nat.le_refl _) _).alloc (by simp) _
  have hk2 := InM.start (w.alloc (.cells #[.slice A l.length c, .bool a] 73)) a
  rw [World.size_alloc] at hk2
  have hsz : ((w.alloc (.cells #[.slice A l.length c, .bool a] 73)).alloc (.cells #[.slice none 0 0, .bool a] 73)).heap.size = w.heap.size + 2 := by simp
  have HB2 := Lib.hid hb2; have HK2 := Lib.hid hk2; have HSZ := Lib.hid hsz
  clear hb2 hk2 hsz
  generalize (w.alloc (.cells #[.slice A l.length c, .bool a] 73)).alloc (.cells #[.slice none 0 0, .bool a] 73) = W2 at *
  go_loopw [60] (fun iv wr => ∃ (i : Nat) (v : Value) (vs : List Value), iv = .int .i64 i ∧ i ≤ l.length ∧ Hid (InM (w.heap.size + 1) a wr vs v ((Fl.insL false l).take i) ∧ Below w.heap.size w wr)) (fun iv _ => l.length - (intOf iv).toNat)
  case atStart => exact ⟨0, _, _, rfl, Nat.zero_le _, Lib.hid ⟨HK2.out, HB2.out⟩⟩
  case round =>
    obtain ⟨i, v, vs, rfl, hi, hx⟩ := hrel
    obtain ⟨hm, hbw⟩ := hx.out
    obtain ⟨A0, c0, rfl, _, _, _⟩ := hm.own.reads
    have hlen : ((Fl.insL false l).take i).length = i := by rw [List.length_take]; omega
    rw [hlen] at hm
    have y0 := hm.blk.cell 0; have f0 := hm.blk.frozen 0
    simp at y0
    by_cases hlt : i < l.length
    · have ii : (i : Int) < (l.length : Int) := by omega
      obtain ⟨b, off, u, rfl, hbb, hu, hc⟩ := rdV_at HR.out hlt
      have x0 := (hbw.cell (p := ⟨b, off + i, none⟩) (by show b < _; omega)).trans hc
      obtain ⟨t, ht⟩ : ∃ t, l[i]? = some t := ⟨_, List.getElem?_eq_getElem hlt⟩
      obtain ⟨⟨Tu, ru, rfl⟩, hcalls⟩ := HROW.out i u t hu ht
      have hc2 := InsRow.at_ (neg := false) hcalls hbw
      rw [if_neg (by decide)] at hc2
      have htk : (Fl.insL false l).take (i + 1) = (Fl.insL false l).take i ++ [Fl.insF false t] := take_snoc (by rw [Fl.insL_get, ht]; rfl)
      generalize Fl.insF false t = t2 at *
      have HC := Lib.hid hc2; have HM := Lib.hid hm; have HTK := Lib.hid htk; have HBW := Lib.hid hbw
      have hsz := hm.blk.lt
      have hilen := hlen
      clear hc2 hm htk hx hcalls hc hu ht hlen hil
      go_upto_region 23 with fail
      go_region_law (first
        | (go_simp; go_at_call 12; (with_reducible refine (HC.out _ ?_).mono ?_); (repeat (first | exact Below.refl _ _ | apply bl_drew | apply bl_drewN)); rintro e w3 ⟨T3, r3, rfl, h3⟩; have hm3 := HM.out.over h3.out.2; have y3 := hm3.blk.cell 0; have f3 := hm3.blk.frozen 0; simp at y3; have HO3 : Hid (OwnW w3 (w.heap.size + 1 + 1) 34 ValR.sz (.slice A0 i c0) i (vs.flatMap ValR.cells)) := Lib.hid (by rw [val_cells]; have h9 := hm3.own; rw [hilen] at h9; exact h9); have HF3 := Lib.hid h3.out.1; have HB3 := Lib.hid h3.out.2; have hsz3 := h3.out.2.size; have n3 : w.heap.size + 1 < w3.heap.size := hm3.blk.lt; have n4 : w.heap.size + 1 ≠ w3.heap.size := (by omega); clear hm3 h3)
        | (refine step_addW ValR (by rfl) (.tmp 65) (.tmp 68) 44 (w.heap.size + 1 + 1) 34 .nilIface 16 Tryd.underlying44 Tryd.fltInfo (by rfl) rfl (.slice A0 i c0) i vs (.iface T3 r3) (HO3.out.alloc _) (by rfl) ⟨⟨w3.heap.size, 0, none⟩, (by first | rfl | (show Value.slice _ _ _ = _; simp; done)), val_cellsAt ((Blk.new w3 34 #[.iface T3 r3]).cell 0)⟩ (fun y hy => by rw [List.mem_singleton.1 hy]; exact HF3.out.one) (by omega) (by omega) (by simp; omega) ?_; intro v4 w4 h1 h2 h4; rw [List.flatMap_append, val_cells] at h1; obtain ⟨A4, c4, rfl, _, _, _⟩ := h1.reads; have hb4 := InM.blk3' HM.out HB3.out h2; have y4 := hb4.cell 0; have f4 := hb4.frozen 0; simp at y4; have HM4 := Lib.hid (InM.more (bb := a) HM.out HB3.out HF3.out ((Below.refl _ _).alloc (Nat.le_refl _) _) (by rw [hilen]; exact h1) h2 h4); have HB4 := Lib.hid (bl_next2 (v' := .slice A4 (i + 1) c4) HBW.out HM.out HB3.out h2); clear h1 h2 h4 hb4))
      all_goals
        go_wp2_with fail
        refine ⟨⟨i + 1, _, _, by go_num, by omega, Lib.hid ⟨by rw [HTK.out]; exact HM4.out, HB4.out⟩⟩, by simp [intOf]; omega⟩
    · obtain rfl : i = l.length := by omega
      have y1 := hm.blk.cell 1
      simp at y1
      have hd := hm.done
      rw [List.take_of_length_le (by omega : (Fl.insL false l).length ≤ l.length)] at hd
      have HD := Lib.hid hd; have HBW := Lib.hid hbw
      clear hd hm hx hbw
      go_wp2_with fail
      go_ret
      exact ⟨_, _, rfl, Lib.hid ⟨HD.out.wide (Nat.le_succ _) (Nat.le_refl _), HBW.out⟩⟩
set_option maxHeartbeats 4000000 in
set_option maxRecDepth 100000 in
theorem ins_not_sev (l : List Fl.Ft) (hll : l.length ≤ 1000000) (a : Bool) (r : Value) (T : TypeId) (w : World) (B E : Nat) (h : FtV B E w (.iface T r) (.sev l a)) (hE : E ≤ w.heap.size) (ih : ∀ (i : Nat) (t : Fl.Ft), l[i]? = some t → ∀ v, InsOk v (.not t)) :
    Calls Tryd.prog 12 #[.iface 71 (.agg #[.iface T r])] w (InsEnd w (Fl.insF false (.not (.sev l a)))) := by
  obtain rfl : T = 73 := by cases h; rfl
  obtain ⟨A, c, vs0, rfl, hr, _, hel⟩ := h.sev_inv
  have hrow : InsRow w true l vs0 := fun i u t hu ht => ⟨(hel i u t hu ht).form, fun W hb => by
    have h9 := ih i t ht (.iface 71 (.agg #[u])) B E W (.not ((hel i u t hu ht).over hE hb)) (Nat.le_trans hE hb.size)
    rw [Fl.insF] at h9
    exact h9⟩
  have HROW := Lib.hid hrow; have HR := Lib.hid hr
  have hvl : vs0.length = l.length := by have := hr.1; omega
  have hil := Fl.insL_len true l
  have z0 := ta_sev_sev; have z1 := ta_sev_not; have z2 := ta_not_not
  rw [Fl.insF, Fl.insF]
  rw [show (!false) = true from rfl]
  rw [show (a != true) = !a by cases a <;> rfl]
  obtain ⟨na, hna⟩ : ∃ na, (!a) = na := ⟨_, rfl⟩
  rw [hna]
  clear hrow hr ih h hel
  go_enter Tryd.func12, Tryd.ntmps12
  go_wp2_with fail
  have hb2 : Below w.heap.size w (((w.alloc (.cells #[.iface 73 (.agg #[.slice A l.length c, .bool a])] 71)).alloc (.cells #[.slice A l.length c, .bool a] 73)).alloc (.cells #[.slice none 0 0, .bool na] 73)) := (((Below.refl w.heap.size w).alloc (Nat.le_refl _) _).alloc (by simp) _).alloc (by simp; omega) _
  have hk2 := InM.start ((w.alloc (.cells #[.iface 73 (.agg #[.slice A l.length c, .bool a])] 71)).alloc (.cells #[.slice A l.length c, .bool a] 73)) na
  rw [World.size_alloc, World.size_alloc] at hk2
  have hsz : (((w.alloc (.cells #[.iface 73 (.agg #[.slice A l.length c, .bool a])] 71)).alloc (.cells #[.slice A l.length c, .bool a] 73)).alloc (.cells #[.slice none 0 0, .bool na] 73)).heap.size = w.heap.size + 3 := by simp
  have HB2 := Lib.hid hb2; have HK2 := Lib.hid hk2; have HSZ := Lib.hid hsz
  clear hb2 hk2 hsz
  generalize ((w.alloc (.cells #[.iface 73 (.agg #[.slice A l.length c, .bool a])] 71)).alloc (.cells #[.slice A l.length c, .bool a] 73)).alloc (.cells #[.slice none 0 0, .bool na] 73) = W2 at *
  go_loopw [35] (fun iv wr => ∃ (i : Nat) (v : Value) (vs : List Value), iv = .int .i64 i ∧ i ≤ l.length ∧ Hid (InM (w.heap.size + 1 + 1) na wr vs v ((Fl.insL true l).take i) ∧ Below w.heap.size w wr)) (fun iv _ => l.length - (intOf iv).toNat)
  case atStart => exact ⟨0, _, _, rfl, Nat.zero_le _, Lib.hid ⟨HK2.out, HB2.out⟩⟩
  case round =>
    obtain ⟨i, v, vs, rfl, hi, hx⟩ := hrel
    obtain ⟨hm, hbw⟩ := hx.out
    obtain ⟨A0, c0, rfl, _, _, _⟩ := hm.own.reads
    have hlen : ((Fl.insL true l).take i).length = i := by rw [List.length_take]; omega
    rw [hlen] at hm
    have y0 := hm.blk.cell 0; have f0 := hm.blk.frozen 0
    simp at y0
    by_cases hlt : i < l.length
    · have ii : (i : Int) < (l.length : Int) := by omega
      obtain ⟨b, off, u, rfl, hbb, hu, hc⟩ := rdV_at HR.out hlt
      have x0 := (hbw.cell (p := ⟨b, off + i, none⟩) (by show b < _; omega)).trans hc
      obtain ⟨t, ht⟩ : ∃ t, l[i]? = some t := ⟨_, List.getElem?_eq_getElem hlt⟩
      obtain ⟨⟨Tu, ru, rfl⟩, hcalls⟩ := HROW.out i u t hu ht
      have hc2 := InsRow.at_ (neg := true) hcalls hbw
      rw [if_pos rfl] at hc2
      have htk : (Fl.insL true l).take (i + 1) = (Fl.insL true l).take i ++ [Fl.insF true t] := take_snoc (by rw [Fl.insL_get, ht]; rfl)
      generalize Fl.insF true t = t2 at *
      have HC := Lib.hid hc2; have HM := Lib.hid hm; have HTK := Lib.hid htk; have HBW := Lib.hid hbw
      have hsz := hm.blk.lt
      have hilen := hlen
      clear hc2 hm htk hx hcalls hc hu ht hlen hil
      go_upto_region 14 with fail
      go_region_law (first
        | (go_simp; go_at_call 12; (with_reducible refine (HC.out _ ?_).mono ?_); (repeat (first | exact Below.refl _ _ | apply bl_drew | apply bl_drewN)); rintro e w3 ⟨T3, r3, rfl, h3⟩; have hm3 := HM.out.over h3.out.2; have y3 := hm3.blk.cell 0; have f3 := hm3.blk.frozen 0; simp at y3; have HO3 : Hid (OwnW w3 (w.heap.size + 1 + 1 + 1) 34 ValR.sz (.slice A0 i c0) i (vs.flatMap ValR.cells)) := Lib.hid (by rw [val_cells]; have h9 := hm3.own; rw [hilen] at h9; exact h9); have HF3 := Lib.hid h3.out.1; have HB3 := Lib.hid h3.out.2; have hsz3 := h3.out.2.size; have n3 : w.heap.size + 1 + 1 < w3.heap.size := hm3.blk.lt; have n4 : w.heap.size + 1 + 1 ≠ w3.heap.size := (by omega); clear hm3 h3)
        | (refine step_addW ValR (by rfl) (.tmp 40) (.tmp 45) 44 (w.heap.size + 1 + 1 + 1) 34 .nilIface 16 Tryd.underlying44 Tryd.fltInfo (by rfl) rfl (.slice A0 i c0) i vs (.iface T3 r3) (HO3.out.alloc _) (by rfl) ⟨⟨w3.heap.size, 0, none⟩, (by first | rfl | (show Value.slice _ _ _ = _; simp; done)), val_cellsAt ((Blk.new w3 34 #[.iface T3 r3]).cell 0)⟩ (fun y hy => by rw [List.mem_singleton.1 hy]; exact HF3.out.one) (by omega) (by omega) (by simp; omega) ?_; intro v4 w4 h1 h2 h4; rw [List.flatMap_append, val_cells] at h1; obtain ⟨A4, c4, rfl, _, _, _⟩ := h1.reads; have hb4 := InM.blk3' HM.out HB3.out h2; have y4 := hb4.cell 0; have f4 := hb4.frozen 0; simp at y4; have HM4 := Lib.hid (InM.more (bb := na) HM.out HB3.out HF3.out ((Below.refl _ _).alloc (Nat.le_refl _) _) (by rw [hilen]; exact h1) h2 h4); have HB4 := Lib.hid (bl_next2 (hn := Nat.le_succ _) (v' := .slice A4 (i + 1) c4) HBW.out HM.out HB3.out h2); clear h1 h2 h4 hb4))
      all_goals
        go_wp2_with fail
        refine ⟨⟨i + 1, _, _, by go_num, by omega, Lib.hid ⟨by rw [HTK.out]; exact HM4.out, HB4.out⟩⟩, by simp [intOf]; omega⟩
    · obtain rfl : i = l.length := by omega
      have y1 := hm.blk.cell 1
      simp at y1
      have hd := hm.done
      rw [List.take_of_length_le (by omega : (Fl.insL true l).length ≤ l.length)] at hd
      have HD := Lib.hid hd; have HBW := Lib.hid hbw
      clear hd hm hx hbw
      go_wp2_with fail
      go_ret
      exact ⟨_, _, rfl, Lib.hid ⟨HD.out.wide (Nat.le_trans (Nat.le_succ _) (Nat.le_succ _)) (Nat.le_refl _), HBW.out⟩⟩
theorem ins_all : ∀ (n : Nat) (t : Fl.Ft), Fl.cnt t ≤ n → Fl.cnt t ≤ 1000000 → ∀ v, InsOk v t
  | 0, t, h, _, v => by have := cnt_pos1 t; omega
  | n + 1, .tst f lo hi b, _, _, v => ins_tst f lo hi b v
  | n + 1, .any, _, _, v => ins_any v
  | n + 1, .not (.tst f lo hi b), _, _, v => ins_not_tst f lo hi b v
  | n + 1, .not .any, _, _, v => ins_not_any v
  | n + 1, .not (.not t), h, h2, v => ins_not_not t (fun v => ins_all n t (by simp only [Fl.cnt] at h; omega) (by simp only [Fl.cnt] at h2; omega) v) v
  | n + 1, .not (.sev l a), h, h2, v => by
    intro B E W hW hE
    simp only [Fl.cnt] at h h2
    cases hW with
    | not hW =>
    obtain ⟨T, r, rfl⟩ := hW.form
    exact ins_not_sev l (by have := cntL_len l; omega) a r T W B E hW hE (fun i t ht v => ins_all n (.not t) (by have := cntL_at ht; simp only [Fl.cnt]; omega) (by have := cntL_at ht; simp only [Fl.cnt]; omega) v)
  | n + 1, .sev l a, h, h2, v => by
    intro B E W hW hE
    simp only [Fl.cnt] at h h2
    obtain ⟨T, r, rfl⟩ := hW.form
    exact ins_sev l (by have := cntL_len l; omega) a r T W B E hW hE (fun i t ht v => ins_all n t (by have := cntL_at ht; omega) (by have := cntL_at ht; omega) v)
/-- Inside, whatever the filter -/
theorem FtV.inside {B E : Nat} {w : World} {v : Value} {t : Fl.Ft} (h : FtV B E w v t) (hE : E ≤ w.heap.size) (hn : Fl.cnt t ≤ 1000000) : Calls Tryd.prog 12 #[v] w (InsEnd w (Fl.insF false t)) := ins_all _ t (Nat.le_refl _) hn v B E w h hE
end Go.Proofs.YtdipehgijjkfdaaDoor
