/-
  The book: Lines, Sync, Get, Names.
-/
import Derived.Test.YtdipehgijjkfdaaGreatDoorBkAdd
import Derived.Maps.OwnSet
namespace Go.Proofs.YtdipehgijjkfdaaGreatDoor
open Go.RowKit Go.Maps Go.Sort Go.Shelf
set_option linter.unusedVariables false
theorem lines_any (B g : Nat) (xs : List Bo.Ln) (su : Nat) (mv : Option Nat) (dv : Value) (w : World) (h : BkM w B g xs su mv dv) :
    Calls Tryz.prog 10 #[.pointer (some ⟨g, 0, none⟩)] w fun e w' => e = .returned (.int .i64 xs.length) ∧ w' = w := by
  have y1 := h.blk.cell 1
  simp at y1
  clear h
  go_enter Tryz.func10, Tryz.ntmps10
  go_wp2_with fail
  go_ret
  exact ⟨rfl, rfl⟩
theorem sync_any (B g : Nat) (xs : List Bo.Ln) (su : Nat) (mv : Option Nat) (dv : Value) (w : World) (h : BkM w B g xs su mv dv) :
    Calls Tryz.prog 12 #[.pointer (some ⟨g, 0, none⟩)] w fun e w' => e = .returned (.tuple #[]) ∧ Hid (BkM w' B g xs (Bo.dataF 0 xs).length mv dv ∧ Chg w w' (fun i => i = g)) := by
  have y2 := h.blk.cell 2; have x3 := h.blk.frozen 3; have y3 := h.blk.cell 3
  obtain ⟨A, c, hdv, _⟩ := h.reads
  simp at y2 y3
  have hfin : BkM (w.setCell ⟨g, 3, none⟩ (.int .i64 (Bo.dataF 0 xs).length)) B g xs (Bo.dataF 0 xs).length mv dv ∧ Chg w (w.setCell ⟨g, 3, none⟩ (.int .i64 (Bo.dataF 0 xs).length)) (fun i => i = g) := by
    have hc : Chg w (w.setCell ⟨g, 3, none⟩ (.int .i64 (Bo.dataF 0 xs).length)) (fun i => i = g) := Chg.setCell (p := ⟨g, 3, none⟩) (Chg.refl _ (fun i => i = g)) (fun _ => rfl) _
    refine ⟨⟨h.blk.set_ 3 _, h.bg, h.map.chg hc (fun b e e2 => h.ne.1 (by rw [e, e2])), ownsRow_chg h.data hc (fun i e e2 => h.ne.2.1 (by rw [e, e2])), h.ok, Nat.le_refl _, Nat.le_trans h.bs hc.size⟩, hc⟩
  have HF := Lib.hid hfin
  clear h hfin
  rw [hdv] at y2
  go_enter Tryz.func12, Tryz.ntmps12
  go_wp2_with fail
  go_end0
  exact ⟨rfl, Lib.hid HF.out⟩
theorem look_nil (nm : List UInt8) (hl : nm.length ≤ 281474976710656) (w : World) : (Instr.lookup 41 (.map none) (.string ⟨nm.toArray⟩) false).run Tryz.prog w = .ok (.int .i64 0) w := by
  have h := Maps.look_nil (P := Tryz.prog) (w := w) (t := 41) (e := 3) false Tryz.lawS Tryz.underlying41 (Tryz.zeroI w) (keyS nm hl)
  simpa using h
theorem get_any (B g : Nat) (xs : List Bo.Ln) (su : Nat) (mv : Option Nat) (dv : Value) (nm : List UInt8) (w : World) (h : BkM w B g xs su mv dv) (hl : nm.length ≤ 281474976710656) :
    Calls Tryz.prog 19 #[.pointer (some ⟨g, 0, none⟩), .string ⟨nm.toArray⟩] w fun e w' => e = .returned (.int .i64 (Bo.cntL xs nm)) ∧ w' = w := by
  have y0 := h.blk.cell 0
  simp at y0
  have hky := keyS nm hl
  rcases h.map with ⟨rfl, rfl⟩ | ⟨b, D, rfl, hb, ho, hD⟩
  · have hlk := look_nil nm hl
    go_enter Tryz.func19, Tryz.ntmps19
    go_wp2_with fail
    go_ret
    exact ⟨rfl, rfl⟩
  · have hat := hD.at_ nm
    have HK := Lib.hid hky; have HO := Lib.hid ho; have HA := Lib.hid hat
    clear hky ho hat h hD
    go_enter Tryz.func19, Tryz.ntmps19
    go_wp2_with (at_lookup; refine wpList_lookup_own_int _ rfl (.tmp 8) (.tmp 9) 41 rfl 9 3 .i64 Tryz.lawS Tryz.underlying41 Tryz.underlying3 (Tryz.zeroI _) b xs.length D rfl HO.out (.string ⟨nm.toArray⟩) (.string nm) rfl HK.out ?_; intro c hat hwc; have HC := Lib.hid hat; clear hat)
    go_ret
    have h1 := HA.out
    have h2 : D.atKey (.string nm) (.lit (.int .i64 0)) = .lit (.int .i64 (Bo.cntL xs nm)) := h1
    rw [HC.out] at h2
    injection h2 with h2
    injection h2 with _ h2
    exact ⟨congrArg (fun z => Ending.returned (.int .i64 z)) h2, rfl⟩
theorem own_size {w : World} {b n : Nat} {k e : TypeId} {D : DataW Unit} (h : w.ownsMap Tryz.prog k (plainElem Tryz.prog e) b n D) : Maps.size D ≤ n := by
  obtain ⟨es, clock, _, _, hs, rfl⟩ := h
  rw [Maps.size_eq, length_sorted]
  simpa using hs
theorem strKeys_len {D : DataW Unit} {c : List UInt8 → Int} (h : FRepS D c) {E : List (List UInt8 × Int)} (hE : EntS E c) : (strKeys D).length = E.length := by
  rw [← h.size hE]
  obtain ⟨E', es, rfl, _, _⟩ := h
  rw [Maps.size_eq]
  simp [strKeys]
def NamesOut (w : World) (xs : List Bo.Ln) (e : Ending) (w' : World) : Prop :=
  ∃ A c, ∃ ss : List (List UInt8), e = .returned (.slice A ss.length c) ∧ Hid (Reads w' w'.heap.size 1 A ss.length (ss.map encStr) ∧ (∀ s ∈ ss, s.length ≤ 281474976710656) ∧ (∀ E, EntS E (Bo.cntL xs) → ss.length = E.length) ∧ Below w.heap.size w w')
theorem cnt_name {xs : List Bo.Ln} {k : List UInt8} (h : Bo.cntL xs k ≠ 0) : ∃ x ∈ xs, x.name = k := by
  induction xs with
  | nil => exact absurd rfl h
  | cons x r ih =>
    by_cases e : k = x.name
    · exact ⟨x, by simp, e.symm⟩
    · rw [Bo.cntL, if_neg e, Int.zero_add] at h
      obtain ⟨y, hy, e2⟩ := ih h
      exact ⟨y, by simp [hy], e2⟩
theorem allOk_mem : ∀ {xs : List Bo.Ln} {i : Nat}, Bo.AllOk i xs → ∀ x ∈ xs, Bo.nameB x.name = true
  | [], _, _, x, hx => by cases hx
  | y :: r, i, h, x, hx => by
    rcases List.mem_cons.1 hx with e | e
    · subst e
      have := h.1
      unfold Bo.addOk at this
      simp only [Bool.and_eq_true] at this
      exact this.1.1
    · exact allOk_mem h.2 x e
theorem name_short {s : List UInt8} (h : Bo.nameB s = true) : s.length ≤ 12 := by
  unfold Bo.nameB at h
  simp only [Bool.and_eq_true, decide_eq_true_eq] at h
  exact h.1.2
set_option maxHeartbeats 1000000 in
theorem names_any (B g : Nat) (xs : List Bo.Ln) (su : Nat) (mv : Option Nat) (dv : Value) (w : World) (h : BkM w B g xs su mv dv) :
    Calls Tryz.prog 20 #[.pointer (some ⟨g, 0, none⟩)] w (NamesOut w xs) := by
  have y0 := h.blk.cell 0
  simp at y0
  have hok := h.ok
  rcases h.map with ⟨rfl, rfl⟩ | ⟨b, D, rfl, hb, ho, hD⟩
  · clear h
    refine (callsIn_wide (n := 6)).1 ?_
    have hfK : Fence.wide.fn 29 := trivial
    have hfS : Fence.wide.fn 28 := trivial
    refine callsIn_of_wp Tryz.func20 rfl trivial ?_ rfl
    simp only [Tryz.ntmps20, List.size_toArray, List.length_cons, List.length_nil, Nat.reduceAdd, Nat.reduceSub, Array.replicate_succ, Array.replicate_zero, List.push_toArray, List.append_toArray, List.nil_append, List.cons_append]
    gi_wp2_with (first
      | (gi_at_call 29; refine (Tryz.maps_Keys_29 _ _).mono ?_; rintro e w' ⟨rfl, rfl⟩)
      | (gi_at_call 28; refine (Tryz.slices_Sorted_keys_nil_28_29 w).mono ?_; rintro e w' ⟨v, ss, rfl, hS, hrow, hnil, hb⟩))
    go_ret
    subst hS
    have hv := hnil.2 rfl
    subst hv
    refine ⟨none, 0, [], rfl, Lib.hid ⟨Reads.none_, by simp, fun E hE => ?_, ((Below.refl _ w).alloc (Nat.le_refl _) _).trans (hb.mono (by simp))⟩⟩
    have := hE.perm EntS.nil
    rw [List.Perm.length_eq this]; rfl
  · have hlen := h.len
    have hsz := own_size ho
    have hks : ∀ x ∈ strKeys D, x.length ≤ 281474976710656 := by
      obtain ⟨E, es, rfl, hp, hE⟩ := hD
      intro x hx
      obtain ⟨p, hpm, rfl⟩ := List.mem_map.1 hx
      obtain ⟨⟨k, v⟩, hq, rfl⟩ := List.mem_map.1 (hp.mem_iff.1 hpm)
      obtain ⟨e1, e2⟩ := (hE.is k v).1 hq
      obtain ⟨y, hy, e3⟩ := cnt_name (xs := xs) (k := k) (by rw [e1]; exact e2)
      have := name_short (allOk_mem hok y hy)
      show (strOf (Lit.string k)).length ≤ _
      have e4 : strOf (Lit.string k) = k := rfl
      rw [e4, ← e3]; omega
    have hcnt := fun E (hE : EntS E (Bo.cntL xs)) => strKeys_len hD hE
    have HCNT := Lib.hid hcnt; have HKS := Lib.hid hks
    clear h hcnt hks hD hok
    refine (callsIn_wide (n := 6)).1 ?_
    have hfK : Fence.wide.fn 29 := trivial
    have hfS : Fence.wide.fn 28 := trivial
    refine callsIn_of_wp Tryz.func20 rfl trivial ?_ rfl
    simp only [Tryz.ntmps20, List.size_toArray, List.length_cons, List.length_nil, Nat.reduceAdd, Nat.reduceSub, Array.replicate_succ, Array.replicate_zero, List.push_toArray, List.append_toArray, List.nil_append, List.cons_append]
    gi_wp2_with (first
      | (gi_at_call 29; refine (Tryz.maps_Keys_29 _ _).mono ?_; rintro e w' ⟨rfl, rfl⟩)
      | (gi_at_call 28; refine (Tryz.slices_Sorted_keys_28_29 b xs.length D _ w ho (by unfold maxLen; omega) (by omega)).mono ?_; rintro e w' ⟨v, ss, rfl, hS, hrow, hnil, hb⟩))
    go_ret
    obtain ⟨A, c, rfl, hr⟩ := own_reads hrow
    have hlen2 : (ss.mergeSort (fun x y => decide (x ≤ y))).length = ss.length := (List.mergeSort_perm ss _).length_eq
    refine ⟨A, c, ss.mergeSort (fun x y => decide (x ≤ y)), congrArg (fun z => Ending.returned (.slice A z c)) hlen2.symm, Lib.hid ⟨by rw [hlen2]; exact hr, fun s hs => HKS.out s (hS.mem_iff.1 ((List.mergeSort_perm ss _).mem_iff.1 hs)), fun E hE => by rw [hlen2, hS.length_eq]; exact HCNT.out E hE, ((Below.refl _ w).alloc (Nat.le_refl _) _).trans (hb.mono (by simp))⟩⟩
end Go.Proofs.YtdipehgijjkfdaaGreatDoor
