/-
  The check that nothing is lost but what is told: its inner function (left's out), where it says yes.
-/
import Derived.Test.YtdhojhgmaodifaaDoorPlayRel
namespace Go.Proofs.YtdhojhgmaodifaaDoor
open Go.RowKit Bkt
set_option linter.unusedVariables false

theorem intR_at {w : World} {base : Nat} {A : Option Addr} {c n : Nat} {l : List Int} (h : OwnW w base 3 1 (.slice A n c) n (l.flatMap IntR.cells)) {k : Nat} (hk : k < n) :
    ∃ g o, A = some ⟨g, o, none⟩ ∧ w.cell? ⟨g, o + k, none⟩ = some (.int .i64 (l.getD k 0)) ∧ w.frozen? ⟨g, o + k, none⟩ = false ∧ g < w.heap.size ∧ base ≤ g := by
  obtain ⟨h0, ⟨hv, h1⟩ | ⟨g, o, c', cur, hv, hb, hgg, hnc, hm, hs, ht⟩⟩ := h
  · omega
  · injection hv with hA _ _
    subst hA
    refine ⟨g, o, rfl, ?_, hgg.frozen _, hgg.lt, hb⟩
    rw [hgg.cell]
    refine ht k _ ?_
    rw [intR_flat] at h0 ⊢
    rw [List.length_map] at h0
    rw [List.getElem?_map, List.getD, List.getElem?_eq_getElem (show k < l.length by omega)]
    rfl
theorem OwnW.setI {w : World} {base g o c n k : Nat} {l : List Int} (h : OwnW w base 3 1 (.slice (some ⟨g, o, none⟩) n c) n (l.flatMap IntR.cells)) (hk : k < n) (u : Int) :
    OwnW (w.setCell ⟨g, o + k, none⟩ (.int .i64 u)) base 3 1 (.slice (some ⟨g, o, none⟩) n c) n ((l.set k u).flatMap IntR.cells) := by
  obtain ⟨h0, ⟨hv, h1⟩ | ⟨g', o', c', cur, hv, hb, hgg, hnc, hm, hs, ht⟩⟩ := h
  · cases hv
  · injection hv with hA _ hc
    injection hA with hA
    injection hA with e1 e2 _
    subst e1 e2 hc
    rw [intR_flat] at h0 ht ⊢
    rw [List.length_map] at h0
    refine ⟨by simpa using h0, .inr ⟨g, o, c, _, rfl, hb, hgg.set_ (o + k) _, hnc, hm, by simpa using hs, fun j v hj => ?_⟩⟩
    rw [List.getElem?_map] at hj
    rw [Array.getElem?_setIfInBounds]
    by_cases e : k = j
    · subst e
      rw [if_pos rfl, if_pos (by omega)]
      rw [List.getElem?_set, if_pos rfl, if_pos (by omega)] at hj
      simpa using hj
    · rw [if_neg (by omega)]
      rw [List.getElem?_set, if_neg e] at hj
      exact ht j v (by rw [List.getElem?_map]; exact hj)

/-- the check's four variables in memory -/
structure LMem (w : World) (base gS gT gW gB : Nat) (S : Pl.LS) (vs vt : Value) : Prop where
  bS : Blk w gS 37 #[vs]
  bT : Blk w gT 37 #[vt]
  bW : Blk w gW 3 #[.int .i64 S.wait]
  bB : Blk w gB 3 #[.int .i64 S.bytes]
  oS : OwnW w base 3 1 vs S.size.length (S.size.flatMap IntR.cells)
  oT : OwnW w base 3 1 vt S.state.length (S.state.flatMap IntR.cells)
  lo : base ≤ gS ∧ base ≤ gT ∧ base ≤ gW ∧ base ≤ gB
  n1 : gS ≠ gT
  n2 : gW ≠ gB
  n3 : ∀ i, vs.ownBlock = some i → i ≠ gW ∧ i ≠ gB ∧ vt.ownBlock ≠ some i
  n4 : ∀ i, vt.ownBlock = some i → i ≠ gW ∧ i ≠ gB
  sl : S.size.length = S.state.length
theorem LMem.drew {w : World} {base gS gT gW gB : Nat} {S : Pl.LS} {vs vt : Value} (h : LMem w base gS gT gW gB S vs vt) : LMem w.drew base gS gT gW gB S vs vt :=
  ⟨h.bS, h.bT, h.bW, h.bB, h.oS, h.oT, h.lo, h.n1, h.n2, h.n3, h.n4, h.sl⟩
theorem LMem.drewN {w : World} {base gS gT gW gB : Nat} {S : Pl.LS} {vs vt : Value} (h : LMem w base gS gT gW gB S vs vt) (n : Nat) : LMem (w.drewN n) base gS gT gW gB S vs vt :=
  ⟨h.bS, h.bT, h.bW, h.bB, h.oS, h.oT, h.lo, h.n1, h.n2, h.n3, h.n4, h.sl⟩
/-- bounds: none wraps -/
structure LB (S : Pl.LS) (m : Nat) : Prop where
  w : -(m : Int) ≤ S.wait ∧ S.wait ≤ m
  b : -(10000 * (m : Int)) ≤ S.bytes ∧ S.bytes ≤ 10000 * m
  s : ∀ x ∈ S.size, 0 ≤ x ∧ x ≤ 10000
theorem outL_some {S S' : Pl.LS} {k : Int} (h : Pl.outL S k = some S') : 0 ≤ k ∧ k < S.state.length ∧ S.state.getD k.toNat 0 = 0 ∧ S' = ⟨S.size, S.state.set k.toNat 1, S.wait - 1, S.bytes - S.size.getD k.toNat 0⟩ := by
  unfold Pl.outL at h
  split at h
  · rename_i hc
    injection h with h
    exact ⟨hc.1, hc.2.1, hc.2.2, h.symm⟩
  · cases h
theorem LB.out {S S' : Pl.LS} {m : Nat} {k : Int} (h : LB S m) (ho : Pl.outL S k = some S') (hl : S.size.length = S.state.length) : LB S' (m + 1) := by
  obtain ⟨h0, h1, h2, rfl⟩ := outL_some ho
  have hx : 0 ≤ S.size.getD k.toNat 0 ∧ S.size.getD k.toNat 0 ≤ 10000 := by
    rw [List.getD, List.getElem?_eq_getElem (show k.toNat < S.size.length by omega)]
    exact h.s _ (List.getElem_mem _)
  have a := h.w; have b := h.b
  exact ⟨by dsimp only; omega, by dsimp only; omega, h.s⟩

def OutYes (w : World) (base gS gT gW gB : Nat) (S' : Pl.LS) (vs vt : Value) (e : Ending) (w' : World) : Prop :=
  e = .returned (.bool true) ∧ LMem w' base gS gT gW gB S' vs vt ∧ Below base w w'
set_option maxHeartbeats 1000000 in
set_option maxRecDepth 100000 in
theorem out_yes (base gS gT gW gB m : Nat) (S S' : Pl.LS) (vs vt : Value) (k : Int) (w : World) (h : LMem w base gS gT gW gB S vs vt) (ho : Pl.outL S k = some S') (hb : LB S m) (hm : m ≤ 1000000000) (hn : S.state.length ≤ 1000000) :
    Calls Tryd.prog 61 #[.int .i64 k, .pointer (some ⟨gT, 0, none⟩), .pointer (some ⟨gW, 0, none⟩), .pointer (some ⟨gB, 0, none⟩), .pointer (some ⟨gS, 0, none⟩)] w (OutYes w base gS gT gW gB S' vs vt) := by
  obtain ⟨h0, h1, h2, rfl⟩ := outL_some ho
  obtain ⟨kn, rfl⟩ : ∃ kn : Nat, k = (kn : Int) := ⟨k.toNat, by omega⟩
  rw [Int.toNat_natCast] at h2 ⊢
  have hkn : kn < S.state.length := by omega
  have hkn2 : kn < S.size.length := by rw [h.sl]; exact hkn
  obtain ⟨As, cs, rfl, _, _, _⟩ := h.oS.reads
  obtain ⟨At, ct, rfl, _, _, _⟩ := h.oT.reads
  obtain ⟨gs, os, rfl, ds, fs, ls, bs⟩ := intR_at h.oS hkn2
  obtain ⟨gt, ot, rfl, dt, ft, lt, bt⟩ := intR_at h.oT hkn
  rw [h2] at dt
  have n3 := h.n3 gs rfl; have n4 := h.n4 gt rfl
  have hst : gs ≠ gt := fun e => n3.2.2 (by rw [e]; rfl)
  have hsz := hb.s (S.size.getD kn 0) (by rw [List.getD, List.getElem?_eq_getElem hkn2]; exact List.getElem_mem _)
  have c1 : w.cell? ⟨gT, 0, none⟩ = some (.slice (some ⟨gt, ot, none⟩) S.state.length ct) := h.bT.cell 0
  have c2 : w.cell? ⟨gW, 0, none⟩ = some (.int .i64 S.wait) := h.bW.cell 0
  have c3 : w.cell? ⟨gB, 0, none⟩ = some (.int .i64 S.bytes) := h.bB.cell 0
  have c4 : w.cell? ⟨gS, 0, none⟩ = some (.slice (some ⟨gs, os, none⟩) S.size.length cs) := h.bS.cell 0
  have f2 := h.bW.frozen 0; have f3 := h.bB.frozen 0
  have m1 : gt ≠ gT := fun e => h.oT.blk_ne h.bT (by decide) (by rw [e]; rfl)
  have m2 : gt ≠ gS := fun e => h.oT.blk_ne h.bS (by decide) (by rw [e]; rfl)
  have m3 : gs ≠ gT := fun e => h.oS.blk_ne h.bT (by decide) (by rw [e]; rfl)
  have m4 : gs ≠ gS := fun e => h.oS.blk_ne h.bS (by decide) (by rw [e]; rfl)
  have m5 : gW ≠ gT := Blk.ne_ h.bW h.bT (by decide)
  have m6 : gW ≠ gS := Blk.ne_ h.bW h.bS (by decide)
  have m7 : gB ≠ gT := Blk.ne_ h.bB h.bT (by decide)
  have m8 : gB ≠ gS := Blk.ne_ h.bB h.bS (by decide)
  have n1 := h.n1; have n2 := h.n2
  have hw := hb.w; have hby := hb.b
  have hlo := h.lo
  have hfin : ∀ u1 u2, u1 = .int .i64 (S.wait - 1) → u2 = .int .i64 (S.bytes - S.size.getD kn 0) → LMem (((w.setCell ⟨gt, ot + kn, none⟩ (.int .i64 1)).setCell ⟨gW, 0, none⟩ u1).setCell ⟨gB, 0, none⟩ u2) base gS gT gW gB
      ⟨S.size, S.state.set kn 1, S.wait - 1, S.bytes - S.size.getD kn 0⟩ (.slice (some ⟨gs, os, none⟩) S.size.length cs) (.slice (some ⟨gt, ot, none⟩) S.state.length ct) ∧
      Below base w (((w.setCell ⟨gt, ot + kn, none⟩ (.int .i64 1)).setCell ⟨gW, 0, none⟩ u1).setCell ⟨gB, 0, none⟩ u2) := fun u1 u2 e1 e2 => by
    subst e1 e2
    refine ⟨⟨((h.bS.far (p := ⟨gt, ot + kn, none⟩) (Ne.symm m2) _).far (p := ⟨gW, 0, none⟩) (Ne.symm m6) _).far (p := ⟨gB, 0, none⟩) (Ne.symm m8) _,
      ((h.bT.far (p := ⟨gt, ot + kn, none⟩) (Ne.symm m1) _).far (p := ⟨gW, 0, none⟩) (Ne.symm m5) _).far (p := ⟨gB, 0, none⟩) (Ne.symm m7) _,
      ((h.bW.far (p := ⟨gt, ot + kn, none⟩) (Ne.symm n4.1) _).set_ 0 _).far (p := ⟨gB, 0, none⟩) n2 _,
      ((h.bB.far (p := ⟨gt, ot + kn, none⟩) (Ne.symm n4.2) _).far (p := ⟨gW, 0, none⟩) (Ne.symm n2) _).set_ 0 _, ?_, ?_, h.lo, h.n1, h.n2, h.n3, h.n4, by simpa using h.sl⟩, ?_⟩
    · exact ((h.oS.setCell (p := ⟨gt, ot + kn, none⟩) (fun e => hst (Option.some.inj e)) _).setCell (p := ⟨gW, 0, none⟩) (fun e => n3.1 (Option.some.inj e)) _).setCell (p := ⟨gB, 0, none⟩) (fun e => n3.2.1 (Option.some.inj e)) _
    · have := ((h.oT.setI hkn 1).setCell (p := ⟨gW, 0, none⟩) (fun e => n4.1 (Option.some.inj e)) (.int .i64 (S.wait - 1))).setCell (p := ⟨gB, 0, none⟩) (fun e => n4.2 (Option.some.inj e)) (.int .i64 (S.bytes - S.size.getD kn 0))
      simpa using this
    · exact (((Below.refl base w).setCell (p := ⟨gt, ot + kn, none⟩) bt _).setCell (p := ⟨gW, 0, none⟩) hlo.2.2.1 _).setCell (p := ⟨gB, 0, none⟩) hlo.2.2.2 _
  have HFIN := Lib.hid hfin
  have e1 : IntKind.i64.wrap (S.wait - 1) = S.wait - 1 := IntWalk.i64_in _ (by omega)
  have e2 : IntKind.i64.wrap (S.bytes - S.size.getD kn 0) = S.bytes - S.size.getD kn 0 := IntWalk.i64_in _ (by omega)
  have hlen := h.sl
  clear h ho hfin h2 hlo
  have m1' := Ne.symm m1; have m3' := Ne.symm m3; have m2' := Ne.symm m2; have m4' := Ne.symm m4; have m5' := Ne.symm m5; have m6' := Ne.symm m6; have m7' := Ne.symm m7; have m8' := Ne.symm m8
  have hst' := Ne.symm hst; have n2' := Ne.symm n2
  obtain ⟨n31, n32, _⟩ := n3; obtain ⟨n41, n42⟩ := n4
  have n31' := Ne.symm n31; have n32' := Ne.symm n32; have n41' := Ne.symm n41; have n42' := Ne.symm n42
  obtain ⟨Ss, St, Sw, Sb⟩ := S
  dsimp only at *
  generalize Ss.getD kn 0 = sz at *
  generalize St.length = nt at *
  generalize Ss.length = ns at *
  go_enter Tryd.func61, Tryd.ntmps61
  go_wp2_with fail
  go_region
  all_goals
    go_wp2_with fail
    go_ret
    exact ⟨rfl, (HFIN.out _ _ rfl rfl).1.drew, (HFIN.out _ _ rfl rfl).2.drew⟩
end Go.Proofs.YtdhojhgmaodifaaDoor
