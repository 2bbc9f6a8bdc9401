/-
  The reader of filters: its memory; take, fail.
-/
import Derived.Test.YtdipehgijjkfdaaDoorFltLaw
import Derived.Test.YtdipehgijjkfdaaDoorChg
import Derived.Test.YtdipehgijjkfdaaDoorRec
import Derived.Test.YtdipehgijjkfdaaDoorOnly
import Derived.Deep.QuietTactic
import Derived.BigQuiet
import Derived.Deep.CutRange
import Derived.Deep.CutBlock
import Derived.WalkSpells
namespace Go.Proofs.YtdipehgijjkfdaaDoor
open Go.RowKit
set_option linter.unusedVariables false
/-- a string's value -/
def sv (s : List UInt8) : Value := .string ⟨s.toArray⟩
theorem rdT_at {w : World} {B n : Nat} {A : Option Addr} {N : List (List UInt8)} (h : Reads w B 1 A n (N.map sv)) {k : Nat} (hk : k < n) : ∃ b off, A = some ⟨b, off, none⟩ ∧ b < B ∧ w.cell? ⟨b, off + k, none⟩ = some (.string ⟨(N.getD k []).toArray⟩) := by
  obtain ⟨ad, u, rfl, hb, hx, hc⟩ := Reads.at_ h hk
  obtain ⟨ad0, u0, hA0, _, _, hc0⟩ := Reads.at_ h (show 0 < n by omega)
  injection hA0 with hA0
  subst hA0
  obtain ⟨b, off, spot⟩ := ad
  have hs' : spot = none := by simpa [Addr.add] using World.cell?_spot hc0
  subst hs'
  refine ⟨b, off, rfl, hb, ?_⟩
  have hl : N.length = n := by simpa using h.1
  have e : N[k]? = some (N.getD k []) := by simp [List.getD, List.getElem?_eq_getElem (show k < N.length by omega)]
  rw [List.getElem?_map, e] at hx
  have hu : u = sv (N.getD k []) := by simpa using hx.symm
  have e2 : (⟨b, off, none⟩ : Addr).add k = ⟨b, off + k, none⟩ := by unfold Addr.add; split <;> simp_all
  rw [← e2, hc, hu]
  rfl
/-- what a reader holds for good -/
structure Rc where
  Aw : Option Addr
  cw : Nat
  Ap : Option Addr
  cp : Nat
  ws : List (List UInt8)
  ps : List Int
  en : Int
/-- the reader g, at word k -/
structure RdF (c : Rc) (w : World) (g k : Nat) : Prop where
  blk : Blk w g 67 #[.slice c.Aw c.ws.length c.cw, .slice c.Ap c.ws.length c.cp, .int .i64 k, .int .i64 c.en]
  rw_ : Reads w w.heap.size 1 c.Aw c.ws.length (c.ws.map sv)
  rp : RdI w w.heap.size c.Ap c.ws.length c.ps
  nw : ∀ ad, c.Aw = some ad → ad.block ≠ g
  np : ∀ ad, c.Ap = some ad → ad.block ≠ g
  le : k ≤ c.ws.length
  n : c.ws.length ≤ 2000
  sz : ∀ s ∈ c.ws, s.length ≤ 2000
section
variable {c : Rc} {w w' : World} {g k : Nat}
theorem RdF.drewN (h : RdF c w g k) (q : Nat) : RdF c (w.drewN q) g k := ⟨h.blk, h.rw_, h.rp, h.nw, h.np, h.le, h.n, h.sz⟩
theorem RdF.below (h : RdF c w g k) (hb : Below w.heap.size w w') : RdF c w' g k :=
  ⟨h.blk.below hb h.blk.lt, (h.rw_.below hb).more hb.size, h.rp.over hb (Nat.le_refl _), h.nw, h.np, h.le, h.n, h.sz⟩
theorem RdF.next (h : RdF c w g k) (hl : k < c.ws.length) (q : Nat) :
    RdF c ((w.drewN q).setCell ⟨g, 2, none⟩ (.int .i64 ((k : Int) + 1))) g (k + 1) ∧ Chg w ((w.drewN q).setCell ⟨g, 2, none⟩ (.int .i64 ((k : Int) + 1))) (fun i => i = g) := by
  have hc : Chg w ((w.drewN q).setCell ⟨g, 2, none⟩ (.int .i64 ((k : Int) + 1))) (fun i => i = g) := Chg.setCell (p := ⟨g, 2, none⟩) (show Chg w (w.drewN q) (fun i => i = g) from Chg.drewN (Chg.refl w _) q) (fun _ => rfl) _
  refine ⟨⟨?_, ?_, ?_, h.nw, h.np, by omega, h.n, h.sz⟩, hc⟩
  · have hb := (h.blk.drewN q).set_ 2 (.int .i64 ((k : Int) + 1))
    have e : ((k + 1 : Nat) : Int) = (k : Int) + 1 := by omega
    rw [e]
    exact hb
  · have := h.rw_.chg (Nat.le_refl _) hc (by intro ad e hg; exact h.nw ad e hg)
    exact this.more hc.size
  · have := h.rp.chg (Nat.le_refl _) hc (fun ad e hg => h.np ad e hg)
    exact this.more hc.size
end
/-- take(s) -/
def TakeF (c : Rc) (w : World) (g k : Nat) (s : List UInt8) (e : Ending) (w' : World) : Prop :=
  (c.ws[k]? = some s ∧ e = .returned (.bool true) ∧ Hid (RdF c w' g (k + 1) ∧ Chg w w' (fun i => i = g))) ∨
  (c.ws[k]? ≠ some s ∧ e = .returned (.bool false) ∧ Hid (RdF c w' g k ∧ Below w.heap.size w w'))
set_option maxHeartbeats 1000000 in
set_option maxRecDepth 100000 in
theorem take_f (c : Rc) (g k : Nat) (s : List UInt8) (w : World) (h : RdF c w g k) :
    Calls Tryd.prog 29 #[.pointer (some ⟨g, 0, none⟩), .string ⟨s.toArray⟩] w (TakeF c w g k s) := by
  have c0 := h.blk.cell 0; have c2 := h.blk.cell 2; have f2 := h.blk.frozen 2
  simp at c0 c2
  have hn := h.n
  have hno : c.ws[k]? ≠ some s → ∀ q, TakeF c w g k s (.returned (.bool false)) (w.drewN q) := fun hx q => Or.inr ⟨hx, rfl, Lib.hid ⟨h.drewN q, below_drewN (Below.refl _ _) q⟩⟩
  by_cases hlt : k < c.ws.length
  · have hyes : c.ws[k]? = some s → ∀ q, TakeF c w g k s (.returned (.bool true)) ((w.drewN q).setCell ⟨g, 2, none⟩ (.int .i64 ((k : Int) + 1))) := fun hx q => Or.inl ⟨hx, rfl, Lib.hid (h.next hlt q)⟩
    obtain ⟨b, off, hA, hb, x0⟩ := rdT_at h.rw_ hlt
    rw [hA] at c0
    have hx : c.ws[k]? = some (c.ws.getD k []) := by rw [List.getD, List.getElem?_eq_getElem hlt]; rfl
    clear h hA
    generalize c.ws.getD k [] = t at *
    have il : (k : Int) < (c.ws.length : Int) := by omega
    by_cases he : t = s
    · subst he
      have HF := Lib.hid (hyes hx)
      clear hyes hno hx
      generalize hl : c.ws.length = n at *
      go_enter Tryd.func29, Tryd.ntmps29
      go_upto_region 1 with fail
      go_quiet (fail)
      go_wp2_with fail
      go_ret
      exact HF.out _
    · have HF := Lib.hid (hno (by rw [hx]; intro e; exact he (Option.some.inj e)))
      clear hyes hno hx
      generalize hl : c.ws.length = n at *
      have hte : (t == s) = false := beq_eq_false_iff_ne.mpr he
      go_enter Tryd.func29, Tryd.ntmps29
      go_upto_region 1 with fail
      go_quiet (fail)
      go_wp2_with fail
      go_ret
      exact HF.out _
  · have HF := Lib.hid (hno (by rw [List.getElem?_eq_none (by omega)]; simp))
    clear hno
    have il : decide ((k : Int) < (c.ws.length : Int)) = false := decide_eq_false (by omega)
    clear h
    generalize hl : c.ws.length = n at *
    go_enter Tryd.func29, Tryd.ntmps29
    go_upto_region 1 with fail
    go_quiet (fail)
    go_wp2_with fail
    go_ret
    exact HF.out _
/-- an error of the reader's: what it tells -/
def FErr (e : Int) (v : Value) (w : World) : Prop := ∃ (q : Nat) (p : Int), v = .iface 46 (.pointer (some ⟨q, 0, none⟩)) ∧ Blk w q 48 #[.int .i64 e, .int .i64 p]
theorem FErr.over {e : Int} {v : Value} {w w' : World} (h : FErr e v w) (hb : Below w.heap.size w w') : FErr e v w' := by
  obtain ⟨q, p, h1, h2⟩ := h
  exact ⟨q, p, h1, h2.below hb h2.lt⟩
theorem FErr.drewN {e : Int} {v : Value} {w : World} (h : FErr e v w) (q : Nat) : FErr e v (w.drewN q) := h
set_option maxHeartbeats 1000000 in
set_option maxRecDepth 100000 in
theorem fail_f (c : Rc) (g k : Nat) (er : Int) (w : World) (h : RdF c w g k) :
    Calls Tryd.prog 23 #[.pointer (some ⟨g, 0, none⟩), .int .i64 er] w fun e w' => ∃ q : Nat, e = .returned (.iface 46 (.pointer (some ⟨q, 0, none⟩))) ∧ Hid (FErr er (.iface 46 (.pointer (some ⟨q, 0, none⟩))) w' ∧ Below w.heap.size w w') := by
  have c0 := h.blk.cell 0; have c1 := h.blk.cell 1; have c2 := h.blk.cell 2; have c3 := h.blk.cell 3
  simp at c0 c1 c2 c3
  have hn := h.n
  by_cases hlt : k < c.ws.length
  · obtain ⟨b, off, hA, hb⟩ := h.rp.addr hlt
    have x0 := h.rp.all hA k hlt
    rw [hA] at c1
    clear h hA
    have il : (k : Int) < (c.ws.length : Int) := by omega
    generalize hl : c.ws.length = n at *
    generalize c.ps.getD k 0 = z at *
    go_enter Tryd.func23, Tryd.ntmps23
    go_upto_region 2 with fail
    go_quiet (fail)
    go_wp2_with fail
    go_upto_region 3 with fail
    go_quiet (fail)
    go_wp2_with fail
    go_ret
    exact ⟨w.heap.size, rfl, Lib.hid ⟨⟨_, _, rfl, Blk.new _ _ _⟩, Below.alloc (below_drewN (Below.refl _ w) _) (Nat.le_refl _) _⟩⟩
  · have il : decide ((k : Int) < (c.ws.length : Int)) = false := decide_eq_false (by omega)
    clear h
    generalize hl : c.ws.length = n at *
    go_enter Tryd.func23, Tryd.ntmps23
    go_upto_region 2 with fail
    go_quiet (fail)
    go_wp2_with fail
    go_ret
    exact ⟨w.heap.size, rfl, Lib.hid ⟨⟨_, _, rfl, Blk.new _ _ _⟩, Below.alloc (below_drewN (Below.refl _ w) _) (Nat.le_refl _) _⟩⟩
end Go.Proofs.YtdipehgijjkfdaaDoor
