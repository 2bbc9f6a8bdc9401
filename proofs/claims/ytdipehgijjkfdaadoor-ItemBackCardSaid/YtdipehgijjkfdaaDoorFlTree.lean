/-
  Filters in memory; the reader's test.
-/
import Derived.Test.YtdipehgijjkfdaaDoorFlNum
import Derived.Deep.RegionLaw
import Derived.Deep.QuietTactic
namespace Go.Proofs.YtdipehgijjkfdaaDoor
open Go.RowKit
set_option linter.unusedVariables false
/-- a filter's value; its rows lie from B on, ahead of E -/
inductive FtV (B E : Nat) (w : World) : Value → Fl.Ft → Prop
  | tst (f : Nat) (lo hi : Int) (b : Bool) : FtV B E w (.iface 101 (.agg #[.int .i64 f, .int .i64 lo, .int .i64 hi, .bool b])) (.tst f lo hi b)
  | any : FtV B E w (.iface 80 (.agg #[])) .any
  | not {v : Value} {t : Fl.Ft} : FtV B E w v t → FtV B E w (.iface 71 (.agg #[v])) (.not t)
  | sev {A : Option Addr} {n c : Nat} {vs : List Value} {l : List Fl.Ft} {a : Bool} : Reads w E 1 A n vs → l.length = n → (∀ ad, A = some ad → B ≤ ad.block) →
      (∀ (i : Nat) v t, vs[i]? = some v → l[i]? = some t → FtV B E w v t) → FtV B E w (.iface 73 (.agg #[.slice A n c, .bool a])) (.sev l a)
theorem cell_of_heap {w w' : World} {p : Addr} (h : w'.heap[p.block]? = w.heap[p.block]?) : w'.cell? p = w.cell? p := by unfold World.cell?; rw [h]
theorem FtV.keep {B E : Nat} {w w' : World} {v : Value} {t : Fl.Ft} (h : FtV B E w v t) (hk : ∀ i, B ≤ i → i < E → w'.heap[i]? = w.heap[i]?) : FtV B E w' v t := by
  induction h with
  | tst f lo hi b => exact .tst f lo hi b
  | any => exact .any
  | not _ ih => exact .not ih
  | sev hr hl hB _ ih =>
    refine .sev ⟨hr.1, fun hn => ?_⟩ hl hB ih
    obtain ⟨ad, e, hb, hc⟩ := hr.2 hn
    refine ⟨ad, e, hb, fun j u hj => ?_⟩
    rw [← hc j u hj]
    have e2 : (ad.add j).block = ad.block := by unfold Addr.add; split <;> rfl
    exact cell_of_heap (hk _ (by rw [e2]; exact hB ad e) (by rw [e2]; exact hb))
theorem FtV.over {B E : Nat} {w w' : World} {v : Value} {t : Fl.Ft} (h : FtV B E w v t) (hE : E ≤ w.heap.size) (hb : Below w.heap.size w w') : FtV B E w' v t := h.keep fun i _ hi => hb.block i (by omega)
theorem FtV.wide {B E B' E' : Nat} {w : World} {v : Value} {t : Fl.Ft} (h : FtV B E w v t) (hB : B' ≤ B) (hE : E ≤ E') : FtV B' E' w v t := by
  induction h with
  | tst f lo hi b => exact .tst f lo hi b
  | any => exact .any
  | not _ ih => exact .not ih
  | sev hr hl hB0 _ ih => exact .sev (hr.more hE) hl (fun ad e => Nat.le_trans hB (hB0 ad e)) ih
theorem FtV.one {B E : Nat} {w : World} {v : Value} {t : Fl.Ft} (h : FtV B E w v t) : v.oneCell' = true := by cases h <;> rfl
theorem FtV.form {B E : Nat} {w : World} {v : Value} {t : Fl.Ft} (h : FtV B E w v t) : ∃ T x, v = .iface T x := by cases h <;> exact ⟨_, _, rfl⟩
/-- what a reading gives: a filter, or an error -/
def OneEnd (c : Rc) (w : World) (g : Nat) (res : Fl.Res) (e : Ending) (w' : World) : Prop :=
  (∃ (t : Fl.Ft) (r : List Fl.Tok) (v : Value) (k : Nat), res = .ok (t, r) ∧ e = .returned (.tuple #[v, .nilIface]) ∧ Hid (r = c.ws.drop k ∧ RdF c w' g k ∧ Chg w w' (fun i => i = g) ∧ FtV w.heap.size w'.heap.size w' v t)) ∨
  (∃ (er : Int) (v : Value) (q : Nat), res = .error er ∧ e = .returned (.tuple #[v, .iface 46 (.pointer (some ⟨q, 0, none⟩))]) ∧ Hid (FErr er (.iface 46 (.pointer (some ⟨q, 0, none⟩))) w' ∧ Chg w w' (fun i => i = g) ∧ (v = .nilIface ∨ ∃ T x, v = .iface T x)))
theorem RdF.at_ {c : Rc} {w w' : World} {g k0 k : Nat} (h : RdF c w g k0) (hc : Chg w w' (fun i => i = g)) (hb : Blk w' g 67 #[.slice c.Aw c.ws.length c.cw, .slice c.Ap c.ws.length c.cp, .int .i64 k, .int .i64 c.en]) (hk : k ≤ c.ws.length) : RdF c w' g k :=
  ⟨hb, (h.rw_.chg (Nat.le_refl _) hc (fun ad e hg => h.nw ad e hg)).more hc.size, (h.rp.chg (Nat.le_refl _) hc (fun ad e hg => h.np ad e hg)).more hc.size, h.nw, h.np, hk, h.n, h.sz⟩
theorem cut_f (s : List UInt8) (hs : s.length ≤ 2000) (w : World) (h : Pv w) : Calls Tryd.prog 43 #[.string ⟨s.toArray⟩, .string ⟨#[46, 46]⟩] w fun e w' =>
    Below w.heap.size w w' ∧ e = .returned (.tuple #[.string ⟨(Lib.cut s Fl.sDots).1.toArray⟩, .string ⟨(Lib.cut s Fl.sDots).2.1.toArray⟩, .bool (Lib.cut s Fl.sDots).2.2]) := by
  obtain ⟨m, hm⟩ := h.mx
  refine (Tryd.strings_Cut ⟨s.toArray⟩ ⟨#[46, 46]⟩ m w (by show s.toArray.size < _; simp; omega) hm).mono ?_
  rintro e w' ⟨rfl, n, rfl⟩
  exact ⟨below_drewN (Below.refl _ _) _, rfl⟩
theorem cut_le (s : List UInt8) : (Lib.cut s Fl.sDots).1.length ≤ s.length ∧ (Lib.cut s Fl.sDots).2.1.length ≤ s.length := by
  unfold Lib.cut
  split
  · exact ⟨by simp; omega, by simp⟩
  · exact ⟨Nat.le_refl _, Nat.zero_le _⟩
theorem drop_none {α : Type} {l : List α} {k : Nat} (h : l[k]? = none) : l.drop k = [] := List.drop_eq_nil_of_le (by simpa using h)
theorem drop_some {α : Type} {l : List α} {k : Nat} {x : α} (h : l[k]? = some x) : l.drop k = x :: l.drop (k + 1) := by
  obtain ⟨hk, rfl⟩ := List.getElem?_eq_some_iff.1 h
  exact List.drop_eq_getElem_cons hk
theorem take_l (c : Rc) (g k : Nat) (s : List UInt8) (a : Array UInt8) (ha : s.toArray = a) (w : World) (h : RdF c w g k) : Calls Tryd.prog 29 #[.pointer (some ⟨g, 0, none⟩), .string ⟨a⟩] w (TakeF c w g k s) := by
  subst ha
  exact take_f c g k s w h
end Go.Proofs.YtdipehgijjkfdaaDoor
