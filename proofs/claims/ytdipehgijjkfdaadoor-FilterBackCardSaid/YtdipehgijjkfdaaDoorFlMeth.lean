/-
  Filters' methods: calls through an interface.
-/
import Derived.Test.YtdipehgijjkfdaaDoorFlTree
import Derived.Deep.RegionHeld3
import Derived.Deep.RegionLaw
namespace Go.Proofs.YtdipehgijjkfdaaDoor
open Go.RowKit
set_option linter.unusedVariables false
/-- the value q's method of that name is function f at receiver r -/
def Meth (q : Value) (name : String) (f : FuncId) (r : Value) : Prop := ∀ (args : Array Value) (w : World), (callMethod q name args).run Tryd.prog w = .ok (.enter f (#[r] ++ args)) w
theorem extract_one (q : Value) (vs : Array Value) : (#[q] ++ vs).extract 1 = vs := by
  apply Array.ext'
  simp
/-- a call through an interface, in a plain region -/
theorem wpList_invoke {q : Value} {name : String} {f : FuncId} {r : Value} {w : World} {ops : Array Oper} {rest : List Oper} {o : Oper} {a : Act} {Q : Exit → Act → World → Prop} (hm : Meth q name f r) (hgd : o.guard = none) (rv : Operand) (args : Array Operand) (tys : Array TypeId)
    (ho : o.op = .call { callee := .invoke rv name, args, argTypes := tys }) (hq : a.eval rv = q) (full : Array Value) (hvs : #[r] ++ args.map a.eval = full) {R : Ending → World → Prop} (hc : Calls Tryd.prog f full w R) (hR : ∀ e w', R e w' → ∃ v, e = .returned v)
    (h : ∀ v w', R (.returned v) w' → wpList Tryd.prog ops Q rest (a.put o.dst v) w') : wpList Tryd.prog ops Q (o :: rest) a w := by
  subst hvs
  refine wpList_plain hgd fun _ hK => ?_
  unfold Oper.wp execOp
  simp only [ho, resolve, invoke, Sem.run_bind, Sem.run_pure, Result.andThen_ok]
  rw [hq]
  have e1 : (#[q] ++ args.map a.eval)[0]? = some q := by rw [Array.getElem?_append_left (by simp)]; rfl
  have e2 : (#[q] ++ args.map a.eval).extract 1 = args.map a.eval := extract_one q _
  rw [e1]
  dsimp only
  rw [e2, hm (args.map a.eval) w]
  show Calls _ _ _ _ _
  refine hc.mono fun e w' hr => ?_
  obtain ⟨v, rfl⟩ := hR e w' hr
  exact hK _ _ (h v w' hr)
theorem wpList_invoke0 {q : Value} {name : String} {f : FuncId} {r : Value} {w : World} {ops : Array Oper} {rest : List Oper} {o : Oper} {a : Act} {Q : Exit → Act → World → Prop} (hgd : o.guard = none) (rv : Operand) (tys : Array TypeId)
    (ho : o.op = .call { callee := .invoke rv name, args := #[], argTypes := tys }) (hm : Meth q name f r) (hq : a.eval rv = q)  {R : Ending → World → Prop} (hc : Calls Tryd.prog f #[r] w R) (hR : ∀ e w', R e w' → ∃ v, e = .returned v)
    (h : ∀ v w', R (.returned v) w' → wpList Tryd.prog ops Q rest (a.put o.dst v) w') : wpList Tryd.prog ops Q (o :: rest) a w := by
  exact wpList_invoke hm hgd rv #[] tys ho hq #[r] (by simp) hc hR h
theorem wpList_invoke1 {q : Value} {name : String} {f : FuncId} {r : Value} {w : World} {ops : Array Oper} {rest : List Oper} {o : Oper} {a : Act} {Q : Exit → Act → World → Prop} {vx : Value} (hgd : o.guard = none) (rv : Operand) (x : Operand) (tys : Array TypeId)
    (ho : o.op = .call { callee := .invoke rv name, args := #[x], argTypes := tys }) (hm : Meth q name f r) (hq : a.eval rv = q) (hx : a.eval x = vx) {R : Ending → World → Prop} (hc : Calls Tryd.prog f #[r, vx] w R) (hR : ∀ e w', R e w' → ∃ v, e = .returned v)
    (h : ∀ v w', R (.returned v) w' → wpList Tryd.prog ops Q rest (a.put o.dst v) w') : wpList Tryd.prog ops Q (o :: rest) a w := by
  subst hx
  exact wpList_invoke hm hgd rv #[x] tys ho hq #[r, a.eval x] (by simp) hc hR h
/-- the same in a region that draws its order -/
theorem step_invoke {q : Value} {name : String} {f : FuncId} {r : Value} {w : World} {ops : Array Oper} {o : Oper} {a : Act} {K : Act → World → Prop} {Q : Exit → Act → World → Prop} {E : Prop} (hgd : Region.wanted o (yielded ops a.tmps) = true) (rv : Operand) (args : Array Operand) (tys : Array TypeId)
    (ho : o.op = .call { callee := .invoke rv name, args, argTypes := tys }) (hm : Meth q name f r) (hq : a.eval rv = q) (full : Array Value) (hvs : #[r] ++ args.map a.eval = full) {R : Ending → World → Prop} (hc : Calls Tryd.prog f full w R) (hR : ∀ e w', R e w' → ∃ v, e = .returned v)
    (h : ∀ v w', R (.returned v) w' → K (a.put o.dst v) w') : if Region.wanted o (yielded ops a.tmps) = true then Oper.wp Tryd.prog o a w K Q else E := by
  subst hvs
  rw [if_pos hgd]
  unfold Oper.wp execOp
  simp only [ho, resolve, invoke, Sem.run_bind, Sem.run_pure, Result.andThen_ok]
  rw [hq]
  have e1 : (#[q] ++ args.map a.eval)[0]? = some q := by rw [Array.getElem?_append_left (by simp)]; rfl
  have e2 : (#[q] ++ args.map a.eval).extract 1 = args.map a.eval := extract_one q _
  rw [e1]
  dsimp only
  rw [e2, hm (args.map a.eval) w]
  show Calls _ _ _ _ _
  refine hc.mono fun e w' hr => ?_
  obtain ⟨v, rfl⟩ := hR e w' hr
  exact h v w' hr
theorem step_invoke0 {q : Value} {name : String} {f : FuncId} {r : Value} {w : World} {ops : Array Oper} {o : Oper} {a : Act} {K : Act → World → Prop} {Q : Exit → Act → World → Prop} {E : Prop} (hgd : Region.wanted o (yielded ops a.tmps) = true) (rv : Operand) (tys : Array TypeId)
    (ho : o.op = .call { callee := .invoke rv name, args := #[], argTypes := tys }) (hm : Meth q name f r) (hq : a.eval rv = q) {R : Ending → World → Prop} (hc : Calls Tryd.prog f #[r] w R) (hR : ∀ e w', R e w' → ∃ v, e = .returned v)
    (h : ∀ v w', R (.returned v) w' → K (a.put o.dst v) w') : if Region.wanted o (yielded ops a.tmps) = true then Oper.wp Tryd.prog o a w K Q else E :=
  step_invoke hgd rv #[] tys ho hm hq #[r] (by simp) hc hR h
theorem step_invoke1 {q : Value} {name : String} {f : FuncId} {r : Value} {w : World} {ops : Array Oper} {o : Oper} {a : Act} {K : Act → World → Prop} {Q : Exit → Act → World → Prop} {E : Prop} {vx : Value} (hgd : Region.wanted o (yielded ops a.tmps) = true) (rv x : Operand) (tys : Array TypeId)
    (ho : o.op = .call { callee := .invoke rv name, args := #[x], argTypes := tys }) (hm : Meth q name f r) (hq : a.eval rv = q) (hx : a.eval x = vx) {R : Ending → World → Prop} (hc : Calls Tryd.prog f #[r, vx] w R) (hR : ∀ e w', R e w' → ∃ v, e = .returned v)
    (h : ∀ v w', R (.returned v) w' → K (a.put o.dst v) w') : if Region.wanted o (yielded ops a.tmps) = true then Oper.wp Tryd.prog o a w K Q else E := by
  subst hx
  exact step_invoke hgd rv #[x] tys ho hm hq #[r, a.eval x] (by simp) hc hR h
/-- the function behind a filter's method -/
def meantOf : Fl.Ft → FuncId
  | .tst _ _ _ _ => 112
  | .any => 107
  | .not _ => 99
  | .sev _ _ => 101
def textOf : Fl.Ft → FuncId
  | .tst _ _ _ _ => 113
  | .any => 108
  | .not _ => 100
  | .sev _ _ => 102
theorem FtV.meth {B E : Nat} {w : World} {v : Value} {t : Fl.Ft} (h : FtV B E w v t) : ∃ T r, v = .iface T r ∧ Meth v "Meant" (meantOf t) r ∧ Meth v "Text" (textOf t) r := by
  cases h with
  | tst f lo hi b => exact ⟨_, _, rfl, fun args w => by kernel_rfl, fun args w => by kernel_rfl⟩
  | any => exact ⟨_, _, rfl, fun args w => by kernel_rfl, fun args w => by kernel_rfl⟩
  | not h => exact ⟨_, _, rfl, fun args w => by kernel_rfl, fun args w => by kernel_rfl⟩
  | sev => exact ⟨_, _, rfl, fun args w => by kernel_rfl, fun args w => by kernel_rfl⟩
theorem FtV.not_inv {B E : Nat} {w : World} {v : Value} {t : Fl.Ft} {T : TypeId} (h : FtV B E w (.iface T (.agg #[v])) (.not t)) : FtV B E w v t := by cases h; assumption
theorem FtV.sev_inv {B E : Nat} {w : World} {r : Value} {l : List Fl.Ft} {a : Bool} {T : TypeId} (h : FtV B E w (.iface T r) (.sev l a)) : ∃ A c vs, r = .agg #[.slice A l.length c, .bool a] ∧ Reads w E 1 A l.length vs ∧ (∀ ad, A = some ad → B ≤ ad.block) ∧ ∀ (i : Nat) v t, vs[i]? = some v → l[i]? = some t → FtV B E w v t := by
  cases h with
  | sev hr hl hB he => subst hl; exact ⟨_, _, _, rfl, hr, hB, he⟩
end Go.Proofs.YtdipehgijjkfdaaDoor
