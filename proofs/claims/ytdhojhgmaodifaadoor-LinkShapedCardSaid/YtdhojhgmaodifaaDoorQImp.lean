/-
  How a queue lies in memory, and what its methods do: what a play asks of it.
-/
import Derived.Test.YtdhojhgmaodifaaDoorTimes
namespace Go.Proofs.YtdhojhgmaodifaaDoor
open Go.RowKit Bkt
set_option linter.unusedVariables false

/-- the value q's method of that name is function f at receiver r -/
def Meth (q : Value) (name : String) (f : FuncId) (r : Value) : Prop := ∀ (args : Array Value) (w : World), (callMethod q name args).run Tryd.prog w = .ok (.enter f (#[r] ++ args)) w
structure InOk (now : Int) (x : Hd) : Prop where
  ok : Pl.okB x.it = true
  at_ : x.it.at_ ≤ now
  n0 : 0 ≤ now
  n1 : now ≤ 1000000000
  m0 : 0 ≤ x.num
  m1 : x.num ≤ 1000000000
def PutOut {σ : Type} (inv : σ → Nat → (Nat → Prop) → World → Prop) (w : World) (F : Nat → Prop) (k : Nat) (r : List Hd × σ) (e : Ending) (w' : World) : Prop :=
  ∃ A n c F', e = .returned (.slice A n c) ∧ n ≤ 100000 ∧ RdR HdR w' w'.heap.size A n r.1 ∧ (∀ ad, A = some ad → F ad.block ∨ w.heap.size ≤ ad.block) ∧ inv r.2 k F' w' ∧ Chg w w' F ∧ ∀ i, F' i → F i ∨ w.heap.size ≤ i
def TakeOut {σ : Type} (inv : σ → Nat → (Nat → Prop) → World → Prop) (w : World) (F : Nat → Prop) (k : Nat) (r : Option Hd × List Hd × σ) (e : Ending) (w' : World) : Prop :=
  ∃ h A n c F', e = .returned (.tuple #[hdV h, .slice A n c, .bool r.1.isSome]) ∧ (∀ x, r.1 = some x → h = x) ∧ n ≤ 100000 ∧ RdR HdR w' w'.heap.size A n r.2.1 ∧ (∀ ad, A = some ad → F ad.block ∨ w.heap.size ≤ ad.block) ∧ inv r.2.2 k F' w' ∧ Chg w w' F ∧ ∀ i, F' i → F i ∨ w.heap.size ≤ i
def WhenOut {σ : Type} (inv : σ → Nat → (Nat → Prop) → World → Prop) (w : World) (F : Nat → Prop) (k : Nat) (r : Option Int × σ) (e : Ending) (w' : World) : Prop :=
  ∃ a F', e = .returned (.tuple #[.int .i64 a, .bool r.1.isSome]) ∧ (∀ x, r.1 = some x → a = x) ∧ inv r.2 k F' w' ∧ Chg w w' F ∧ ∀ i, F' i → F i ∨ w.heap.size ≤ i

theorem PutOut.ret {σ : Type} {inv : σ → Nat → (Nat → Prop) → World → Prop} {w : World} {F : Nat → Prop} {k : Nat} {r : List Hd × σ} : ∀ e w', PutOut inv w F k r e w' → ∃ v, e = .returned v := fun e w' ⟨_, _, _, _, h, _⟩ => ⟨_, h⟩
theorem TakeOut.ret {σ : Type} {inv : σ → Nat → (Nat → Prop) → World → Prop} {w : World} {F : Nat → Prop} {k : Nat} {r : Option Hd × List Hd × σ} : ∀ e w', TakeOut inv w F k r e w' → ∃ v, e = .returned v := fun e w' ⟨_, _, _, _, _, h, _⟩ => ⟨_, h⟩
theorem WhenOut.ret {σ : Type} {inv : σ → Nat → (Nat → Prop) → World → Prop} {w : World} {F : Nat → Prop} {k : Nat} {r : Option Int × σ} : ∀ e w', WhenOut inv w F k r e w' → ∃ v, e = .returned v := fun e w' ⟨_, _, h, _⟩ => ⟨_, h⟩
theorem PutOut.val {σ : Type} {inv : σ → Nat → (Nat → Prop) → World → Prop} {w w' : World} {F : Nat → Prop} {k : Nat} {r : List Hd × σ} {v : Value} (h : PutOut inv w F k r (.returned v) w') :
    ∃ A n c F', v = .slice A n c ∧ n ≤ 100000 ∧ RdR HdR w' w'.heap.size A n r.1 ∧ (∀ ad, A = some ad → F ad.block ∨ w.heap.size ≤ ad.block) ∧ inv r.2 k F' w' ∧ Chg w w' F ∧ ∀ i, F' i → F i ∨ w.heap.size ≤ i := by
  obtain ⟨A, n, c, F', e, h⟩ := h
  injection e with e
  exact ⟨A, n, c, F', e, h⟩
theorem TakeOut.val {σ : Type} {inv : σ → Nat → (Nat → Prop) → World → Prop} {w w' : World} {F : Nat → Prop} {k : Nat} {r : Option Hd × List Hd × σ} {v : Value} (h : TakeOut inv w F k r (.returned v) w') :
    ∃ h A n c F', v = .tuple #[hdV h, .slice A n c, .bool r.1.isSome] ∧ (∀ x, r.1 = some x → h = x) ∧ n ≤ 100000 ∧ RdR HdR w' w'.heap.size A n r.2.1 ∧ (∀ ad, A = some ad → F ad.block ∨ w.heap.size ≤ ad.block) ∧ inv r.2.2 k F' w' ∧ Chg w w' F ∧ ∀ i, F' i → F i ∨ w.heap.size ≤ i := by
  obtain ⟨h0, A, n, c, F', e, h⟩ := h
  injection e with e
  exact ⟨h0, A, n, c, F', e, h⟩
theorem WhenOut.val {σ : Type} {inv : σ → Nat → (Nat → Prop) → World → Prop} {w w' : World} {F : Nat → Prop} {k : Nat} {r : Option Int × σ} {v : Value} (h : WhenOut inv w F k r (.returned v) w') :
    ∃ a F', v = .tuple #[.int .i64 a, .bool r.1.isSome] ∧ (∀ x, r.1 = some x → a = x) ∧ inv r.2 k F' w' ∧ Chg w w' F ∧ ∀ i, F' i → F i ∨ w.heap.size ≤ i := by
  obtain ⟨a, F', e, h⟩ := h
  injection e with e
  exact ⟨a, F', e, h⟩
/-- a machine and its memory: inv s k F w: the state s lies in the blocks F, after at most k puts -/
structure QImp (M : Pl.QM) (q : Value) (base : Nat) (inv : M.σ → Nat → (Nat → Prop) → World → Prop) : Prop where
  lt : ∀ s k F w, inv s k F w → ∀ i, F i → base ≤ i ∧ i < w.heap.size
  base : ∀ s k F w, inv s k F w → base ≤ w.heap.size
  chg : ∀ s k F w w' S, inv s k F w → Chg w w' S → (∀ i, F i → ¬ S i) → inv s k F w'
  put : ∃ f r, Meth q "Put" f r ∧ ∀ s k F w now x, inv s k F w → k < 1000 → InOk now x → Calls Tryd.prog f #[r, .int .i64 now, hdV x] w (PutOut inv w F (k + 1) (M.put now x s))
  take : ∃ f r, Meth q "Take" f r ∧ ∀ s k F w now, inv s k F w → 0 ≤ now → now ≤ 1000000000 → Calls Tryd.prog f #[r, .int .i64 now] w (TakeOut inv w F k (M.take now s))
  when_ : ∃ f r, Meth q "When" f r ∧ ∀ s k F w now, inv s k F w → 0 ≤ now → now ≤ 1000000000 → Calls Tryd.prog f #[r, .int .i64 now] w (WhenOut inv w F k (M.when_ now s))
  len : ∃ f r, Meth q "Len" f r ∧ ∀ s k F w, inv s k F w → Calls Tryd.prog f #[r] w fun e w' => e = .returned (.int .i64 (M.len s)) ∧ Below w.heap.size w w'
  bytes : ∃ f r, Meth q "Bytes" f r ∧ ∀ s k F w, inv s k F w → Calls Tryd.prog f #[r] w fun e w' => e = .returned (.int .i64 (M.bytes s)) ∧ Below w.heap.size w w'

theorem extract_one (q : Value) (vs : Array Value) : (#[q] ++ vs).extract 1 = vs := by
  apply Array.ext'
  simp
/-- a call through an interface, in a plain region -/
theorem wpList_invoke {q : Value} {name : String} {f : FuncId} {r : Value} {w : World} {ops : Array Oper} {rest : List Oper} {o : Oper} {a : Act} {Q : Exit → Act → World → Prop} (hm : Meth q name f r) (hgd : o.guard = none) (rv : Operand) (args : Array Operand) (tys : Array TypeId)
    (ho : o.op = .call { callee := .invoke rv name, args, argTypes := tys }) (hq : a.eval rv = q) (full : Array Value) (hvs : #[r] ++ args.map a.eval = full) {R : Ending → World → Prop} (hc : Calls Tryd.prog f full w R) (hR : ∀ e w', R e w' → ∃ v, e = .returned v)
    (h : ∀ v w', R (.returned v) w' → wpList Tryd.prog ops Q rest (a.put o.dst v) w') : wpList Tryd.prog ops Q (o :: rest) a w := by
  subst hvs
  refine wpList_plain hgd fun _ hK => ?_
  unfold Oper.wp execOp
  simp only [ho, resolve, invoke, Sem.run_bind, Sem.run_pure, Result.andThen_ok]
  rw [hq]
  have e1 : (#[q] ++ args.map a.eval)[0]? = some q := by rw [Array.getElem?_append_left (by simp)]; rfl
  have e2 : (#[q] ++ args.map a.eval).extract 1 = args.map a.eval := extract_one q _
  rw [e1]
  dsimp only
  rw [e2, hm (args.map a.eval) w]
  show Calls _ _ _ _ _
  refine hc.mono fun e w' hr => ?_
  obtain ⟨v, rfl⟩ := hR e w' hr
  exact hK _ _ (h v w' hr)
theorem wpList_invoke0 {q : Value} {name : String} {f : FuncId} {r : Value} {w : World} {ops : Array Oper} {rest : List Oper} {o : Oper} {a : Act} {Q : Exit → Act → World → Prop} (hgd : o.guard = none) (rv : Operand) (tys : Array TypeId)
    (ho : o.op = .call { callee := .invoke rv name, args := #[], argTypes := tys }) (hm : Meth q name f r) (hq : a.eval rv = q)  {R : Ending → World → Prop} (hc : Calls Tryd.prog f #[r] w R) (hR : ∀ e w', R e w' → ∃ v, e = .returned v)
    (h : ∀ v w', R (.returned v) w' → wpList Tryd.prog ops Q rest (a.put o.dst v) w') : wpList Tryd.prog ops Q (o :: rest) a w := by
  exact wpList_invoke hm hgd rv #[] tys ho hq #[r] (by simp) hc hR h
theorem wpList_invoke1 {q : Value} {name : String} {f : FuncId} {r : Value} {w : World} {ops : Array Oper} {rest : List Oper} {o : Oper} {a : Act} {Q : Exit → Act → World → Prop} {vx : Value} (hgd : o.guard = none) (rv : Operand) (x : Operand) (tys : Array TypeId)
    (ho : o.op = .call { callee := .invoke rv name, args := #[x], argTypes := tys }) (hm : Meth q name f r) (hq : a.eval rv = q) (hx : a.eval x = vx) {R : Ending → World → Prop} (hc : Calls Tryd.prog f #[r, vx] w R) (hR : ∀ e w', R e w' → ∃ v, e = .returned v)
    (h : ∀ v w', R (.returned v) w' → wpList Tryd.prog ops Q rest (a.put o.dst v) w') : wpList Tryd.prog ops Q (o :: rest) a w := by
  subst hx
  exact wpList_invoke hm hgd rv #[x] tys ho hq #[r, a.eval x] (by simp) hc hR h
theorem wpList_invoke2 {q : Value} {name : String} {f : FuncId} {r : Value} {w : World} {ops : Array Oper} {rest : List Oper} {o : Oper} {a : Act} {Q : Exit → Act → World → Prop} {vx vy : Value} (hgd : o.guard = none) (rv : Operand) (x y : Operand) (tys : Array TypeId)
    (ho : o.op = .call { callee := .invoke rv name, args := #[x, y], argTypes := tys }) (hm : Meth q name f r) (hq : a.eval rv = q) (hx : a.eval x = vx) (hy : a.eval y = vy) {R : Ending → World → Prop} (hc : Calls Tryd.prog f #[r, vx, vy] w R) (hR : ∀ e w', R e w' → ∃ v, e = .returned v)
    (h : ∀ v w', R (.returned v) w' → wpList Tryd.prog ops Q rest (a.put o.dst v) w') : wpList Tryd.prog ops Q (o :: rest) a w := by
  subst hx hy
  exact wpList_invoke hm hgd rv #[x, y] tys ho hq #[r, a.eval x, a.eval y] (by simp) hc hR h
end Go.Proofs.YtdhojhgmaodifaaDoor
