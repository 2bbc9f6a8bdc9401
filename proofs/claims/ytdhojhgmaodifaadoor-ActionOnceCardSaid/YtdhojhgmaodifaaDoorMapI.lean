/-
  A map from ints to ints that the call makes: written by a literal, looked up with 'ok'.
-/
import Derived.Test.YtdhojhgmaodifaaDoorMem
import Derived.Test.YtdhojhgmaodifaaDoorActLaw
import Derived.Maps.Own
import Derived.Maps.OwnSet
import Derived.Maps.Views
namespace Go.Proofs.YtdhojhgmaodifaaDoor
open Go.RowKit Go.Maps
set_option linter.unusedVariables false

theorem mapLaw : Keyed Tryd.prog 3 := int_keyed Tryd.underlying3
theorem mapZero (w : World) : (zeroValue 3).run Tryd.prog w = .ok (.int .i64 0) w := by kernel_rfl
def OwnM (w : World) (b n : Nat) (D : DataW Unit) : Prop := w.ownsMap Tryd.prog 3 (plainElem Tryd.prog 3) b n D
theorem OwnM.made (w : World) : OwnM (w.alloc (.map #[] 0)) w.heap.size 0 (.map []) := World.ownsMap_made _ _ _ _
section
variable {w : World} {ops : Array Oper} {rest : List Oper} {o : Oper} {a : Act} {Q : Exit → Act → World → Prop}
theorem wpList_ins (hg : o.guard = none) (m x v : Operand) (hop : o.op = Op.insert 110 m x v) (b n : Nat) (D : DataW Unit) (hm : a.eval m = .map (some b)) (hown : OwnM w b n D) (hn : n < 1000) (kx vx : Int)
    (hx : a.eval x = .int .i64 kx) (hv : a.eval v = .int .i64 vx) (hwk : (Lit.int .i64 kx).wf = true) (hwv : (Lit.int .i64 vx).wf = true)
    (hK : ∀ w', OwnM w' b (n + 1) (D.put (.int .i64 kx) (.lit (.int .i64 vx))) → w.grownBy w' (some b) → wpList Tryd.prog ops Q rest (a.put o.dst undef) w') :
    wpList Tryd.prog ops Q (o :: rest) a w := by
  refine wpList_plain hg fun K' hK' => ?_
  obtain ⟨w', hrun, r1, r2⟩ := World.ownsMap.update hown mapLaw Tryd.underlying110 (by unfold maxLen; omega) (keyOf_int_mk Tryd.underlying3 hwk) (plainElem_int Tryd.underlying3 hwv)
  unfold Oper.wp
  simp [execOp, hop, hm, hx, hv, hrun, Result.andThen]
  exact hK' _ _ (hK w' r1 r2)
theorem wpList_get (hg : o.guard = none) (m x : Operand) (hop : o.op = Op.lookup 110 m x true) (b n : Nat) (D : DataW Unit) (hm : a.eval m = .map (some b)) (hown : OwnM w b n D) (kx : Int)
    (hx : a.eval x = .int .i64 kx) (hwk : (Lit.int .i64 kx).wf = true)
    (hK : ∀ c : Int, D.atKey (.int .i64 kx) (.lit (.int .i64 0)) = .lit (.int .i64 c) → (Lit.int .i64 c).wf = true → wpList Tryd.prog ops Q rest (a.put o.dst (.tuple #[.int .i64 c, .bool (Maps.has D (.int .i64 kx))])) w) :
    wpList Tryd.prog ops Q (o :: rest) a w :=
  wpList_lookup_own_ok_int w hg m x 110 hop 3 3 .i64 mapLaw Tryd.underlying110 Tryd.underlying3 (mapZero w) b n D hm hown (.int .i64 kx) (.int .i64 kx) hx (keyOf_int_mk Tryd.underlying3 hwk) hK
end

/-- the literal's datum -/
def dput (D : DataW Unit) (k v : Int) : DataW Unit := D.put (.int .i64 k) (.lit (.int .i64 v))
theorem lit_ne {a b : Int} (h : a ≠ b) : (Lit.int .i64 a) ≠ (Lit.int .i64 b) := fun e => by injection e with _ e; exact h e
theorem dput_is (D : DataW Unit) (h : IsMap D) (k v : Int) : IsMap (dput D k v) := h.put _ _
theorem dput_has {D : DataW Unit} (h : IsMap D) (k v x : Int) : Maps.has (dput D k v) (.int .i64 x) = (decide (x = k) || Maps.has D (.int .i64 x)) := by
  unfold dput
  by_cases e : x = k
  · subst e
    rw [has_put_same h (by trivial)]
    simp
  · rw [has_put_other (lit_ne e)]
    simp [e]
theorem dput_at {D : DataW Unit} (h : IsMap D) (k v x : Int) (z : DataW Unit) : (dput D k v).atKey (.int .i64 x) z = if x = k then .lit (.int .i64 v) else D.atKey (.int .i64 x) z := by
  unfold dput
  by_cases e : x = k
  · subst e
    rw [atKey_put_same h (by trivial), if_pos rfl]
  · rw [atKey_put_other (lit_ne e), if_neg e]
/-- the greatest A of each kind that has one -/
def mostD (n nb : Int) : DataW Unit := dput (dput (dput (dput (dput (dput (dput (dput (.map []) 3 255) 4 7) 5 15) 6 7) 7 n) 8 255) 9 (nb - 1)) 10 10000
theorem mostD_has (n nb x : Int) : Maps.has (mostD n nb) (.int .i64 x) = decide (3 ≤ x ∧ x ≤ 10) := by
  have h0 : IsMap (.map [] : DataW Unit) := isMap_empty
  have h1 := dput_is _ h0 3 255
  have h2 := dput_is _ h1 4 7
  have h3 := dput_is _ h2 5 15
  have h4 := dput_is _ h3 6 7
  have h5 := dput_is _ h4 7 n
  have h6 := dput_is _ h5 8 255
  have h7 := dput_is _ h6 9 (nb - 1)
  unfold mostD
  rw [dput_has h7, dput_has h6, dput_has h5, dput_has h4, dput_has h3, dput_has h2, dput_has h1, dput_has h0]
  have e : Maps.has (.map [] : DataW Unit) (.int .i64 x) = false := rfl
  rw [e, Bool.eq_iff_iff]
  simp only [Bool.or_eq_true, decide_eq_true_eq]
  constructor
  · intro h
    rcases h with h | h | h | h | h | h | h | h | h <;> first | omega | cases h
  · intro h
    omega
theorem mostD_at (n nb x c : Int) (hx : 3 ≤ x ∧ x ≤ 10) (h : (mostD n nb).atKey (.int .i64 x) (.lit (.int .i64 0)) = .lit (.int .i64 c)) : c = if x = 3 then 255 else if x = 4 then 7 else if x = 5 then 15 else if x = 6 then 7 else if x = 7 then n else if x = 8 then 255 else if x = 9 then nb - 1 else 10000 := by
  have h0 : IsMap (.map [] : DataW Unit) := isMap_empty
  have h1 := dput_is _ h0 3 255
  have h2 := dput_is _ h1 4 7
  have h3 := dput_is _ h2 5 15
  have h4 := dput_is _ h3 6 7
  have h5 := dput_is _ h4 7 n
  have h6 := dput_is _ h5 8 255
  have h7 := dput_is _ h6 9 (nb - 1)
  unfold mostD at h
  rw [dput_at h7, dput_at h6, dput_at h5, dput_at h4, dput_at h3, dput_at h2, dput_at h1, dput_at h0] at h
  have hc : x = 3 ∨ x = 4 ∨ x = 5 ∨ x = 6 ∨ x = 7 ∨ x = 8 ∨ x = 9 ∨ x = 10 := by omega
  rcases hc with rfl | rfl | rfl | rfl | rfl | rfl | rfl | rfl <;> simp at h <;> simp [h]
theorem wpList_most {w : World} {ops : Array Oper} {rest : List Oper} {o : Oper} {a : Act} {Q : Exit → Act → World → Prop} (hg : o.guard = none) (m x : Operand) (hop : o.op = Op.lookup 110 m x true) (b n : Nat) (N NB : Int) (hm : a.eval m = .map (some b)) (hown : OwnM w b n (mostD N NB)) (kx : Int)
    (hx : a.eval x = .int .i64 kx) (hwk : (Lit.int .i64 kx).wf = true) (has : Bool) (hh : decide (3 ≤ kx ∧ kx ≤ 10) = has)
    (hK : ∀ c : Int, (3 ≤ kx ∧ kx ≤ 10 → c = Actn.topOf N NB kx) → wpList Tryd.prog ops Q rest (a.put o.dst (.tuple #[.int .i64 c, .bool has])) w) :
    wpList Tryd.prog ops Q (o :: rest) a w := by
  refine wpList_get hg m x hop b n _ hm hown kx hx hwk fun c hc _ => ?_
  rw [mostD_has, hh]
  exact hK c fun h => mostD_at N NB kx c h hc
end Go.Proofs.YtdhojhgmaodifaaDoor
