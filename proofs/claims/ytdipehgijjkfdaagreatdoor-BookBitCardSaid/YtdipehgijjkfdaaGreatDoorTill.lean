/-
  A region that draws its order, and at last stores into cells that it loads: the loads may be taken first, as long as the cells hold till the first of the stores.
-/
import Derived.Test.YtdipehgijjkfdaaGreatDoorMem
import Derived.OrdersHeld
import Derived.StillTail
import Derived.Deep.RegionHeld
namespace Go.Proofs.YtdipehgijjkfdaaGreatDoor
open Go.RowKit
set_option linter.unusedVariables false

section
variable {P : Program} {md : Region.Mode} {ops : Array Oper} {Q : Exit → Act → World → Prop} {S : World → Prop} {ss : List Nat}

/-- one of the stores has come up -/
def come (ss : List Nat) (listed : Array Bool) : Bool := ss.any fun s => listed.getD s false

/-- whatever order is picked, and S holds till one of the stores has come up -/
def Till (P : Program) (md : Region.Mode) (ops : Array Oper) (Q : Exit → Act → World → Prop) (S : World → Prop) (ss : List Nat) : Nat → Array Bool → Act → World → Prop
  | 0, listed, a, w => Region.ready md ops listed = [] ∧ Q .normal a w
  | fuel + 1, listed, a, w =>
    (Region.ready md ops listed = [] → Q .normal a w) ∧
    ∀ i ∈ Region.ready md ops listed, wpOp P ops Q i (fun a' w' => (come ss (listed.setIfInBounds i true) = false → S w') ∧ Till P md ops Q S ss fuel (listed.setIfInBounds i true) a' w') a w
theorem till_any : ∀ (fuel : Nat) (listed : Array Bool) (a : Act) (w : World), Till P md ops Q S ss fuel listed a w → wpAny P md ops Q fuel listed a w
  | 0, _, _, _, h => h
  | fuel + 1, _, _, _, h => ⟨h.1, fun i hi => wpOp_mono (fun a' w' h' => till_any fuel _ a' w' h'.2) (h.2 i hi)⟩
theorem come_set {listed : Array Bool} {i : Nat} (hi : i ∉ ss) : come ss (listed.setIfInBounds i true) = come ss listed := by
  unfold come
  induction ss with
  | nil => rfl
  | cons s r ih =>
    rw [List.any_cons, List.any_cons, ih (fun h => hi (List.mem_cons_of_mem _ h)), getD_set_ne false (fun e => hi (by rw [e]; exact List.mem_cons_self))]
/-- a load may be taken first -/
theorem till_first {i : Nat} {oi : Oper} {v : Value} (hi : ops[i]? = some oi) (hsel : ∀ (j : Nat) (o : Oper) cs b, ops[j]? = some o → o.op ≠ .select cs b)
    (hQ : ∀ c a w, Q (.panic c) (a.put oi.dst v) w → Q (.panic c) a w) (his : i ∉ ss) {ms : List Nat} (hm : ∀ m ∈ ms, Region.waitsFor md ops m i = true ∨ ∃ m' ∈ ms, Region.waitsFor md ops m m' = true) (hw : ∀ s ∈ ss, Region.waitsFor md ops s i = true ∨ (∃ m ∈ ms, Region.waitsFor md ops s m = true) ∨ ∃ m ∈ ss, Region.waitsFor md ops s m = true) :
    ∀ (fuel : Nat) (listed : Array Bool) (a : Act) (w : World),
      (∀ j oj, ops[j]? = some oj → j ≠ i → listed.getD j true = false → (∀ e ∈ oj.after, Region.binds md e = true → e.on ≠ i) → oi.apart ops oj = true) →
      i ∈ Region.ready md ops listed → YieldsIf P ops S oi v a → S w → come ss listed = false → (∀ m ∈ ms, listed.getD m false = false) →
      Till P md ops Q S ss fuel (listed.setIfInBounds i true) (a.put oi.dst v) w → Till P md ops Q S ss (fuel + 1) listed a w := by
  intro fuel
  induction fuel with
  | zero =>
    intro listed a w _ hr hy hS hc hmu H
    refine ⟨fun h => (by rw [h] at hr; cases hr), fun j hj => ?_⟩
    by_cases hji : j = i
    · subst hji; exact hy.wpOp hi hS ⟨fun _ => hS, H⟩
    · have h0 := ready_mono hj hji
      rw [H.1] at h0
      cases h0
  | succ fuel ih =>
    intro listed a w hfree hr hy hS hc hmu H
    refine ⟨fun h => (by rw [h] at hr; cases hr), fun j hj => ?_⟩
    by_cases hji : j = i
    · subst hji; exact hy.wpOp hi hS ⟨fun _ => hS, H⟩
    · have h1 := H.2 j (ready_mono hj hji)
      obtain ⟨hjun, oj, hoj, hall⟩ := mem_ready.1 hj
      have hun : listed.getD i false = false := getD_both (mem_ready.1 hr).1
      have hnot : ∀ e ∈ oj.after, Region.binds md e = true → e.on ≠ i := fun e he hb heq => by
        have h5 := hall e he hb
        rw [heq, hun] at h5
        cases h5
      have hno : ∀ m, listed.getD m false = false → Region.waitsFor md ops j m = true → False := fun m hum hwm => by
        obtain ⟨oj', hoj', e, he, hb, heq⟩ := Region.waitsFor_spec hwm
        rw [hoj] at hoj'
        injection hoj' with hoj'
        subst hoj'
        have h5 := hall e he hb
        rw [heq, hum] at h5
        cases h5
      have hjs : j ∉ ss := fun hmem => by
        rcases hw j hmem with h | ⟨m, h1, h2⟩ | ⟨m, h1, h2⟩
        · exact hno i hun h
        · exact hno m (hmu m h1) h2
        · refine hno m ?_ h2
          unfold come at hc
          rw [List.any_eq_false] at hc
          have := hc m h1
          simpa using this
      have hjm : ∀ m ∈ ms, (listed.setIfInBounds j true).getD m false = false := fun m hmem => by
        have hne : j ≠ m := fun e => by
          rcases hm m hmem with h | ⟨m', h1, h2⟩
          · exact hno i hun (by rw [e]; exact h)
          · exact hno m' (hmu m' h1) (by rw [e]; exact h2)
        rw [getD_set_ne false hne]
        exact hmu m hmem
      have h2 := wpOp_putIf hoj (hfree j oj hoj hji hjun hnot) (fun cs b => hsel i oi cs b hi) (fun cs b => hsel j oj cs b hoj) hQ hy h1
      have hfree' : ∀ k ok, ops[k]? = some ok → k ≠ i → (listed.setIfInBounds j true).getD k true = false →
          (∀ e ∈ ok.after, Region.binds md e = true → e.on ≠ i) → oi.apart ops ok = true := fun k ok hk hki hun hno => by
        refine hfree k ok hk hki ?_ hno
        by_cases hjk : j = k
        · subst hjk; exact hjun
        · rw [getD_set_ne true hjk] at hun; exact hun
      have hcj : come ss (listed.setIfInBounds j true) = false := by rw [come_set hjs]; exact hc
      refine wpOp_mono (fun a' w' h3 => ?_) h2
      have hS' : S w' := h3.2.1 (by rw [come_set hjs, come_set his]; exact hc)
      refine ⟨fun _ => hS', ih (listed.setIfInBounds j true) a' w' hfree' (ready_mono hr (Ne.symm hji)) h3.1 hS' hcj hjm ?_⟩
      rw [Array.setIfInBounds_comm _ _ hji]
      exact h3.2.2
/-- what yields the same in every world may be taken first, whatever stores come -/
theorem till_free {i : Nat} {oi : Oper} {v : Value} (hi : ops[i]? = some oi) (hsel : ∀ (j : Nat) (o : Oper) cs b, ops[j]? = some o → o.op ≠ .select cs b)
    (hQ : ∀ c a w, Q (.panic c) (a.put oi.dst v) w → Q (.panic c) a w) (his : i ∉ ss) :
    ∀ (fuel : Nat) (listed : Array Bool) (a : Act) (w : World),
      (∀ j oj, ops[j]? = some oj → j ≠ i → listed.getD j true = false → (∀ e ∈ oj.after, Region.binds md e = true → e.on ≠ i) → oi.apart ops oj = true) →
      i ∈ Region.ready md ops listed → YieldsIf P ops (fun _ => True) oi v a → (come ss listed = false → S w) →
      Till P md ops Q S ss fuel (listed.setIfInBounds i true) (a.put oi.dst v) w → Till P md ops Q S ss (fuel + 1) listed a w := by
  intro fuel
  induction fuel with
  | zero =>
    intro listed a w _ hr hy hS H
    refine ⟨fun h => (by rw [h] at hr; cases hr), fun j hj => ?_⟩
    by_cases hji : j = i
    · subst hji; exact hy.wpOp hi trivial ⟨fun h => hS (by rw [come_set his] at h; exact h), H⟩
    · have h0 := ready_mono hj hji
      rw [H.1] at h0
      cases h0
  | succ fuel ih =>
    intro listed a w hfree hr hy hS H
    refine ⟨fun h => (by rw [h] at hr; cases hr), fun j hj => ?_⟩
    by_cases hji : j = i
    · subst hji; exact hy.wpOp hi trivial ⟨fun h => hS (by rw [come_set his] at h; exact h), H⟩
    · have h1 := H.2 j (ready_mono hj hji)
      obtain ⟨hjun, oj, hoj, hall⟩ := mem_ready.1 hj
      have hun : listed.getD i false = false := getD_both (mem_ready.1 hr).1
      have hnot : ∀ e ∈ oj.after, Region.binds md e = true → e.on ≠ i := fun e he hb heq => by
        have h5 := hall e he hb
        rw [heq, hun] at h5
        cases h5
      have h2 := wpOp_putIf hoj (hfree j oj hoj hji hjun hnot) (fun cs b => hsel i oi cs b hi) (fun cs b => hsel j oj cs b hoj) hQ hy h1
      have hfree' : ∀ k ok, ops[k]? = some ok → k ≠ i → (listed.setIfInBounds j true).getD k true = false →
          (∀ e ∈ ok.after, Region.binds md e = true → e.on ≠ i) → oi.apart ops ok = true := fun k ok hk hki hun hno => by
        refine hfree k ok hk hki ?_ hno
        by_cases hjk : j = k
        · subst hjk; exact hjun
        · rw [getD_set_ne true hjk] at hun; exact hun
      refine wpOp_mono (fun a' w' h3 => ?_) h2
      have hS' : come ss (listed.setIfInBounds j true) = false → S w' := fun h => h3.2.1 (by rw [Array.setIfInBounds_comm _ _ (Ne.symm hji), come_set his]; exact h)
      refine ⟨hS', ih (listed.setIfInBounds j true) a' w' hfree' (ready_mono hr (Ne.symm hji)) h3.1 hS' ?_⟩
      rw [Array.setIfInBounds_comm _ _ hji]
      exact h3.2.2
theorem till_take0 (i : Nat) (oi : Oper) (v : Value) {fuel : Nat} {listed : Array Bool} {a : Act} {w : World} (hi : ops[i]? = some oi)
    (hs : Region.noSelect ops = true) (hf : Region.free md ops listed i = true) (hr : (Region.ready md ops listed).contains i = true)
    (hw : (!ss.contains i) = true) (hQ : ∀ c a u w, Q (.panic c) (a.put oi.dst u) w → Q (.panic c) a w) (hy : YieldsIf P ops (fun _ => True) oi v a) (hS : come ss listed = false → S w)
    (h : Till P md ops Q S ss fuel (listed.setIfInBounds i true) (a.put oi.dst v) w) : Till P md ops Q S ss (fuel + 1) listed a w :=
  till_free hi (Region.noSelect_spec hs) (fun c a w => hQ c a v w) (fun hm => by simp at hw; exact hw hm) fuel listed a w (Region.free_spec hi hf) (by simpa using hr) hy hS h
theorem till_take (i : Nat) (ms : List Nat) (oi : Oper) (v : Value) {fuel : Nat} {listed : Array Bool} {a : Act} {w : World} (hi : ops[i]? = some oi)
    (hs : Region.noSelect ops = true) (hf : Region.free md ops listed i = true) (hr : (Region.ready md ops listed).contains i = true)
    (hw : (!ss.contains i && ((ms.all fun m => (Region.waitsFor md ops m i || ms.any fun m' => Region.waitsFor md ops m m') && !listed.getD m false) && ss.all fun s => Region.waitsFor md ops s i || (ms.any fun m => Region.waitsFor md ops s m) || ss.any fun m => Region.waitsFor md ops s m)) = true) (hc : come ss listed = false)
    (hQ : ∀ c a u w, Q (.panic c) (a.put oi.dst u) w → Q (.panic c) a w) (hy : YieldsIf P ops S oi v a) (hS : S w)
    (h : Till P md ops Q S ss fuel (listed.setIfInBounds i true) (a.put oi.dst v) w) : Till P md ops Q S ss (fuel + 1) listed a w := by
  rw [Bool.and_eq_true, Bool.and_eq_true] at hw
  obtain ⟨h1, h2, h3⟩ := hw
  refine till_first (ms := ms) hi (Region.noSelect_spec hs) (fun c a w => hQ c a v w) (fun hm => ?_) (fun m hm => ?_) (fun s hm => ?_) fuel listed a w (Region.free_spec hi hf) (by simpa using hr) hy hS hc (fun m hm => ?_) h
  · simp at h1
    exact h1 hm
  · have := List.all_eq_true.1 h2 m hm
    rw [Bool.and_eq_true, Bool.or_eq_true, List.any_eq_true] at this
    exact this.1
  · have := List.all_eq_true.1 h3 s hm
    rw [Bool.or_eq_true, Bool.or_eq_true, List.any_eq_true, List.any_eq_true] at this
    rcases this with (h | h) | h
    · exact .inl h
    · exact .inr (.inl h)
    · exact .inr (.inr h)
  · have := List.all_eq_true.1 h2 m hm
    rw [Bool.and_eq_true] at this
    simpa using this.2
/-- each that may come up -/
def Alls (P : Program) (md : Region.Mode) (ops : Array Oper) (Q : Exit → Act → World → Prop) (S : World → Prop) (ss : List Nat) (fuel : Nat) (listed : Array Bool) (a : Act) (w : World) (rs : List Nat) : Prop :=
  ∀ i ∈ rs, wpOp P ops Q i (fun a' w' => (come ss (listed.setIfInBounds i true) = false → S w') ∧ Till P md ops Q S ss fuel (listed.setIfInBounds i true) a' w') a w
theorem alls_nil {fuel : Nat} {listed : Array Bool} {a : Act} {w : World} : Alls P md ops Q S ss fuel listed a w [] := fun _ h => by cases h
theorem alls_cons {fuel : Nat} {listed : Array Bool} {a : Act} {w : World} {i : Nat} {o : Oper} {rs : List Nat} (ho : ops[i]? = some o)
    (h : ∀ K' : Act → World → Prop, Shut (∀ a w, (come ss (listed.setIfInBounds i true) = false → S w) → Till P md ops Q S ss fuel (listed.setIfInBounds i true) a w → K' a w) → if Region.wanted o (yielded ops a.tmps) = true then Oper.wp P o a w K' Q else K' (a.put o.dst undef) w)
    (hs : Alls P md ops Q S ss fuel listed a w rs) : Alls P md ops Q S ss fuel listed a w (i :: rs) := fun j hj => by
  rcases List.mem_cons.1 hj with rfl | hj
  · exact wpOp_step ho (fun K' hK => h K' (fun a w hS hW => hK a w ⟨hS, hW⟩))
  · exact hs j hj
theorem till_ready (rs : List Nat) {fuel : Nat} {listed : Array Bool} {a : Act} {w : World} (hr : Region.ready md ops listed = rs) (hne : rs ≠ [])
    (h : Alls P md ops Q S ss fuel listed a w rs) : Till P md ops Q S ss (fuel + 1) listed a w := ⟨fun h0 => absurd (hr ▸ h0) hne, hr ▸ h⟩
theorem till_done {listed : Array Bool} {a : Act} {w : World} (hr : Region.ready md ops listed = []) (h : Q .normal a w) : ∀ fuel, Till P md ops Q S ss fuel listed a w
  | 0 => ⟨hr, h⟩
  | _ + 1 => ⟨fun _ => h, by rw [hr]; simp⟩
theorem wp_till (S : World → Prop) (ss : List Nat) {id : Nat} {a : Act} {w : World} (hm : P.follows .mixedOrders = true)
    (h : Till P .any ops Q S ss ops.size (Array.replicate ops.size false) a w.drew) : (Code.region id ops true).wp P Q a w :=
  wp_region_any hm (till_any _ _ _ _ h)
end
end Go.Proofs.YtdipehgijjkfdaaGreatDoor
