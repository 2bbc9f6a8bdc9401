/-
  A run over a wire: the next time at which something may be taken out.
-/
import Derived.Test.YtdhojhgmaodifaaDoorLnkLose
namespace Go.Proofs.YtdhojhgmaodifaaDoor
open Go.RowKit Bkt
set_option linter.unusedVariables false

def AfterOut {M : Pl.QM} (inv : M.σ → Nat → (Nat → Prop) → World → Prop) (w : World) (F : Nat → Prop) (k : Nat) (s : M.σ) (now free : Int) (e : Ending) (w' : World) : Prop :=
  ∃ (t : Int) (F' : Nat → Prop), e = .returned (.tuple #[.int .i64 t, .bool (Pl.aT M s now free).isSome]) ∧ Hid (inv (Pl.aQ M s now free) k F' w' ∧ Chg w w' F ∧ (∀ i, F' i → F i ∨ w.heap.size ≤ i) ∧ (∀ x, Pl.aT M s now free = some x → t = x) ∧ (∀ x, Pl.aT M s now free = some x → now < x))
theorem ret_t {a b : Int} {c : Bool} (h : a = b) : Ending.returned (.tuple #[.int .i64 a, .bool c]) = .returned (.tuple #[.int .i64 b, .bool c]) := by rw [h]
set_option maxHeartbeats 2000000 in
set_option maxRecDepth 100000 in
theorem after_any {M : Pl.QM} {inv : M.σ → Nat → (Nat → Prop) → World → Prop} {q : Value} {base : Nat} (I : QImp M q base inv) (s : M.σ) (k : Nat) (F : Nat → Prop) (w : World) (now free : Int) (hi : inv s k F w) (h0 : 0 ≤ now) (h1 : now ≤ 10000000) :
    Calls Tryd.prog 54 #[q, .int .i64 now, .int .i64 free] w (AfterOut inv w F k s now free) := by
  obtain ⟨fl, rl, hml, hcl⟩ := I.len
  obtain ⟨fw, rw_, hmw, hcw⟩ := I.when_
  have hl := hcl s k F w hi
  have hch := fun w' (hb : Below w.heap.size w w') => I.chg s k F w w' (fun _ => False) hi (Chg.of_below hb) (fun _ _ e => e)
  have hw := fun w' (hb : Below w.heap.size w w') => hcw s k F w' (now + 1) (hch w' hb) (by omega) (by omega)
  have e1 : IntKind.i64.wrap (now + 1) = now + 1 := IntWalk.i64_in _ (by omega)
  have HCH := Lib.hid hch; have HW := Lib.hid hw; have HML := Lib.hid hml; have HMW := Lib.hid hmw
  clear hch hw hml hmw hcl hcw hi I
  by_cases hz : M.len s = 0
  · have ea : Pl.aT M s now free = none := by unfold Pl.aT; rw [if_pos hz]
    have eq : Pl.aQ M s now free = s := by unfold Pl.aQ; rw [if_pos hz]
    have EA := Lib.hid ea; have EQ := Lib.hid eq
    clear ea eq
    rw [hz] at hl
    have HL := Lib.hid hl
    clear hl hz
    go_enter Tryd.func54, Tryd.ntmps54
    go_wp2_with (refine wpList_invoke0 rfl (.tmp 10) #[] rfl HML.out rfl HL.out (fun e w' ⟨h, _⟩ => ⟨_, h⟩) ?_; rintro v3 w3 ⟨e3, hb3⟩; injection e3 with e3; subst e3; have HB3 := Lib.hid hb3; clear hb3)
    go_ret2
    unfold AfterOut
    rw [EA.out, EQ.out]
    exact ⟨0, F, rfl, Lib.hid ⟨HCH.out _ HB3.out, Chg.of_below HB3.out, fun i h => .inl h, fun _ e => (by cases e), fun _ e => (by cases e)⟩⟩
  · by_cases hf : now < free
    · have ea : Pl.aT M s now free = some free := by unfold Pl.aT; rw [if_neg hz, if_pos hf]
      have eq : Pl.aQ M s now free = s := by unfold Pl.aQ; rw [if_neg hz, if_pos hf]
      have EA := Lib.hid ea; have EQ := Lib.hid eq
      clear ea eq
      generalize M.len s = ln at *
      have tz : (ln == 0) = false := by simpa using hz
      have HL := Lib.hid hl
      clear hl hz
      have df : decide (now < free) = true := decide_eq_true hf
      go_enter Tryd.func54, Tryd.ntmps54
      go_wp2_with (refine wpList_invoke0 rfl (.tmp 10) #[] rfl HML.out rfl HL.out (fun e w' ⟨h, _⟩ => ⟨_, h⟩) ?_; rintro v3 w3 ⟨e3, hb3⟩; injection e3 with e3; subst e3; have HB3 := Lib.hid hb3; clear hb3)
      go_ret2
      unfold AfterOut
      rw [EA.out, EQ.out]
      exact ⟨free, F, rfl, Lib.hid ⟨HCH.out _ HB3.out, Chg.of_below HB3.out, fun i h => .inl h, fun _ e => Option.some.inj e, fun _ e => Option.some.inj e ▸ hf⟩⟩
    · have ea : Pl.aT M s now free = (M.when_ (now + 1) s).1.map fun t => max t (now + 1) := by unfold Pl.aT; rw [if_neg hz, if_neg hf]
      have eq : Pl.aQ M s now free = (M.when_ (now + 1) s).2 := by unfold Pl.aQ; rw [if_neg hz, if_neg hf]
      have EA := Lib.hid ea; have EQ := Lib.hid eq
      clear ea eq
      generalize M.len s = ln at *
      have tz : (ln == 0) = false := by simpa using hz
      have HL := Lib.hid hl
      clear hl hz
      have df : decide (now < free) = false := decide_eq_false hf
      go_enter Tryd.func54, Tryd.ntmps54
      go_upto_region 5 with (refine wpList_invoke0 rfl (.tmp 10) #[] rfl HML.out rfl HL.out (fun e w' ⟨h, _⟩ => ⟨_, h⟩) ?_; rintro v3 w3 ⟨e3, hb3⟩; injection e3 with e3; subst e3; have HB3 := Lib.hid hb3; clear hb3)
      have hwh := HW.out _ HB3.out
      have HWH := Lib.hid hwh
      clear hwh
      go_upto_region 6 with (refine wpList_invoke1 (vx := .int .i64 (now + 1)) rfl (.tmp 18) (.tmp 20) #[3] rfl HMW.out rfl rfl HWH.out WhenOut.ret ?_; rintro v4 w4 hv4; obtain ⟨a, F', rfl, h4⟩ := hv4.val; have H4 := Lib.hid h4; clear hv4 h4)
      obtain ⟨g1, g2, g3, g4⟩ := H4.out
      have hout : ∀ t, t = max a (now + 1) → AfterOut inv w F k s now free (.returned (.tuple #[.int .i64 t, .bool (M.when_ (now + 1) s).1.isSome])) w4 := fun t ht => by
        unfold AfterOut
        rw [EA.out, EQ.out]
        refine ⟨t, F', by rw [Option.isSome_map], Lib.hid ⟨g2, (Chg.of_below HB3.out).trans g3 (fun _ _ h => h), fun i hi => ?_, fun x e => ?_, fun x e => ?_⟩⟩
        · rcases g4 i hi with e | e
          · exact .inl e
          · exact .inr (Nat.le_trans HB3.out.size e)
        · cases hq : (M.when_ (now + 1) s).1 with
          | none => rw [hq] at e; cases e
          | some y => rw [hq] at e; obtain rfl := Option.some.inj e; rw [ht, g1 y hq]
        · cases hq : (M.when_ (now + 1) s).1 with
          | none => rw [hq] at e; cases e
          | some y => rw [hq] at e; obtain rfl := Option.some.inj e; dsimp only; omega
      have HOUT := Lib.hid hout
      clear hout g1 g2 g3 g4
      generalize (M.when_ (now + 1) s).1.isSome = ok at *
      by_cases hm : a < now + 1
      · have tm : (a < now + 1) = True := eq_true hm
        go_wp2_with fail
        go_ret2
        exact HOUT.out (now + 1) (by omega)
      · have tm : (a < now + 1) = False := eq_false hm
        go_wp2_with fail
        go_ret2
        exact HOUT.out a (by omega)
end Go.Proofs.YtdhojhgmaodifaaDoor
