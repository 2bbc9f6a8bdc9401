/-
  kept says yes of every play of a queue that puts out what was put in.
-/
import Derived.Test.YtdhojhgmaodifaaDoorLeft
namespace Go.Proofs.YtdhojhgmaodifaaDoor
open Go.RowKit Bkt
set_option linter.unusedVariables false

theorem outsL_wait : ∀ (ls : List Int) {S S2 : Pl.LS}, Pl.outsL S ls = some S2 → S2.wait = S.wait - ls.length
  | [], S, S2, h => by
    injection h with h
    subst h
    simp
  | k :: r, S, S2, h => by
    rw [Pl.outsL] at h
    cases h1 : Pl.outL S k with
    | none => rw [h1] at h; cases h
    | some S1 =>
      rw [h1, Option.bind_some] at h
      have h2 := outsL_wait r h
      obtain ⟨_, _, _, rfl⟩ := outL_some h1
      rw [h2]
      simp
      omega
theorem inL_wait (S : Pl.LS) (t : Pl.Stp) : (Pl.inL S t).wait ≤ S.wait + 1 := by
  unfold Pl.inL
  split
  · exact Int.le_refl _
  · omega
theorem stepL_wait {late : Bool} {S S' : Pl.LS} {t : Pl.Stp} {s : Pl.Seen} (h : Pl.stepL late S t s = some S') : S'.wait + s.lost.length ≤ S.wait + 1 := by
  obtain ⟨S2, h1, h2, h3, _⟩ := stepL_inv h
  have a := outsL_wait _ h1
  have b := inL_wait S t
  by_cases h0 : 0 ≤ s.taken
  · obtain ⟨_, _, _, rfl⟩ := outL_some (h2 h0)
    simp only []
    omega
  · have := h3 (by omega)
    subst this
    omega
theorem leftTo_wait {late : Bool} {ts : List Pl.Stp} {sn : Nat → Pl.Seen} : ∀ k {S : Pl.LS}, Pl.leftTo late ts sn k = some S → S.wait ≤ k
  | 0, S, h => by
    injection h with h
    subst h
    exact Int.le_refl _
  | k + 1, S, h => by
    rw [Pl.leftTo] at h
    cases h1 : Pl.leftTo late ts sn k with
    | none => rw [h1] at h; cases h
    | some S1 =>
      rw [h1, Option.bind_some] at h
      have h2 := leftTo_wait k h1
      cases h3 : ts[k]? with
      | none =>
        rw [h3] at h
        injection h with h
        subst h
        omega
      | some t =>
        rw [h3] at h
        have h4 := stepL_wait h
        have : (0 : Int) ≤ (sn k).lost.length := Int.natCast_nonneg _
        omega
/-- no step throws more away than there were steps -/
theorem lost_bd {M : Pl.QM} {late : Bool} {I : M.σ → Prop} (G : M.Good late I) {s0 : M.σ} (hI : I s0) (h0 : M.wait s0 = []) {l : List Pl.Stp} (hl : ∀ t ∈ l, Pl.StpOk t) {k : Nat} (hk : k < l.length) :
    (Pl.seenAt M s0 l k).lost.length ≤ k + 1 := by
  obtain ⟨_, S, e1, f1⟩ := Pl.good_left G hI h0 hl k
  obtain ⟨_, S', e2, f2⟩ := Pl.good_left G hI h0 hl (k + 1)
  have ek : l[k]? = some l[k] := List.getElem?_eq_getElem hk
  have h3 : Pl.stepL late S l[k] (Pl.seenAt M s0 l k) = some S' := by
    rw [Pl.leftTo, e1, Option.bind_some, ek] at e2
    exact e2
  have h4 := stepL_wait h3
  have h5 := leftTo_wait k e1
  have h6 := f2.w
  have : (0 : Int) ≤ ((M.wait (Pl.nth M s0 l (k + 1)).2).length : Int) := Int.natCast_nonneg _
  omega

theorem kept_yes {M : Pl.QM} {I : M.σ → Prop} (G : M.Good false I) {s0 : M.σ} (hI : I s0) (h0 : M.wait s0 = []) (A : Option Addr) (n c : Nat) (l : List Pl.Stp) (As : Option Addr) (cs : Nat) (w : World) (hr : RdR StR w w.heap.size A n l)
    (hrs : RdSn w w.heap.size As n (Pl.seenAt M s0 (Pl.timesTo l n))) (hn : n ≤ 1000) :
    Calls Tryd.prog 38 #[.slice A n c, .slice As n cs] w fun e w' => e = .returned (.bool true) ∧ Below w.heap.size w w' := by
  have hll := hr.len
  have htl := Pl.timesTo_len l n (by omega)
  have hok := Pl.times_ok l
  rw [hll] at hok
  have hl : ∀ i, i < n → (Pl.seenAt M s0 (Pl.timesTo l n) i).lost.length ≤ 100000 := fun i hi => by
    have := lost_bd G hI h0 hok (k := i) (by omega)
    omega
  obtain ⟨_, S, hS, _⟩ := Pl.good_left G hI h0 hok n
  have hc := left_yes A n c l As cs (Pl.seenAt M s0 (Pl.timesTo l n)) false w hr hrs hn hl ⟨S, hS⟩
  have HC := Lib.hid hc
  clear hc hl hS hok htl hll
  go_enter Tryd.func38, Tryd.ntmps38
  go_wp2_with (go_at_call 52; (with_reducible refine HC.out.mono ?_); rintro e w' ⟨rfl, hb⟩; have HB := Lib.hid hb; clear hb)
  go_ret
  exact ⟨rfl, HB.out⟩
end Go.Proofs.YtdhojhgmaodifaaDoor
