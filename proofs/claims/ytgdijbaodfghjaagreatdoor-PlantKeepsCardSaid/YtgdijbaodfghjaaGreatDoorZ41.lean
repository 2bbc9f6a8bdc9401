/-
  Texts of this claim, one behind the other: Planted.
-/
import Derived.Test.YtgdijbaodfghjaaGreatDoorZ38
import Derived.Test.YtgdijbaodfghjaaGreatDoorZ39
import Derived.Test.YtgdijbaodfghjaaGreatDoorZ40
/-
  The fact 'planted': bands by text; a play over a queue that was just made, told by the number of steps.
-/
namespace Go.Proofs.YtgdijbaodfghjaaGreatDoor
open Go.RowKit Bkt
set_option linter.unusedVariables false
namespace Pl
theorem good_lens {M : QM} {late : Bool} {I : M.σ → Prop} (G : M.Good late I) {s0 : M.σ} (hI : I s0) (h0 : M.wait s0 = []) {l : List Stp} (hl : ∀ t ∈ l, StpOk t) : ∀ k, I (nth M s0 l k).2 ∧ (M.wait (nth M s0 l k).2).length ≤ k
  | 0 => ⟨hI, by show (M.wait s0).length ≤ 0; rw [h0]; exact Nat.le_refl _⟩
  | k + 1 => by
    obtain ⟨h1, h2⟩ := good_lens G hI h0 hl k
    unfold nth
    cases hk : l[k]? with
    | none => exact ⟨h1, Nat.le_succ_of_le h2⟩
    | some t =>
      dsimp only
      have ht := hl t (List.mem_of_getElem? hk)
      generalize (nth M s0 l k) = N at *
      obtain ⟨n, s⟩ := N
      dsimp only at h1 h2 ⊢
      by_cases c0 : t.what = 0
      · rw [stepM_put c0]
        obtain ⟨g1, g2⟩ := G.put s t.later ⟨t.it, n⟩ h1 (ht c0).1
        have := g2.length_eq
        rw [List.length_append, List.length_append, List.length_singleton] at this
        exact ⟨g1, by dsimp only; omega⟩
      · by_cases c1 : t.what = 1
        · rw [stepM_take c1]
          obtain ⟨g1, g2⟩ := G.take s t.later h1
          have := g2.length_eq
          rw [List.length_append, List.length_append] at this
          exact ⟨g1, by dsimp only; omega⟩
        · rw [stepM_when c0 c1]
          obtain ⟨g1, g2⟩ := G.when_ s t.later h1
          have := g2.length_eq
          exact ⟨g1, by dsimp only; omega⟩
theorem good_lost {M : QM} {late : Bool} {I : M.σ → Prop} (G : M.Good late I) {s0 : M.σ} (hI : I s0) (h0 : M.wait s0 = []) {l : List Stp} (hl : ∀ t ∈ l, StpOk t) (k : Nat) : (seenAt M s0 l k).lost.length ≤ k + 1 := by
  obtain ⟨h1, h2⟩ := good_lens G hI h0 hl k
  unfold seenAt
  cases hk : l[k]? with
  | none => simp
  | some t =>
    dsimp only
    have ht := hl t (List.mem_of_getElem? hk)
    generalize (nth M s0 l k) = N at *
    obtain ⟨n, s⟩ := N
    dsimp only at h1 h2 ⊢
    by_cases c0 : t.what = 0
    · rw [stepM_put c0]
      obtain ⟨g1, g2⟩ := G.put s t.later ⟨t.it, n⟩ h1 (ht c0).1
      have := g2.length_eq
      rw [List.length_append, List.length_append, List.length_singleton, List.length_map] at this
      show ((M.put t.later ⟨t.it, n⟩ s).1.map Hd.num).length ≤ _
      rw [List.length_map]
      omega
    · by_cases c1 : t.what = 1
      · rw [stepM_take c1]
        obtain ⟨g1, g2⟩ := G.take s t.later h1
        have := g2.length_eq
        rw [List.length_append, List.length_append, List.length_map] at this
        show ((M.take t.later s).2.1.map Hd.num).length ≤ _
        rw [List.length_map]
        omega
      · rw [stepM_when c0 c1]
        simp
end Pl
theorem play_seen {M : Pl.QM} {inv : M.σ → Nat → (Nat → Prop) → World → Prop} {q : Value} {base : Nat} (I : QImp M q base inv) (A : Option Addr) (n c : Nat) (l : List Pl.Stp) (s0 : M.σ) (F0 : Nat → Prop) (w : World)
    (hr : RdR StR w w.heap.size A n l) (hn : n ≤ 1000) (hi : inv s0 0 F0 w) :
    Calls Tryz.prog 19 #[q, .slice A n c] w fun e w' => ∃ As cs F', e = .returned (.slice As n cs) ∧ RdSn w' w'.heap.size As n (Pl.seenAt M s0 (Pl.timesTo l n)) ∧ (∃ k, inv (Pl.nth M s0 (Pl.timesTo l n) n).2 k F' w') ∧ Chg w w' F0 ∧
      (∀ i, F' i → F0 i ∨ w.heap.size ≤ i) ∧ ∀ ad, As = some ad → w.heap.size ≤ ad.block := by
  have htl := Pl.timesTo_len l n (by have := hr.len; omega)
  refine (play_any I A n c l s0 0 F0 w hr (by omega) hi).mono ?_
  rintro e w' ⟨As, cs, e1, h1, h4, F', h2, h3, h5⟩
  rw [htl] at e1 h1 h2
  exact ⟨As, cs, F', e1, h1, ⟨_, h2⟩, h3, h5, h4⟩
theorem play_pk {P : Pk} {v : Value} {base : Nat} {F : Nat → Prop} (A : Option Addr) (n c : Nat) (l : List Pl.Stp) (w : World) (hp : PkM P v base F w) (hr : RdR StR w w.heap.size A n l) (hn : n ≤ 1000) :
    Calls Tryz.prog 19 #[v, .slice A n c] w fun e w' => ∃ As cs, e = .returned (.slice As n cs) ∧ Hid (RdSn w' w'.heap.size As n (Pl.seenAt P.M P.s0 (Pl.timesTo l n)) ∧ Chg w w' F) := by
  obtain ⟨inv, qi, hi⟩ := hp.ex
  refine (play_seen qi A n c l P.s0 F w hr hn hi).mono ?_
  rintro e w' ⟨As, cs, F', rfl, h1, _, h2, _, _⟩
  exact ⟨As, cs, rfl, Lib.hid ⟨h1, h2⟩⟩
def plantedText : List UInt8 := [98, 97, 110, 100, 115, 32, 40, 102, 105, 102, 111, 32, 49, 32, 49, 48, 44, 32, 104, 101, 97, 100, 32, 50, 32, 50, 48, 41]
def plantedPk : Pk := mixPk [fifoPk ⟨1, 10, false⟩, fifoPk ⟨2, 20, true⟩] (by decide)
theorem planted_parse : parseW [] plantedText = some plantedPk := by kernel_rfl
def plantedSteps : List Pl.Stp := [⟨0, 0, ⟨0, 5, 0, 3, 0⟩⟩, ⟨0, 0, ⟨0, 5, 0, 0, 0⟩⟩, ⟨1, 0, ⟨0, 0, 0, 0, 0⟩⟩]
theorem planted_sees : (Pl.seenAt plantedPk.M plantedPk.s0 (Pl.timesTo plantedSteps 3) 2).taken = 1 ∧ (Pl.seenAt plantedPk.M plantedPk.s0 (Pl.timesTo plantedSteps 3) 2).len = 1 := by
  refine ⟨?_, ?_⟩ <;> kernel_rfl
def plantedCells : Array Value := #[.int .i64 0, .int .i64 0, .int .i64 0, .int .i64 5, .int .i64 0, .int .i64 3, .int .i64 0, .int .i64 0, .int .i64 0, .int .i64 0, .int .i64 5, .int .i64 0, .int .i64 0, .int .i64 0, .int .i64 1, .int .i64 0, .int .i64 0, .int .i64 0, .int .i64 0, .int .i64 0, .int .i64 0]
set_option maxHeartbeats 1000000 in
set_option maxRecDepth 100000 in
theorem planted_yes (w : World) (hv : Pv w) : Calls Tryz.prog 9 #[] w fun e w' => e = .returned (.bool true) ∧ Below w.heap.size w w' := by
  have hn := parse_p plantedText (by decide) none 0 [] w hv Reads.none_ (by decide)
  rw [planted_parse] at hn
  have HN : Hid (Calls Tryz.prog 17 #[.string ⟨#[98, 97, 110, 100, 115, 32, 40, 102, 105, 102, 111, 32, 49, 32, 49, 48, 44, 32, 104, 101, 97, 100, 32, 50, 32, 50, 48, 41]⟩, .slice none 0 0] w (ParseEnd w (some plantedPk))) := Lib.hid hn
  clear hn hv
  go_enter Tryz.func9, Tryz.ntmps9
  go_wp2_with fail
  (with_reducible refine HN.out.mono ?_)
  rintro e w1 (⟨P, v, F, hP, rfl, hqv, h1⟩ | ⟨hno, _⟩)
  rotate_left
  · cases hno
  injection hP with hP
  subst hP
  obtain ⟨T, gv, rfl⟩ := hqv
  obtain ⟨hpk, hb1, hF⟩ := h1.out
  have hpl := play_pk (some ⟨w1.heap.size, 0, none⟩) 3 3 plantedSteps (w1.alloc (.cells plantedCells 65)) (hpk.chg ((Chg.refl w1 (fun _ => False)).alloc _) (fun _ _ e => e)) (RdR.of_blk (Blk.new w1 65 plantedCells) rfl) (by decide)
  have HB1 := Lib.hid hb1; have HPL := Lib.hid hpl; have HF := Lib.hid hF
  clear hb1 hpk h1 hpl hF HN
  unfold plantedCells at HPL
  go_wp2_with fail
  (with_reducible refine HPL.out.mono ?_)
  rintro e w2 ⟨A, c, rfl, h2⟩
  obtain ⟨b, off, A', c', rfl, hb, z0, z3, _, _, _⟩ := h2.out.1.at_ (k := 2) (by omega)
  rw [planted_sees.1] at z0
  rw [planted_sees.2] at z3
  have hfin : Below w.heap.size w w2 := by
    have h3 := (h2.out.2.below (B := w.heap.size) (by have := HB1.out.size; simp; omega) (fun i hi e => by have := HF.out i e; omega))
    exact (HB1.out.alloc HB1.out.size _).trans h3
  have HFIN := Lib.hid hfin
  clear h2 hfin HPL
  simp at z0 z3
  go_wp2_with fail
  go_ret
  exact ⟨rfl, HFIN.out⟩
end Go.Proofs.YtgdijbaodfghjaaGreatDoor
