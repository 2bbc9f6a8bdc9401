/-
  Flows that are put together by a hash are their machine.
-/
import Derived.Test.YthhgbpbaihgogaaHshNew
namespace Go.Proofs.Ythhgbpbaihgogaa
open Go.RowKit Bkt
set_option linter.unusedVariables false

theorem hsh_put_meth (g : Nat) : Meth (.iface 75 (.pointer (some ⟨g, 0, none⟩))) "Put" 79 (.pointer (some ⟨g, 0, none⟩)) := by
  intro args w; kernel_rfl
theorem hsh_take_meth (g : Nat) : Meth (.iface 75 (.pointer (some ⟨g, 0, none⟩))) "Take" 80 (.pointer (some ⟨g, 0, none⟩)) := by
  intro args w; kernel_rfl
theorem hsh_when_meth (g : Nat) : Meth (.iface 75 (.pointer (some ⟨g, 0, none⟩))) "When" 81 (.pointer (some ⟨g, 0, none⟩)) := by
  intro args w; kernel_rfl
theorem hsh_len_meth (g : Nat) : Meth (.iface 75 (.pointer (some ⟨g, 0, none⟩))) "Len" 78 (.pointer (some ⟨g, 0, none⟩)) := by
  intro args w; kernel_rfl
theorem hsh_bytes_meth (g : Nat) : Meth (.iface 75 (.pointer (some ⟨g, 0, none⟩))) "Bytes" 77 (.pointer (some ⟨g, 0, none⟩)) := by
  intro args w; kernel_rfl
theorem HI_len {P : Pl.HP} {s : Pl.HS} {f : Nat} (hf : f < P.m) : (s.L f).length ≤ (Pl.waitH P.m s).length := by
  have := flat_len (G := fun f => (s.L f).map Pl.key) (List.mem_range.2 hf)
  simpa [Pl.waitH] using this
theorem HI_tl {P : Pl.HP} {s : Pl.HS} (h : Pl.HI P s) : s.T.length ≤ P.m := nodup_lt P.m s.T h.h.nd fun x hx => (h.h.ne x hx).1
/-- flows by a hash at blocks g, gl -/
structure HInvM (base g gl : Nat) (P : Pl.HP) (s : Pl.HS) (F : Nat → Prop) (w : World) (cs ls : Array Value) (V : Nat → Value) (tv : Value) : Prop where
  d : Hsh w base g gl cs ls V tv P s (Pl.waitH P.m s).length
  hi : Pl.HI P s
  bs : base ≤ w.heap.size
  bg : base ≤ g
  bl : base ≤ gl
  mF : ∀ i, F i ↔ (i = g ∨ i = gl ∨ HF P.m V tv i)
def HInv1 (base g gl : Nat) (P : Pl.HP) (s : Pl.HS) (k : Nat) (F : Nat → Prop) (w : World) : Prop := ∃ cs ls V tv, HInvM base g gl P s F w cs ls V tv
section
variable {w w' : World} {base g gl : Nat} {P : Pl.HP} {s s' : Pl.HS} {F : Nat → Prop} {cs cs' ls ls' : Array Value} {V V' : Nat → Value} {tv tv' : Value}
theorem HInvM.hds (h : HInvM base g gl P s F w cs ls V tv) (hr : P.room ≤ 900) : ∀ f, f < P.m → HdsOk (s.L f) := fun f hf =>
  ⟨by have := HI_len (s := s) hf; have := h.hi.rm; omega, fun x hx => by have := h.hi.h.b f hf x hx; omega⟩
theorem HInvM.lt (h : HInvM base g gl P s F w cs ls V tv) : ∀ i, F i → base ≤ i ∧ i < w.heap.size := fun i hi => by
  rcases (h.mF i).1 hi with e | e | e
  · subst e; exact ⟨h.bg, h.d.blk.lt⟩
  · subst e; exact ⟨h.bl, h.d.lk.lt⟩
  · exact h.d.rlt i e
theorem HInvM.chg {S : Nat → Prop} (h : HInvM base g gl P s F w cs ls V tv) (hc : Chg w w' S) (hn : ∀ i, F i → ¬ S i) : HInvM base g gl P s F w' cs ls V tv :=
  ⟨h.d.chg hc (hn _ ((h.mF _).2 (.inl rfl))) (hn _ ((h.mF _).2 (.inr (.inl rfl)))) (fun i hi => hn _ ((h.mF _).2 (.inr (.inr hi)))), h.hi, Nat.le_trans h.bs hc.size, h.bg, h.bl, h.mF⟩
theorem HInvM.to (h : HInvM base g gl P s F w cs ls V tv) (hd : Hsh w' base g gl cs' ls' V' tv' P s' (Pl.waitH P.m s').length) (ht : HTrn w w' g gl P.m V tv V' tv') (hi : Pl.HI P s') (k : Nat) :
    ∃ F', HInv1 base g gl P s' k F' w' ∧ Chg w w' F ∧ ∀ i, F' i → F i ∨ w.heap.size ≤ i := by
  refine ⟨fun i => i = g ∨ i = gl ∨ HF P.m V' tv' i, ⟨cs', ls', V', tv', hd, hi, Nat.le_trans h.bs ht.chg.size, h.bg, h.bl, fun i => Iff.rfl⟩, ht.chg.mono (fun i _ hi => (h.mF i).2 hi), fun i hi => ?_⟩
  rcases hi with e | e | e
  · exact .inl ((h.mF i).2 (.inl e))
  · exact .inl ((h.mF i).2 (.inr (.inl e)))
  · exact (ht.at_ i e).imp (fun e => (h.mF i).2 (.inr (.inr e))) id
end
theorem hsh_imp (base g gl : Nat) (P : Pl.HP) (hP : Pl.HPOk P) (hr : P.room ≤ 900) : QImp (Pl.hashM P) (.iface 75 (.pointer (some ⟨g, 0, none⟩))) base (HInv1 base g gl P) where
  lt := fun s k F w ⟨cs, ls, V, tv, h⟩ => h.lt
  base := fun s k F w ⟨cs, ls, V, tv, h⟩ => h.bs
  chg := fun s k F w w' S ⟨cs, ls, V, tv, h⟩ hc hn => ⟨cs, ls, V, tv, h.chg hc hn⟩
  put := ⟨_, _, hsh_put_meth g, fun s k F w now x ⟨cs, ls, V, tv, h⟩ hk hx => by
    have hrm := h.hi.rm; have htl := HI_tl h.hi; have hm := hP.m.2
    refine (hshPut_any base g gl cs ls V tv P s now x w h.d h.hi hP hx.ok h.bs (h.hds hr) (by omega) (by omega)).mono fun e w' ho => ?_
    obtain ⟨A, c, cs', ls', V', tv', e1, hrd, ha, hd, ht⟩ := ho
    have hpi := Pl.putH_ok hP h.hi hx.ok
    obtain ⟨F', g1, g2, g3⟩ := h.to hd ht hpi.hi (k + 1)
    refine ⟨A, _, c, F', e1, ?_, hrd, fun ad e => .inr (ha ad e), g1, g2, g3⟩
    show (Pl.putH P x s).1.length ≤ 100000
    rcases hpi.ways with ⟨_, e⟩ | ⟨_, _, _, _, _, e⟩
    · rw [e]; simp
    · rw [e]; simp⟩
  take := ⟨_, _, hsh_take_meth g, fun s k F w now ⟨cs, ls, V, tv, h⟩ h0 h1 => by
    have hrm := h.hi.rm; have htl := HI_tl h.hi; have hm := hP.m.2
    refine (hshTake_any base g gl cs ls V tv P s now w h.d h.hi h.bs (h.hds hr) (by omega) (by omega)).mono fun e w' ho => ?_
    obtain ⟨hh, cs', ls', V', tv', e1, e2, hd, ht⟩ := ho
    obtain ⟨F', g1, g2, g3⟩ := h.to hd ht (Pl.takeH_ok h.hi).hi k
    exact ⟨hh, none, 0, 0, F', e1, e2, by omega, Reads.none_, fun ad e => (by cases e), g1, g2, g3⟩⟩
  when_ := ⟨_, _, hsh_when_meth g, fun s k F w now ⟨cs, ls, V, tv, h⟩ _ _ => by
    refine (hshWhen_any base g gl cs ls V tv P s _ now w h.d).mono fun e w' ⟨e1, q, e2⟩ => ?_
    subst e2
    have hb : Below w.heap.size w (w.drewN q) := bl_drewN (Below.refl _ _)
    refine ⟨now, F, ?_, ?_, ⟨cs, ls, V, tv, h.chg (Chg.of_below (S := fun _ => False) hb) (fun _ _ h => h)⟩, Chg.of_below hb, fun i hi => .inl hi⟩
    · rw [e1]
      show Ending.returned (.tuple #[.int .i64 now, .bool (decide ((0 : Int) < ((Pl.waitH P.m s).length : Int)))]) = .returned (.tuple #[.int .i64 now, .bool (if 0 < (Pl.waitH P.m s).length then some now else none).isSome])
      by_cases h0 : 0 < (Pl.waitH P.m s).length
      · rw [if_pos h0, decide_eq_true (by omega)]; rfl
      · rw [if_neg h0, decide_eq_false (by omega)]; rfl
    · intro x hx
      have hx' : (if 0 < (Pl.waitH P.m s).length then some now else none) = some x := hx
      by_cases h0 : 0 < (Pl.waitH P.m s).length
      · rw [if_pos h0] at hx'; injection hx'
      · rw [if_neg h0] at hx'; cases hx'⟩
  len := ⟨_, _, hsh_len_meth g, fun s k F w ⟨cs, ls, V, tv, h⟩ => (hshLen_any base g gl cs ls V tv P s _ w h.d).mono fun e w' ⟨e1, e2⟩ => ⟨e1, by subst e2; exact Below.refl _ _⟩⟩
  bytes := ⟨_, _, hsh_bytes_meth g, fun s k F w ⟨cs, ls, V, tv, h⟩ => (hshBytes_any base g gl cs ls V tv P s _ w h.d hP (h.hds hr)).mono fun e w' ⟨e1, e2⟩ => ⟨e1, by subst e2; exact Below.refl _ _⟩⟩
theorem Hsh.inv0 {w : World} {base g gl : Nat} {cs ls : Array Value} {P : Pl.HP} (hP : Pl.HPOk P) (h : Hsh w base g gl cs ls (fun _ => .slice none 0 0) (.slice none 0 0) P Pl.hs0 0) (hg : base ≤ g) (hgl : base ≤ gl) : HInv1 base g gl P Pl.hs0 0 (fun i => i = g ∨ i = gl) w :=
  ⟨cs, ls, _, _, by rw [Pl.wait_hs0]; exact h, Pl.hs0_ok hP, Nat.le_trans hg (Nat.le_of_lt h.blk.lt), hg, hgl, fun i => by simp [HF, Value.ownBlock]⟩
end Go.Proofs.Ythhgbpbaihgogaa
