/-
  Flows that take turns are their machine.
-/
import Derived.Test.YthhgbpbaihgogaaRndNew
namespace Go.Proofs.Ythhgbpbaihgogaa
open Go.RowKit Bkt
set_option linter.unusedVariables false

theorem rnd_put_meth (g : Nat) : Meth (.iface 70 (.pointer (some ⟨g, 0, none⟩))) "Put" 30 (.pointer (some ⟨g, 0, none⟩)) := by
  intro args w; kernel_rfl
theorem rnd_take_meth (g : Nat) : Meth (.iface 70 (.pointer (some ⟨g, 0, none⟩))) "Take" 31 (.pointer (some ⟨g, 0, none⟩)) := by
  intro args w; kernel_rfl
theorem rnd_when_meth (g : Nat) : Meth (.iface 70 (.pointer (some ⟨g, 0, none⟩))) "When" 76 (.pointer (some ⟨g, 0, none⟩)) := by
  intro args w; kernel_rfl
theorem rnd_len_meth (g : Nat) : Meth (.iface 70 (.pointer (some ⟨g, 0, none⟩))) "Len" 75 (.pointer (some ⟨g, 0, none⟩)) := by
  intro args w; kernel_rfl
theorem rnd_bytes_meth (g : Nat) : Meth (.iface 70 (.pointer (some ⟨g, 0, none⟩))) "Bytes" 74 (.pointer (some ⟨g, 0, none⟩)) := by
  intro args w; kernel_rfl

theorem nodup_lt : ∀ (n : Nat) (T : List Nat), T.Nodup → (∀ x ∈ T, x < n) → T.length ≤ n
  | 0, T, _, h => by
    cases T with
    | nil => simp
    | cons x r => exact absurd (h x (by simp)) (by omega)
  | n + 1, T, hn, h => by
    by_cases hm : n ∈ T
    · have h1 := nodup_lt n (T.erase n) (hn.erase n) (fun x hx => by
        have h2 := (hn.mem_erase_iff).1 hx
        have h3 := h x h2.2
        have h4 := h2.1
        omega)
      rw [List.length_erase_of_mem hm] at h1
      omega
    · have h1 := nodup_lt n T hn (fun x hx => by
        have h3 := h x hx
        have h4 : x ≠ n := fun e => hm (e ▸ hx)
        omega)
      omega
theorem flat_len {α : Type} {G : Nat → List α} {f : Nat} : ∀ {I : List Nat}, f ∈ I → (G f).length ≤ (I.flatMap G).length
  | i :: I, h => by
    rw [List.flatMap_cons, List.length_append]
    rcases List.mem_cons.1 h with e | e
    · subst e; omega
    · have := flat_len (G := G) e; omega
namespace Pl
theorem RI.len_le {s : RS} {f : Nat} (hf : f < 16) : (s.L f).length ≤ (waitR s).length := by
  have := flat_len (G := fun f => (s.L f).map key) (List.mem_range.2 hf)
  simpa [waitR] using this
theorem sumLen_bd {c : Int} (hc : 0 ≤ c) : ∀ l : List (Int × Int), (∀ x ∈ l, 0 ≤ x.2 ∧ x.2 ≤ c) → 0 ≤ sumLen l ∧ sumLen l ≤ c * l.length
  | [], _ => by simp [sumLen]
  | x :: l, h => by
    have h1 := sumLen_bd hc l fun y hy => h y (by simp [hy])
    have h2 := h x (by simp)
    rw [sumLen, List.length_cons]
    have e : c * ((l.length + 1 : Nat) : Int) = c * l.length + c := by rw [Int.natCast_add, Int.mul_add]; simp
    rw [e]
    omega
theorem RI.sum {s : RS} (h : RI s) : 0 ≤ sumLen (waitR s) ∧ sumLen (waitR s) ≤ 10000 * (waitR s).length :=
  sumLen_bd (by omega) _ fun x hx => by
    unfold waitR at hx
    obtain ⟨f, hf, hx⟩ := List.mem_flatMap.1 hx
    obtain ⟨y, hy, rfl⟩ := List.mem_map.1 hx
    have := h.b f (List.mem_range.1 hf) y hy
    exact ⟨this.1, this.2.1⟩
theorem RI.tl {s : RS} (h : RI s) : s.T.length ≤ 16 := nodup_lt 16 s.T h.nd fun x hx => (h.ne x hx).1
theorem rs0_ok : RI rs0 := ⟨by simp [rs0], fun f hf => by simp [rs0] at hf, fun f _ h => by simp [rs0] at h, fun f _ => by simp [rs0], fun f hf => by simp [rs0] at hf, fun h => by simp [rs0] at h, fun f _ x hx => by simp [rs0] at hx⟩
theorem waitR_rs0 : waitR rs0 = [] := by simp [waitR, rs0]
end Pl
/-- flows that take turns at block g -/
structure RInvM (base g : Nat) (Q : Nat → Int) (room : Int) (s : Pl.RS) (k : Nat) (F : Nat → Prop) (w : World) (cs : Array Value) (V : Nat → Value) (tv : Value) : Prop where
  d : Rds w base g cs V tv Q room s (Pl.sumLen (Pl.waitR s)) (Pl.waitR s).length
  ri : Pl.RI s
  n : (Pl.waitR s).length ≤ k
  bs : base ≤ w.heap.size
  k1 : k ≤ 1000
  bg : base ≤ g
  mF : ∀ i, F i ↔ (i = g ∨ RF V tv i)
def RInv1 (base g : Nat) (Q : Nat → Int) (room : Int) (s : Pl.RS) (k : Nat) (F : Nat → Prop) (w : World) : Prop := ∃ cs V tv, RInvM base g Q room s k F w cs V tv
section
variable {w w' : World} {base g k : Nat} {Q : Nat → Int} {room : Int} {s s' : Pl.RS} {F : Nat → Prop} {cs cs' : Array Value} {V V' : Nat → Value} {tv tv' : Value}
theorem RInvM.hds (h : RInvM base g Q room s k F w cs V tv) : ∀ f, f < 16 → HdsOk (s.L f) := fun f hf =>
  ⟨by have := Pl.RI.len_le (s := s) hf; have := h.n; have := h.k1; omega, fun x hx => by have := h.ri.b f hf x hx; omega⟩
theorem RInvM.lt (h : RInvM base g Q room s k F w cs V tv) : ∀ i, F i → base ≤ i ∧ i < w.heap.size := fun i hi => by
  rcases (h.mF i).1 hi with e | e
  · subst e; exact ⟨h.bg, h.d.blk.lt⟩
  · exact h.d.rlt i e
theorem RInvM.chg {S : Nat → Prop} (h : RInvM base g Q room s k F w cs V tv) (hc : Chg w w' S) (hn : ∀ i, F i → ¬ S i) : RInvM base g Q room s k F w' cs V tv :=
  ⟨h.d.chg hc (hn _ ((h.mF _).2 (.inl rfl))) (fun i hi => hn _ ((h.mF _).2 (.inr hi))), h.ri, h.n, Nat.le_trans h.bs hc.size, h.k1, h.bg, h.mF⟩
theorem RInvM.to (h : RInvM base g Q room s k F w cs V tv) {b' m' : Int} (hd : Rds w' base g cs' V' tv' Q room s' b' m') (ht : RTrn w w' g V tv V' tv') (hb : b' = Pl.sumLen (Pl.waitR s')) (hm : m' = (Pl.waitR s').length) (hri : Pl.RI s') {k' : Nat} (hn : (Pl.waitR s').length ≤ k') (hk : k' ≤ 1000) :
    ∃ F', RInv1 base g Q room s' k' F' w' ∧ Chg w w' F ∧ ∀ i, F' i → F i ∨ w.heap.size ≤ i := by
  subst hb hm
  refine ⟨fun i => i = g ∨ RF V' tv' i, ⟨cs', V', tv', hd, hri, hn, Nat.le_trans h.bs ht.chg.size, hk, h.bg, fun i => Iff.rfl⟩, ht.chg.mono (fun i _ hi => (h.mF i).2 hi), fun i hi => ?_⟩
  rcases hi with e | e
  · exact .inl ((h.mF i).2 (.inl e))
  · exact (ht.at_ i e).imp (fun e => (h.mF i).2 (.inr e)) id
end
theorem rnd_put_c (base g : Nat) (Q : Nat → Int) (room : Int) (s : Pl.RS) (k : Nat) (F : Nat → Prop) (w : World) (now : Int) (x : Hd) (hh : RInv1 base g Q room s k F w) (hk : k < 1000) (hx : Pl.okB x.it = true) :
    Calls Try.prog 30 #[.pointer (some ⟨g, 0, none⟩), .int .i64 now, hdV x] w (PutOut (RInv1 base g Q room) w F (k + 1) (Pl.putR room x s)) := by
  obtain ⟨cs, V, tv, h⟩ := hh
  have hfi := okB_fine.1 hx
  have hxl := okB_len hx
  have hf2 := hfi.f2
  have hf : x.it.flow.toNat < 16 := by omega
  have hxf : x.it.flow = (x.it.flow.toNat : Int) := by omega
  have hs := h.ri.sum; have hn := h.n; have htl := h.ri.tl
  refine (rndPut_any base g cs V tv Q room s _ _ now x w h.d hf hxf hxl h.bs (h.hds _ hf) (by omega) (by omega) (by omega)).mono fun e w' ho => ?_
  obtain ⟨A, c, b', m', cs', V', tv', e1, hr, ha, hd, ht, hcase⟩ := ho
  have hp := Pl.waitR_put (room := room) (s := s) (x := x) hf
  have hp1 := Pl.sumLen_perm hp
  have hp2 := hp.length_eq
  rw [Pl.sumLen_append, Pl.sumLen_append] at hp1
  rw [List.length_append, List.length_append, List.length_map] at hp2
  have hk1 : Pl.sumLen [Pl.key x] = x.it.len := by simp [Pl.sumLen, Pl.key]
  rw [hk1] at hp1
  simp only [List.length_cons, List.length_nil] at hp2
  have hbm : b' = Pl.sumLen (Pl.waitR (Pl.putR room x s).2) ∧ m' = (Pl.waitR (Pl.putR room x s).2).length := by
    rcases hcase with ⟨e2, e3, e4⟩ | ⟨e2, e3, e4⟩
    · rw [e2] at hp1 hp2
      simp only [List.map_cons, List.map_nil, List.length_cons, List.length_nil] at hp1 hp2
      rw [hk1] at hp1
      omega
    · rw [e2] at hp1 hp2
      simp only [List.map_nil, List.length_nil, Pl.sumLen] at hp1 hp2
      omega
  obtain ⟨F', g1, g2, g3⟩ := h.to hd ht hbm.1 hbm.2 (h.ri.put hx) (k' := k + 1) (by omega) (by omega)
  exact ⟨A, _, c, F', e1, by have := hr.len; show (Pl.putR room x s).1.length ≤ 100000; omega, hr, fun ad e => .inr (ha ad e), g1, g2, g3⟩
theorem rnd_take_c (base g : Nat) (Q : Nat → Int) (hQ : Pl.QOk Q) (room : Int) (s : Pl.RS) (k : Nat) (F : Nat → Prop) (w : World) (now : Int) (hh : RInv1 base g Q room s k F w) :
    Calls Try.prog 31 #[.pointer (some ⟨g, 0, none⟩), .int .i64 now] w (TakeOut (RInv1 base g Q room) w F k ((Pl.takeR Q (Pl.measR s + 1) s).1, [], (Pl.takeR Q (Pl.measR s + 1) s).2)) := by
  obtain ⟨cs, V, tv, h⟩ := hh
  have hs := h.ri.sum; have hn := h.n; have htl := h.ri.tl; have hk := h.k1
  refine (rndTake_any base g cs V tv Q room s _ _ now w h.d h.ri hQ h.bs h.hds (by omega) (by omega) (by omega)).mono fun e w' ho => ?_
  have hg := (Pl.fair_good Q hQ room).take s now h.ri
  obtain ⟨hgi, hgp⟩ := hg
  have hgi' : Pl.RI (Pl.takeR Q (Pl.measR s + 1) s).2 := hgi
  have hgp' : (Pl.waitR s).Perm ([] ++ ((Pl.takeR Q (Pl.measR s + 1) s).1.toList.map Pl.key ++ Pl.waitR (Pl.takeR Q (Pl.measR s + 1) s).2)) := hgp
  show TakeOut (RInv1 base g Q room) w F k ((Pl.takeR Q (Pl.measR s + 1) s).1, [], (Pl.takeR Q (Pl.measR s + 1) s).2) e w'
  clear hgi hgp
  generalize Pl.takeR Q (Pl.measR s + 1) s = R at *
  obtain ⟨hh, b', m', cs', V', tv', e1, e2, e3, hd, ht⟩ := ho
  have hp1 := Pl.sumLen_perm hgp'
  have hp2 := hgp'.length_eq
  rw [List.nil_append, Pl.sumLen_append] at hp1
  rw [List.nil_append, List.length_append, List.length_map] at hp2
  obtain ⟨xo, s'⟩ := R
  have hbm : b' = Pl.sumLen (Pl.waitR s') ∧ m' = (Pl.waitR s').length ∧ (Pl.waitR s').length ≤ (Pl.waitR s).length := by
    cases xo with
    | none =>
      obtain ⟨e4, e5⟩ := e3 rfl
      simp [Pl.sumLen] at hp1 hp2
      omega
    | some x =>
      obtain ⟨e4, e5, e6⟩ := e2 x rfl
      simp [Pl.sumLen, Pl.key] at hp1 hp2
      omega
  obtain ⟨F', g1, g2, g3⟩ := h.to hd ht hbm.1 hbm.2.1 hgi' (k' := k) (by omega) hk
  exact ⟨hh, none, 0, 0, F', e1, fun x hx => (e2 x hx).1, by omega, Reads.none_, fun ad e => (by cases e), g1, g2, g3⟩
theorem rnd_take_some (base g : Nat) (Q : Nat → Int) (hQ : Pl.QOk Q) (room : Int) (s : Pl.RS) (k : Nat) (F : Nat → Prop) (w : World) (now : Int) (hh : RInv1 base g Q room s k F w) (x : Hd) (hx : (Pl.takeR Q (Pl.measR s + 1) s).1 = some x) :
    Calls Try.prog 31 #[.pointer (some ⟨g, 0, none⟩), .int .i64 now] w fun e w' => ∃ A n c F', e = .returned (.tuple #[hdV x, .slice A n c, .bool true]) ∧ RInv1 base g Q room (Pl.takeR Q (Pl.measR s + 1) s).2 k F' w' ∧ Chg w w' F ∧ ∀ i, F' i → F i ∨ w.heap.size ≤ i := by
  refine (rnd_take_c base g Q hQ room s k F w now hh).mono ?_
  rintro e w' ⟨h1, A, n, c, F', e1, e2, _, _, _, h2, h3, h4⟩
  have e3 := e2 x hx
  subst e3
  refine ⟨A, n, c, F', ?_, h2, h3, h4⟩
  rw [e1]
  dsimp only
  rw [hx]
  rfl
theorem RInv1.facts {base g : Nat} {Q : Nat → Int} {room : Int} {s : Pl.RS} {k : Nat} {F : Nat → Prop} {w : World} (h : RInv1 base g Q room s k F w) : (∀ i, F i → base ≤ i ∧ i < w.heap.size) ∧ base ≤ w.heap.size := by
  obtain ⟨_, _, _, h⟩ := h
  exact ⟨h.lt, h.bs⟩
theorem rnd_imp (base g : Nat) (Q : Nat → Int) (hQ : Pl.QOk Q) (room : Int) : QImp (Pl.fairM Q room) (.iface 70 (.pointer (some ⟨g, 0, none⟩))) base (RInv1 base g Q room) where
  lt := fun s k F w ⟨cs, V, tv, h⟩ => h.lt
  base := fun s k F w ⟨cs, V, tv, h⟩ => h.bs
  chg := fun s k F w w' S ⟨cs, V, tv, h⟩ hc hn => ⟨cs, V, tv, h.chg hc hn⟩
  put := ⟨_, _, rnd_put_meth g, fun s k F w now x h hk hx => rnd_put_c base g Q room s k F w now x h hk hx.ok⟩
  take := ⟨_, _, rnd_take_meth g, fun s k F w now h h0 h1 => rnd_take_c base g Q hQ room s k F w now h⟩
  when_ := ⟨_, _, rnd_when_meth g, fun s k F w now ⟨cs, V, tv, h⟩ _ _ => by
    refine (rndWhen_any base g cs V tv Q room s _ _ now w h.d).mono fun e w' ⟨e1, q, e2⟩ => ?_
    subst e2
    have hb : Below w.heap.size w (w.drewN q) := bl_drewN (Below.refl _ _)
    refine ⟨now, F, ?_, ?_, ⟨cs, V, tv, h.chg (Chg.of_below (S := fun _ => False) hb) (fun _ _ h => h)⟩, Chg.of_below hb, fun i hi => .inl hi⟩
    · rw [e1]
      show Ending.returned (.tuple #[.int .i64 now, .bool (decide ((0 : Int) < ((Pl.waitR s).length : Int)))]) = .returned (.tuple #[.int .i64 now, .bool (if 0 < (Pl.waitR s).length then some now else none).isSome])
      by_cases h0 : 0 < (Pl.waitR s).length
      · rw [if_pos h0, decide_eq_true (by omega)]; rfl
      · rw [if_neg h0, decide_eq_false (by omega)]; rfl
    · intro x hx
      have hx' : (if 0 < (Pl.waitR s).length then some now else none) = some x := hx
      by_cases h0 : 0 < (Pl.waitR s).length
      · rw [if_pos h0] at hx'; injection hx'
      · rw [if_neg h0] at hx'; cases hx'⟩
  len := ⟨_, _, rnd_len_meth g, fun s k F w ⟨cs, V, tv, h⟩ => (rndLen_any base g cs V tv Q room s _ _ w h.d).mono fun e w' ⟨e1, e2⟩ => ⟨e1, by subst e2; exact Below.refl _ _⟩⟩
  bytes := ⟨_, _, rnd_bytes_meth g, fun s k F w ⟨cs, V, tv, h⟩ => (rndBytes_any base g cs V tv Q room s _ _ w h.d).mono fun e w' ⟨e1, e2⟩ => ⟨e1, by subst e2; exact Below.refl _ _⟩⟩
end Go.Proofs.Ythhgbpbaihgogaa
