/-
  Texts of this claim, one behind the other: PkRead, PlW, PlRounds, PlBands.
-/
import Derived.Test.YtgdijbaodfghjaaGreatDoorZ31
import Derived.Test.YtgdijbaodfghjaaGreatDoorZ09
/-
  Plain law of plant.one: which queue the words from a place on tell. No memory.
-/
namespace Go.Proofs.YtgdijbaodfghjaaGreatDoor
open Go.RowKit Bkt
set_option linter.unusedVariables false
def sFifo : ByteArray := ⟨#[102, 105, 102, 111]⟩
def sHead : ByteArray := ⟨#[104, 101, 97, 100]⟩
def sRed : ByteArray := ⟨#[114, 101, 100]⟩
def sMark : ByteArray := ⟨#[109, 97, 114, 107]⟩
def sDelay : ByteArray := ⟨#[100, 101, 108, 97, 121]⟩
def sHashed : ByteArray := ⟨#[104, 97, 115, 104, 101, 100]⟩
def sRounds : ByteArray := ⟨#[114, 111, 117, 110, 100, 115]⟩
def sShape : ByteArray := ⟨#[115, 104, 97, 112, 101]⟩
def sBands : ByteArray := ⟨#[98, 97, 110, 100, 115]⟩
def sOpen : ByteArray := ⟨#[40]⟩
def sShut : ByteArray := ⟨#[41]⟩
def sComma : ByteArray := ⟨#[44]⟩
def quantaF (ws : List ByteArray) : Nat → Nat → List Int → Option (List Int × Nat)
  | 0, _, _ => none
  | f + 1, a, acc => if ws[a]? = some sShut then some (acc, a + 1) else match numAt ws a with
    | none => none
    | some v => quantaF ws f (a + 1) (acc ++ [v])
def roundsP (ws : List ByteArray) (a : Nat) : Option (Pk × Nat) := match numAt ws a with
  | none => none
  | some room => if ws[a + 1]? = some sOpen then (match quantaF ws (ws.length + 1) (a + 2) [] with
    | none => none
    | some (zs, a2) => (mkRnd room zs).map fun P => (P, a2)) else none
def bandsF (ws : List ByteArray) (rec_ : Nat → Nat → Option (Pk × Nat × Nat)) : Nat → Nat → Nat → List Pk → Option (List Pk × Nat × Nat)
  | 0, _, _, _ => none
  | f + 1, a, m, acc => match rec_ a m with
    | none => none
    | some (P, a2, m2) => if ws[a2]? = some sShut then some (acc ++ [P], a2 + 1, m2) else if ws[a2]? = some sComma then bandsF ws rec_ f (a2 + 1) m2 (acc ++ [P]) else none
def bandsP (ws : List ByteArray) (rec_ : Nat → Nat → Option (Pk × Nat × Nat)) (a m : Nat) : Option (Pk × Nat × Nat) :=
  if ws[a]? = some sOpen then (match bandsF ws rec_ 21 (a + 1) m [] with
    | none => none
    | some (l, a2, m2) => (mkMix l).map fun P => (P, a2, m2)) else none
def shapeP (ws : List ByteArray) (rec_ : Nat → Nat → Option (Pk × Nat × Nat)) (a m : Nat) : Option (Pk × Nat × Nat) := match numsAt ws a 3 with
  | none => none
  | some n => match rec_ (a + 3) m with
    | none => none
    | some (P, a2, m2) => (mkShp ⟨n.getD 0 0, n.getD 1 0, n.getD 2 0⟩ P).map fun P => (P, a2, m2)
def afterN (ws : List ByteArray) (a k m : Nat) (f : List Int → Option Pk) : Option (Pk × Nat × Nat) := match numsAt ws a k with
  | none => none
  | some n => (f n).map fun P => (P, a + k, m)
def armP (tape : List Int) (ws : List ByteArray) (rec_ : Nat → Nat → Option (Pk × Nat × Nat)) (a m : Nat) : Option (Pk × Nat × Nat) :=
  if ws[a]? = some sFifo then afterN ws (a + 1) 2 m fun n => mkFifo (n.getD 0 0) (n.getD 1 0) false
  else if ws[a]? = some sHead then afterN ws (a + 1) 2 m fun n => mkFifo (n.getD 0 0) (n.getD 1 0) true
  else if ws[a]? = some sRed then afterN ws (a + 1) 6 m fun n => mkRed ⟨n.getD 0 0, n.getD 1 0, n.getD 2 0, n.getD 3 0, false⟩ (n.getD 4 0) (n.getD 5 0) tape
  else if ws[a]? = some sMark then afterN ws (a + 1) 6 m fun n => mkRed ⟨n.getD 0 0, n.getD 1 0, n.getD 2 0, n.getD 3 0, true⟩ (n.getD 4 0) (n.getD 5 0) tape
  else if ws[a]? = some sDelay then afterN ws (a + 1) 3 m fun n => mkDel (n.getD 0 0) (n.getD 1 0) (n.getD 2 0)
  else if ws[a]? = some sHashed then afterN ws (a + 1) 3 m fun n => mkHsh (n.getD 0 0) (n.getD 1 0) (n.getD 2 0)
  else if ws[a]? = some sRounds then (roundsP ws (a + 1)).map fun P => (P.1, P.2, m)
  else if ws[a]? = some sShape then shapeP ws rec_ (a + 1) m
  else if ws[a]? = some sBands then bandsP ws rec_ (a + 1) m
  else none
def oneP (tape : List Int) (ws : List ByteArray) : Nat → Nat → Nat → Option (Pk × Nat × Nat)
  | 0, _, _ => none
  | d + 1, a, m => if 20 ≤ m then none else armP tape ws (oneP tape ws d) a (m + 1)
def parseP (tape : List Int) (ws : List ByteArray) : Option Pk := match oneP tape ws 8 0 0 with
  | none => none
  | some (P, a, _) => if a < ws.length then none else some P

/-! how many there are -/
def RecOk (rec_ : Nat → Nat → Option (Pk × Nat × Nat)) : Prop := ∀ a m P a2 m2, rec_ a m = some (P, a2, m2) → m < m2 ∧ m2 ≤ 20
theorem bandsF_ok {ws : List ByteArray} {rec_ : Nat → Nat → Option (Pk × Nat × Nat)} (hr : RecOk rec_) : ∀ (f a m : Nat) (acc : List Pk) {l : List Pk} {a2 m2 : Nat}, bandsF ws rec_ f a m acc = some (l, a2, m2) → m < m2 ∧ m2 ≤ 20
  | 0, a, m, acc, l, a2, m2, h => by cases h
  | f + 1, a, m, acc, l, a2, m2, h => by
    unfold bandsF at h
    cases hc : rec_ a m with
    | none => rw [hc] at h; cases h
    | some x =>
      obtain ⟨P, a3, m3⟩ := x
      have h1 := hr _ _ _ _ _ hc
      rw [hc] at h
      dsimp only at h
      split at h
      · injection h with h; injection h with _ h; injection h with _ h; omega
      · split at h
        · have := bandsF_ok hr f _ _ _ h; omega
        · cases h
theorem map_some' {α : Type _} {β : Type _} {o : Option α} {f : α → β} {b : β} (h : o.map f = some b) : ∃ a, o = some a ∧ f a = b := by
  cases o with
  | none => cases h
  | some a => exact ⟨a, rfl, by injection h⟩
theorem armP_ok {tape : List Int} {ws : List ByteArray} {rec_ : Nat → Nat → Option (Pk × Nat × Nat)} (hr : RecOk rec_) {a m : Nat} {P : Pk} {a2 m2 : Nat} (h : armP tape ws rec_ a m = some (P, a2, m2)) (hm : m ≤ 20) : m ≤ m2 ∧ m2 ≤ 20 := by
  have ha : ∀ {k n : Nat} {f : List Int → Option Pk}, afterN ws k n m f = some (P, a2, m2) → m ≤ m2 ∧ m2 ≤ 20 := fun {k n f} h => by
    unfold afterN at h
    split at h
    · cases h
    · obtain ⟨x, _, h⟩ := map_some' h
      injection h with _ h; injection h with _ h; omega
  unfold armP at h
  repeat' (split at h)
  all_goals first | exact ha h | skip
  · obtain ⟨x, _, h⟩ := map_some' h
    injection h with _ h; injection h with _ h; omega
  · unfold shapeP at h
    split at h
    · cases h
    · split at h
      · cases h
      · rename_i hc
        have := hr _ _ _ _ _ hc
        obtain ⟨x, _, h⟩ := map_some' h
        injection h with _ h; injection h with _ h; omega
  · unfold bandsP at h
    split at h
    · split at h
      · cases h
      · rename_i hc
        have := bandsF_ok hr _ _ _ _ hc
        obtain ⟨x, _, h⟩ := map_some' h
        injection h with _ h; injection h with _ h; omega
    · cases h
  · cases h
theorem oneP_ok (tape : List Int) (ws : List ByteArray) : ∀ d, RecOk (oneP tape ws d)
  | 0, a, m, P, a2, m2, h => by cases h
  | d + 1, a, m, P, a2, m2, h => by
    unfold oneP at h
    split at h
    · cases h
    · have := armP_ok (oneP_ok tape ws d) h (by omega); omega

/-! told late: then a shaper was made -/
def RecLate (ws : List ByteArray) (rec_ : Nat → Nat → Option (Pk × Nat × Nat)) : Prop := ∀ a m P a2 m2, rec_ a m = some (P, a2, m2) → P.late = true → sShape ∈ ws
end Go.Proofs.YtgdijbaodfghjaaGreatDoor

/-
  plant's reader, with its tape: what take, fail, number, numbers and made do; what one hands out.
-/
namespace Go.Proofs.YtgdijbaodfghjaaGreatDoor
open Go.RowKit Bkt
set_option linter.unusedVariables false
structure PRc where
  Aw : Option Addr
  cw : Nat
  Ap : Option Addr
  cp : Nat
  ws : List ByteArray
  ps : List Int
  end_ : Int
  At : Option Addr
  ct : Nat
  tape : List Int
structure RdW (c : PRc) (w : World) (g at_ m : Nat) : Prop where
  rd : RdrM w g c.Aw c.cw c.Ap c.cp c.ws c.ps at_ c.end_ (.slice c.At c.tape.length c.ct) m
  pv : Pv w
  tp : RdI w w.heap.size c.At c.tape.length c.tape
  tn : 0 < c.tape.length → ∀ ad, c.At = some ad → ad.block ≠ g
  g6 : 6 ≤ g
  sz : ∀ s ∈ c.ws, s.size ≤ 2000
  tl : c.tape.length ≤ 1000
theorem RdI.chg2 {w w' : World} {S : Nat → Prop} {B n : Nat} {A : Option Addr} {zs : List Int} (h : RdI w B A n zs) (hB : B ≤ w.heap.size) (hc : Chg w w' S) (hn : 0 < n → ∀ ad, A = some ad → ¬ S ad.block) : RdI w' B A n zs := by
  rcases Nat.eq_zero_or_pos n with e | e
  · exact ⟨h.1, fun h0 => absurd h0 (by omega)⟩
  · exact h.chg hB hc (hn e)
section
variable {c : PRc} {w w' : World} {g at_ at1 m m1 : Nat}
theorem RdW.to (h : RdW c w g at_ m) (hr : RdrM w' g c.Aw c.cw c.Ap c.cp c.ws c.ps at1 c.end_ (.slice c.At c.tape.length c.ct) m1) (hc : Chg w w' (fun i => i = g)) : RdW c w' g at1 m1 :=
  ⟨hr, h.pv.chg hc (fun i e => by have := h.g6; omega), (h.tp.chg2 (Nat.le_refl _) hc (fun h0 ad e hg => h.tn h0 ad e hg)).more hc.size, h.tn, h.g6, h.sz, h.tl⟩
theorem RdW.below (h : RdW c w g at_ m) (hb : Below w.heap.size w w') : RdW c w' g at_ m := h.to (h.rd.below hb) (Chg.of_below hb)
theorem RdW.sz6 (h : RdW c w g at_ m) : 6 ≤ w.heap.size := h.pv.sz
theorem RdW.glt (h : RdW c w g at_ m) : g < w.heap.size := h.rd.blk.lt
end
def TakeW (c : PRc) (w : World) (g at_ m : Nat) (s : ByteArray) (e : Ending) (w' : World) : Prop :=
  (c.ws[at_]? = some s ∧ e = .returned (.bool true) ∧ Hid (RdW c w' g (at_ + 1) m ∧ Chg w w' (fun i => i = g))) ∨
  (c.ws[at_]? ≠ some s ∧ e = .returned (.bool false) ∧ Hid (RdW c w' g at_ m ∧ Chg w w' (fun i => i = g)))
theorem take_w (c : PRc) (g at_ m : Nat) (s : ByteArray) (w : World) (h : RdW c w g at_ m) : Calls Tryz.prog 31 #[.pointer (some ⟨g, 0, none⟩), .string s] w (TakeW c w g at_ m s) := by
  refine (take_rd g c.Aw c.cw c.Ap c.cp c.ws c.ps at_ c.end_ _ m s w h.rd).mono ?_
  rintro e w' (⟨h1, h2, h3⟩ | ⟨h1, h2, h3⟩)
  · exact .inl ⟨h1, h2, Lib.hid ⟨h.to h3.out.1 h3.out.2, h3.out.2⟩⟩
  · exact .inr ⟨h1, h2, Lib.hid ⟨h.to h3.out.1 h3.out.2, h3.out.2⟩⟩
theorem take_l (c : PRc) (g at_ m : Nat) (s r : ByteArray) (e : s = r) (w : World) (h : RdW c w g at_ m) : Calls Tryz.prog 31 #[.pointer (some ⟨g, 0, none⟩), .string r] w (TakeW c w g at_ m s) := by
  subst e; exact take_w c g at_ m s w h
def FailW (w : World) (e : Ending) (w' : World) : Prop := ∃ q : Nat, e = .returned (.iface 113 (.pointer (some ⟨q, 0, none⟩))) ∧ Below w.heap.size w w'
theorem fail_w (c : PRc) (g at_ m : Nat) (k : Int) (w : World) (h : RdW c w g at_ m) : Calls Tryz.prog 23 #[.pointer (some ⟨g, 0, none⟩), .int .i64 k] w (FailW w) := by
  refine (fail_rd g c.Aw c.cw c.Ap c.cp c.ws c.ps at_ c.end_ _ m k w h.rd).mono ?_
  rintro e w' ⟨q, rfl, _, _, hb⟩
  exact ⟨q, rfl, hb⟩
def NumW (c : PRc) (w : World) (g at_ m : Nat) (e : Ending) (w' : World) : Prop :=
  (∃ v, numAt c.ws at_ = some v ∧ e = .returned (.tuple #[.int .i64 v, .nilIface]) ∧ Hid (RdW c w' g (at_ + 1) m ∧ Chg w w' (fun i => i = g))) ∨
  (numAt c.ws at_ = none ∧ ∃ q : Nat, e = .returned (.tuple #[.int .i64 0, .iface 113 (.pointer (some ⟨q, 0, none⟩))]) ∧ Below w.heap.size w w')
theorem number_w (c : PRc) (g at_ m : Nat) (w : World) (h : RdW c w g at_ m) : Calls Tryz.prog 42 #[.pointer (some ⟨g, 0, none⟩)] w (NumW c w g at_ m) := by
  refine (number_rd g c.Aw c.cw c.Ap c.cp c.ws c.ps at_ c.end_ _ m w h.rd h.pv h.sz).mono ?_
  rintro e w' (⟨v, h1, h2, h3⟩ | ⟨h1, q, h2, h3⟩)
  · exact .inl ⟨v, h1, h2, Lib.hid ⟨h.to h3.out.1 h3.out.2, h3.out.2⟩⟩
  · exact .inr ⟨h1, q, h2, h3.out.2.2⟩
def NumsW (c : PRc) (w : World) (g at_ m n : Nat) (e : Ending) (w' : World) : Prop :=
  (∃ vs b cc, numsAt c.ws at_ n = some vs ∧ e = .returned (.tuple #[.slice (some ⟨b, 0, none⟩) n cc, .nilIface]) ∧ Hid ((∀ i, i < n → w'.cell? ⟨b, i, none⟩ = some (.int .i64 (vs.getD i 0))) ∧ b < w'.heap.size ∧ w.heap.size ≤ b ∧ RdW c w' g (at_ + n) m ∧ Chg w w' (fun i => i = g))) ∨
  (numsAt c.ws at_ n = none ∧ ∃ q : Nat, e = .returned (.tuple #[.slice none 0 0, .iface 113 (.pointer (some ⟨q, 0, none⟩))]) ∧ Hid (Chg w w' (fun i => i = g)))
theorem numbers_w (c : PRc) (g at_ m n : Nat) (hn : n ≤ 10) (hn0 : 1 ≤ n) (w : World) (h : RdW c w g at_ m) : Calls Tryz.prog 32 #[.pointer (some ⟨g, 0, none⟩), .int .i64 n] w (NumsW c w g at_ m n) := by
  refine (numbers_rd g c.Aw c.cw c.Ap c.cp c.ws c.ps at_ c.end_ _ m n hn w h.rd h.g6 h.pv h.sz).mono ?_
  rintro e w' (⟨vs, v, h1, h2, h3⟩ | ⟨h1, q, p, h2, h3⟩)
  · obtain ⟨hown, hrd, hc⟩ := h3.out
    have hvl := numsAt_len h1
    rcases hown.2 with ⟨rfl, h0⟩ | ⟨b, cap, cur, rfl, hb, hblk, hcap, _, hcs, htk⟩
    · omega
    · refine .inl ⟨vs, b, cap, h1, h2, Lib.hid ⟨fun i hi => ?_, ?_, hb, h.to hrd hc, hc⟩⟩
      · have e1 : (cur.toList.take (n * 1))[i]? = (vs.map (Value.int .i64))[i]? := by rw [htk]
        rw [List.getElem?_take, if_pos (by omega)] at e1
        have hcell := (show Blk w' b 3 cur from hblk).cell i
        rw [hcell, ← Array.getElem?_toList, e1, List.getElem?_map, List.getElem?_eq_getElem (by omega), List.getD, List.getElem?_eq_getElem (by omega)]
        rfl
      · exact (Array.getElem?_eq_some_iff.1 hblk).1
  · exact .inr ⟨h1, q, h2, Lib.hid h3.out.2.2⟩
theorem numbers_l (c : PRc) (g at_ m n : Nat) (z : Int) (hz : z = n) (hn : n ≤ 10) (hn0 : 1 ≤ n) (w : World) (h : RdW c w g at_ m) : Calls Tryz.prog 32 #[.pointer (some ⟨g, 0, none⟩), .int .i64 z] w (NumsW c w g at_ m n) := by
  subst hz; exact numbers_w c g at_ m n hn hn0 w h
def OneEnd (c : PRc) (w : World) (g : Nat) (res : Option (Pk × Nat × Nat)) (e : Ending) (w' : World) : Prop :=
  (∃ P a2 m2 v F, res = some (P, a2, m2) ∧ e = .returned (.tuple #[v, .nilIface]) ∧ QV v ∧ Hid (RdW c w' g a2 m2 ∧ Chg w w' (fun i => i = g) ∧ PkM P v 6 F w' ∧ ∀ i, F i → w.heap.size ≤ i)) ∨
  (res = none ∧ ∃ T x, e = .returned (.tuple #[.nilIface, .iface T x]) ∧ Hid (Chg w w' (fun i => i = g)))
theorem RdrM.over2 {w w1 w' : World} {g : Nat} {Aw : Option Addr} {cw : Nat} {Ap : Option Addr} {cp : Nat} {ws : List ByteArray} {ps : List Int} {at_ at1 : Nat} {end_ : Int} {vt : Value} {many many1 : Int}
    (h : RdrM w g Aw cw Ap cp ws ps at_ end_ vt many) (hc : Chg w w1 (fun i => i = g)) (h1 : RdrM w1 g Aw cw Ap cp ws ps at1 end_ vt many1) (hb : Below w.heap.size w1 w') : RdrM w' g Aw cw Ap cp ws ps at1 end_ vt many1 := by
  have hc' := chg_below hc hb
  refine ⟨h1.blk.below hb h.blk.lt, ?_, ?_, h.nw, h.np, h1.le, h.n⟩
  · have := h.rw_.chg (Nat.le_refl _) hc' (fun b off e hg => h.nw _ e hg)
    exact this.more hc'.size
  · have := h.rp.chg (Nat.le_refl _) hc' (fun ad e hg => h.np ad e hg)
    exact this.more hc'.size
theorem RdW.over {c : PRc} {w w1 w' : World} {g at_ at1 m m1 : Nat} (h : RdW c w g at_ m) (hc : Chg w w1 (fun i => i = g)) (h1 : RdW c w1 g at1 m1) (hb : Below w.heap.size w1 w') : RdW c w' g at1 m1 :=
  h.to (h.rd.over2 hc h1.rd hb) (chg_below hc hb)
theorem own_ge {w : World} {base e size n : Nat} {v : Value} {xs : List Value} (h : w.ownsRow base e size v n xs) : ∀ g, v.ownBlock = some g → base ≤ g := by
  intro g hg
  rcases h.2 with ⟨rfl, _⟩ | ⟨gq, cap, cur, rfl, hge, _⟩
  · simp [Value.ownBlock] at hg
  · simp [Value.ownBlock] at hg; omega
theorem made_n (c : PRc) (g at_ m k : Nat) (q : Value) (er : Int) (w : World) (h : RdW c w g at_ m) (hk : k < c.ws.length) :
    Calls Tryz.prog 33 #[.pointer (some ⟨g, 0, none⟩), .int .i64 k, q, .iface 69 (.int .i64 er)] w fun e w' => ∃ n : Nat, e = .returned (.tuple #[.nilIface, .iface 113 (.pointer (some ⟨n, 0, none⟩))]) ∧ Below w.heap.size w w' := by
  refine (made_no g c.Aw c.cw c.Ap c.cp c.ws c.ps at_ c.end_ _ m k q er w h.rd hk h.pv).mono ?_
  rintro e w' ⟨q, rfl, _, _, hb⟩
  exact ⟨q, rfl, hb⟩
end Go.Proofs.YtgdijbaodfghjaaGreatDoor

/-
  plant's reader: rounds.
-/
namespace Go.Proofs.YtgdijbaodfghjaaGreatDoor
open Go.RowKit Bkt
set_option linter.unusedVariables false
theorem Chg.in1 {w w1 w' : World} {S : Nat → Prop} (h : Chg w w1 S) (hb : Below w.heap.size w1 w') : Chg w w' S := chg_below h hb
def atOf (g : Nat) (w : World) : Nat := match w.cell? ⟨g, 2, none⟩ with
  | some (.int _ n) => n.toNat
  | _ => 0
theorem RdW.atOf {c : PRc} {w : World} {g k m : Nat} (h : RdW c w g k m) : atOf g w = k := by
  have := h.rd.blk.cell 2
  simp at this
  unfold Go.Proofs.YtgdijbaodfghjaaGreatDoor.atOf
  rw [this]
  simp
theorem numAt_lt {ws : List ByteArray} {a : Nat} {v : Int} (h : numAt ws a = some v) : a < ws.length := by
  unfold numAt at h
  rcases Nat.lt_or_ge a ws.length with h1 | h1
  · exact h1
  · rw [List.getElem?_eq_none h1] at h; cases h
structure QuR (c : PRc) (w : World) (g m : Nat) (res : Option (Pk × Nat × Nat)) (room : Int) (wr : World) (k f : Nat) (zs : List Int) (v : Value) : Prop where
  rd : RdW c wr g k m
  own : wr.ownsRow w.heap.size 3 1 v zs.length (zs.map (Value.int .i64))
  chg : Chg w wr (fun i => i = g)
  fu : c.ws.length < k + f
  zl : zs.length ≤ k
  res : res = (match quantaF c.ws f k zs with
    | none => none
    | some (zs, a2) => (mkRnd room zs).map fun P => (P, a2, m))
set_option maxHeartbeats 4000000 in
set_option maxRecDepth 100000 in
theorem rounds_w (c : PRc) (g k0 k m : Nat) (w : World) (h : RdW c w g k m) (hk0 : k0 < c.ws.length) :
    Calls Tryz.prog 37 #[.pointer (some ⟨g, 0, none⟩), .int .i64 k0] w (OneEnd c w g ((roundsP c.ws k).map fun P => (P.1, P.2, m))) := by
  have hnum := number_w c g k m w h
  obtain ⟨res, hres⟩ : ∃ res, ((roundsP c.ws k).map fun P => (P.1, P.2, m)) = res := ⟨_, rfl⟩
  rw [hres]
  have HN := Lib.hid hnum; have HRES := Lib.hid hres; have H := Lib.hid h
  have hg6 := h.g6
  have hgl := h.glt
  clear hnum hres h
  go_enter Tryz.func37, Tryz.ntmps37
  go_wp2_with fail
  (with_reducible refine HN.out.mono ?_)
  rintro e w1 (⟨room, hroom, rfl, h1⟩ | ⟨hno, q, rfl, hb⟩)
  rotate_left
  · have hre : res = none := by rw [← HRES.out]; unfold roundsP; rw [hno]; rfl
    have HRE := Lib.hid hre
    have HB := Lib.hid hb
    clear hre hno hb
    go_wp2_with fail
    go_ret2
    exact .inr ⟨HRE.out, _, _, rfl, Lib.hid (Chg.of_below HB.out)⟩
  have htk := take_l c g (k + 1) m sOpen ⟨#[40]⟩ rfl w1 h1.out.1
  have HT := Lib.hid htk; have HC1 := Lib.hid h1.out.2; have HRM := Lib.hid hroom; have H1 := Lib.hid h1.out.1
  clear htk h1 HN hroom
  go_wp2_with fail
  (with_reducible refine HT.out.mono ?_)
  rintro e w2 (⟨hop, rfl, h2⟩ | ⟨hop, rfl, h2⟩)
  rotate_left
  · have hre : res = none := by rw [← HRES.out]; unfold roundsP; rw [HRM.out]; dsimp only; rw [if_neg hop]; rfl
    have hf := fail_w c g (k + 1) m 3 w2 h2.out.1
    have HRE := Lib.hid hre; have HF := Lib.hid hf; have HC2 := Lib.hid (HC1.out.trans h2.out.2 (fun i _ e => e))
    clear hre hf hop h2
    go_wp2_with fail
    (with_reducible refine HF.out.mono ?_)
    rintro e w3 ⟨q, rfl, hb⟩
    have HB := Lib.hid hb
    clear hb
    go_wp2_with fail
    go_ret2
    exact .inr ⟨HRE.out, _, _, rfl, Lib.hid (HC2.out.trans (Chg.of_below HB.out) (fun i _ e => e))⟩
  have hq : QuR c w g m res room w2 (k + 2) (c.ws.length + 1) [] (.slice none 0 0) := by
    refine ⟨h2.out.1, World.ownsRow_nil _ _ _ _, HC1.out.trans h2.out.2 (fun i _ e => e), by omega, Nat.zero_le _, ?_⟩
    rw [← HRES.out]
    unfold roundsP
    rw [HRM.out]
    dsimp only
    rw [if_pos hop]
    cases quantaF c.ws (c.ws.length + 1) (k + 2) [] with
    | none => rfl
    | some x => obtain ⟨zs, a2⟩ := x; dsimp only; cases mkRnd room zs <;> rfl
  have HQ := Lib.hid hq
  clear hq hop h2 HT HRM HRES HC1 H1
  go_wp2_with fail
  go_loopw [8] (fun v wr => ∃ (k1 f : Nat) (zs : List Int), Hid (QuR c w g m res room wr k1 f zs v)) (fun _ wr => c.ws.length - atOf g wr)
  case atStart => exact ⟨k + 2, _, [], HQ.out⟩
  case round =>
    obtain ⟨k1, f, zs, hq⟩ := hrel
    have htk := take_l c g k1 m sShut ⟨#[41]⟩ rfl wr hq.out.rd
    have HT := Lib.hid htk; have HR := Lib.hid hq.out
    clear htk hq HQ
    obtain ⟨f2, rfl⟩ : ∃ f2, f = f2 + 1 := ⟨f - 1, by have h1 := HR.out.fu; have h2 := HR.out.rd.rd.le; omega⟩
    go_wp2_with fail
    (with_reducible refine HT.out.mono ?_)
    rintro e w3 (⟨hsh, rfl, h3⟩ | ⟨hsh, rfl, h3⟩)
    · -- the end of the list
      have hre : res = (mkRnd room zs).map fun P => (P, k1 + 1, m) := by
        rw [HR.out.res]; unfold quantaF; rw [if_pos hsh]
      have hown3 := ownsRow_chg HR.out.own h3.out.2 (fun g' e he => by have := own_ge HR.out.own g' e; omega)
      obtain ⟨A, cc, rfl, hrd⟩ := own_reads hown3
      have hle := HR.out.rd.rd.le
      have hn2 := HR.out.rd.rd.n
      have hzl := HR.out.zl
      have hmd := made_rnd room A zs.length cc zs w3 hrd (by omega) h3.out.1.sz6
      have HMD := Lib.hid hmd; have HRE := Lib.hid hre; have H3 := Lib.hid h3.out.1; have HC3 := Lib.hid (HR.out.chg.trans h3.out.2 (fun i _ e => e))
      clear hmd hre hown3 hrd h3 hsh HT HR hzl hle hn2
      go_wp2_with fail
      (with_reducible refine HMD.out.mono ?_)
      rintro e w4 (⟨P, g2, F, hmk, rfl, h4⟩ | ⟨hmk, er, rfl, hb4⟩)
      · have hmw := made_ok g k0 (.iface 127 (.pointer (some ⟨g2, 0, none⟩))) w4
        have HMW := Lib.hid hmw; have HMK := Lib.hid hmk
        clear hmw hmk
        go_wp2_with fail
        (with_reducible refine HMW.out.mono ?_)
        rintro e w5 ⟨rfl, rfl⟩
        go_wp2_with fail
        go_ret2
        exact .inl ⟨P, k1 + 1, m, _, F, by rw [HRE.out, HMK.out]; rfl, rfl, ⟨_, _, rfl⟩, Lib.hid ⟨H3.out.below h4.out.2.1, HC3.out.trans (Chg.of_below h4.out.2.1) (fun i _ e => e), h4.out.1, fun i hi => (h4.out.2.2 i hi).elim False.elim (fun h => Nat.le_trans HC3.out.size h)⟩⟩
      · have hmw := made_n c g (k1 + 1) m k0 (.iface 127 (.pointer none)) er w4 (H3.out.below hb4) hk0
        have HMW := Lib.hid hmw; have HMK := Lib.hid hmk; have HB4 := Lib.hid hb4
        clear hmw hmk hb4
        go_wp2_with fail
        (with_reducible refine HMW.out.mono ?_)
        rintro e w5 ⟨q, rfl, hb5⟩
        have HB5 := Lib.hid hb5
        clear hb5
        go_wp2_with fail
        go_ret2
        exact .inr ⟨by rw [HRE.out, HMK.out]; rfl, _, _, rfl, Lib.hid (HC3.out.trans (Chg.of_below (HB4.out.trans (HB5.out.mono HB4.out.size))) (fun i _ e => e))⟩
    · have hnum := number_w c g k1 m w3 h3.out.1
      have HN := Lib.hid hnum; have HC3 := Lib.hid (HR.out.chg.trans h3.out.2 (fun i _ e => e)); have HSH := Lib.hid hsh; have H3 := Lib.hid h3.out
      clear hnum hsh h3 HT
      go_wp2_with fail
      (with_reducible refine HN.out.mono ?_)
      rintro e w4 (⟨v1, hv1, rfl, h4⟩ | ⟨hno, q, rfl, hb⟩)
      · have hc34 : Chg wr w4 (fun i => i = g) := H3.out.2.trans h4.out.2 (fun i _ e => e)
        have hown4 := ownsRow_chg HR.out.own hc34 (fun g' e he => by have := own_ge HR.out.own g' e; omega)
        have hob := own_ge hown4
        have hsz : w.heap.size ≤ w4.heap.size := (HC3.out.trans h4.out.2 (fun i _ e => e)).size
        have hlt := numAt_lt hv1
        have hzl := HR.out.zl
        have hn2 := HR.out.rd.rd.n
        have HC4 := Lib.hid (HC3.out.trans h4.out.2 (fun i _ e => e)); have H4 := Lib.hid h4.out.1; have HV1 := Lib.hid hv1
        clear h4 hc34 hob hv1 HN
        have hz1 : zs.length < 2000 := by omega
        clear hzl hn2
        go_wp2_with (at_builtin; refine wpList_pushI rfl _ _ _ Tryz.underlying26 rfl w.heap.size _ zs.length zs v1 hown4 rfl rfl (by omega) hsz ?_; intro v' w' hown' hg' hb')
        have hq5 : QuR c w g m res room w' (k1 + 1) f2 (zs ++ [v1]) v' := by
          refine ⟨H.out.over HC4.out H4.out hb', by rw [List.length_append, List.length_singleton]; exact hown', chg_below HC4.out hb', by have := HR.out.fu; omega, by have := HR.out.zl; rw [List.length_append, List.length_singleton]; omega, ?_⟩
          rw [HR.out.res]
          conv => lhs; unfold quantaF
          rw [if_neg HSH.out, HV1.out]
        refine ⟨⟨k1 + 1, f2, zs ++ [v1], Lib.hid hq5⟩, ?_⟩
        rw [hq5.rd.atOf, HR.out.rd.atOf]
        omega
      · have hre : res = none := by
          rw [HR.out.res]; unfold quantaF; rw [if_neg HSH.out, hno]
        have HRE := Lib.hid hre; have HB := Lib.hid hb
        clear hre hno hb
        go_wp2_with fail
        go_ret2
        exact .inr ⟨HRE.out, _, _, rfl, Lib.hid (HC3.out.trans (Chg.of_below HB.out) (fun i _ e => e))⟩
end Go.Proofs.YtgdijbaodfghjaaGreatDoor

/-
  plant's reader: bands, over a reader of one queue.
-/
namespace Go.Proofs.YtgdijbaodfghjaaGreatDoor
open Go.RowKit Bkt
set_option linter.unusedVariables false
def mOf (g : Nat) (w : World) : Nat := match w.cell? ⟨g, 5, none⟩ with
  | some (.int _ n) => n.toNat
  | _ => 0
theorem RdW.mOf {c : PRc} {w : World} {g k m : Nat} (h : RdW c w g k m) : mOf g w = m := by
  have := h.rd.blk.cell 5
  simp at this
  unfold Go.Proofs.YtgdijbaodfghjaaGreatDoor.mOf
  rw [this]
  simp
abbrev RecC (c : PRc) (g d : Nat) : Prop := ∀ k m W, RdW c W g k m → m ≤ 20 → Calls Tryz.prog 22 #[.pointer (some ⟨g, 0, none⟩), .int .i64 d] W (OneEnd c W g (oneP c.tape c.ws d k m))
def ValR : Rec Value := ⟨1, fun v => [v], fun _ => rfl, by decide, .nilIface⟩
theorem val_cells (vs : List Value) : vs.flatMap ValR.cells = vs := by
  induction vs with
  | nil => rfl
  | cons v r ih => rw [List.flatMap_cons, ih]; rfl
structure BnR (c : PRc) (w : World) (g d : Nat) (res : Option (Pk × Nat × Nat)) (wr : World) (k m f : Nat) (l : List Pk) (vs : List Value) (FF : Nat → Nat → Prop) (v : Value) : Prop where
  rd : RdW c wr g k m
  own : OwnW wr w.heap.size 50 1 v l.length vs
  ks : PksM l vs FF wr
  nw : ∀ i, i < l.length → ∀ b, FF i b → w.heap.size ≤ b ∧ v.ownBlock ≠ some b
  qv : ∀ u ∈ vs, QV u
  chg : Chg w wr (fun i => i = g)
  fu : 21 ≤ m + f
  m20 : m ≤ 20
  ll : l.length ≤ m
  res : res = (match bandsF c.ws (oneP c.tape c.ws d) f k m l with
    | none => none
    | some (l, a2, m2) => (mkMix l).map fun P => (P, a2, m2))
theorem QV.one {v : Value} (h : QV v) : v.oneCell' = true := by obtain ⟨T, g, rfl⟩ := h; rfl
structure BnC (c : PRc) (w : World) (g : Nat) (w1 : World) (k m : Nat) (l : List Pk) (vs : List Value) (FF : Nat → Nat → Prop) (v : Value) : Prop where
  rd : RdW c w1 g k m
  own : OwnW w1 w.heap.size 50 1 v l.length vs
  ks : PksM l vs FF w1
  nw : ∀ i, i < l.length → ∀ b, FF i b → w.heap.size ≤ b ∧ v.ownBlock ≠ some b
  qv : ∀ u ∈ vs, QV u
  chg : Chg w w1 (fun i => i = g)
section
variable {c : PRc} {w wr w1 w2 : World} {g d k m f k2 m2 k0 m0 : Nat} {res : Option (Pk × Nat × Nat)} {l : List Pk} {vs : List Value} {FF : Nat → Nat → Prop} {v v2 u : Value} {P : Pk} {F : Nat → Prop}
theorem BnR.called (h : BnR c w g d res wr k m f l vs FF v) (hg : g < w.heap.size) (hr : RdW c w1 g k2 m2) (hc : Chg wr w1 (fun i => i = g)) : BnC c w g w1 k2 m2 l vs FF v :=
  ⟨hr, h.own.chg hc (fun g' e he => by have := (h.own.lt g' e).1; omega), h.ks.chg hc (fun i hi b hb e => by have := (h.nw i hi b hb).1; omega), h.nw, h.qv, h.chg.trans hc (fun i _ e => e)⟩
theorem BnC.take (h : BnC c w g w1 k m l vs FF v) (hg : g < w.heap.size) (hr : RdW c w2 g k2 m2) (hc : Chg w1 w2 (fun i => i = g)) : BnC c w g w2 k2 m2 l vs FF v :=
  ⟨hr, h.own.chg hc (fun g' e he => by have := (h.own.lt g' e).1; omega), h.ks.chg hc (fun i hi b hb e => by have := (h.nw i hi b hb).1; omega), h.nw, h.qv, h.chg.trans hc (fun i _ e => e)⟩
theorem BnC.push {B : Nat} (h0 : RdW c w g k0 m0) (h : BnC c w g w1 k m l vs FF v) (hB : ∀ i, i < l.length → ∀ b, FF i b → b < B) (hvB : ∀ b, v.ownBlock = some b → b < B) (hBw : w.heap.size ≤ B)
    (hp : PkM P u 6 F w1) (hF : ∀ i, F i → B ≤ i) (hq : QV u) (hown : OwnW w2 w.heap.size 50 1 v2 (l.length + 1) (vs ++ [u])) (hgr : w1.grownBy w2 v.ownBlock)
    (hat : v2.ownBlock = v.ownBlock ∨ ∀ b, v2.ownBlock = some b → w1.heap.size < b) : ∃ FF2, BnC c w g w2 k m (l ++ [P]) (vs ++ [u]) FF2 v2 := by
  have hc12 : Chg w1 w2 (fun i => v.ownBlock = some i) := ⟨hgr.os, hgr.tape, hgr.output, hgr.size, fun i hi hn => hgr.block i hi (fun e => hn e.symm)⟩
  have hb : Below w.heap.size w1 w2 := (Below.refl _ w1).grown hgr h.chg.size (fun i hi => (h.own.lt i hi).1)
  have hlt := fun i (hi : i < l.length) b (hbb : FF i b) => ((h.ks.m i hi).lt b hbb).2
  refine ⟨Pl.updf FF l.length F, ⟨h0.over h.chg h.rd hb, by rw [List.length_append, List.length_singleton]; exact hown, ?_, fun i hi b hbb => ?_, fun x hx => ?_, chg_below h.chg hb⟩⟩
  · refine (h.ks.chg hc12 (fun i hi b hbb e => (h.nw i hi b hbb).2 e)).push (hp.chg hc12 (fun b hbb e => ?_)) (fun i hi b hbb hF2 => ?_)
    · have := hvB b e; have := hF b hbb; omega
    · have := hB i hi b hbb; have := hF b hF2; omega
  · rw [List.length_append, List.length_singleton] at hi
    by_cases e : i = l.length
    · subst e
      rw [Pl.updf_same] at hbb
      have h1 := hF b hbb
      refine ⟨by omega, fun e2 => ?_⟩
      rcases hat with e3 | e3
      · have := hvB b (e3 ▸ e2); omega
      · have := e3 b e2; have := (hp.lt b hbb).2; omega
    · rw [Pl.updf_ne _ _ e] at hbb
      have h1 := h.nw i (by omega) b hbb
      refine ⟨h1.1, fun e2 => ?_⟩
      rcases hat with e3 | e3
      · exact h1.2 (e3 ▸ e2)
      · have := e3 b e2; have := hlt i (by omega) b hbb; omega
  · rcases List.mem_append.1 hx with hx | hx
    · exact h.qv x hx
    · rw [List.mem_singleton] at hx; subst hx; exact hq
end
set_option maxHeartbeats 4000000 in
set_option maxRecDepth 100000 in
theorem bands_w (c : PRc) (g d : Nat) (hd : d < 100) (hone : RecC c g d) (k0 k m : Nat) (w : World) (h : RdW c w g k m) (hm : m ≤ 20) (hk0 : k0 < c.ws.length) :
    Calls Tryz.prog 39 #[.pointer (some ⟨g, 0, none⟩), .int .i64 k0, .int .i64 ((d : Int) + 1)] w (OneEnd c w g (bandsP c.ws (oneP c.tape c.ws d) k m)) := by
  have htk := take_l c g k m sOpen ⟨#[40]⟩ rfl w h
  obtain ⟨res, hres⟩ : ∃ res, bandsP c.ws (oneP c.tape c.ws d) k m = res := ⟨_, rfl⟩
  rw [hres]
  have HT := Lib.hid htk; have HRES := Lib.hid hres; have H := Lib.hid h; have HONE := Lib.hid hone
  have hgl := h.glt
  have hw : IntKind.i64.wrap ((d : Int) + 1 - 1) = (d : Int) := by rw [IntWalk.i64_in _ (by omega)]; omega
  clear htk hres h hone
  go_enter Tryz.func39, Tryz.ntmps39
  go_wp2_with fail
  (with_reducible refine HT.out.mono ?_)
  rintro e w2 (⟨hop, rfl, h2⟩ | ⟨hop, rfl, h2⟩)
  rotate_left
  · have hre : res = none := by rw [← HRES.out]; unfold bandsP; rw [if_neg hop]
    have hf := fail_w c g k m 3 w2 h2.out.1
    have HRE := Lib.hid hre; have HF := Lib.hid hf; have HC2 := Lib.hid h2.out.2
    clear hre hf hop h2
    go_wp2_with fail
    (with_reducible refine HF.out.mono ?_)
    rintro e w3 ⟨q, rfl, hb⟩
    have HB := Lib.hid hb
    clear hb
    go_wp2_with fail
    go_ret2
    exact .inr ⟨HRE.out, _, _, rfl, Lib.hid (HC2.out.trans (Chg.of_below HB.out) (fun i _ e => e))⟩
  have hq : BnR c w g d res w2 (k + 1) m 21 [] [] (fun _ _ => False) (.slice none 0 0) := by
    refine ⟨h2.out.1, OwnW.nil _ _ _ _, PksM.nil _ _, fun i hi => by simp at hi, fun u hu => (by cases hu), h2.out.2, by omega, hm, Nat.zero_le _, ?_⟩
    rw [← HRES.out]
    unfold bandsP
    rw [if_pos hop]
    all_goals rfl
  have HQ := Lib.hid hq
  clear hq hop h2 HT HRES
  go_wp2_with fail
  go_loopw [8] (fun v wr => ∃ (k1 m1 f : Nat) (l : List Pk) (vs : List Value) (FF : Nat → Nat → Prop), Hid (BnR c w g d res wr k1 m1 f l vs FF v)) (fun _ wr => 21 - mOf g wr)
  case atStart => exact ⟨k + 1, m, _, [], [], _, HQ.out⟩
  case round =>
    obtain ⟨k1, m1, f, l, vs, FF, hq⟩ := hrel
    have hcall := HONE.out k1 m1 wr hq.out.rd hq.out.m20
    have HC := Lib.hid hcall; have HR := Lib.hid hq.out
    clear hcall hq HQ
    obtain ⟨f2, rfl⟩ : ∃ f2, f = f2 + 1 := ⟨f - 1, by have h1 := HR.out.fu; have h2 := HR.out.m20; omega⟩
    go_wp2_with fail
    (with_reducible refine HC.out.mono ?_)
    rintro e w1 (⟨P, k2, m2, u, F, hok, rfl, hqv, h1⟩ | ⟨hno, T, x, rfl, h1⟩)
    rotate_left
    · have hre : res = none := by rw [HR.out.res]; unfold bandsF; rw [hno]
      have HRE := Lib.hid hre; have HC1 := Lib.hid h1.out
      clear hre hno h1
      go_wp2_with fail
      go_ret2
      exact .inr ⟨HRE.out, _, _, rfl, Lib.hid (HR.out.chg.trans HC1.out (fun i _ e => e))⟩
    have hm2 := oneP_ok c.tape c.ws d _ _ _ _ _ hok
    have hbc := HR.out.called hgl h1.out.1 h1.out.2.1
    have hown : OwnW w1 w.heap.size 50 ValR.sz u8 l.length (vs.flatMap ValR.cells) := by rw [val_cells]; exact hbc.own
    have hsz1 : w.heap.size ≤ w1.heap.size := hbc.chg.size
    have HB0 := Lib.hid (fun i (hi : i < l.length) b (hb : FF i b) => ((HR.out.ks.m i hi).lt b hb).2)
    have HV0 := Lib.hid (fun b (hb : u8.ownBlock = some b) => (HR.out.own.lt b hb).2)
    have HOK := Lib.hid hok; have HBC := Lib.hid hbc; have HOWN := Lib.hid hown; have H1 := Lib.hid h1.out; have HM2 := Lib.hid hm2; have HQV := Lib.hid hqv
    have hl20 : l.length ≤ 1000000 := by have h1 := HR.out.ll; have h2 := HR.out.m20; omega
    obtain ⟨uT, ug, rfl⟩ := hqv
    clear hok hbc hown h1 hm2 HC
    go_wp2_with (at_builtin; go_must (refine wpList_addW ValR rfl _ _ 136 w.heap.size 50 .nilIface 16 Tryz.underlying136 Tryz.queueInfo rfl rfl u8 l.length vs (.iface uT (.pointer (some ⟨ug, 0, none⟩))) #[.iface uT (.pointer (some ⟨ug, 0, none⟩))] HOWN.out rfl rfl (by show Value.slice (some ⟨w1.heap.size, 0, none⟩) 1 1 = _; simp) (fun y hy => by rw [List.mem_singleton.1 hy]; exact HQV.out.one) hl20 (by omega) hsz1 ?_); intro v3 w3 g1 g2 g3; rw [List.flatMap_append, val_cells] at g1; have hpu := BnC.push H.out HBC.out HB0.out HV0.out HR.out.chg.size H1.out.2.2.1 H1.out.2.2.2 HQV.out g1 g2 g3; have HPU := Lib.hid hpu; clear g1 g2 g3 hpu; have HT := Lib.hid (take_l c g k2 m2 sShut ⟨#[41]⟩ rfl w3 (by obtain ⟨FF2, h⟩ := HPU.out; exact h.rd)))
    (with_reducible refine HT.out.mono ?_)
    rintro e w4 (⟨hsh, rfl, h4⟩ | ⟨hsh, rfl, h4⟩)
    · have hre : res = (mkMix (l ++ [P])).map fun P => (P, k2 + 1, m2) := by
        rw [HR.out.res]; unfold bandsF; rw [HOK.out]; dsimp only; rw [if_pos hsh]
      obtain ⟨FF2, hpu⟩ := HPU.out
      have hb4 := hpu.take hgl h4.out.1 h4.out.2
      obtain ⟨A, cc, rfl, _, _, hrd⟩ := hb4.own.reads
      have hmd := made_mix (l ++ [P]) _ FF2 A (l ++ [P]).length cc w4 hb4.ks ⟨hrd, hb4.qv⟩ (by simp) (by have h1 := HR.out.ll; have h2 := HR.out.m20; rw [List.length_append, List.length_singleton]; omega) h4.out.1.sz6
      rw [List.length_append, List.length_singleton] at hmd
      have HMD := Lib.hid hmd; have HRE := Lib.hid hre; have HB4 := Lib.hid hb4
      clear hmd hre hb4 hrd h4 hsh HT hpu HPU HOWN
      go_wp2_with fail
      (with_reducible refine HMD.out.mono ?_)
      rintro e w5 (⟨P2, g2, F2, hmk, rfl, h5⟩ | ⟨hmk, er, rfl, hb5⟩)
      · have hmw := made_ok g k0 (.iface 137 (.pointer (some ⟨g2, 0, none⟩))) w5
        have HMW := Lib.hid hmw; have HMK := Lib.hid hmk
        clear hmw hmk
        go_wp2_with fail
        (with_reducible refine HMW.out.mono ?_)
        rintro e w6 ⟨rfl, rfl⟩
        go_wp2_with fail
        go_ret2
        exact .inl ⟨P2, k2 + 1, m2, _, F2, by rw [HRE.out, HMK.out]; rfl, rfl, ⟨_, _, rfl⟩, Lib.hid ⟨HB4.out.rd.below h5.out.2.1, HB4.out.chg.trans (Chg.of_below h5.out.2.1) (fun i _ e => e), h5.out.1, fun i hi => (h5.out.2.2 i hi).elim (fun ⟨j, hj, hb⟩ => (HB4.out.nw j (by rw [List.length_append, List.length_singleton]; exact hj) i hb).1) (fun h => Nat.le_trans HB4.out.chg.size h)⟩⟩
      · have hmw := made_n c g (k2 + 1) m2 k0 (.iface 137 (.pointer none)) er w5 (HB4.out.rd.below hb5) hk0
        have HMW := Lib.hid hmw; have HMK := Lib.hid hmk; have HB5 := Lib.hid hb5
        clear hmw hmk hb5
        go_wp2_with fail
        (with_reducible refine HMW.out.mono ?_)
        rintro e w6 ⟨q, rfl, hb6⟩
        have HB6 := Lib.hid hb6
        clear hb6
        go_wp2_with fail
        go_ret2
        exact .inr ⟨by rw [HRE.out, HMK.out]; rfl, _, _, rfl, Lib.hid (HB4.out.chg.trans (Chg.of_below (HB5.out.trans (HB6.out.mono HB5.out.size))) (fun i _ e => e))⟩
    · obtain ⟨FF2, hpu⟩ := HPU.out
      have hb4 := hpu.take hgl h4.out.1 h4.out.2
      have HSH := Lib.hid hsh; have HB4 := Lib.hid hb4
      have HT2 := Lib.hid (take_l c g k2 m2 sComma ⟨#[44]⟩ rfl w4 h4.out.1)
      clear hb4 hpu HPU h4 hsh HT
      go_wp2_with fail
      (with_reducible refine HT2.out.mono ?_)
      rintro e w5 (⟨hcm, rfl, h5⟩ | ⟨hcm, rfl, h5⟩)
      · have hb5 := HB4.out.take hgl h5.out.1 h5.out.2
        have hq5 : BnR c w g d res w5 (k2 + 1) m2 f2 (l ++ [P]) (vs ++ [.iface uT (.pointer (some ⟨ug, 0, none⟩))]) FF2 v3 := by
          refine ⟨hb5.rd, hb5.own, hb5.ks, hb5.nw, hb5.qv, hb5.chg, by have := HR.out.fu; have := HM2.out; omega, HM2.out.2, by have := HR.out.ll; have := HM2.out; rw [List.length_append, List.length_singleton]; omega, ?_⟩
          rw [HR.out.res]
          conv => lhs; unfold bandsF
          rw [HOK.out]
          dsimp only
          rw [if_neg HSH.out, if_pos hcm]
        have HQ5 := Lib.hid hq5
        clear hq5 hb5 hcm h5
        go_wp2_with fail
        refine ⟨⟨k2 + 1, m2, f2, l ++ [P], _, FF2, HQ5.out⟩, ?_⟩
        rw [HQ5.out.rd.mOf, HR.out.rd.mOf]
        have := HM2.out; have := HR.out.m20
        omega
      · have hre : res = none := by
          rw [HR.out.res]; unfold bandsF; rw [HOK.out]; dsimp only; rw [if_neg HSH.out, if_neg hcm]
        have hf := fail_w c g k2 m2 3 w5 h5.out.1
        have HRE := Lib.hid hre; have HF := Lib.hid hf; have HC5 := Lib.hid (HB4.out.chg.trans h5.out.2 (fun i _ e => e))
        clear hre hf hcm h5
        go_wp2_with fail
        (with_reducible refine HF.out.mono ?_)
        rintro e w6 ⟨q, rfl, hb⟩
        have HB := Lib.hid hb
        clear hb
        go_wp2_with fail
        go_ret2
        exact .inr ⟨HRE.out, _, _, rfl, Lib.hid (HC5.out.trans (Chg.of_below HB.out) (fun i _ e => e))⟩
end Go.Proofs.YtgdijbaodfghjaaGreatDoor
