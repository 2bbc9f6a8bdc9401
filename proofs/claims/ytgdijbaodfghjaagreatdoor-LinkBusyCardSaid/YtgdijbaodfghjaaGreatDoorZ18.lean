/-
  Texts of this claim, one behind the other: List, ShpLaw2, LnkLaw, Takes, When, WaitLaw.
-/
import Derived.Test.YtgdijbaodfghjaaGreatDoorZ17
import Derived.Deep.QuietTactic
import Derived.BigQuiet
import Derived.Test.YtgdijbaodfghjaaGreatDoorZ01
import Derived.Test.YtgdijbaodfghjaaGreatDoorZ02
/-
  What item.List tells.
-/
namespace Go.Proofs.YtgdijbaodfghjaaGreatDoor
open Go.RowKit Bkt
set_option linter.unusedVariables false

def itCells (x : It) : List Value := [.int .i64 x.at_, .int .i64 x.len, .int .i64 x.flow, .int .i64 x.band, .int .i64 x.mark]
def RdIt (w : World) (B : Nat) (A : Option Addr) (n : Nat) (l : List It) : Prop := Reads w B 5 A n (l.flatMap itCells)
theorem flat_len (l : List It) : (l.flatMap itCells).length = l.length * 5 := by
  induction l with
  | nil => rfl
  | cons x l ih => rw [List.flatMap_cons, List.length_append, ih, List.length_cons]; show 5 + _ = _; omega
theorem flat_get (l : List It) : ∀ k j, k < l.length → j < 5 → (l.flatMap itCells)[k * 5 + j]? = (itCells (ix l k))[j]? := by
  induction l with
  | nil => intro k j hk; simp at hk
  | cons x l ih =>
    intro k j hk hj
    rw [List.flatMap_cons]
    rcases k with _ | k
    · rw [List.getElem?_append_left (by show 0 * 5 + j < 5; omega)]
      simp [ix]
    · have h5 : (itCells x).length = 5 := rfl
      rw [List.getElem?_append_right (by rw [h5]; omega), h5, show (k + 1) * 5 + j - 5 = k * 5 + j from by omega, ih k j (by simpa using hk) hj]
      rfl
section
variable {w w' : World} {B B' n : Nat} {A : Option Addr} {l : List It}
theorem RdIt.len (h : RdIt w B A n l) : l.length = n := by have := h.1; rw [flat_len] at this; omega
theorem RdIt.addr (h : RdIt w B A n l) {k : Nat} (hk : k < n) : ∃ b off, A = some ⟨b, off, none⟩ ∧ b < B := by
  obtain ⟨ad, e, hb, hc⟩ := h.2 (by omega)
  have hl := h.len
  have h0 : (l.flatMap itCells)[0]? = some (.int .i64 (ix l 0).at_) := by have := flat_get l 0 0 (by omega) (by omega); simpa [itCells] using this
  have := hc 0 _ h0
  obtain ⟨b, off, spot⟩ := ad
  have hs : spot = none := by simpa [Addr.add] using World.cell?_spot this
  subst hs
  exact ⟨b, off, e, hb⟩
theorem RdIt.all {b off : Nat} (h : RdIt w B (some ⟨b, off, none⟩) n l) {k : Nat} (hk : k < n) : ∀ j u, (itCells (ix l k))[j]? = some u → w.cell? ⟨b, off + (k * 5 + j), none⟩ = some u := by
  intro j u hu
  have hj : j < 5 := by
    rcases Nat.lt_or_ge j 5 with h' | h'
    · exact h'
    · rw [List.getElem?_eq_none h'] at hu; cases hu
  obtain ⟨ad, e, hb, hc⟩ := h.2 (by omega)
  injection e with e
  subst e
  have hl := h.len
  have := hc (k * 5 + j) u (by rw [flat_get l k j (by omega) hj]; exact hu)
  unfold Addr.add at this
  split at this
  · rename_i h0; rw [h0]; exact this
  · exact this
theorem RdIt.cells {b off : Nat} (h : RdIt w B (some ⟨b, off, none⟩) n l) {k : Nat} (hk : k < n) : w.cell? ⟨b, off + k * 5, none⟩ = some (.int .i64 (ix l k).at_) ∧ w.cell? ⟨b, off + k * 5 + 1, none⟩ = some (.int .i64 (ix l k).len) ∧
    w.cell? ⟨b, off + k * 5 + 2, none⟩ = some (.int .i64 (ix l k).flow) ∧ w.cell? ⟨b, off + k * 5 + 3, none⟩ = some (.int .i64 (ix l k).band) ∧ w.cell? ⟨b, off + k * 5 + 4, none⟩ = some (.int .i64 (ix l k).mark) :=
  ⟨h.all hk 0 _ rfl, h.all hk 1 _ rfl, h.all hk 2 _ rfl, h.all hk 3 _ rfl, h.all hk 4 _ rfl⟩
theorem RdIt.over (h : RdIt w B A n l) (hb : Below w.heap.size w w') (hB : B ≤ w.heap.size) : RdIt w' w'.heap.size A n l :=
  Reads.more (Reads.below (Reads.more h hB) hb) hb.size
end
def ListFine (l : List It) : Prop := l.length ≤ 100 ∧ (∀ i, i < l.length → ItFine (ix l i)) ∧ ∀ i, i + 1 < l.length → (ix l i).at_ ≤ (ix l (i + 1)).at_
def AnErr (w : World) (e : Ending) (w' : World) : Prop := ∃ (T : TypeId) (v : Value), e = .returned (.iface T v) ∧ Below w.heap.size w w'
def ListOut (w : World) (l : List It) (e : Ending) (w' : World) : Prop := (ListFine l ∧ e = .returned .nilIface ∧ Below w.heap.size w w') ∨ (¬ ListFine l ∧ AnErr w e w')

set_option maxHeartbeats 2000000 in
set_option maxRecDepth 100000 in
theorem list_any (A : Option Addr) (n c : Nat) (l : List It) (w : World) (hr : RdIt w w.heap.size A n l) (hg : Handle w) : Calls Tryz.prog 28 #[.slice A n c] w (ListOut w l) := by
  have hl := hr.len
  have HL := Lib.hid hl; clear hl
  have HG := Lib.hid hg; clear hg
  by_cases hn : n ≤ 100
  · have hd : decide (100 < (n : Int)) = false := by simp; omega
    go_enter Tryz.func28, Tryz.ntmps28
    go_wp2_with fail
    go_loopw [12] (fun i wr => ∃ k : Nat, k ≤ n ∧ i = .int .i64 k ∧ (∀ i, i < k → ItFine (ix l i)) ∧ (∀ i, i + 1 < k → (ix l i).at_ ≤ (ix l (i + 1)).at_) ∧ Below w.heap.size w wr) (fun i _ => n - (intOf i).toNat)
    case atStart => exact ⟨0, Nat.zero_le _, rfl, fun i hi => by omega, fun i hi => by omega, Below.refl _ _⟩
    case round =>
      obtain ⟨k, hk, rfl, hall, hup, hb⟩ := hrel
      have HA := Lib.hid hall; have HU := Lib.hid hup; clear hall hup
      by_cases hlt : k < n
      · obtain ⟨b, off, rfl, hbB⟩ := hr.addr hlt
        obtain ⟨c0, c1, c2, c3, c4⟩ := (hr.over hb (Nat.le_refl _)).cells hlt
        have HX : Hid (ix l k = ix l k) := rfl
        generalize hx : ix l k = x at *
        have HXX := Lib.hid hx; clear hx HX
        have hyes := fun W => item_yes x W
        have hno := fun W => item_no x W
        unfold itV at hyes hno
        have HY := Lib.hid hyes; have HN := Lib.hid hno; clear hyes hno
        by_cases hfx : ItFine x
        · have HF := Lib.hid hfx; clear hfx
          go_wp2_with fail
          refine (HY.out _ HF.out).mono ?_
          rintro e w1 ⟨rfl, hb1⟩
          have hbb : Below w.heap.size w w1 := (hb.alloc hb.size _).trans (hb1.mono (by have := hb.size; simp; omega))
          have hx0 : w1.cell? ⟨wr.heap.size, 0, none⟩ = some (.int .i64 x.at_) := (hb1.cell (p := ⟨wr.heap.size, 0, none⟩) (by simp)).trans (by simp)
          clear c0 c1 c2 c3 c4
          rcases k with _ | j
          · have hd0 : decide ((0 : Int) < ((0 : Nat) : Int)) = false := by simp
            go_wp2_with fail
            go_quiet (fail)
            go_wp2_with fail
            go_roundw
            case rel => exact ⟨1, by omega, by go_num, fun i hi => by (obtain rfl : i = 0 := by omega); rw [HXX.out]; exact HF.out, fun i hi => by omega, ⟨hbb.os, hbb.tape, hbb.output, hbb.size, hbb.block⟩⟩
            case measure => simp [intOf]; omega
          · obtain ⟨d0, _, _, _, _⟩ := (hr.over hbb (Nat.le_refl _)).cells (k := j) (by omega)
            generalize hy : ix l j = y at *
            have HYY := Lib.hid hy; clear hy
            have j1 : (0 : Int) < (j : Int) + 1 := by omega
            have j2 : (j : Int) < (n : Int) := by omega
            by_cases hxy : x.at_ < y.at_
            · go_wp2_with fail
              go_quiet (fail)
              go_wp2_with fail
              go_ret
              exact .inr ⟨fun h => by have := h.2.2 j (by rw [HL.out]; exact hlt); rw [HYY.out, HXX.out] at this; omega, _, _, rfl, (⟨hbb.os, hbb.tape, hbb.output, hbb.size, hbb.block⟩ : Below w.heap.size w (w1.drewN _)).alloc hbb.size _⟩
            · have hxy' : y.at_ ≤ x.at_ := by omega
              go_wp2_with fail
              go_quiet (fail)
              go_wp2_with fail
              go_roundw
              case rel => exact ⟨j + 1 + 1, by omega, by go_num, fun i hi => by
                by_cases e : i = j + 1
                · rw [e, HXX.out]; exact HF.out
                · exact HA.out i (by omega), fun i hi => by
                by_cases e : i = j
                · rw [e, HXX.out, HYY.out]; exact hxy'
                · exact HU.out i (by omega), ⟨hbb.os, hbb.tape, hbb.output, hbb.size, hbb.block⟩⟩
              case measure => simp [intOf]; omega
        · have HF := Lib.hid hfx; clear hfx
          go_wp2_with fail
          refine (HN.out _ HF.out).mono ?_
          rintro e w1 ⟨ke, rfl, hb1⟩
          have hbb : Below w.heap.size w w1 := (hb.alloc hb.size _).trans (hb1.mono (by have := hb.size; simp; omega))
          have hg1 := HG.out.below hbb
          have HG1 := Lib.hid hg1; clear hg1 c0 c1 c2 c3 c4
          go_wp2_with fail
          refine (tell_errno ke w1 HG1.out).mono ?_
          rintro e w2 ⟨rfl, hb2⟩
          go_wp2_with fail
          go_ret
          exact .inr ⟨fun h => by have := h.2.1 k (by rw [HL.out]; exact hlt); rw [HXX.out] at this; exact HF.out this, _, _, rfl, (hbb.trans (hb2.mono hbb.size)).alloc (Nat.le_trans hbb.size hb2.size) _⟩
      · obtain rfl : k = n := by omega
        go_wp2_with fail
        go_ret
        exact .inl ⟨⟨by rw [HL.out]; exact hn, fun i hi => HA.out i (by rw [HL.out] at hi; exact hi), fun i hi => HU.out i (by rw [HL.out] at hi; exact hi)⟩, rfl, hb⟩
  · have hd : decide (100 < (n : Int)) = true := by simp; omega
    go_enter Tryz.func28, Tryz.ntmps28
    go_wp2_with fail
    go_ret
    exact .inr ⟨fun h => hn (by have := h.1; rw [HL.out] at this; exact this), _, _, rfl, Below.refl _ _⟩
end Go.Proofs.YtgdijbaodfghjaaGreatDoor

/-
  Plain law of the shaper, more: what a play's law asks, told for the times of a play.
-/
namespace Go.Proofs.YtgdijbaodfghjaaGreatDoor
open Bkt
set_option linter.unusedVariables false
namespace Pl
theorem GOk.listFine {b : Bk} {now : Int} {gone : List It} (h : GOk b now gone) (hn : now ≤ 1000000000) (hl : gone.length ≤ 100) : ListFine gone := by
  refine ⟨hl, fun i hi => ?_, fun i hi => h.up i hi⟩
  obtain ⟨⟨a1, a2⟩, c, d1, d2, d3⟩ := h.fine i hi
  exact ⟨⟨a1, by omega⟩, c, by omega, by omega, by omega⟩
structure ShapedPlay (b : Bk) (ts : List Stp) (sn : Nat → Seen) (n : Nat) : Prop where
  step : ∀ i, i < n → SStep ts sn i
  gone : (goneTo ts sn n).length ≤ 100 → ListFine (goneTo ts sn n) ∧ ∀ j, j < (goneTo ts sn n).length → Bkt.conf b (goneTo ts sn n) j = true
end Pl
end Go.Proofs.YtgdijbaodfghjaaGreatDoor

/-
  Plain law of the wire: what a run does, step by step, with a queue that is a machine; behind a shaper what goes conforms. No program in sight.
-/
namespace Go.Proofs.YtgdijbaodfghjaaGreatDoor
open Bkt
set_option linter.unusedVariables false
namespace Pl
structure Snt where
  num : Int
  from_ : Int
  to_ : Int
  mark : Int
structure Lk (σ : Type) where
  next : Nat
  now : Int
  free : Int
  q : σ
  sent : List Snt
  lost : List Int
  most : Int
def Lk.start {σ : Type} (q : σ) : Lk σ := ⟨0, 0, 0, q, [], [], 0⟩
def putS (M : QM) (l : List It) (S : Lk M.σ) : Lk M.σ := { S with next := S.next + 1, q := (M.put S.now ⟨ix l S.next, S.next⟩ S.q).2, lost := S.lost ++ (M.put S.now ⟨ix l S.next, S.next⟩ S.q).1.map Hd.num }
def mostS (M : QM) (S : Lk M.σ) : Lk M.σ := { S with most := max S.most (M.bytes S.q) }
def takeS (M : QM) (rb rt : Int) (S : Lk M.σ) : Lk M.σ :=
  match (M.take S.now S.q).1 with
  | none => { S with q := (M.take S.now S.q).2.2, lost := S.lost ++ (M.take S.now S.q).2.1.map Hd.num }
  | some x => { S with q := (M.take S.now S.q).2.2, lost := S.lost ++ (M.take S.now S.q).2.1.map Hd.num, free := S.now + takes rb rt x.it.len, sent := S.sent ++ [⟨x.num, S.now, S.now + takes rb rt x.it.len, x.it.mark⟩] }
def aT (M : QM) (q : M.σ) (now free : Int) : Option Int := if M.len q = 0 then none else if now < free then some free else (M.when_ (now + 1) q).1.map fun t => max t (now + 1)
def aQ (M : QM) (q : M.σ) (now free : Int) : M.σ := if M.len q = 0 then q else if now < free then q else (M.when_ (now + 1) q).2
def aftT (M : QM) (S : Lk M.σ) : Option Int := aT M S.q S.now S.free
def aftS (M : QM) (S : Lk M.σ) : Lk M.σ := { S with q := aQ M S.q S.now S.free }
def nextT (M : QM) (l : List It) (S : Lk M.σ) : Option Int :=
  match aftT M S with
  | none => if S.next < l.length then some (ix l S.next).at_ else none
  | some t => if S.next < l.length ∧ (ix l S.next).at_ < t then some (ix l S.next).at_ else some t
structure LnkInv (M : QM) (l : List It) (rb rt until_ : Int) (P Q R : Lk M.σ → Prop) : Prop where
  put : ∀ S, P S → S.next < l.length → (ix l S.next).at_ ≤ S.now → P (putS M l S)
  most : ∀ S, P S → P (mostS M S)
  take : ∀ S, P S → (S.next < l.length → S.now < (ix l S.next).at_) → S.free ≤ S.now → Q (takeS M rb rt S)
  busy : ∀ S, P S → (S.next < l.length → S.now < (ix l S.next).at_) → S.now < S.free → Q S
  jump : ∀ S t, Q S → nextT M l S = some t → S.now < t → t ≤ until_ → P { aftS M S with now := t }
  stop : ∀ S, Q S → (∀ t, nextT M l S = some t → until_ < t) → R (aftS M S)

def goneL (l : List It) (s : List Snt) : List It := s.map fun x => ⟨x.from_, (ix l x.num.toNat).len, 0, 0, 0⟩
def lensL (l : List It) (k : Nat) : List Int := (List.range k).map fun i => (ix l i).len
theorem lensL_len (l : List It) (k : Nat) : (lensL l k).length = k := by simp [lensL]
structure ShL (b : Bk) (l : List It) (T : Int) (S : Lk (Shp (List Hd))) : Prop where
  inv : ∃ last, SInv b last (lensL l S.next) (goneL l S.sent) T S.q ∧ (S.sent.length : Int) ≤ last + 1
  n : S.next ≤ l.length
  s : ∀ x ∈ S.sent, 0 ≤ x.num ∧ x.num < S.next
theorem ShL.start {b : Bk} (hk : BkOk b) (l : List It) : ShL b l 0 (Lk.start ⟨[], Bkt.start b, none⟩) :=
  ⟨⟨-1, by show SInv b (-1) (lensL l 0) (goneL l []) 0 _; exact SInv.start hk, by show (([] : List Snt).length : Int) ≤ -1 + 1; simp⟩, Nat.zero_le _, fun x hx => by simp [Lk.start] at hx⟩
theorem ShL.law {b : Bk} {l : List It} {T : Int} {S : Lk (Shp (List Hd))} (h : ShL b l T S) (hT : T ≤ 1000000000) (hl : l.length ≤ 100) :
    (∀ x ∈ S.sent, 0 ≤ x.num ∧ x.num < l.length) ∧ ListFine (goneL l S.sent) ∧ ∀ j, j < (goneL l S.sent).length → Bkt.conf b (goneL l S.sent) j = true := by
  obtain ⟨⟨last, hi, hc⟩, hn, hs⟩ := h
  have h1 := hi.ltn
  rw [lensL_len] at h1
  have h2 : (goneL l S.sent).length = S.sent.length := by simp [goneL]
  exact ⟨fun x hx => by have := hs x hx; omega, hi.g.listFine hT (by omega), hi.g.conf⟩
end Pl
end Go.Proofs.YtgdijbaodfghjaaGreatDoor

/-
  What item.Takes computes: ticks that bytes take, rounded up.
-/
namespace Go.Proofs.YtgdijbaodfghjaaGreatDoor
open Go.RowKit Bkt
set_option linter.unusedVariables false

set_option maxHeartbeats 1000000 in
theorem takes_any (b t n : Int) (w : World) (hs : SpeedOk b t) (h0 : 0 ≤ n) (h1 : n ≤ 20000) :
    Calls Tryz.prog 11 #[.agg #[.int .i64 b, .int .i64 t], .int .i64 n] w fun e w' => e = .returned (.int .i64 (takes b t n)) ∧ Below w.heap.size w w' := by
  obtain ⟨⟨b0, b1⟩, ⟨t0, t1⟩⟩ := hs
  have m := mul_bd (a := n) (b := t) (A := 20000) (B := 1000000) h0 (by omega) h1 t1
  obtain ⟨m0, m1⟩ := m
  have m1' : n * t ≤ 20000000000 := m1
  clear m1
  have HT : Hid (takes b t n = (n * t + b - 1) / b) := rfl
  go_enter Tryz.func11, Tryz.ntmps11
  go_wp2_with fail
  go_ret
  exact ⟨by rw [HT.out]; rfl, (Below.refl _ _).alloc (Nat.le_refl _) _⟩
end Go.Proofs.YtgdijbaodfghjaaGreatDoor

/-
  What (*bucket.State).When tells.
-/
namespace Go.Proofs.YtgdijbaodfghjaaGreatDoor
open Go.RowKit Bkt
set_option linter.unusedVariables false

def BWhenOut (w : World) (g : Nat) (k : Bk) (s : St) (t : Int) (e : Ending) (w' : World) : Prop := e = .returned (.tuple #[.int .i64 t, .bool true]) ∧ w.grownBy w' (some g) ∧ StB w' g k s
theorem ret_w {a b : Int} (h : a = b) : Ending.returned (.tuple #[.int .i64 a, .bool true]) = .returned (.tuple #[.int .i64 b, .bool true]) := by rw [h]
set_option maxHeartbeats 2000000 in
set_option maxRecDepth 100000 in
theorem when_any (k : Bk) (s : St) (g : Nat) (now n : Int) (w : World) (hk : BkOk k) (hs : StB w g k s) (hso : SOk k s) (hl : s.last ≤ 1000000000) (h0 : 0 ≤ now) (h1 : now ≤ 1000000000) (hn0 : 0 ≤ n) (hn : n ≤ k.r) :
    Calls Tryz.prog 139 #[.pointer (some ⟨g, 0, none⟩), .int .i64 now, .int .i64 n] w (BWhenOut w g k (fill k s now) (whenAt k s now n)) := by
  have hfill := fill_any k s g now w hk hs hso.last h1 hso.has0 hso.has1
  have hF := Lib.hid hfill; clear hfill
  have hfl : 0 ≤ (fill k s now).has ∧ (fill k s now).has ≤ k.r * k.t ∧ 0 ≤ (fill k s now).last ∧ (fill k s now).last ≤ 1000000000 := by
    have := hso.last; have := hso.has0; have := hso.has1
    unfold fill
    split
    · have := mul_bd (a := now - s.last) (b := k.b) (by omega) (by have := hk.b.1; omega) (Int.le_refl _) (Int.le_refl _)
      dsimp only
      omega
    · omega
  obtain ⟨p0, p1⟩ := mul_bd hn0 (show (0 : Int) ≤ k.t by have := hk.t.1; omega) (show n ≤ 1000000 by have := hk.r.2; omega) hk.t.2
  obtain ⟨q0, q1⟩ := mul_bd hk.r.1 (show (0 : Int) ≤ k.t by have := hk.t.1; omega) hk.r.2 hk.t.2
  have p2 : n * k.t ≤ 1000000000000 := p1
  have q2 : k.r * k.t ≤ 1000000000000 := q1
  have HW : Hid (whenAt k s now n = if 0 < n * k.t - (fill k s now).has then (fill k s now).last + (n * k.t - (fill k s now).has + k.b - 1) / k.b else max now (fill k s now).last) := rfl
  have hb1 := hk.b.1; have hb2 := hk.b.2
  have c0 : w.cell? ⟨g, 2, none⟩ = some (.int .i64 k.r) := hs.cell 2
  generalize fill k s now = f at *
  obtain ⟨fl, fh⟩ := f
  obtain ⟨b, t, r⟩ := k
  dsimp only at hfl p0 p2 q0 q2 hb1 hb2 hn c0
  obtain ⟨f0, f1, f2, f3⟩ := hfl
  have f1' : fh ≤ 1000000000000 := Int.le_trans f1 q2
  have HS := Lib.hid hs
  have hnr : ¬ r < n := by omega
  clear p1 q1 f1 hs hso hl hk q0 q2
  by_cases hlk : 0 < n * t - fh
  · have hq : 0 ≤ (n * t - fh + b - 1) / b ∧ (n * t - fh + b - 1) / b ≤ 1000001000000 := by
      refine ⟨Int.ediv_nonneg (by omega) (by omega), ?_⟩
      have := Int.ediv_le_self (a := n * t - fh + b - 1) b (by omega)
      omega
    obtain ⟨hq0, hq1⟩ := hq
    have hw : whenAt ⟨b, t, r⟩ s now n = fl + (n * t - fh + b - 1) / b := by rw [HW.out, if_pos hlk]
    have HWW := Lib.hid hw; clear hw HW
    have e1 : IntKind.i64.wrap (n * t) = n * t := IntWalk.i64_in _ (by omega)
    have e2 : IntKind.i64.wrap (n * t - fh) = n * t - fh := IntWalk.i64_in _ (by omega)
    have e3 : IntKind.i64.wrap (n * t - fh + b) = n * t - fh + b := IntWalk.i64_in _ (by omega)
    have e4 : IntKind.i64.wrap (n * t - fh + b - 1) = n * t - fh + b - 1 := IntWalk.i64_in _ (by omega)
    have e5 : (n * t - fh + b - 1).tdiv b = (n * t - fh + b - 1) / b := Int.tdiv_eq_ediv_of_nonneg (by omega)
    have e6 : IntKind.i64.wrap ((n * t - fh + b - 1) / b) = (n * t - fh + b - 1) / b := IntWalk.i64_in _ (by omega)
    have e7 : IntKind.i64.wrap (fl + (n * t - fh + b - 1) / b) = fl + (n * t - fh + b - 1) / b := IntWalk.i64_in _ (by omega)
    go_enter Tryz.func139, Tryz.ntmps139
    go_wp2_with fail
    refine (hF.out).mono ?_
    rintro e w1 ⟨rfl, hg, hst⟩
    have c1 : w1.cell? ⟨g, 0, none⟩ = some (.int .i64 b) := hst.cell 0
    have c2 : w1.cell? ⟨g, 1, none⟩ = some (.int .i64 t) := hst.cell 1
    have c3 : w1.cell? ⟨g, 3, none⟩ = some (.int .i64 fl) := hst.cell 3
    have c4 : w1.cell? ⟨g, 4, none⟩ = some (.int .i64 fh) := hst.cell 4
    have HST := Lib.hid hst; have HG := Lib.hid hg; clear hst hg c0
    go_wp2_with fail
    all_goals
      go_quiet (fail)
      go_wp2_with fail
      go_quiet (fail)
      go_wp2_with fail
      go_ret2
      exact ⟨ret_w (by rw [HWW.out]), only_drewN (only_drewN HG.out _) _, Blk.drewN (Blk.drewN HST.out _) _⟩
  · have e1 : IntKind.i64.wrap (n * t) = n * t := IntWalk.i64_in _ (by omega)
    have e2 : IntKind.i64.wrap (n * t - fh) = n * t - fh := IntWalk.i64_in _ (by omega)
    have hw : whenAt ⟨b, t, r⟩ s now n = max now fl := by rw [HW.out, if_neg hlk]
    have HWW := Lib.hid hw; clear hw HW
    go_enter Tryz.func139, Tryz.ntmps139
    go_wp2_with fail
    refine (hF.out).mono ?_
    rintro e w1 ⟨rfl, hg, hst⟩
    have c2 : w1.cell? ⟨g, 1, none⟩ = some (.int .i64 t) := hst.cell 1
    have c3 : w1.cell? ⟨g, 3, none⟩ = some (.int .i64 fl) := hst.cell 3
    have c4 : w1.cell? ⟨g, 4, none⟩ = some (.int .i64 fh) := hst.cell 4
    have HST := Lib.hid hst; have HG := Lib.hid hg; clear hst hg c0
    go_wp2_with fail
    all_goals
      go_quiet (fail)
      go_wp2_with fail
      go_ret2
      exact ⟨ret_w (by rw [HWW.out]; omega), only_drewN HG.out _, Blk.drewN HST.out _⟩

theorem when_no (k : Bk) (s : St) (g : Nat) (now n : Int) (w : World) (hs : StB w g k s) (h1 : now ≤ 1000000000) (hn0 : 0 ≤ n) (hn : k.r < n) :
    Calls Tryz.prog 139 #[.pointer (some ⟨g, 0, none⟩), .int .i64 now, .int .i64 n] w fun e w' => e = .returned (.tuple #[.int .i64 0, .bool false]) ∧ w = w' := by
  have c0 : w.cell? ⟨g, 2, none⟩ = some (.int .i64 k.r) := hs.cell 2
  obtain ⟨b, t, r⟩ := k
  dsimp only at c0 hn
  clear hs
  go_enter Tryz.func139, Tryz.ntmps139
  go_wp2_with fail
  go_ret2
  exact ⟨rfl, rfl⟩
end Go.Proofs.YtgdijbaodfghjaaGreatDoor

/-
  Plain law of the wire with a plain queue: Lindley. No program in sight.
-/
namespace Go.Proofs.YtgdijbaodfghjaaGreatDoor
open Bkt
set_option linter.unusedVariables false
namespace Pl
def freeI (l : List It) (rb rt : Int) : Nat → Int
  | 0 => 0
  | i + 1 => max (freeI l rb rt i) (ix l i).at_ + takes rb rt (ix l i).len
def fromI (l : List It) (rb rt : Int) (i : Nat) : Int := max (freeI l rb rt i) (ix l i).at_
theorem freeI_succ (l : List It) (rb rt : Int) (i : Nat) : freeI l rb rt (i + 1) = fromI l rb rt i + takes rb rt (ix l i).len := rfl
def sentL (l : List It) (rb rt : Int) : Nat → List Snt
  | 0 => []
  | i + 1 => sentL l rb rt i ++ [⟨i, fromI l rb rt i, freeI l rb rt (i + 1), (ix l i).mark⟩]
def waitL (l : List It) (m : Nat) : Nat → List Hd
  | 0 => []
  | n + 1 => if m ≤ n then waitL l m n ++ [⟨ix l n, n⟩] else []
def wtP : FP := ⟨1000, 1000000, false⟩
structure WtB (l : List It) (rb rt : Int) (S : Lk (List Hd)) (m : Nat) : Prop where
  mn : m ≤ S.next
  nl : S.next ≤ l.length
  s : S.sent = sentL l rb rt m
  q : S.q = waitL l m S.next
  lo : S.lost = []
  f : S.free = freeI l rb rt m
  ar : ∀ i, i < S.next → (ix l i).at_ ≤ S.now
structure WtP (l : List It) (rb rt : Int) (S : Lk (List Hd)) : Prop where
  b : ∃ m, WtB l rb rt S m ∧ (m < S.next → S.now ≤ fromI l rb rt m)
  up : S.next < l.length → S.now ≤ (ix l S.next).at_
structure WtQ (l : List It) (rb rt : Int) (S : Lk (List Hd)) : Prop where
  b : ∃ m, WtB l rb rt S m ∧ (m < S.next → S.now < S.free)
  up : S.next < l.length → S.now < (ix l S.next).at_
structure WtR (l : List It) (rb rt until_ : Int) (S : Lk (List Hd)) : Prop where
  b : ∃ m, m ≤ l.length ∧ S.sent = sentL l rb rt m ∧ S.lost = [] ∧ (m < l.length → until_ < fromI l rb rt m) ∧ (m = l.length → S.q = [])
theorem takes_pos {rb rt n : Int} (hs : SpeedOk rb rt) (hn : 1 ≤ n) : 1 ≤ takes rb rt n := by
  unfold takes
  obtain ⟨⟨a1, a2⟩, b1, b2⟩ := hs
  have h1 : n * rt + rb - 1 ≥ rb := by
    have : 1 ≤ n * rt := by
      have := Int.mul_le_mul hn b1 (by omega) (by omega)
      omega
    omega
  exact Int.le_ediv_of_mul_le (by omega) (by omega)
end Pl
end Go.Proofs.YtgdijbaodfghjaaGreatDoor
