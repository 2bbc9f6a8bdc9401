/-
  Texts of this claim, one behind the other: ShpLaw2, LnkLaw, Takes, WaitLaw.
-/
import Derived.Test.YtgdijbaodfghjaaGreatDoorZ01
import Derived.Test.YtgdijbaodfghjaaGreatDoorZ18
import Derived.Test.YtgdijbaodfghjaaGreatDoorZ21
/-
  Plain law of the shaper, more: what a play's law asks, told for the times of a play.
-/
namespace Go.Proofs.YtgdijbaodfghjaaGreatDoor
open Bkt
set_option linter.unusedVariables false
namespace Pl
theorem GOk.listFine {b : Bk} {now : Int} {gone : List It} (h : GOk b now gone) (hn : now ≤ 1000000000) (hl : gone.length ≤ 100) : ListFine gone := by
  refine ⟨hl, fun i hi => ?_, fun i hi => h.up i hi⟩
  obtain ⟨⟨a1, a2⟩, c, d1, d2, d3⟩ := h.fine i hi
  exact ⟨⟨a1, by omega⟩, c, by omega, by omega, by omega⟩
structure ShapedPlay (b : Bk) (ts : List Stp) (sn : Nat → Seen) (n : Nat) : Prop where
  step : ∀ i, i < n → SStep ts sn i
  gone : (goneTo ts sn n).length ≤ 100 → ListFine (goneTo ts sn n) ∧ ∀ j, j < (goneTo ts sn n).length → Bkt.conf b (goneTo ts sn n) j = true
end Pl
end Go.Proofs.YtgdijbaodfghjaaGreatDoor

/-
  Plain law of the wire: what a run does, step by step, with a queue that is a machine; behind a shaper what goes conforms. No program in sight.
-/
namespace Go.Proofs.YtgdijbaodfghjaaGreatDoor
open Bkt
set_option linter.unusedVariables false
namespace Pl
structure Snt where
  num : Int
  from_ : Int
  to_ : Int
  mark : Int
structure Lk (σ : Type) where
  next : Nat
  now : Int
  free : Int
  q : σ
  sent : List Snt
  lost : List Int
  most : Int
def Lk.start {σ : Type} (q : σ) : Lk σ := ⟨0, 0, 0, q, [], [], 0⟩
def putS (M : QM) (l : List It) (S : Lk M.σ) : Lk M.σ := { S with next := S.next + 1, q := (M.put S.now ⟨ix l S.next, S.next⟩ S.q).2, lost := S.lost ++ (M.put S.now ⟨ix l S.next, S.next⟩ S.q).1.map Hd.num }
def mostS (M : QM) (S : Lk M.σ) : Lk M.σ := { S with most := max S.most (M.bytes S.q) }
def takeS (M : QM) (rb rt : Int) (S : Lk M.σ) : Lk M.σ :=
  match (M.take S.now S.q).1 with
  | none => { S with q := (M.take S.now S.q).2.2, lost := S.lost ++ (M.take S.now S.q).2.1.map Hd.num }
  | some x => { S with q := (M.take S.now S.q).2.2, lost := S.lost ++ (M.take S.now S.q).2.1.map Hd.num, free := S.now + takes rb rt x.it.len, sent := S.sent ++ [⟨x.num, S.now, S.now + takes rb rt x.it.len, x.it.mark⟩] }
def aT (M : QM) (q : M.σ) (now free : Int) : Option Int := if M.len q = 0 then none else if now < free then some free else (M.when_ (now + 1) q).1.map fun t => max t (now + 1)
def aQ (M : QM) (q : M.σ) (now free : Int) : M.σ := if M.len q = 0 then q else if now < free then q else (M.when_ (now + 1) q).2
def aftT (M : QM) (S : Lk M.σ) : Option Int := aT M S.q S.now S.free
def aftS (M : QM) (S : Lk M.σ) : Lk M.σ := { S with q := aQ M S.q S.now S.free }
def nextT (M : QM) (l : List It) (S : Lk M.σ) : Option Int :=
  match aftT M S with
  | none => if S.next < l.length then some (ix l S.next).at_ else none
  | some t => if S.next < l.length ∧ (ix l S.next).at_ < t then some (ix l S.next).at_ else some t
structure LnkInv (M : QM) (l : List It) (rb rt until_ : Int) (P Q R : Lk M.σ → Prop) : Prop where
  put : ∀ S, P S → S.next < l.length → (ix l S.next).at_ ≤ S.now → P (putS M l S)
  most : ∀ S, P S → P (mostS M S)
  take : ∀ S, P S → (S.next < l.length → S.now < (ix l S.next).at_) → S.free ≤ S.now → Q (takeS M rb rt S)
  busy : ∀ S, P S → (S.next < l.length → S.now < (ix l S.next).at_) → S.now < S.free → Q S
  jump : ∀ S t, Q S → nextT M l S = some t → S.now < t → t ≤ until_ → P { aftS M S with now := t }
  stop : ∀ S, Q S → (∀ t, nextT M l S = some t → until_ < t) → R (aftS M S)

def goneL (l : List It) (s : List Snt) : List It := s.map fun x => ⟨x.from_, (ix l x.num.toNat).len, 0, 0, 0⟩
def lensL (l : List It) (k : Nat) : List Int := (List.range k).map fun i => (ix l i).len
theorem lensL_len (l : List It) (k : Nat) : (lensL l k).length = k := by simp [lensL]
structure ShL (b : Bk) (l : List It) (T : Int) (S : Lk (Shp (List Hd))) : Prop where
  inv : ∃ last, SInv b last (lensL l S.next) (goneL l S.sent) T S.q ∧ (S.sent.length : Int) ≤ last + 1
  n : S.next ≤ l.length
  s : ∀ x ∈ S.sent, 0 ≤ x.num ∧ x.num < S.next
theorem ShL.start {b : Bk} (hk : BkOk b) (l : List It) : ShL b l 0 (Lk.start ⟨[], Bkt.start b, none⟩) :=
  ⟨⟨-1, by show SInv b (-1) (lensL l 0) (goneL l []) 0 _; exact SInv.start hk, by show (([] : List Snt).length : Int) ≤ -1 + 1; simp⟩, Nat.zero_le _, fun x hx => by simp [Lk.start] at hx⟩
theorem ShL.law {b : Bk} {l : List It} {T : Int} {S : Lk (Shp (List Hd))} (h : ShL b l T S) (hT : T ≤ 1000000000) (hl : l.length ≤ 100) :
    (∀ x ∈ S.sent, 0 ≤ x.num ∧ x.num < l.length) ∧ ListFine (goneL l S.sent) ∧ ∀ j, j < (goneL l S.sent).length → Bkt.conf b (goneL l S.sent) j = true := by
  obtain ⟨⟨last, hi, hc⟩, hn, hs⟩ := h
  have h1 := hi.ltn
  rw [lensL_len] at h1
  have h2 : (goneL l S.sent).length = S.sent.length := by simp [goneL]
  exact ⟨fun x hx => by have := hs x hx; omega, hi.g.listFine hT (by omega), hi.g.conf⟩
end Pl
end Go.Proofs.YtgdijbaodfghjaaGreatDoor

/-
  What item.Takes computes: ticks that bytes take, rounded up.
-/
namespace Go.Proofs.YtgdijbaodfghjaaGreatDoor
open Go.RowKit Bkt
set_option linter.unusedVariables false

set_option maxHeartbeats 1000000 in
theorem takes_any (b t n : Int) (w : World) (hs : SpeedOk b t) (h0 : 0 ≤ n) (h1 : n ≤ 20000) :
    Calls Tryz.prog 11 #[.agg #[.int .i64 b, .int .i64 t], .int .i64 n] w fun e w' => e = .returned (.int .i64 (takes b t n)) ∧ Below w.heap.size w w' := by
  obtain ⟨⟨b0, b1⟩, ⟨t0, t1⟩⟩ := hs
  have m := mul_bd (a := n) (b := t) (A := 20000) (B := 1000000) h0 (by omega) h1 t1
  obtain ⟨m0, m1⟩ := m
  have m1' : n * t ≤ 20000000000 := m1
  clear m1
  have HT : Hid (takes b t n = (n * t + b - 1) / b) := rfl
  go_enter Tryz.func11, Tryz.ntmps11
  go_wp2_with fail
  go_ret
  exact ⟨by rw [HT.out]; rfl, (Below.refl _ _).alloc (Nat.le_refl _) _⟩
end Go.Proofs.YtgdijbaodfghjaaGreatDoor

/-
  Plain law of the wire with a plain queue: Lindley. No program in sight.
-/
namespace Go.Proofs.YtgdijbaodfghjaaGreatDoor
open Bkt
set_option linter.unusedVariables false
namespace Pl
def freeI (l : List It) (rb rt : Int) : Nat → Int
  | 0 => 0
  | i + 1 => max (freeI l rb rt i) (ix l i).at_ + takes rb rt (ix l i).len
def fromI (l : List It) (rb rt : Int) (i : Nat) : Int := max (freeI l rb rt i) (ix l i).at_
theorem freeI_succ (l : List It) (rb rt : Int) (i : Nat) : freeI l rb rt (i + 1) = fromI l rb rt i + takes rb rt (ix l i).len := rfl
def sentL (l : List It) (rb rt : Int) : Nat → List Snt
  | 0 => []
  | i + 1 => sentL l rb rt i ++ [⟨i, fromI l rb rt i, freeI l rb rt (i + 1), (ix l i).mark⟩]
theorem sentL_len (l : List It) (rb rt : Int) : ∀ m, (sentL l rb rt m).length = m
  | 0 => rfl
  | m + 1 => by unfold sentL; rw [List.length_append, sentL_len l rb rt m]; rfl
def waitL (l : List It) (m : Nat) : Nat → List Hd
  | 0 => []
  | n + 1 => if m ≤ n then waitL l m n ++ [⟨ix l n, n⟩] else []
theorem waitL_nil (l : List It) {m n : Nat} (h : n ≤ m) : waitL l m n = [] := by
  cases n with
  | zero => rfl
  | succ n => unfold waitL; rw [if_neg (by omega)]
theorem waitL_snoc (l : List It) {m n : Nat} (h : m ≤ n) : waitL l m (n + 1) = waitL l m n ++ [⟨ix l n, n⟩] := by
  show (if m ≤ n then _ else _) = _
  rw [if_pos h]
theorem waitL_len (l : List It) (m : Nat) : ∀ n, (waitL l m n).length = n - m
  | 0 => by simp [waitL]
  | n + 1 => by
    unfold waitL
    by_cases h : m ≤ n
    · rw [if_pos h, List.length_append, waitL_len l m n]; simp; omega
    · rw [if_neg h]; simp; omega
theorem waitL_cons (l : List It) (m : Nat) : ∀ n, m < n → waitL l m n = ⟨ix l m, m⟩ :: waitL l (m + 1) n
  | 0, h => by omega
  | n + 1, h => by
    rw [waitL_snoc l (by omega)]
    by_cases e : m = n
    · subst e
      rw [waitL_nil l (Nat.le_refl _), waitL_nil l (Nat.le_refl _)]; rfl
    · rw [waitL_cons l m n (by omega), waitL_snoc l (by omega)]; rfl
theorem tot_waitL (l : List It) (hf : ∀ i, i < l.length → 1 ≤ (ix l i).len ∧ (ix l i).len ≤ 10000) (m : Nat) : ∀ n, n ≤ l.length → 0 ≤ tot (waitL l m n) ∧ tot (waitL l m n) ≤ 10000 * (n : Int)
  | 0, _ => by simp [waitL, tot, sumLen]
  | n + 1, h => by
    have ih := tot_waitL l hf m n (by omega)
    have := hf n (by omega)
    unfold waitL
    by_cases e : m ≤ n
    · rw [if_pos e, tot_snoc]
      show 0 ≤ tot (waitL l m n) + (ix l n).len ∧ tot (waitL l m n) + (ix l n).len ≤ _
      omega
    · rw [if_neg e, tot_nil]
      omega
def wtP : FP := ⟨1000, 1000000, false⟩
structure WtB (l : List It) (rb rt : Int) (S : Lk (List Hd)) (m : Nat) : Prop where
  mn : m ≤ S.next
  nl : S.next ≤ l.length
  s : S.sent = sentL l rb rt m
  q : S.q = waitL l m S.next
  lo : S.lost = []
  f : S.free = freeI l rb rt m
  ar : ∀ i, i < S.next → (ix l i).at_ ≤ S.now
structure WtP (l : List It) (rb rt : Int) (S : Lk (List Hd)) : Prop where
  b : ∃ m, WtB l rb rt S m ∧ (m < S.next → S.now ≤ fromI l rb rt m)
  up : S.next < l.length → S.now ≤ (ix l S.next).at_
structure WtQ (l : List It) (rb rt : Int) (S : Lk (List Hd)) : Prop where
  b : ∃ m, WtB l rb rt S m ∧ (m < S.next → S.now < S.free)
  up : S.next < l.length → S.now < (ix l S.next).at_
structure WtR (l : List It) (rb rt until_ : Int) (S : Lk (List Hd)) : Prop where
  b : ∃ m, m ≤ l.length ∧ S.sent = sentL l rb rt m ∧ S.lost = [] ∧ (m < l.length → until_ < fromI l rb rt m) ∧ (m = l.length → S.q = [])
theorem wt_aft {l : List It} {rb rt : Int} {S : Lk (List Hd)} (h : WtQ l rb rt S) : aftS (fifoM wtP) S = S ∧ ∃ m, WtB l rb rt S m ∧ aftT (fifoM wtP) S = if m < S.next then some S.free else none := by
  obtain ⟨m, hb, hw⟩ := h.b
  have hl : (fifoM wtP).len S.q = ((S.next - m : Nat) : Int) := by
    show ((S.q.length : Nat) : Int) = _
    rw [hb.q, waitL_len]
  by_cases hm : m < S.next
  · have h1 : ¬ (fifoM wtP).len S.q = 0 := by rw [hl]; omega
    have h2 := hw hm
    refine ⟨?_, m, hb, ?_⟩
    · unfold aftS aQ
      rw [if_neg h1, if_pos h2]; rfl
    · unfold aftT aT
      rw [if_neg h1, if_pos h2, if_pos hm]
  · have h1 : (fifoM wtP).len S.q = 0 := by rw [hl]; omega
    refine ⟨?_, m, hb, ?_⟩
    · unfold aftS aQ
      rw [if_pos h1]; rfl
    · unfold aftT aT
      rw [if_pos h1, if_neg hm]
theorem takes_pos {rb rt n : Int} (hs : SpeedOk rb rt) (hn : 1 ≤ n) : 1 ≤ takes rb rt n := by
  unfold takes
  obtain ⟨⟨a1, a2⟩, b1, b2⟩ := hs
  have h1 : n * rt + rb - 1 ≥ rb := by
    have : 1 ≤ n * rt := by
      have := Int.mul_le_mul hn b1 (by omega) (by omega)
      omega
    omega
  exact Int.le_ediv_of_mul_le (by omega) (by omega)
theorem wt_inv {l : List It} (hf : ListFine l) (hn : l.length ≤ 60) {rb rt : Int} (hs : SpeedOk rb rt) (until_ : Int) : LnkInv (fifoM wtP) l rb rt until_ (WtP l rb rt) (WtQ l rb rt) (WtR l rb rt until_) where
  put := fun S h hlt hat => by
    obtain ⟨m, hb, hw⟩ := h.b
    have hup := h.up hlt
    have htot := tot_waitL l (fun i hi => (hf.2.1 i hi).f1) m S.next hb.nl
    have hfl := (hf.2.1 S.next hlt).f1
    have e0 : fputL wtP ⟨ix l S.next, S.next⟩ (waitL l m S.next) = ([], waitL l m (S.next + 1)) := by
      unfold fputL
      rw [if_pos (show wtP.head = false from rfl), if_neg, waitL_snoc l hb.mn]
      intro h
      rcases h with h | h
      · have h1 : (1000 : Int) ≤ ((waitL l m S.next).length : Int) := h
        rw [waitL_len] at h1
        omega
      · have h1 : (1000000 : Int) < tot (waitL l m S.next) + (ix l S.next).len := h
        omega
    have e : (fifoM wtP).put S.now ⟨ix l S.next, S.next⟩ S.q = (([] : List Hd), waitL l m (S.next + 1)) := by
      have hq : S.q = waitL l m S.next := hb.q
      exact (congrArg (fputL wtP ⟨ix l S.next, S.next⟩) hq).trans e0
    refine ⟨⟨m, ⟨?_, ?_, hb.s, ?_, ?_, hb.f, fun i hi => ?_⟩, fun hm => ?_⟩, fun hlt2 => ?_⟩
    · show m ≤ S.next + 1; have := hb.mn; omega
    · show S.next + 1 ≤ l.length; omega
    · show ((fifoM wtP).put S.now ⟨ix l S.next, S.next⟩ S.q).2 = waitL l m (S.next + 1)
      rw [e]
    · show S.lost ++ ((fifoM wtP).put S.now ⟨ix l S.next, S.next⟩ S.q).1.map Hd.num = []
      rw [e, hb.lo]; rfl
    · show (ix l i).at_ ≤ S.now
      have hi' : i < S.next + 1 := hi
      by_cases e2 : i = S.next
      · rw [e2]; exact hat
      · exact hb.ar i (by omega)
    · show S.now ≤ fromI l rb rt m
      by_cases e2 : m < S.next
      · exact hw e2
      · have : m = S.next := by have := hb.mn; omega
        unfold fromI
        rw [this]; omega
    · show S.now ≤ (ix l (S.next + 1)).at_
      have := hf.2.2 S.next hlt2
      omega
  most := fun S h => by
    obtain ⟨m, hb, hw⟩ := h.b
    exact ⟨⟨m, ⟨hb.mn, hb.nl, hb.s, hb.q, hb.lo, hb.f, hb.ar⟩, hw⟩, h.up⟩
  take := fun S h hx hfr => by
    obtain ⟨m, hb, hw⟩ := h.b
    by_cases hm : m < S.next
    · have hq : S.q = ⟨ix l m, m⟩ :: waitL l (m + 1) S.next := by rw [hb.q, waitL_cons l m S.next hm]
      have e : (fifoM wtP).take S.now S.q = (some ⟨ix l m, m⟩, [], waitL l (m + 1) S.next) := by rw [hq]; rfl
      have hat := hb.ar m hm
      have hnow : S.now = fromI l rb rt m := by
        have h1 := hw hm
        have h2 := hb.f
        unfold fromI at h1 ⊢
        omega
      have htp := takes_pos hs (hf.2.1 m (by have := hb.nl; omega)).f1.1
      unfold takeS
      rw [e]
      refine ⟨⟨m + 1, ⟨hm, hb.nl, ?_, rfl, ?_, ?_, hb.ar⟩, fun _ => ?_⟩, hx⟩
      · show S.sent ++ [⟨(m : Int), S.now, S.now + takes rb rt (ix l m).len, (ix l m).mark⟩] = sentL l rb rt (m + 1)
        rw [hb.s, hnow, ← freeI_succ]; rfl
      · show S.lost ++ ([] : List Hd).map Hd.num = []
        rw [hb.lo]; rfl
      · show S.now + takes rb rt (ix l m).len = freeI l rb rt (m + 1)
        rw [hnow, freeI_succ]
      · show S.now < S.now + takes rb rt (ix l m).len
        omega
    · have hq : S.q = [] := by rw [hb.q, waitL_nil l (by omega)]
      have e : (fifoM wtP).take S.now S.q = (none, [], []) := by rw [hq]; rfl
      unfold takeS
      rw [e]
      refine ⟨⟨m, ⟨hb.mn, hb.nl, hb.s, ?_, ?_, hb.f, hb.ar⟩, fun x => absurd x hm⟩, hx⟩
      · show ([] : List Hd) = waitL l m S.next
        rw [waitL_nil l (by omega)]
      · show S.lost ++ ([] : List Hd).map Hd.num = []
        rw [hb.lo]; rfl
  busy := fun S h hx hfr => by
    obtain ⟨m, hb, hw⟩ := h.b
    exact ⟨⟨m, hb, fun _ => hfr⟩, hx⟩
  jump := fun S t h hn ht hu => by
    obtain ⟨e1, m, hb, e2⟩ := wt_aft h
    rw [e1]
    have hup := h.up
    unfold nextT at hn
    rw [e2] at hn
    by_cases hm : m < S.next
    · rw [if_pos hm] at hn
      dsimp only at hn
      have hle : t ≤ S.free ∧ (S.next < l.length → t ≤ (ix l S.next).at_) := by
        by_cases hc : S.next < l.length ∧ (ix l S.next).at_ < S.free
        · rw [if_pos hc] at hn
          obtain rfl := Option.some.inj hn
          exact ⟨by omega, fun _ => by omega⟩
        · rw [if_neg hc] at hn
          obtain rfl := Option.some.inj hn
          exact ⟨by omega, fun hlt => by
            rcases Int.lt_or_le (ix l S.next).at_ S.free with h | h
            · exact absurd ⟨hlt, h⟩ hc
            · exact h⟩
      refine ⟨⟨m, ⟨hb.mn, hb.nl, hb.s, hb.q, hb.lo, hb.f, fun i hi => ?_⟩, fun _ => ?_⟩, hle.2⟩
      · show (ix l i).at_ ≤ t
        have := hb.ar i hi
        omega
      · show t ≤ fromI l rb rt m
        have := hb.f
        unfold fromI
        omega
    · rw [if_neg hm] at hn
      dsimp only at hn
      by_cases hc : S.next < l.length
      · rw [if_pos hc] at hn
        obtain rfl := Option.some.inj hn
        refine ⟨⟨m, ⟨hb.mn, hb.nl, hb.s, hb.q, hb.lo, hb.f, fun i hi => ?_⟩, fun x => absurd x hm⟩, fun _ => Int.le_refl _⟩
        show (ix l i).at_ ≤ (ix l S.next).at_
        have := hb.ar i hi
        omega
      · rw [if_neg hc] at hn; cases hn
  stop := fun S h hn => by
    obtain ⟨e1, m, hb, e2⟩ := wt_aft h
    rw [e1]
    unfold nextT at hn
    rw [e2] at hn
    have hmn := hb.mn; have hnl := hb.nl
    refine ⟨m, by omega, hb.s, hb.lo, fun hml => ?_, fun hml => ?_⟩
    · by_cases hm : m < S.next
      · rw [if_pos hm] at hn
        dsimp only at hn
        have hfu : until_ < S.free := by
          by_cases hc : S.next < l.length ∧ (ix l S.next).at_ < S.free
          · rw [if_pos hc] at hn
            have := hn _ rfl
            omega
          · rw [if_neg hc] at hn
            exact hn _ rfl
        have := hb.f
        unfold fromI
        omega
      · rw [if_neg hm] at hn
        dsimp only at hn
        rw [if_pos (by omega)] at hn
        have h1 := hn _ rfl
        have : m = S.next := by omega
        unfold fromI
        rw [this]; omega
    · rw [hb.q, waitL_nil l (by omega)]
theorem wt_start (l : List It) (rb rt : Int) (h0 : ∀ i, i < l.length → 0 ≤ (ix l i).at_) : WtP l rb rt (Lk.start []) :=
  ⟨⟨0, ⟨Nat.le_refl _, Nat.zero_le _, rfl, rfl, rfl, rfl, fun i hi => absurd hi (by simp [Lk.start])⟩, fun hm => absurd hm (by simp [Lk.start])⟩, fun hlt => h0 0 hlt⟩
end Pl
end Go.Proofs.YtgdijbaodfghjaaGreatDoor
