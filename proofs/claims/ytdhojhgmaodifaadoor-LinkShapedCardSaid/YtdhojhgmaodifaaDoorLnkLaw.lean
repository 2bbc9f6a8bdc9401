/-
  Plain law of the wire: what a run does, step by step, with a queue that is a machine; behind a shaper what goes conforms. No program in sight.
-/
import Derived.Test.YtdhojhgmaodifaaDoorShpLaw2
import Derived.Test.YtdhojhgmaodifaaDoorTakeLaw
namespace Go.Proofs.YtdhojhgmaodifaaDoor
open Bkt
set_option linter.unusedVariables false
namespace Pl
/-- a packet that went -/
structure Snt where
  num : Int
  from_ : Int
  to_ : Int
  mark : Int
/-- a run on its way -/
structure Lk (σ : Type) where
  next : Nat
  now : Int
  free : Int
  q : σ
  sent : List Snt
  lost : List Int
  most : Int
def Lk.start {σ : Type} (q : σ) : Lk σ := ⟨0, 0, 0, q, [], [], 0⟩
/-- one that came is put in -/
def putS (M : QM) (l : List It) (S : Lk M.σ) : Lk M.σ := { S with next := S.next + 1, q := (M.put S.now ⟨ix l S.next, S.next⟩ S.q).2, lost := S.lost ++ (M.put S.now ⟨ix l S.next, S.next⟩ S.q).1.map Hd.num }
def mostS (M : QM) (S : Lk M.σ) : Lk M.σ := { S with most := max S.most (M.bytes S.q) }
/-- the next one is taken out, if nothing is on its way -/
def takeS (M : QM) (rb rt : Int) (S : Lk M.σ) : Lk M.σ :=
  match (M.take S.now S.q).1 with
  | none => { S with q := (M.take S.now S.q).2.2, lost := S.lost ++ (M.take S.now S.q).2.1.map Hd.num }
  | some x => { S with q := (M.take S.now S.q).2.2, lost := S.lost ++ (M.take S.now S.q).2.1.map Hd.num, free := S.now + takes rb rt x.it.len, sent := S.sent ++ [⟨x.num, S.now, S.now + takes rb rt x.it.len, x.it.mark⟩] }
/-- what link.after tells, and what it leaves -/
def aT (M : QM) (q : M.σ) (now free : Int) : Option Int := if M.len q = 0 then none else if now < free then some free else (M.when_ (now + 1) q).1.map fun t => max t (now + 1)
def aQ (M : QM) (q : M.σ) (now free : Int) : M.σ := if M.len q = 0 then q else if now < free then q else (M.when_ (now + 1) q).2
def aftT (M : QM) (S : Lk M.σ) : Option Int := aT M S.q S.now S.free
def aftS (M : QM) (S : Lk M.σ) : Lk M.σ := { S with q := aQ M S.q S.now S.free }
/-- the time of the next round -/
def nextT (M : QM) (l : List It) (S : Lk M.σ) : Option Int :=
  match aftT M S with
  | none => if S.next < l.length then some (ix l S.next).at_ else none
  | some t => if S.next < l.length ∧ (ix l S.next).at_ < t then some (ix l S.next).at_ else some t
/-- what a law may ask of a run, and what keeps it: P: at the head of a round; Q: behind it, the time not yet turned; R: at the end -/
structure LnkInv (M : QM) (l : List It) (rb rt until_ : Int) (P Q R : Lk M.σ → Prop) : Prop where
  put : ∀ S, P S → S.next < l.length → (ix l S.next).at_ ≤ S.now → P (putS M l S)
  most : ∀ S, P S → P (mostS M S)
  take : ∀ S, P S → (S.next < l.length → S.now < (ix l S.next).at_) → S.free ≤ S.now → Q (takeS M rb rt S)
  busy : ∀ S, P S → (S.next < l.length → S.now < (ix l S.next).at_) → S.now < S.free → Q S
  jump : ∀ S t, Q S → nextT M l S = some t → S.now < t → t ≤ until_ → P { aftS M S with now := t }
  stop : ∀ S, Q S → (∀ t, nextT M l S = some t → until_ < t) → R (aftS M S)

/-- the packets that went, as a bucket sees them -/
def goneL (l : List It) (s : List Snt) : List It := s.map fun x => ⟨x.from_, (ix l x.num.toNat).len, 0, 0, 0⟩
def lensL (l : List It) (k : Nat) : List Int := (List.range k).map fun i => (ix l i).len
theorem lensL_len (l : List It) (k : Nat) : (lensL l k).length = k := by simp [lensL]
theorem lensL_succ (l : List It) (k : Nat) : lensL l (k + 1) = lensL l k ++ [(ix l k).len] := by simp [lensL, List.range_succ]
theorem lensL_get (l : List It) {k i : Nat} (h : i < k) : (lensL l k).getD i 0 = (ix l i).len := by simp [lensL, List.getD, h]
/-- behind a shaper -/
structure ShL (b : Bk) (l : List It) (T : Int) (S : Lk (Shp (List Hd))) : Prop where
  inv : ∃ last, SInv b last (lensL l S.next) (goneL l S.sent) T S.q ∧ (S.sent.length : Int) ≤ last + 1
  n : S.next ≤ l.length
  s : ∀ x ∈ S.sent, 0 ≤ x.num ∧ x.num < S.next
theorem lookF_inv {b : Bk} {p : FP} {last : Int} {lens : List Int} {gone : List It} {now T : Int} {s : Shp (List Hd)} (h : SInv b last lens gone now s) : SInv b last lens gone now (look (fifoM p) T s) := (h.look (p := p) (T := T)).1
theorem shl_aft {b : Bk} {p : FP} (hk : BkOk b) (l : List It) (S : Lk (Shp (List Hd))) (h0 : ShL b l (S.now + 1) S) : ShL b l (S.now + 1) (aftS (shM b (fifoM p)) S) := by
  obtain ⟨⟨last, h, hc⟩, hn, hs⟩ := h0
  obtain ⟨l1, l2, l3⟩ := h.look (p := p) (T := S.now + 1)
  have e : (shM b (fifoM p)).when_ (S.now + 1) S.q = shWhen b (fifoM p) (S.now + 1) (look (fifoM p) (S.now + 1) S.q) := rfl
  unfold aftS aQ
  by_cases hz : (shM b (fifoM p)).len S.q = 0
  · rw [if_pos hz]; exact ⟨⟨last, h, hc⟩, hn, hs⟩
  rw [if_neg hz]
  by_cases hfr : S.now < S.free
  · rw [if_pos hfr]; exact ⟨⟨last, h, hc⟩, hn, hs⟩
  rw [if_neg hfr, e]
  generalize look (fifoM p) (S.now + 1) S.q = s1 at *
  cases hnx : s1.next with
  | none =>
    have hq := l2 hnx
    have e5 : shWhen b (fifoM p) (S.now + 1) s1 = (none, ⟨[], s1.st, none⟩) := by unfold shWhen; rw [hnx]; dsimp only; rw [hq]; rfl
    rw [e5]
    obtain ⟨q, st, nx⟩ := s1
    dsimp only at hnx hq
    subst hnx; subst hq
    exact ⟨⟨last, l1, hc⟩, hn, hs⟩
  | some x =>
    have hw := l1.w x (by rw [hnx]; simp)
    have e5 : shWhen b (fifoM p) (S.now + 1) s1 = (some (whenAt b s1.st (S.now + 1) x.it.len), ⟨s1.q, fill b s1.st (S.now + 1), some x⟩) := by
      unfold shWhen; rw [hnx]; dsimp only; rw [if_neg (by have := hw.room; omega)]
    rw [e5]
    have h2 := l1.filled hk (Int.le_refl (S.now + 1))
    rw [hnx] at h2
    exact ⟨⟨last, h2, hc⟩, hn, hs⟩
theorem shl_inv {b : Bk} {p : FP} (hk : BkOk b) (hd : p.head = false) (l : List It) (hf : ListFine l) (rb rt until_ : Int) :
    LnkInv (shM b (fifoM p)) l rb rt until_ (fun S => ShL b l S.now S) (fun S => ShL b l (S.now + 1) S) (fun S => ShL b l (S.now + 1) S) where
  put := fun S ⟨⟨last, h, hc⟩, hn, hs⟩ hlt hat => by
    have hl := (hf.2.1 S.next hlt).f1
    have h2 := h.put (p := p) (Int.le_refl S.now) hd (ix l S.next) hl
    rw [lensL_len] at h2
    refine ⟨⟨last, ?_, hc⟩, hlt, fun x hx => ?_⟩
    · show SInv b last (lensL l (S.next + 1)) _ _ _
      rw [lensL_succ]
      exact h2
    · have := hs x hx
      show 0 ≤ x.num ∧ x.num < ((S.next + 1 : Nat) : Int)
      omega
  most := fun S ⟨h, hn, hs⟩ => ⟨h, hn, hs⟩
  take := fun S ⟨⟨last, h, hc⟩, hn, hs⟩ _ hfr => by
    have h1 := lookF_inv (p := p) (T := S.now) h
    have e : (shM b (fifoM p)).take S.now S.q = shTake b S.now (look (fifoM p) S.now S.q) := rfl
    unfold takeS
    rw [e]
    generalize look (fifoM p) S.now S.q = s1 at *
    cases hnx : s1.next with
    | none =>
      have e5 : shTake b S.now s1 = (none, [], s1) := by unfold shTake; rw [hnx]
      rw [e5]
      exact ⟨⟨last, h1.later (by show S.now ≤ S.now + 1; omega), hc⟩, hn, hs⟩
    | some x =>
      have hw := h1.w x (by rw [hnx]; simp)
      by_cases ho : Bkt.okB b s1.st S.now x.it.len = true
      · have e5 : shTake b S.now s1 = (some x, [], ⟨s1.q, Bkt.take b s1.st S.now x.it.len, none⟩) := by unfold shTake; rw [hnx]; dsimp only; rw [if_pos ho]
        rw [e5]
        have h2 := (h1.take hk (Int.le_refl S.now) hnx ho).later (T := S.now + 1) (by omega)
        have hxn := hw.hi
        rw [lensL_len] at hxn
        have hn0 := hw.n0
        have hlo := hw.lo
        refine ⟨⟨x.num, ?_, by show ((S.sent ++ [_]).length : Int) ≤ _; rw [List.length_append, List.length_singleton]; omega⟩, hn, fun y hy => ?_⟩
        · rw [lensL_get l (by omega)] at h2
          show SInv b x.num (lensL l S.next) (goneL l (S.sent ++ [⟨x.num, S.now, S.now + takes rb rt x.it.len, x.it.mark⟩])) _ _
          unfold goneL at h2 ⊢
          rw [List.map_append]
          exact h2
        · have hy' : y ∈ S.sent ++ [⟨x.num, S.now, S.now + takes rb rt x.it.len, x.it.mark⟩] := hy
          rcases List.mem_append.1 hy' with hy' | hy'
          · exact hs y hy'
          · simp at hy'
            subst hy'
            exact ⟨hn0, hxn⟩
      · have e5 : shTake b S.now s1 = (none, [], ⟨s1.q, Bkt.take b s1.st S.now x.it.len, some x⟩) := by unfold shTake; rw [hnx]; dsimp only; rw [if_neg ho]
        rw [e5]
        have e6 : Bkt.take b s1.st S.now x.it.len = fill b s1.st S.now := by unfold Bkt.take; rw [if_neg ho]
        have h2 := (h1.filled hk (Int.le_refl S.now)).later (T := S.now + 1) (by omega)
        rw [← e6, hnx] at h2
        exact ⟨⟨last, h2, hc⟩, hn, hs⟩
  busy := fun S ⟨⟨last, h, hc⟩, hn, hs⟩ _ _ => ⟨⟨last, h.later (by omega), hc⟩, hn, hs⟩
  jump := fun S t h _ ht _ => by
    obtain ⟨⟨last, h2, hc⟩, hn, hs⟩ := shl_aft (p := p) hk l S h
    exact ⟨⟨last, h2.later (by show S.now + 1 ≤ t; omega), hc⟩, hn, hs⟩
  stop := fun S h _ => shl_aft (p := p) hk l S h
theorem ShL.start {b : Bk} (hk : BkOk b) (l : List It) : ShL b l 0 (Lk.start ⟨[], Bkt.start b, none⟩) :=
  ⟨⟨-1, by show SInv b (-1) (lensL l 0) (goneL l []) 0 _; exact SInv.start hk, by show (([] : List Snt).length : Int) ≤ -1 + 1; simp⟩, Nat.zero_le _, fun x hx => by simp [Lk.start] at hx⟩
/-- what the law asks -/
theorem ShL.law {b : Bk} {l : List It} {T : Int} {S : Lk (Shp (List Hd))} (h : ShL b l T S) (hT : T ≤ 1000000000) (hl : l.length ≤ 100) :
    (∀ x ∈ S.sent, 0 ≤ x.num ∧ x.num < l.length) ∧ ListFine (goneL l S.sent) ∧ ∀ j, j < (goneL l S.sent).length → Bkt.conf b (goneL l S.sent) j = true := by
  obtain ⟨⟨last, hi, hc⟩, hn, hs⟩ := h
  have h1 := hi.ltn
  rw [lensL_len] at h1
  have h2 : (goneL l S.sent).length = S.sent.length := by simp [goneL]
  exact ⟨fun x hx => by have := hs x hx; omega, hi.g.listFine hT (by omega), hi.g.conf⟩
end Pl
end Go.Proofs.YtdhojhgmaodifaaDoor
