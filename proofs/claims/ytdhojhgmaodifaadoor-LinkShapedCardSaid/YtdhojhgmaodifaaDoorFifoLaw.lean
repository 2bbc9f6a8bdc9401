/-
  Plain law of the plain queue: who comes first goes first.
-/
import Derived.Test.YtdhojhgmaodifaaDoorPlayLaw
namespace Go.Proofs.YtdhojhgmaodifaaDoor
open Bkt
namespace Pl
set_option linter.unusedVariables false

def tot (l : List Hd) : Int := sumLen (l.map key)
theorem tot_cons (x : Hd) (l : List Hd) : tot (x :: l) = x.it.len + tot l := rfl
theorem tot_nil : tot [] = 0 := rfl
theorem tot_app (a b : List Hd) : tot (a ++ b) = tot a + tot b := by unfold tot; rw [List.map_append, sumLen_append]
theorem tot_snoc (a : List Hd) (x : Hd) : tot (a ++ [x]) = tot a + x.it.len := by rw [tot_app]; simp [tot, sumLen, key]
/-- what goes off the head until the rest fits; the rest -/
def cutQ (P R : Int) : List Hd → List Hd × List Hd
  | [] => ([], [])
  | x :: r => if P < ((x :: r).length : Int) ∨ R < tot (x :: r) then (x :: (cutQ P R r).1, (cutQ P R r).2) else ([], x :: r)
theorem cutQ_app (P R : Int) : ∀ l, (cutQ P R l).1 ++ (cutQ P R l).2 = l
  | [] => rfl
  | x :: r => by
    unfold cutQ
    split
    · simp [cutQ_app P R r]
    · rfl
theorem cutQ_fits (P R : Int) (hP : 0 ≤ P) (hR : 0 ≤ R) : ∀ l, ((cutQ P R l).2.length : Int) ≤ P ∧ tot (cutQ P R l).2 ≤ R
  | [] => by simp [cutQ, tot_nil, hP, hR]
  | x :: r => by
    unfold cutQ
    split
    · exact cutQ_fits P R hP hR r
    · simp only []; omega
structure FP where
  packets : Int
  room : Int
  head : Bool
def fputL (p : FP) (x : Hd) (l : List Hd) : List Hd × List Hd :=
  if p.head = false then (if p.packets ≤ (l.length : Int) ∨ p.room < tot l + x.it.len then ([x], l) else ([], l ++ [x]))
  else cutQ p.packets p.room (l ++ [x])
def ftakeL (l : List Hd) : Option Hd × List Hd × List Hd :=
  match l with
  | [] => (none, [], [])
  | x :: r => (some x, [], r)
def fifoM (p : FP) : QM where
  σ := List Hd
  put := fun _ x l => fputL p x l
  take := fun _ l => ftakeL l
  when_ := fun now l => (if 0 < l.length then some now else none, l)
  wait := fun l => l.map key
  len := fun l => l.length
  bytes := fun l => tot l
theorem fput_app (p : FP) (x : Hd) (l : List Hd) : ((fputL p x l).1 ++ (fputL p x l).2).Perm (l ++ [x]) := by
  unfold fputL
  split
  · split
    · exact (List.perm_append_comm (l₁ := [x]) (l₂ := l))
    · exact List.Perm.refl _
  · rw [cutQ_app]
theorem fput_perm (p : FP) (x : Hd) (l : List Hd) : (l.map key ++ [key x]).Perm ((fputL p x l).1.map key ++ (fputL p x l).2.map key) := by
  have := (fput_app p x l).symm.map key
  rw [List.map_append, List.map_append] at this
  exact this
theorem len_key (l : List Hd) : ((l.length : Nat) : Int) = ((l.map key).length : Nat) := by rw [List.length_map]
theorem fifo_good (p : FP) (late : Bool) : (fifoM p).Good late fun _ => True where
  put := fun s now x _ _ _ => ⟨trivial, fput_perm p x s⟩
  take := fun s now _ => ⟨trivial, by
    show (List.map key s).Perm _
    cases s with
    | nil => exact List.Perm.refl _
    | cons x r => exact List.Perm.refl _⟩
  when_ := fun s now _ => ⟨trivial, List.Perm.refl _⟩
  len := fun s _ => ⟨Int.le_of_eq (len_key s), Int.le_refl _, fun _ => ⟨len_key s, rfl⟩⟩

/-- the last one that was taken -/
def lastTo (sn : Nat → Seen) : Nat → Int
  | 0 => -1
  | k + 1 => if 0 ≤ (sn k).taken then (sn k).taken else lastTo sn k
structure FInv (p : FP) (last : Int) (n : Nat) (l : List Hd) : Prop where
  up : (l.map Hd.num).Pairwise (· < ·)
  lo : ∀ x ∈ l, last < x.num
  hi : ∀ x ∈ l, x.num < n
  ltn : last < n
  ln : ∀ x ∈ l, 0 ≤ x.it.len
  m1 : (l.length : Int) ≤ p.packets
  low : -1 ≤ last
theorem FInv.sub {p : FP} {last : Int} {n : Nat} {a b l : List Hd} (h : FInv p last n l) (e : a ++ b = l) (hm : (b.length : Int) ≤ p.packets) : FInv p last n b := by
  subst e
  refine ⟨?_, fun x hx => h.lo x (by simp [hx]), fun x hx => h.hi x (by simp [hx]), h.ltn, fun x hx => h.ln x (by simp [hx]), hm, h.low⟩
  have := h.up
  rw [List.map_append, List.pairwise_append] at this
  exact this.2.1
theorem pairwise_snoc {l : List Int} {x : Int} (h : l.Pairwise (· < ·)) (hx : ∀ y ∈ l, y < x) : (l ++ [x]).Pairwise (· < ·) := by
  rw [List.pairwise_append]
  refine ⟨h, by simp, fun a ha b hb => ?_⟩
  simp at hb
  subst hb
  exact hx a ha
structure FOk (p : FP) : Prop where
  pk : 0 ≤ p.packets ∧ p.packets ≤ 1000000
  rm : 0 ≤ p.room ∧ p.room ≤ 1000000
theorem FInv.put {p : FP} {last : Int} {n : Nat} {l : List Hd} (h : FInv p last n l) (hp : FOk p) (hr : tot l ≤ p.room) (it : It) (hit : 0 ≤ it.len) :
    FInv p last (n + 1) (fputL p ⟨it, n⟩ l).2 ∧ tot (fputL p ⟨it, n⟩ l).2 ≤ p.room := by
  have hm := h.m1
  have up : ((l ++ [(⟨it, (n : Int)⟩ : Hd)]).map Hd.num).Pairwise (· < ·) := by
    rw [List.map_append]
    exact pairwise_snoc h.up (fun y hy => by
      obtain ⟨z, hz, rfl⟩ := List.mem_map.1 hy
      exact h.hi z hz)
  have lo : ∀ x ∈ l ++ [(⟨it, (n : Int)⟩ : Hd)], last < x.num := by
    intro x hx
    rcases List.mem_append.1 hx with hx | hx
    · exact h.lo x hx
    · simp at hx; subst hx; exact h.ltn
  have hi : ∀ x ∈ l ++ [(⟨it, (n : Int)⟩ : Hd)], x.num < (n + 1 : Nat) := by
    intro x hx
    rcases List.mem_append.1 hx with hx | hx
    · have := h.hi x hx; omega
    · simp at hx; subst hx; show (n : Int) < _; omega
  have ln : ∀ x ∈ l ++ [(⟨it, (n : Int)⟩ : Hd)], 0 ≤ x.it.len := by
    intro x hx
    rcases List.mem_append.1 hx with hx | hx
    · exact h.ln x hx
    · simp at hx; subst hx; exact hit
  have hl := h.ltn
  unfold fputL
  split
  · split
    · exact ⟨⟨h.up, h.lo, fun x hx => by have := h.hi x hx; omega, by omega, h.ln, h.m1, h.low⟩, hr⟩
    · rename_i hn
      refine ⟨⟨up, lo, hi, by omega, ln, by simp only [List.length_append, List.length_singleton]; omega, h.low⟩, ?_⟩
      show tot (l ++ [_]) ≤ _
      rw [tot_snoc]
      show tot l + it.len ≤ _
      simp only [] at hn
      omega
  · obtain ⟨c1, c2⟩ := cutQ_fits p.packets p.room hp.pk.1 hp.rm.1 (l ++ [⟨it, n⟩])
    have e := cutQ_app p.packets p.room (l ++ [⟨it, n⟩])
    refine ⟨⟨?_, fun x hx => lo x (by rw [← e]; simp [hx]), fun x hx => hi x (by rw [← e]; simp [hx]), by omega, fun x hx => ln x (by rw [← e]; simp [hx]), c1, h.low⟩, c2⟩
    rw [← e, List.map_append, List.pairwise_append] at up
    exact up.2.1
theorem nth_succ {l : List Stp} (M : QM) (s0 : M.σ) {k : Nat} {t : Stp} (h : l[k]? = some t) : nth M s0 l (k + 1) = (stepM M (nth M s0 l k).1 (nth M s0 l k).2 t).2 := by
  rw [show nth M s0 l (k + 1) = (match l[k]? with | some t => (stepM M (nth M s0 l k).1 (nth M s0 l k).2 t).2 | none => nth M s0 l k) from rfl, h]
theorem seenAt_of {l : List Stp} (M : QM) (s0 : M.σ) {k : Nat} {t : Stp} (h : l[k]? = some t) : seenAt M s0 l k = (stepM M (nth M s0 l k).1 (nth M s0 l k).2 t).1 := by
  unfold seenAt; rw [h]
/-- all that the law asks of a play -/
theorem fifo_play {p : FP} (hp : FOk p) (l : List Stp) (hl : ∀ t ∈ l, StpOk t) : ∀ k, k ≤ l.length →
    FInv p (lastTo (seenAt (fifoM p) [] l) k) (nth (fifoM p) [] l k).1 (nth (fifoM p) [] l k).2 ∧ tot (nth (fifoM p) [] l k).2 ≤ p.room ∧
    ∀ i, i < k → (0 ≤ (seenAt (fifoM p) [] l i).taken → lastTo (seenAt (fifoM p) [] l) i < (seenAt (fifoM p) [] l i).taken) ∧ (seenAt (fifoM p) [] l i).len ≤ p.packets ∧ (seenAt (fifoM p) [] l i).bytes ≤ p.room
  | 0, _ => ⟨⟨by simp [nth], fun x hx => by simp [nth] at hx, fun x hx => by simp [nth] at hx, by show (-1 : Int) < ((0 : Nat) : Int); omega, fun x hx => by simp [nth] at hx, by show ((0 : Nat) : Int) ≤ _; have := hp.pk.1; omega, by show (-1 : Int) ≤ -1; omega⟩, by show tot [] ≤ _; rw [tot_nil]; exact hp.rm.1, fun i hi => by omega⟩
  | k + 1, hk => by
    obtain ⟨h1, h2, h3⟩ := fifo_play hp l hl k (by omega)
    have ek : l[k]? = some l[k] := List.getElem?_eq_getElem (by omega)
    have en : nth (fifoM p) [] l (k + 1) = (stepM (fifoM p) (nth (fifoM p) [] l k).1 (nth (fifoM p) [] l k).2 l[k]).2 := nth_succ _ _ ek
    have es : seenAt (fifoM p) [] l k = (stepM (fifoM p) (nth (fifoM p) [] l k).1 (nth (fifoM p) [] l k).2 l[k]).1 := seenAt_of _ _ ek
    suffices hs : FInv p (if 0 ≤ (seenAt (fifoM p) [] l k).taken then (seenAt (fifoM p) [] l k).taken else lastTo (seenAt (fifoM p) [] l) k) (nth (fifoM p) [] l (k + 1)).1 (nth (fifoM p) [] l (k + 1)).2 ∧ tot (nth (fifoM p) [] l (k + 1)).2 ≤ p.room ∧
        ((0 ≤ (seenAt (fifoM p) [] l k).taken → lastTo (seenAt (fifoM p) [] l) k < (seenAt (fifoM p) [] l k).taken) ∧ (seenAt (fifoM p) [] l k).len ≤ p.packets ∧ (seenAt (fifoM p) [] l k).bytes ≤ p.room) by
      refine ⟨hs.1, hs.2.1, fun i hi => ?_⟩
      rcases Nat.lt_or_ge i k with h' | h'
      · exact h3 i h'
      · obtain rfl : i = k := by omega
        exact hs.2.2
    rw [en, es]
    generalize lastTo (seenAt (fifoM p) [] l) k = last at *
    generalize nth (fifoM p) [] l k = ns at *
    obtain ⟨n, s⟩ := ns
    dsimp only at h1 h2 ⊢
    have ht : l[k] ∈ l := List.getElem_mem _
    generalize l[k] = t at *
    by_cases c0 : t.what = 0
    · rw [stepM_put c0]
      obtain ⟨g1, g2⟩ := h1.put hp h2 t.it (by have := (hl _ ht c0).1; unfold okB at this; simp at this; omega)
      rw [if_neg (by show ¬ (0 : Int) ≤ -1; decide)]
      exact ⟨g1, g2, fun h => absurd h (by show ¬ (0 : Int) ≤ -1; decide), g1.m1, g2⟩
    · by_cases c1 : t.what = 1
      · rw [stepM_take c1]
        cases s with
        | nil =>
          rw [if_neg (by show ¬ (0 : Int) ≤ -1; decide)]
          exact ⟨h1, h2, fun h => absurd h (by show ¬ (0 : Int) ≤ -1; decide), h1.m1, h2⟩
        | cons x r =>
          have hx := h1.lo x (by simp)
          have hx2 := h1.hi x (by simp)
          have hlow := h1.low
          rw [if_pos (by show 0 ≤ x.num; omega)]
          have hm := h1.m1
          rw [List.length_cons] at hm
          have hu := h1.up
          rw [List.map_cons, List.pairwise_cons] at hu
          have hxl := h1.ln x (by simp)
          rw [tot_cons] at h2
          refine ⟨⟨hu.2, fun y hy => hu.1 _ (List.mem_map_of_mem hy), fun y hy => h1.hi y (List.mem_cons_of_mem _ hy), hx2, fun y hy => h1.ln y (List.mem_cons_of_mem _ hy), ?_, ?_⟩, ?_, fun _ => hx, ?_, ?_⟩
          · show (r.length : Int) ≤ _; omega
          · show -1 ≤ x.num; omega
          · show tot r ≤ _; omega
          · show (r.length : Int) ≤ _; omega
          · show tot r ≤ _; omega
      · rw [stepM_when c0 c1]
        rw [if_neg (by show ¬ (0 : Int) ≤ -1; decide)]
        exact ⟨h1, h2, fun h => absurd h (by show ¬ (0 : Int) ≤ -1; decide), h1.m1, h2⟩
end Pl
end Go.Proofs.YtdhojhgmaodifaaDoor
