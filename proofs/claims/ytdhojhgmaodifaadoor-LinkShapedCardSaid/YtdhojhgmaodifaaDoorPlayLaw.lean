/-
  Plain law of plays: queues as machines, what a play shows, the check that nothing is lost but what is told.
-/
import Derived.Test.YtdhojhgmaodifaaDoorHdLaw
namespace Go.Proofs.YtdhojhgmaodifaaDoor
open Bkt
namespace Pl
set_option linter.unusedVariables false

structure Stp where
  what : Int
  later : Int
  it : It
structure Seen where
  taken : Int
  mark : Int
  when_ : Int
  len : Int
  bytes : Int
  lost : List Int

/-- a queue as a machine; wait: what waits in it (numbers, bytes) -/
structure QM where
  σ : Type
  put : Int → Hd → σ → List Hd × σ
  take : Int → σ → Option Hd × List Hd × σ
  when_ : Int → σ → Option Int × σ
  wait : σ → List (Int × Int)
  len : σ → Int
  bytes : σ → Int
/-- number and bytes -/
def key (h : Hd) : Int × Int := (h.num, h.it.len)

def sumLen : List (Int × Int) → Int
  | [] => 0
  | h :: r => h.2 + sumLen r
theorem sumLen_append : ∀ a b : List (Int × Int), sumLen (a ++ b) = sumLen a + sumLen b := by
  intro a; induction a with
  | nil => intro b; simp [sumLen]
  | cons h r ih => intro b; simp [sumLen, ih]; omega
theorem sumLen_perm {a b : List (Int × Int)} (h : a.Perm b) : sumLen a = sumLen b := by
  induction h with
  | nil => rfl
  | cons x _ ih => simp [sumLen, ih]
  | swap x y l => simp [sumLen]; omega
  | trans _ _ h1 h2 => exact h1.trans h2

def tkn : Option Hd → Int
  | some h => h.num
  | none => -1
def mrk : Option Hd → Int
  | some h => h.it.mark
  | none => 0
def whn : Option Int → Int
  | some a => a
  | none => -1
/-- a step of a play: what is seen, how many were put in, the queue behind it -/
def stepM (M : QM) (n : Nat) (s : M.σ) (t : Stp) : Seen × Nat × M.σ :=
  if t.what = 0 then
    let r := M.put t.later ⟨t.it, n⟩ s
    (⟨-1, 0, -1, M.len r.2, M.bytes r.2, r.1.map Hd.num⟩, n + 1, r.2)
  else if t.what = 1 then
    let r := M.take t.later s
    (⟨tkn r.1, mrk r.1, -1, M.len r.2.2, M.bytes r.2.2, r.2.1.map Hd.num⟩, n, r.2.2)
  else
    let r := M.when_ t.later s
    (⟨-1, 0, whn r.1, M.len r.2, M.bytes r.2, []⟩, n, r.2)

/-- behind the first k steps -/
def nth (M : QM) (s0 : M.σ) (l : List Stp) : Nat → Nat × M.σ
  | 0 => (0, s0)
  | k + 1 => match l[k]? with
    | some t => (stepM M (nth M s0 l k).1 (nth M s0 l k).2 t).2
    | none => nth M s0 l k
def seenAt (M : QM) (s0 : M.σ) (l : List Stp) (k : Nat) : Seen :=
  match l[k]? with
  | some t => (stepM M (nth M s0 l k).1 (nth M s0 l k).2 t).1
  | none => ⟨-1, 0, -1, 0, 0, []⟩
def playL (M : QM) (s0 : M.σ) (l : List Stp) : Nat → List Seen
  | 0 => []
  | k + 1 => playL M s0 l k ++ [seenAt M s0 l k]
theorem playL_len (M : QM) (s0 : M.σ) (l : List Stp) : ∀ k, (playL M s0 l k).length = k
  | 0 => rfl
  | k + 1 => by simp [playL, playL_len M s0 l k]
theorem playL_get (M : QM) (s0 : M.σ) (l : List Stp) : ∀ k i, i < k → (playL M s0 l k)[i]? = some (seenAt M s0 l i)
  | k + 1, i, h => by
    rcases Nat.lt_or_ge i k with h' | h'
    · rw [playL, List.getElem?_append_left (by rw [playL_len]; exact h')]; exact playL_get M s0 l k i h'
    · obtain rfl : i = k := by omega
      rw [playL, List.getElem?_append_right (by rw [playL_len]; omega), playL_len, Nat.sub_self]; rfl

/-- when steps are done -/
def clampL (x : Int) : Int := max 0 (min x 1000)
def okB (x : It) : Bool := decide (0 ≤ x.at_ ∧ x.at_ ≤ 1000000000 ∧ 1 ≤ x.len ∧ x.len ≤ 10000 ∧ 0 ≤ x.flow ∧ x.flow < 16 ∧ 0 ≤ x.band ∧ x.band < 8 ∧ 0 ≤ x.mark ∧ x.mark ≤ 255)
def nowAt : List Stp → Nat → Int
  | _, 0 => 0
  | l, k + 1 => nowAt l k + (match l[k]? with | some t => clampL t.later | none => 0)
def timed (now : Int) (t : Stp) : Stp :=
  let y : It := ⟨now, t.it.len, t.it.flow, t.it.band, t.it.mark⟩
  ⟨if t.what = 0 ∧ okB y = false then 2 else t.what, now, y⟩
def timesTo (l : List Stp) : Nat → List Stp
  | 0 => []
  | k + 1 => match l[k]? with
    | some t => timesTo l k ++ [timed (nowAt l (k + 1)) t]
    | none => timesTo l k

/-! the check -/
structure LS where
  size : List Int
  state : List Int
  wait : Int
  bytes : Int
def outL (S : LS) (k : Int) : Option LS :=
  if 0 ≤ k ∧ k < S.state.length ∧ S.state.getD k.toNat 0 = 0 then some ⟨S.size, S.state.set k.toNat 1, S.wait - 1, S.bytes - S.size.getD k.toNat 0⟩ else none
def outsL : LS → List Int → Option LS
  | S, [] => some S
  | S, k :: r => (outL S k).bind (outsL · r)
def inL (S : LS) (t : Stp) : LS := if t.what = 0 then ⟨S.size ++ [t.it.len], S.state ++ [0], S.wait + 1, S.bytes + t.it.len⟩ else S

/-- the check's state fits what waits -/
structure Fits (S : LS) (n : Nat) (W : List (Int × Int)) : Prop where
  s1 : S.size.length = n
  s2 : S.state.length = n
  nd : (W.map Prod.fst).Nodup
  h : ∀ x ∈ W, 0 ≤ x.1 ∧ x.1 < n ∧ S.state.getD x.1.toNat 0 = 0 ∧ S.size.getD x.1.toNat 0 = x.2
  w : S.wait = W.length
  b : S.bytes = sumLen W
theorem Fits.start : Fits ⟨[], [], 0, 0⟩ 0 [] := ⟨rfl, rfl, by simp, fun x hx => by simp at hx, rfl, rfl⟩
theorem Fits.perm {S : LS} {n : Nat} {W W' : List (Int × Int)} (h : Fits S n W) (hp : W.Perm W') : Fits S n W' :=
  ⟨h.s1, h.s2, (hp.map _).nodup_iff.1 h.nd, fun x hx => h.h x (hp.mem_iff.2 hx), by rw [h.w, hp.length_eq], by rw [h.b, sumLen_perm hp]⟩
theorem Fits.out {S : LS} {n : Nat} {x : Int × Int} {W : List (Int × Int)} (h : Fits S n (x :: W)) : ∃ S', outL S x.1 = some S' ∧ Fits S' n W := by
  obtain ⟨h0, h1, h2, h3⟩ := h.h x (by simp)
  refine ⟨_, if_pos ⟨h0, by rw [h.s2]; exact h1, h2⟩, ⟨h.s1, by simpa using h.s2, ?_, ?_, ?_, ?_⟩⟩
  · have := h.nd; rw [List.map_cons, List.nodup_cons] at this; exact this.2
  · intro y hy
    obtain ⟨a, b, c, d⟩ := h.h y (by simp [hy])
    refine ⟨a, b, ?_, d⟩
    have hne : x.1 ≠ y.1 := by
      have := h.nd
      rw [List.map_cons, List.nodup_cons] at this
      intro e; exact this.1 (e ▸ List.mem_map_of_mem hy)
    have : x.1.toNat ≠ y.1.toNat := by omega
    simp only [List.getD, List.getElem?_set]
    rw [if_neg this]; exact c
  · rw [h.w]; simp
  · rw [h.b, h3]; simp [sumLen]; omega
theorem Fits.outs {n : Nat} {W : List (Int × Int)} : ∀ (l : List Hd) {S : LS}, Fits S n (l.map key ++ W) → ∃ S', outsL S (l.map Hd.num) = some S' ∧ Fits S' n W
  | [], S, h => ⟨S, rfl, h⟩
  | x :: l, S, h => by
    obtain ⟨S1, e1, h1⟩ := Fits.out (x := key x) (W := l.map key ++ W) h
    obtain ⟨S2, e2, h2⟩ := Fits.outs l h1
    exact ⟨S2, by simp [outsL, show outL S x.num = some S1 from e1, e2], h2⟩
theorem Fits.in_ {S : LS} {n : Nat} {W : List (Int × Int)} (h : Fits S n W) (t : Stp) (ht : t.what = 0) : Fits (inL S t) (n + 1) (W ++ [((n : Int), t.it.len)]) := by
  unfold inL; rw [if_pos ht]
  refine ⟨by simp [h.s1], by simp [h.s2], ?_, ?_, ?_, ?_⟩
  · rw [List.map_append, List.nodup_append]
    refine ⟨h.nd, by simp, ?_⟩
    intro a ha b hb e
    obtain ⟨y, hy, rfl⟩ := List.mem_map.1 ha
    have := (h.h y hy).2.1
    simp at hb; omega
  · intro y hy
    rcases List.mem_append.1 hy with hy | hy
    · obtain ⟨a, b, c, d⟩ := h.h y hy
      refine ⟨a, by omega, ?_, ?_⟩
      · simp only [List.getD] at c ⊢; rw [List.getElem?_append_left (by rw [h.s2]; omega)]; exact c
      · simp only [List.getD] at d ⊢; rw [List.getElem?_append_left (by rw [h.s1]; omega)]; exact d
    · simp at hy; subst hy
      refine ⟨by simp, by simp; omega, ?_, ?_⟩
      · simp [List.getD, ← h.s2]
      · simp [List.getD, ← h.s1]
  · rw [h.w]; simp
  · rw [h.b, sumLen_append]; simp [sumLen]

/-- one step of the check -/
def stepL (late : Bool) (S : LS) (t : Stp) (s : Seen) : Option LS :=
  (outsL (inL S t) s.lost).bind fun S2 => (if 0 ≤ s.taken then outL S2 s.taken else some S2).bind fun S3 =>
    if s.len ≤ S3.wait ∧ s.bytes ≤ S3.bytes ∧ (late = false → S3.wait ≤ s.len ∧ S3.bytes ≤ s.bytes) then some S3 else none

theorem stepL_some {late : Bool} {S S2 S3 : LS} {t : Stp} {s : Seen} (h1 : outsL (inL S t) s.lost = some S2) (h2 : 0 ≤ s.taken → outL S2 s.taken = some S3) (h3 : s.taken < 0 → S2 = S3)
    (h4 : s.len ≤ S3.wait ∧ s.bytes ≤ S3.bytes ∧ (late = false → S3.wait ≤ s.len ∧ S3.bytes ≤ s.bytes)) : stepL late S t s = some S3 := by
  unfold stepL
  rw [h1, Option.bind_some]
  by_cases h : 0 ≤ s.taken
  · rw [if_pos h, h2 h, Option.bind_some, if_pos h4]
  · rw [if_neg h, h3 (by omega), Option.bind_some, if_pos h4]
theorem stepM_put {M : QM} {n : Nat} {s : M.σ} {t : Stp} (h : t.what = 0) : stepM M n s t = (⟨-1, 0, -1, M.len (M.put t.later ⟨t.it, n⟩ s).2, M.bytes (M.put t.later ⟨t.it, n⟩ s).2, (M.put t.later ⟨t.it, n⟩ s).1.map Hd.num⟩, n + 1, (M.put t.later ⟨t.it, n⟩ s).2) := by
  unfold stepM; rw [if_pos h]
theorem stepM_take {M : QM} {n : Nat} {s : M.σ} {t : Stp} (h : t.what = 1) : stepM M n s t = (⟨tkn (M.take t.later s).1, mrk (M.take t.later s).1, -1, M.len (M.take t.later s).2.2, M.bytes (M.take t.later s).2.2, (M.take t.later s).2.1.map Hd.num⟩, n, (M.take t.later s).2.2) := by
  unfold stepM; rw [if_neg (by omega), if_pos h]
theorem stepM_when {M : QM} {n : Nat} {s : M.σ} {t : Stp} (h0 : t.what ≠ 0) (h : t.what ≠ 1) : stepM M n s t = (⟨-1, 0, whn (M.when_ t.later s).1, M.len (M.when_ t.later s).2, M.bytes (M.when_ t.later s).2, []⟩, n, (M.when_ t.later s).2) := by
  unfold stepM; rw [if_neg h0, if_neg h]

/-- what a queue puts out is what was put in -/
structure QM.Good (M : QM) (late : Bool) (I : M.σ → Prop) : Prop where
  put : ∀ s now x, I s → okB x.it = true → x.it.at_ = now → I (M.put now x s).2 ∧ (M.wait s ++ [key x]).Perm ((M.put now x s).1.map key ++ M.wait (M.put now x s).2)
  take : ∀ s now, I s → I (M.take now s).2.2 ∧ (M.wait s).Perm ((M.take now s).2.1.map key ++ ((M.take now s).1.toList.map key ++ M.wait (M.take now s).2.2))
  when_ : ∀ s now, I s → I (M.when_ now s).2 ∧ (M.wait s).Perm (M.wait (M.when_ now s).2)
  len : ∀ s, I s → M.len s ≤ (M.wait s).length ∧ M.bytes s ≤ sumLen (M.wait s) ∧ (late = false → M.len s = (M.wait s).length ∧ M.bytes s = sumLen (M.wait s))

/-- what a step of a play may be -/
def StpOk (t : Stp) : Prop := t.what = 0 → okB t.it = true ∧ t.it.at_ = t.later
theorem good_step {M : QM} {late : Bool} {I : M.σ → Prop} (G : M.Good late I) {S : LS} {n : Nat} {s : M.σ} (hI : I s) (hF : Fits S n (M.wait s)) (t : Stp) (ht : StpOk t) :
    I (stepM M n s t).2.2 ∧ ∃ S', stepL late S t (stepM M n s t).1 = some S' ∧ Fits S' (stepM M n s t).2.1 (M.wait (stepM M n s t).2.2) := by
  have fin : ∀ {S3 : LS} {n : Nat} {s' : M.σ}, I s' → Fits S3 n (M.wait s') → M.len s' ≤ S3.wait ∧ M.bytes s' ≤ S3.bytes ∧ (late = false → S3.wait ≤ M.len s' ∧ S3.bytes ≤ M.bytes s') := by
    intro S3 n s' h1 h2
    obtain ⟨a, b, c⟩ := G.len s' h1
    rw [h2.w, h2.b]
    exact ⟨a, b, fun hl => by obtain ⟨c1, c2⟩ := c hl; omega⟩
  by_cases h0 : t.what = 0
  · rw [stepM_put h0]
    obtain ⟨ho, ha⟩ := ht h0
    obtain ⟨g1, g2⟩ := G.put s t.later ⟨t.it, n⟩ hI ho ha
    have f1 := (hF.in_ t h0).perm g2
    obtain ⟨S2, e2, f2⟩ := Fits.outs _ f1
    exact ⟨g1, S2, stepL_some e2 (fun h => absurd h (by show ¬ (0 : Int) ≤ -1; decide)) (fun _ => rfl) (fin g1 f2), f2⟩
  · have hin : inL S t = S := by unfold inL; rw [if_neg h0]
    by_cases h1 : t.what = 1
    · rw [stepM_take h1]
      obtain ⟨g1, g2⟩ := G.take s t.later hI
      have f1 := hF.perm g2
      obtain ⟨S2, e2, f2⟩ := Fits.outs _ f1
      generalize M.take t.later s = r at *
      obtain ⟨_ | x, lo, s'⟩ := r
      · exact ⟨g1, S2, stepL_some (by rw [hin]; exact e2) (fun h => absurd h (by show ¬ (0 : Int) ≤ -1; decide)) (fun _ => rfl) (fin g1 f2), f2⟩
      · obtain ⟨S3, e3, f3⟩ := Fits.out (x := key x) (W := M.wait s') f2
        have hx : 0 ≤ x.num := (f2.h (key x) (by simp)).1
        exact ⟨g1, S3, stepL_some (by rw [hin]; exact e2) (fun _ => e3) (fun h => absurd h (by show ¬ x.num < 0; omega)) (fin g1 f3), f3⟩
    · rw [stepM_when h0 h1]
      obtain ⟨g1, g2⟩ := G.when_ s t.later hI
      have f1 := hF.perm g2
      exact ⟨g1, S, stepL_some (by rw [hin]; rfl) (fun h => absurd h (by show ¬ (0 : Int) ≤ -1; decide)) (fun _ => rfl) (fin g1 f1), f1⟩
theorem good_nth {M : QM} {late : Bool} {I : M.σ → Prop} (G : M.Good late I) {s0 : M.σ} (hI : I s0) (h0 : M.wait s0 = []) {l : List Stp} (hl : ∀ t ∈ l, StpOk t) :
    ∀ k, I (nth M s0 l k).2 ∧ ∃ S, Fits S (nth M s0 l k).1 (M.wait (nth M s0 l k).2)
  | 0 => ⟨hI, _, by show Fits _ 0 (M.wait s0); rw [h0]; exact Fits.start⟩
  | k + 1 => by
    obtain ⟨h1, S, h2⟩ := good_nth G hI h0 hl k
    unfold nth
    cases hk : l[k]? with
    | none => exact ⟨h1, S, h2⟩
    | some t =>
      obtain ⟨g1, S', _, g2⟩ := good_step G h1 h2 t (hl t (List.mem_of_getElem? hk))
      exact ⟨g1, S', g2⟩
/-- the check's state behind k steps (none: it said no) -/
def leftTo (late : Bool) (l : List Stp) (sn : Nat → Seen) : Nat → Option LS
  | 0 => some ⟨[], [], 0, 0⟩
  | k + 1 => (leftTo late l sn k).bind fun S => match l[k]? with
    | some t => stepL late S t (sn k)
    | none => some S
theorem good_left {M : QM} {late : Bool} {I : M.σ → Prop} (G : M.Good late I) {s0 : M.σ} (hI : I s0) (h0 : M.wait s0 = []) {l : List Stp} (hl : ∀ t ∈ l, StpOk t) :
    ∀ k, I (nth M s0 l k).2 ∧ ∃ S, leftTo late l (seenAt M s0 l) k = some S ∧ Fits S (nth M s0 l k).1 (M.wait (nth M s0 l k).2)
  | 0 => ⟨hI, _, rfl, by show Fits _ 0 (M.wait s0); rw [h0]; exact Fits.start⟩
  | k + 1 => by
    obtain ⟨h1, S, e1, h2⟩ := good_left G hI h0 hl k
    unfold nth leftTo
    rw [e1, Option.bind_some]
    cases hk : l[k]? with
    | none => exact ⟨h1, S, rfl, h2⟩
    | some t =>
      obtain ⟨g1, S', e2, g2⟩ := good_step G h1 h2 t (hl t (List.mem_of_getElem? hk))
      exact ⟨g1, S', by dsimp only; unfold seenAt; rw [hk]; exact e2, g2⟩

/-! times -/
theorem clamp_bd (x : Int) : 0 ≤ clampL x ∧ clampL x ≤ 1000 := by unfold clampL; omega
theorem nowAt_bd (l : List Stp) : ∀ k, 0 ≤ nowAt l k ∧ nowAt l k ≤ 1000 * k
  | 0 => by simp [nowAt]
  | k + 1 => by
    have := nowAt_bd l k
    unfold nowAt
    cases l[k]? with
    | none => simp only []; omega
    | some t => have := clamp_bd t.later; simp only []; omega
theorem nowAt_up (l : List Stp) (k : Nat) : nowAt l k ≤ nowAt l (k + 1) := by
  rw [nowAt]
  cases l[k]? with
  | none => simp
  | some t => have := clamp_bd t.later; simp only []; omega
theorem timesTo_len (l : List Stp) : ∀ k, k ≤ l.length → (timesTo l k).length = k
  | 0, _ => rfl
  | k + 1, h => by
    unfold timesTo
    rw [List.getElem?_eq_getElem (by omega)]
    simp [timesTo_len l k (by omega)]
theorem timesTo_get (l : List Stp) : ∀ k i, i < k → k ≤ l.length → (timesTo l k)[i]? = (l[i]?).map (timed (nowAt l (i + 1)))
  | k + 1, i, h, hk => by
    have hl := timesTo_len l k (by omega)
    unfold timesTo
    rw [List.getElem?_eq_getElem (show k < l.length by omega)]
    dsimp only
    rcases Nat.lt_or_ge i k with h' | h'
    · rw [List.getElem?_append_left (by omega)]; exact timesTo_get l k i h' (by omega)
    · obtain rfl : i = k := by omega
      rw [List.getElem?_append_right (by omega), hl, Nat.sub_self, List.getElem?_eq_getElem (show i < l.length by omega)]; rfl
theorem timed_ok (now : Int) (t : Stp) : StpOk (timed now t) := by
  intro h
  unfold timed at h ⊢
  dsimp only at h ⊢
  split at h
  · omega
  · rename_i hn
    refine ⟨?_, rfl⟩
    cases he : okB ⟨now, t.it.len, t.it.flow, t.it.band, t.it.mark⟩ with
    | true => rfl
    | false => exact absurd ⟨h, he⟩ hn
theorem times_ok (l : List Stp) : ∀ t ∈ timesTo l l.length, StpOk t := by
  intro t ht
  obtain ⟨i, hi, e⟩ := List.getElem_of_mem ht
  have hl := timesTo_len l l.length (Nat.le_refl _)
  have := timesTo_get l l.length i (by omega) (Nat.le_refl _)
  rw [List.getElem?_eq_getElem hi, List.getElem?_eq_getElem (show i < l.length by omega), e] at this
  simp at this
  rw [this]
  exact timed_ok _ _
end Pl
end Go.Proofs.YtdhojhgmaodifaaDoor
