/-
  Texts of this claim, one behind the other: LexLaw, CrvLaw, SrvLaw, BktLaw, HdLaw, PlayLaw, FifoLaw, ColLaw, ShpLaw, TakeLaw, MixLaw, ShgLaw, CodLaw, CodPlay.
-/

/-
  Plain law of plant.Parse's words: which they are, and where. No program in sight.
-/
namespace Go.Proofs.YtgdijbaodfghjaaGreatDoor
namespace Pl
def isSep (c : UInt8) : Bool := c == 32 || c == 40 || c == 41 || c == 44
def wordEnd (s : ByteArray) : Nat → Nat → Nat
  | 0, k => k
  | f + 1, k => if k < s.size ∧ isSep (s.get! k) = false then wordEnd s f (k + 1) else k
def lexF (s : ByteArray) : Nat → Nat → List (ByteArray × Nat)
  | 0, _ => []
  | f + 1, i =>
    if i < s.size then
      if s.get! i = 32 then lexF s f (i + 1)
      else if s.get! i = 40 ∨ s.get! i = 41 ∨ s.get! i = 44 then (s.extract i (i + 1), i) :: lexF s f (i + 1)
      else (s.extract i (wordEnd s (s.size - (i + 1)) (i + 1)), i) :: lexF s f (wordEnd s (s.size - (i + 1)) (i + 1))
    else []
def lex (s : ByteArray) : List (ByteArray × Nat) := lexF s s.size 0
end Pl
end Go.Proofs.YtgdijbaodfghjaaGreatDoor

/-
  Plain laws of curves, as functions on numbers: sums by the least (one behind the other) are the same whichever way, over a third one, and over the lesser of two. No condition; no program in sight.
-/
namespace Go.Proofs.YtgdijbaodfghjaaGreatDoor
namespace Crv

def minTo (f : Nat → Int) : Nat → Int
  | 0 => f 0
  | n + 1 => min (minTo f n) (f (n + 1))

theorem minTo_le (f : Nat → Int) : ∀ n s : Nat, s ≤ n → minTo f n ≤ f s := by
  intro n
  induction n with
  | zero => intro s hs; obtain rfl : s = 0 := by omega
            exact Int.le_refl _
  | succ n ih =>
    intro s hs
    unfold minTo
    by_cases h : s = n + 1
    · subst h; omega
    · have := ih s (by omega); omega

theorem minTo_mem (f : Nat → Int) : ∀ n : Nat, ∃ s, s ≤ n ∧ minTo f n = f s := by
  intro n
  induction n with
  | zero => exact ⟨0, by omega, rfl⟩
  | succ n ih =>
    obtain ⟨s, hs, he⟩ := ih
    by_cases h : minTo f n ≤ f (n + 1)
    · exact ⟨s, by omega, by unfold minTo; omega⟩
    · exact ⟨n + 1, by omega, by unfold minTo; omega⟩

theorem le_minTo {f : Nat → Int} {c : Int} {n : Nat} (h : ∀ s, s ≤ n → c ≤ f s) : c ≤ minTo f n := by
  obtain ⟨s, hs, he⟩ := minTo_mem f n
  rw [he]; exact h s hs

theorem minTo_congr {f g : Nat → Int} {n : Nat} (h : ∀ s, s ≤ n → f s = g s) : minTo f n = minTo g n := by
  apply Int.le_antisymm
  · exact le_minTo fun s hs => by rw [← h s hs]; exact minTo_le f n s hs
  · exact le_minTo fun s hs => by rw [h s hs]; exact minTo_le g n s hs

def conv (a b : Nat → Int) (t : Nat) : Int := minTo (fun s => a s + b (t - s)) t

theorem conv_le (a b : Nat → Int) (t s : Nat) (h : s ≤ t) : conv a b t ≤ a s + b (t - s) := minTo_le (fun s => a s + b (t - s)) t s h
theorem conv_mem (a b : Nat → Int) (t : Nat) : ∃ s, s ≤ t ∧ conv a b t = a s + b (t - s) := minTo_mem (fun s => a s + b (t - s)) t
theorem le_conv {a b : Nat → Int} {t : Nat} {c : Int} (h : ∀ s, s ≤ t → c ≤ a s + b (t - s)) : c ≤ conv a b t := le_minTo h

theorem conv_congr {a a' b b' : Nat → Int} {t : Nat} (ha : ∀ s, s ≤ t → a s = a' s) (hb : ∀ s, s ≤ t → b s = b' s) : conv a b t = conv a' b' t :=
  minTo_congr fun s hs => by show a s + b (t - s) = a' s + b' (t - s); rw [ha s hs, hb (t - s) (by omega)]

theorem conv_assoc_le (a b c : Nat → Int) (t : Nat) : conv (conv a b) c t ≤ conv a (conv b c) t :=
  le_conv fun s hs => by
    obtain ⟨u, hu, he⟩ := conv_mem b c (t - s)
    rw [he]
    have h1 := conv_le (conv a b) c t (s + u) (by omega)
    have h2 := conv_le a b (s + u) s (by omega)
    rw [show s + u - s = u from by omega] at h2
    rw [show t - (s + u) = t - s - u from by omega] at h1
    omega
theorem conv_assoc (a b c : Nat → Int) (t : Nat) : conv (conv a b) c t = conv a (conv b c) t := by
  apply Int.le_antisymm (conv_assoc_le a b c t)
  refine le_conv fun s hs => ?_
  obtain ⟨u, hu, he⟩ := conv_mem a b s
  rw [he]
  have h1 := conv_le a (conv b c) t u (by omega)
  have h2 := conv_le b c (t - u) (s - u) (by omega)
  rw [show t - u - (s - u) = t - s from by omega] at h2
  omega

/-! ### lists -/
def at0 (l : List Int) (i : Nat) : Int := l.getD i 0
def tab (n : Nat) (f : Nat → Int) : List Int := (List.range n).map f
theorem tab_length (n : Nat) (f : Nat → Int) : (tab n f).length = n := by simp [tab]
theorem at0_tab {n : Nat} {f : Nat → Int} {i : Nat} (h : i < n) : at0 (tab n f) i = f i := by
  simp [at0, tab, h]
theorem tab_congr {n : Nat} {f g : Nat → Int} (h : ∀ i, i < n → f i = g i) : tab n f = tab n g := by
  unfold tab
  apply List.map_congr_left
  intro i hi
  exact h i (by simpa using hi)
structure CGood (M : Int) (L : Nat) (l : List Int) : Prop where
  pos : 1 ≤ l.length
  len : l.length ≤ L
  lo : ∀ i, i < l.length → 0 ≤ at0 l i
  hi : ∀ i, i < l.length → at0 l i ≤ M
  up : ∀ i, i + 1 < l.length → at0 l i ≤ at0 l (i + 1)

theorem CGood.mono {M : Int} {L : Nat} {l : List Int} (h : CGood M L l) : ∀ i j, i ≤ j → j < l.length → at0 l i ≤ at0 l j := by
  intro i j hij
  induction j with
  | zero => intro _; obtain rfl : i = 0 := by omega
            exact Int.le_refl _
  | succ j ih =>
    intro hj
    by_cases e : i = j + 1
    · subst e; exact Int.le_refl _
    · have h1 := ih (by omega) (by omega)
      have h2 := h.up j hj
      omega
theorem CGood.weak {M M' : Int} {L L' : Nat} {l : List Int} (h : CGood M L l) (hM : M ≤ M') (hL : L ≤ L') : CGood M' L' l :=
  ⟨h.pos, Nat.le_trans h.len hL, h.lo, fun i hi => Int.le_trans (h.hi i hi) hM, h.up⟩

def thenL (a b : List Int) : List Int := tab (min a.length b.length) (conv (at0 a) (at0 b))
def leastL (a b : List Int) : List Int := tab (min a.length b.length) (fun t => min (at0 a t) (at0 b t))

theorem thenL_at {a b : List Int} {t : Nat} (h : t < min a.length b.length) : at0 (thenL a b) t = conv (at0 a) (at0 b) t := at0_tab h
end Crv
end Go.Proofs.YtgdijbaodfghjaaGreatDoor

/-
  Plain laws of service: what has gone by each tick is one behind the other of what came and of the curve; served twice is served by both. No program in sight.
-/
namespace Go.Proofs.YtgdijbaodfghjaaGreatDoor
namespace Crv

def sumTo (xs : List Int) : Nat → Int
  | 0 => 0
  | k + 1 => sumTo xs k + at0 xs k
def srvTo (xs zs : List Int) (t : Nat) : Nat → Int
  | 0 => sumTo xs t + at0 zs 0
  | j + 1 => min (srvTo xs zs t j) (sumTo xs j + at0 zs (t - j))
def serveL (xs zs : List Int) : List Int := tab xs.length (conv (sumTo xs) (at0 zs))
theorem serveL_length (xs zs : List Int) : (serveL xs zs).length = xs.length := tab_length _ _
theorem serveL_at {xs zs : List Int} {t : Nat} (h : t < xs.length) : at0 (serveL xs zs) t = conv (sumTo xs) (at0 zs) t := at0_tab h

def midL (f : List Int) : List Int := tab f.length fun t => if t + 1 < f.length then at0 f (t + 1) - at0 f t else 0
theorem midL_length (f : List Int) : (midL f).length = f.length := tab_length _ _
theorem midL_sum (f : List Int) (h0 : at0 f 0 = 0) : ∀ t, t < f.length → sumTo (midL f) t = at0 f t := by
  intro t
  induction t with
  | zero => intro _; rw [h0]; rfl
  | succ t ih =>
    intro ht
    have h1 := ih (by omega)
    unfold sumTo
    rw [h1, midL, at0_tab (by omega), if_pos ht]
    omega
theorem twice (xs b c : List Int) (hb : b.length ≥ xs.length) (hc : c.length ≥ xs.length) (hb0 : at0 b 0 = 0) :
    serveL (midL (serveL xs b)) c = serveL xs (thenL b c) := by
  have hf : (serveL xs b).length = xs.length := serveL_length _ _
  have e1 : serveL (midL (serveL xs b)) c = tab xs.length (conv (sumTo (midL (serveL xs b))) (at0 c)) := by
    unfold serveL
    rw [midL_length, tab_length]
  have e2 : serveL xs (thenL b c) = tab xs.length (conv (sumTo xs) (at0 (thenL b c))) := rfl
  rw [e1, e2]
  refine tab_congr fun t ht => ?_
  have h0 : at0 (serveL xs b) 0 = 0 := by
    rw [serveL_at (by omega)]
    show sumTo xs 0 + at0 b 0 = 0
    rw [hb0]; rfl
  rw [conv_congr (a := sumTo (midL (serveL xs b))) (a' := conv (sumTo xs) (at0 b)) (b := at0 c) (b' := at0 c)
    (fun s hs => by rw [midL_sum _ h0 s (by omega), serveL_at (by omega)]) (fun _ _ => rfl)]
  rw [conv_congr (a := sumTo xs) (a' := sumTo xs) (b := at0 (thenL b c)) (b' := conv (at0 b) (at0 c)) (fun _ _ => rfl) (fun s hs => thenL_at (by omega))]
  exact conv_assoc _ _ _ t
end Crv
end Go.Proofs.YtgdijbaodfghjaaGreatDoor

/-
  Plain laws of buckets of tokens: tokens that fill and times at which cells should come agree; what conforms keeps to the curve, and what does not would break it. No program in sight.
-/
namespace Go.Proofs.YtgdijbaodfghjaaGreatDoor
open Crv
namespace Bkt

structure It where
  at_ : Int
  len : Int
  flow : Int
  band : Int
  mark : Int
def It.zero : It := ⟨0, 0, 0, 0, 0⟩
def ix (l : List It) (i : Nat) : It := l.getD i It.zero
structure Bk where
  b : Int
  t : Int
  r : Int
structure St where
  last : Int
  has : Int
def start (k : Bk) : St := ⟨0, k.r * k.t⟩
def fill (k : Bk) (s : St) (now : Int) : St := if s.last < now then ⟨now, min (k.r * k.t) (s.has + (now - s.last) * k.b)⟩ else s
def okB (k : Bk) (s : St) (now n : Int) : Bool := decide (n * k.t ≤ (fill k s now).has)
def take (k : Bk) (s : St) (now n : Int) : St := if okB k s now n then ⟨(fill k s now).last, (fill k s now).has - n * k.t⟩ else fill k s now
def stTo (k : Bk) (l : List It) : Nat → St
  | 0 => start k
  | j + 1 => take k (stTo k l j) (ix l j).at_ (ix l j).len
def conf (k : Bk) (l : List It) (j : Nat) : Bool := okB k (stTo k l j) (ix l j).at_ (ix l j).len

def shTo (k : Bk) (l : List It) : Nat → Int
  | 0 => 0
  | j + 1 => if max (shTo k l j) ((ix l j).at_ * k.b) + (ix l j).len * k.t - (ix l j).at_ * k.b ≤ k.r * k.t then max (shTo k l j) ((ix l j).at_ * k.b) + (ix l j).len * k.t else shTo k l j
def cell (k : Bk) (l : List It) (j : Nat) : Bool := decide (max (shTo k l j) ((ix l j).at_ * k.b) + (ix l j).len * k.t - (ix l j).at_ * k.b ≤ k.r * k.t)

structure ItOk (l : List It) : Prop where
  at0 : ∀ j, j < l.length → 0 ≤ (ix l j).at_ ∧ (ix l j).at_ ≤ 1000000000
  len : ∀ j, j < l.length → 1 ≤ (ix l j).len ∧ (ix l j).len ≤ 10000
  up : ∀ j, j + 1 < l.length → (ix l j).at_ ≤ (ix l (j + 1)).at_
structure BkOk (k : Bk) : Prop where
  b : 1 ≤ k.b ∧ k.b ≤ 1000000
  t : 1 ≤ k.t ∧ k.t ≤ 1000000
  r : 0 ≤ k.r ∧ k.r ≤ 1000000

structure Inv (k : Bk) (l : List It) (j : Nat) : Prop where
  last0 : 0 ≤ (stTo k l j).last
  last : ∀ i, i < l.length → j ≤ i → (stTo k l j).last ≤ (ix l i).at_
  lack : k.r * k.t - (stTo k l j).has = max 0 (shTo k l j - (stTo k l j).last * k.b)
theorem ItOk.mono {l : List It} (hl : ItOk l) : ∀ i j, i ≤ j → j < l.length → (ix l i).at_ ≤ (ix l j).at_ := by
  intro i j hij
  induction j with
  | zero => intro _; obtain rfl : i = 0 := by omega
            exact Int.le_refl _
  | succ j ih =>
    intro hj
    by_cases e : i = j + 1
    · subst e; exact Int.le_refl _
    · have h1 := ih (by omega) (by omega)
      have h2 := hl.up j hj
      omega
/-! ### what conforms keeps to the curve -/
def Bounded (k : Bk) (as ns : List Int) : Prop := ∀ i q, i ≤ q → q < as.length → (sumTo ns (q + 1) - sumTo ns i) * k.t ≤ k.r * k.t + (at0 as q - at0 as i) * k.b
structure Lack (k : Bk) (as ns : List Int) (now d : Int) : Prop where
  pos : 0 ≤ d
  ge : ∀ i, i < as.length → (sumTo ns as.length - sumTo ns i) * k.t - (now - at0 as i) * k.b ≤ d
  met : d = 0 ∨ ∃ i, i < as.length ∧ d = (sumTo ns as.length - sumTo ns i) * k.t - (now - at0 as i) * k.b
theorem Lack.later {k : Bk} {as ns : List Int} {now d later : Int} (h : Lack k as ns now d) : Lack k as ns later (max 0 (d - (later - now) * k.b)) ∨ ¬ now ≤ later ∨ k.b < 0 := by
  by_cases hnl : now ≤ later
  · by_cases hb : k.b < 0
    · exact .inr (.inr hb)
    · left
      have hp : 0 ≤ (later - now) * k.b := Int.mul_nonneg (by omega) (by omega)
      have e : ∀ i, (later - at0 as i) * k.b = (later - now) * k.b + (now - at0 as i) * k.b := fun i => by rw [← Int.add_mul]; congr 1; omega
      refine ⟨by omega, fun i hi => ?_, ?_⟩
      · have := h.ge i hi
        rw [e i]; omega
      · rcases h.met with h0 | ⟨i, hi, h0⟩
        · left; omega
        · by_cases hz : d - (later - now) * k.b ≤ 0
          · left; omega
          · right
            refine ⟨i, hi, ?_⟩
            rw [e i]; omega
  · exact .inr (.inl hnl)
theorem sumTo_app {ns : List Int} {n : Int} : ∀ k : Nat, k ≤ ns.length → sumTo (ns ++ [n]) k = sumTo ns k := by
  intro k
  induction k with
  | zero => intro _; rfl
  | succ k ih =>
    intro h
    show sumTo (ns ++ [n]) k + at0 (ns ++ [n]) k = sumTo ns k + at0 ns k
    rw [ih (by omega)]
    congr 1
    unfold at0; simp [List.getD, List.getElem?_append_left (show k < ns.length by omega)]
theorem sumTo_last {ns : List Int} {n : Int} : sumTo (ns ++ [n]) (ns.length + 1) = sumTo ns ns.length + n := by
  show sumTo (ns ++ [n]) ns.length + at0 (ns ++ [n]) ns.length = _
  rw [sumTo_app _ (Nat.le_refl _)]
  congr 1
  unfold at0; simp [List.getD]
theorem app_at {xs : List Int} {y : Int} {i : Nat} (h : i < xs.length) : at0 (xs ++ [y]) i = at0 xs i := by
  unfold at0; simp [List.getD, List.getElem?_append_left h]
theorem app_last {xs : List Int} {y : Int} : at0 (xs ++ [y]) xs.length = y := by
  unfold at0; simp [List.getD]
theorem Lack.more {k : Bk} {as ns : List Int} {a n d : Int} (hlen : ns.length = as.length) (hn : 0 ≤ n * k.t) (hd : Lack k as ns a d) : Lack k (as ++ [a]) (ns ++ [n]) a (n * k.t + d) := by
  have e1 : ∀ i, i ≤ as.length → sumTo (ns ++ [n]) i = sumTo ns i := fun i hi => sumTo_app i (by omega)
  have e2 : sumTo (ns ++ [n]) (as.length + 1) = sumTo ns as.length + n := by rw [← hlen]; exact sumTo_last
  have e3 : (as ++ [a]).length = as.length + 1 := by simp
  have e4 : ∀ i, sumTo ns as.length + n - sumTo ns i = n + (sumTo ns as.length - sumTo ns i) := fun i => by omega
  refine ⟨by have := hd.pos; omega, fun i hi => ?_, ?_⟩
  · rw [e3] at hi ⊢
    rw [e2, e1 i (by omega), e4, Int.add_mul]
    by_cases e : i = as.length
    · subst e
      rw [app_last, Int.sub_self, Int.sub_self, Int.zero_mul, Int.zero_mul]
      have := hd.pos
      omega
    · rw [app_at (by omega)]
      have := hd.ge i (by omega)
      omega
  · right
    rcases hd.met with h0 | ⟨i, hi, h0⟩
    · refine ⟨as.length, by simp, ?_⟩
      rw [e3, e2, e1 _ (Nat.le_refl _), app_last, e4, Int.sub_self, Int.sub_self, Int.zero_mul, h0]
      simp only [Int.add_zero]
      omega
    · refine ⟨i, by simp; omega, ?_⟩
      rw [e3, e2, e1 i (by omega), app_at hi, e4, Int.add_mul]
      omega
end Bkt
end Go.Proofs.YtgdijbaodfghjaaGreatDoor

/-
  A packet with its number, as plain data.
-/
namespace Go.Proofs.YtgdijbaodfghjaaGreatDoor
open Bkt
structure Hd where
  it : It
  num : Int
def Hd.zero : Hd := ⟨It.zero, 0⟩
end Go.Proofs.YtgdijbaodfghjaaGreatDoor

/-
  Plain law of plays: queues as machines, what a play shows, the check that nothing is lost but what is told.
-/
namespace Go.Proofs.YtgdijbaodfghjaaGreatDoor
open Bkt
namespace Pl
set_option linter.unusedVariables false

structure Stp where
  what : Int
  later : Int
  it : It
structure Seen where
  taken : Int
  mark : Int
  when_ : Int
  len : Int
  bytes : Int
  lost : List Int

structure QM where
  σ : Type
  put : Int → Hd → σ → List Hd × σ
  take : Int → σ → Option Hd × List Hd × σ
  when_ : Int → σ → Option Int × σ
  wait : σ → List (Int × Int)
  len : σ → Int
  bytes : σ → Int
def key (h : Hd) : Int × Int := (h.num, h.it.len)

def sumLen : List (Int × Int) → Int
  | [] => 0
  | h :: r => h.2 + sumLen r
theorem sumLen_append : ∀ a b : List (Int × Int), sumLen (a ++ b) = sumLen a + sumLen b := by
  intro a; induction a with
  | nil => intro b; simp [sumLen]
  | cons h r ih => intro b; simp [sumLen, ih]; omega
theorem sumLen_perm {a b : List (Int × Int)} (h : a.Perm b) : sumLen a = sumLen b := by
  induction h with
  | nil => rfl
  | cons x _ ih => simp [sumLen, ih]
  | swap x y l => simp [sumLen]; omega
  | trans _ _ h1 h2 => exact h1.trans h2

def tkn : Option Hd → Int
  | some h => h.num
  | none => -1
def mrk : Option Hd → Int
  | some h => h.it.mark
  | none => 0
def whn : Option Int → Int
  | some a => a
  | none => -1
def stepM (M : QM) (n : Nat) (s : M.σ) (t : Stp) : Seen × Nat × M.σ :=
  if t.what = 0 then
    let r := M.put t.later ⟨t.it, n⟩ s
    (⟨-1, 0, -1, M.len r.2, M.bytes r.2, r.1.map Hd.num⟩, n + 1, r.2)
  else if t.what = 1 then
    let r := M.take t.later s
    (⟨tkn r.1, mrk r.1, -1, M.len r.2.2, M.bytes r.2.2, r.2.1.map Hd.num⟩, n, r.2.2)
  else
    let r := M.when_ t.later s
    (⟨-1, 0, whn r.1, M.len r.2, M.bytes r.2, []⟩, n, r.2)

def nth (M : QM) (s0 : M.σ) (l : List Stp) : Nat → Nat × M.σ
  | 0 => (0, s0)
  | k + 1 => match l[k]? with
    | some t => (stepM M (nth M s0 l k).1 (nth M s0 l k).2 t).2
    | none => nth M s0 l k
def seenAt (M : QM) (s0 : M.σ) (l : List Stp) (k : Nat) : Seen :=
  match l[k]? with
  | some t => (stepM M (nth M s0 l k).1 (nth M s0 l k).2 t).1
  | none => ⟨-1, 0, -1, 0, 0, []⟩
def playL (M : QM) (s0 : M.σ) (l : List Stp) : Nat → List Seen
  | 0 => []
  | k + 1 => playL M s0 l k ++ [seenAt M s0 l k]
def clampL (x : Int) : Int := max 0 (min x 1000)
def okB (x : It) : Bool := decide (0 ≤ x.at_ ∧ x.at_ ≤ 1000000000 ∧ 1 ≤ x.len ∧ x.len ≤ 10000 ∧ 0 ≤ x.flow ∧ x.flow < 16 ∧ 0 ≤ x.band ∧ x.band < 8 ∧ 0 ≤ x.mark ∧ x.mark ≤ 255)
def nowAt : List Stp → Nat → Int
  | _, 0 => 0
  | l, k + 1 => nowAt l k + (match l[k]? with | some t => clampL t.later | none => 0)
def timed (now : Int) (t : Stp) : Stp :=
  let y : It := ⟨now, t.it.len, t.it.flow, t.it.band, t.it.mark⟩
  ⟨if t.what = 0 ∧ okB y = false then 2 else t.what, now, y⟩
def timesTo (l : List Stp) : Nat → List Stp
  | 0 => []
  | k + 1 => match l[k]? with
    | some t => timesTo l k ++ [timed (nowAt l (k + 1)) t]
    | none => timesTo l k

/-! the check -/
structure LS where
  size : List Int
  state : List Int
  wait : Int
  bytes : Int
def outL (S : LS) (k : Int) : Option LS :=
  if 0 ≤ k ∧ k < S.state.length ∧ S.state.getD k.toNat 0 = 0 then some ⟨S.size, S.state.set k.toNat 1, S.wait - 1, S.bytes - S.size.getD k.toNat 0⟩ else none
def outsL : LS → List Int → Option LS
  | S, [] => some S
  | S, k :: r => (outL S k).bind (outsL · r)
def inL (S : LS) (t : Stp) : LS := if t.what = 0 then ⟨S.size ++ [t.it.len], S.state ++ [0], S.wait + 1, S.bytes + t.it.len⟩ else S

structure Fits (S : LS) (n : Nat) (W : List (Int × Int)) : Prop where
  s1 : S.size.length = n
  s2 : S.state.length = n
  nd : (W.map Prod.fst).Nodup
  h : ∀ x ∈ W, 0 ≤ x.1 ∧ x.1 < n ∧ S.state.getD x.1.toNat 0 = 0 ∧ S.size.getD x.1.toNat 0 = x.2
  w : S.wait = W.length
  b : S.bytes = sumLen W
theorem Fits.start : Fits ⟨[], [], 0, 0⟩ 0 [] := ⟨rfl, rfl, by simp, fun x hx => by simp at hx, rfl, rfl⟩
theorem Fits.out {S : LS} {n : Nat} {x : Int × Int} {W : List (Int × Int)} (h : Fits S n (x :: W)) : ∃ S', outL S x.1 = some S' ∧ Fits S' n W := by
  obtain ⟨h0, h1, h2, h3⟩ := h.h x (by simp)
  refine ⟨_, if_pos ⟨h0, by rw [h.s2]; exact h1, h2⟩, ⟨h.s1, by simpa using h.s2, ?_, ?_, ?_, ?_⟩⟩
  · have := h.nd; rw [List.map_cons, List.nodup_cons] at this; exact this.2
  · intro y hy
    obtain ⟨a, b, c, d⟩ := h.h y (by simp [hy])
    refine ⟨a, b, ?_, d⟩
    have hne : x.1 ≠ y.1 := by
      have := h.nd
      rw [List.map_cons, List.nodup_cons] at this
      intro e; exact this.1 (e ▸ List.mem_map_of_mem hy)
    have : x.1.toNat ≠ y.1.toNat := by omega
    simp only [List.getD, List.getElem?_set]
    rw [if_neg this]; exact c
  · rw [h.w]; simp
  · rw [h.b, h3]; simp [sumLen]; omega
def stepL (late : Bool) (S : LS) (t : Stp) (s : Seen) : Option LS :=
  (outsL (inL S t) s.lost).bind fun S2 => (if 0 ≤ s.taken then outL S2 s.taken else some S2).bind fun S3 =>
    if s.len ≤ S3.wait ∧ s.bytes ≤ S3.bytes ∧ (late = false → S3.wait ≤ s.len ∧ S3.bytes ≤ s.bytes) then some S3 else none

theorem stepM_put {M : QM} {n : Nat} {s : M.σ} {t : Stp} (h : t.what = 0) : stepM M n s t = (⟨-1, 0, -1, M.len (M.put t.later ⟨t.it, n⟩ s).2, M.bytes (M.put t.later ⟨t.it, n⟩ s).2, (M.put t.later ⟨t.it, n⟩ s).1.map Hd.num⟩, n + 1, (M.put t.later ⟨t.it, n⟩ s).2) := by
  unfold stepM; rw [if_pos h]
theorem stepM_take {M : QM} {n : Nat} {s : M.σ} {t : Stp} (h : t.what = 1) : stepM M n s t = (⟨tkn (M.take t.later s).1, mrk (M.take t.later s).1, -1, M.len (M.take t.later s).2.2, M.bytes (M.take t.later s).2.2, (M.take t.later s).2.1.map Hd.num⟩, n, (M.take t.later s).2.2) := by
  unfold stepM; rw [if_neg (by omega), if_pos h]
theorem stepM_when {M : QM} {n : Nat} {s : M.σ} {t : Stp} (h0 : t.what ≠ 0) (h : t.what ≠ 1) : stepM M n s t = (⟨-1, 0, whn (M.when_ t.later s).1, M.len (M.when_ t.later s).2, M.bytes (M.when_ t.later s).2, []⟩, n, (M.when_ t.later s).2) := by
  unfold stepM; rw [if_neg h0, if_neg h]

structure QM.Good (M : QM) (late : Bool) (I : M.σ → Prop) : Prop where
  put : ∀ s now x, I s → okB x.it = true → I (M.put now x s).2 ∧ (M.wait s ++ [key x]).Perm ((M.put now x s).1.map key ++ M.wait (M.put now x s).2)
  take : ∀ s now, I s → I (M.take now s).2.2 ∧ (M.wait s).Perm ((M.take now s).2.1.map key ++ ((M.take now s).1.toList.map key ++ M.wait (M.take now s).2.2))
  when_ : ∀ s now, I s → I (M.when_ now s).2 ∧ (M.wait s).Perm (M.wait (M.when_ now s).2)
  len : ∀ s, I s → M.len s ≤ (M.wait s).length ∧ M.bytes s ≤ sumLen (M.wait s) ∧ (late = false → M.len s = (M.wait s).length ∧ M.bytes s = sumLen (M.wait s))

def StpOk (t : Stp) : Prop := t.what = 0 → okB t.it = true ∧ t.it.at_ = t.later
def leftTo (late : Bool) (l : List Stp) (sn : Nat → Seen) : Nat → Option LS
  | 0 => some ⟨[], [], 0, 0⟩
  | k + 1 => (leftTo late l sn k).bind fun S => match l[k]? with
    | some t => stepL late S t (sn k)
    | none => some S
/-! times -/
theorem clamp_bd (x : Int) : 0 ≤ clampL x ∧ clampL x ≤ 1000 := by unfold clampL; omega
theorem nowAt_bd (l : List Stp) : ∀ k, 0 ≤ nowAt l k ∧ nowAt l k ≤ 1000 * k
  | 0 => by simp [nowAt]
  | k + 1 => by
    have := nowAt_bd l k
    unfold nowAt
    cases l[k]? with
    | none => simp only []; omega
    | some t => have := clamp_bd t.later; simp only []; omega
theorem timesTo_len (l : List Stp) : ∀ k, k ≤ l.length → (timesTo l k).length = k
  | 0, _ => rfl
  | k + 1, h => by
    unfold timesTo
    rw [List.getElem?_eq_getElem (by omega)]
    simp [timesTo_len l k (by omega)]
theorem timesTo_get (l : List Stp) : ∀ k i, i < k → k ≤ l.length → (timesTo l k)[i]? = (l[i]?).map (timed (nowAt l (i + 1)))
  | k + 1, i, h, hk => by
    have hl := timesTo_len l k (by omega)
    unfold timesTo
    rw [List.getElem?_eq_getElem (show k < l.length by omega)]
    dsimp only
    rcases Nat.lt_or_ge i k with h' | h'
    · rw [List.getElem?_append_left (by omega)]; exact timesTo_get l k i h' (by omega)
    · obtain rfl : i = k := by omega
      rw [List.getElem?_append_right (by omega), hl, Nat.sub_self, List.getElem?_eq_getElem (show i < l.length by omega)]; rfl
theorem timed_ok (now : Int) (t : Stp) : StpOk (timed now t) := by
  intro h
  unfold timed at h ⊢
  dsimp only at h ⊢
  split at h
  · omega
  · rename_i hn
    refine ⟨?_, rfl⟩
    cases he : okB ⟨now, t.it.len, t.it.flow, t.it.band, t.it.mark⟩ with
    | true => rfl
    | false => exact absurd ⟨h, he⟩ hn
end Pl
end Go.Proofs.YtgdijbaodfghjaaGreatDoor

/-
  Plain law of the plain queue: who comes first goes first.
-/
namespace Go.Proofs.YtgdijbaodfghjaaGreatDoor
open Bkt
namespace Pl
set_option linter.unusedVariables false

def tot (l : List Hd) : Int := sumLen (l.map key)
theorem tot_cons (x : Hd) (l : List Hd) : tot (x :: l) = x.it.len + tot l := rfl
theorem tot_nil : tot [] = 0 := rfl
theorem tot_app (a b : List Hd) : tot (a ++ b) = tot a + tot b := by unfold tot; rw [List.map_append, sumLen_append]
theorem tot_snoc (a : List Hd) (x : Hd) : tot (a ++ [x]) = tot a + x.it.len := by rw [tot_app]; simp [tot, sumLen, key]
def cutQ (P R : Int) : List Hd → List Hd × List Hd
  | [] => ([], [])
  | x :: r => if P < ((x :: r).length : Int) ∨ R < tot (x :: r) then (x :: (cutQ P R r).1, (cutQ P R r).2) else ([], x :: r)
theorem cutQ_app (P R : Int) : ∀ l, (cutQ P R l).1 ++ (cutQ P R l).2 = l
  | [] => rfl
  | x :: r => by
    unfold cutQ
    split
    · simp [cutQ_app P R r]
    · rfl
theorem cutQ_fits (P R : Int) (hP : 0 ≤ P) (hR : 0 ≤ R) : ∀ l, ((cutQ P R l).2.length : Int) ≤ P ∧ tot (cutQ P R l).2 ≤ R
  | [] => by simp [cutQ, tot_nil, hP, hR]
  | x :: r => by
    unfold cutQ
    split
    · exact cutQ_fits P R hP hR r
    · simp only []; omega
structure FP where
  packets : Int
  room : Int
  head : Bool
def fputL (p : FP) (x : Hd) (l : List Hd) : List Hd × List Hd :=
  if p.head = false then (if p.packets ≤ (l.length : Int) ∨ p.room < tot l + x.it.len then ([x], l) else ([], l ++ [x]))
  else cutQ p.packets p.room (l ++ [x])
def ftakeL (l : List Hd) : Option Hd × List Hd × List Hd :=
  match l with
  | [] => (none, [], [])
  | x :: r => (some x, [], r)
def fifoM (p : FP) : QM where
  σ := List Hd
  put := fun _ x l => fputL p x l
  take := fun _ l => ftakeL l
  when_ := fun now l => (if 0 < l.length then some now else none, l)
  wait := fun l => l.map key
  len := fun l => l.length
  bytes := fun l => tot l
theorem fput_app (p : FP) (x : Hd) (l : List Hd) : ((fputL p x l).1 ++ (fputL p x l).2).Perm (l ++ [x]) := by
  unfold fputL
  split
  · split
    · exact (List.perm_append_comm (l₁ := [x]) (l₂ := l))
    · exact List.Perm.refl _
  · rw [cutQ_app]
theorem fput_perm (p : FP) (x : Hd) (l : List Hd) : (l.map key ++ [key x]).Perm ((fputL p x l).1.map key ++ (fputL p x l).2.map key) := by
  have := (fput_app p x l).symm.map key
  rw [List.map_append, List.map_append] at this
  exact this
theorem len_key (l : List Hd) : ((l.length : Nat) : Int) = ((l.map key).length : Nat) := by rw [List.length_map]
theorem fifo_good (p : FP) (late : Bool) : (fifoM p).Good late fun _ => True where
  put := fun s now x _ _ => ⟨trivial, fput_perm p x s⟩
  take := fun s now _ => ⟨trivial, by
    show (List.map key s).Perm _
    cases s with
    | nil => exact List.Perm.refl _
    | cons x r => exact List.Perm.refl _⟩
  when_ := fun s now _ => ⟨trivial, List.Perm.refl _⟩
  len := fun s _ => ⟨Int.le_of_eq (len_key s), Int.le_refl _, fun _ => ⟨len_key s, rfl⟩⟩

def lastTo (sn : Nat → Seen) : Nat → Int
  | 0 => -1
  | k + 1 => if 0 ≤ (sn k).taken then (sn k).taken else lastTo sn k
structure FInv (p : FP) (last : Int) (n : Nat) (l : List Hd) : Prop where
  up : (l.map Hd.num).Pairwise (· < ·)
  lo : ∀ x ∈ l, last < x.num
  hi : ∀ x ∈ l, x.num < n
  ltn : last < n
  ln : ∀ x ∈ l, 0 ≤ x.it.len
  m1 : (l.length : Int) ≤ p.packets
  low : -1 ≤ last
theorem FInv.sub {p : FP} {last : Int} {n : Nat} {a b l : List Hd} (h : FInv p last n l) (e : a ++ b = l) (hm : (b.length : Int) ≤ p.packets) : FInv p last n b := by
  subst e
  refine ⟨?_, fun x hx => h.lo x (by simp [hx]), fun x hx => h.hi x (by simp [hx]), h.ltn, fun x hx => h.ln x (by simp [hx]), hm, h.low⟩
  have := h.up
  rw [List.map_append, List.pairwise_append] at this
  exact this.2.1
theorem pairwise_snoc {l : List Int} {x : Int} (h : l.Pairwise (· < ·)) (hx : ∀ y ∈ l, y < x) : (l ++ [x]).Pairwise (· < ·) := by
  rw [List.pairwise_append]
  refine ⟨h, by simp, fun a ha b hb => ?_⟩
  simp at hb
  subst hb
  exact hx a ha
structure FOk (p : FP) : Prop where
  pk : 0 ≤ p.packets ∧ p.packets ≤ 1000000
  rm : 0 ≤ p.room ∧ p.room ≤ 1000000
theorem FInv.put {p : FP} {last : Int} {n : Nat} {l : List Hd} (h : FInv p last n l) (hp : FOk p) (hr : tot l ≤ p.room) (it : It) (hit : 0 ≤ it.len) :
    FInv p last (n + 1) (fputL p ⟨it, n⟩ l).2 ∧ tot (fputL p ⟨it, n⟩ l).2 ≤ p.room := by
  have hm := h.m1
  have up : ((l ++ [(⟨it, (n : Int)⟩ : Hd)]).map Hd.num).Pairwise (· < ·) := by
    rw [List.map_append]
    exact pairwise_snoc h.up (fun y hy => by
      obtain ⟨z, hz, rfl⟩ := List.mem_map.1 hy
      exact h.hi z hz)
  have lo : ∀ x ∈ l ++ [(⟨it, (n : Int)⟩ : Hd)], last < x.num := by
    intro x hx
    rcases List.mem_append.1 hx with hx | hx
    · exact h.lo x hx
    · simp at hx; subst hx; exact h.ltn
  have hi : ∀ x ∈ l ++ [(⟨it, (n : Int)⟩ : Hd)], x.num < (n + 1 : Nat) := by
    intro x hx
    rcases List.mem_append.1 hx with hx | hx
    · have := h.hi x hx; omega
    · simp at hx; subst hx; show (n : Int) < _; omega
  have ln : ∀ x ∈ l ++ [(⟨it, (n : Int)⟩ : Hd)], 0 ≤ x.it.len := by
    intro x hx
    rcases List.mem_append.1 hx with hx | hx
    · exact h.ln x hx
    · simp at hx; subst hx; exact hit
  have hl := h.ltn
  unfold fputL
  split
  · split
    · exact ⟨⟨h.up, h.lo, fun x hx => by have := h.hi x hx; omega, by omega, h.ln, h.m1, h.low⟩, hr⟩
    · rename_i hn
      refine ⟨⟨up, lo, hi, by omega, ln, by simp only [List.length_append, List.length_singleton]; omega, h.low⟩, ?_⟩
      show tot (l ++ [_]) ≤ _
      rw [tot_snoc]
      show tot l + it.len ≤ _
      simp only [] at hn
      omega
  · obtain ⟨c1, c2⟩ := cutQ_fits p.packets p.room hp.pk.1 hp.rm.1 (l ++ [⟨it, n⟩])
    have e := cutQ_app p.packets p.room (l ++ [⟨it, n⟩])
    refine ⟨⟨?_, fun x hx => lo x (by rw [← e]; simp [hx]), fun x hx => hi x (by rw [← e]; simp [hx]), by omega, fun x hx => ln x (by rw [← e]; simp [hx]), c1, h.low⟩, c2⟩
    rw [← e, List.map_append, List.pairwise_append] at up
    exact up.2.1
theorem nth_succ {l : List Stp} (M : QM) (s0 : M.σ) {k : Nat} {t : Stp} (h : l[k]? = some t) : nth M s0 l (k + 1) = (stepM M (nth M s0 l k).1 (nth M s0 l k).2 t).2 := by
  rw [show nth M s0 l (k + 1) = (match l[k]? with | some t => (stepM M (nth M s0 l k).1 (nth M s0 l k).2 t).2 | none => nth M s0 l k) from rfl, h]
theorem seenAt_of {l : List Stp} (M : QM) (s0 : M.σ) {k : Nat} {t : Stp} (h : l[k]? = some t) : seenAt M s0 l k = (stepM M (nth M s0 l k).1 (nth M s0 l k).2 t).1 := by
  unfold seenAt; rw [h]
end Pl
end Go.Proofs.YtgdijbaodfghjaaGreatDoor

/-
  Plain laws of BucketColors and BucketShaped and CurveConforms. No program in sight.
-/
namespace Go.Proofs.YtgdijbaodfghjaaGreatDoor
open Crv
namespace Bkt
/-! ### one rate, two rooms -/
structure C1 where
  last : Int
  first : Int
  second : Int
def c1Start (k : Bk) (x : Int) : C1 := ⟨0, k.r * k.t, x * k.t⟩
def c1More (k : Bk) (s : C1) (now : Int) : Int := (now - s.last) * k.b
def c1F (k : Bk) (s : C1) (now : Int) : Int := s.first + min (c1More k s now) (k.r * k.t - s.first)
def c1S (k : Bk) (x : Int) (s : C1) (now : Int) : Int := min (x * k.t) (s.second + max 0 (c1More k s now - (k.r * k.t - s.first)))
def c1Next (k : Bk) (x : Int) (s : C1) (now n : Int) : C1 :=
  if n * k.t ≤ c1F k s now then ⟨now, c1F k s now - n * k.t, c1S k x s now⟩
  else if n * k.t ≤ c1S k x s now then ⟨now, c1F k s now, c1S k x s now - n * k.t⟩
  else ⟨now, c1F k s now, c1S k x s now⟩
def c1Col (k : Bk) (x : Int) (s : C1) (now n : Int) : Int :=
  if n * k.t ≤ c1F k s now then 1 else if n * k.t ≤ c1S k x s now then 2 else 3
def c1To (k : Bk) (x : Int) (l : List It) : Nat → C1
  | 0 => c1Start k x
  | j + 1 => c1Next k x (c1To k x l j) (ix l j).at_ (ix l j).len
def col1 (k : Bk) (x : Int) (l : List It) (j : Nat) : Int := c1Col k x (c1To k x l j) (ix l j).at_ (ix l j).len
structure CInv (k : Bk) (x : Int) (l : List It) (j : Nat) : Prop where
  last : (c1To k x l j).last = (stTo k l j).last
  first : (c1To k x l j).first = (stTo k l j).has
  s0 : 0 ≤ (c1To k x l j).second
  s1 : (c1To k x l j).second ≤ x * k.t
/-! ### shaped -/
def whenAt (k : Bk) (s : St) (now n : Int) : Int :=
  if 0 < n * k.t - (fill k s now).has then (fill k s now).last + (n * k.t - (fill k s now).has + k.b - 1) / k.b else max now (fill k s now).last
def shp (k : Bk) (l : List It) : Nat → St × Int
  | 0 => (start k, 0)
  | j + 1 => (take k (shp k l j).1 (whenAt k (shp k l j).1 (max (shp k l j).2 (ix l j).at_) (ix l j).len) (ix l j).len, whenAt k (shp k l j).1 (max (shp k l j).2 (ix l j).at_) (ix l j).len)
def shT (k : Bk) (l : List It) (j : Nat) : Int := (shp k l (j + 1)).2
def ShGood (k : Bk) (l : List It) (j : Nat) : Prop := (ix l j).len ≤ k.r ∧ shT k l j ≤ 1000000000
structure SOk (k : Bk) (s : St) : Prop where
  last : 0 ≤ s.last
  has0 : 0 ≤ s.has
  has1 : s.has ≤ k.r * k.t
theorem fill_ok {k : Bk} {s : St} {now : Int} (hk : BkOk k) (hs : SOk k s) (hn : s.last ≤ now) : SOk k (fill k s now) ∧ (fill k s now).last = now := by
  have hc : 0 ≤ k.r * k.t := Int.mul_nonneg hk.r.1 (by have := hk.t.1; omega)
  unfold fill
  by_cases h : s.last < now
  · rw [if_pos h]
    have p : 0 ≤ (now - s.last) * k.b := Int.mul_nonneg (by omega) (by have := hk.b.1; omega)
    have := hs.last; have := hs.has0; have := hs.has1
    refine ⟨⟨by show 0 ≤ now; omega, ?_, ?_⟩, rfl⟩
    · show 0 ≤ min _ _; omega
    · show min _ _ ≤ _; omega
  · rw [if_neg h]
    exact ⟨hs, by omega⟩
structure ShInv (k : Bk) (l : List It) (j : Nat) : Prop where
  ok : SOk k (shp k l j).1
  last : (shp k l j).1.last ≤ (shp k l j).2
/-! ### one tick's together -/
def inTo (k : Bk) (l : List It) (s t : Int) : Nat → Int
  | 0 => 0
  | j + 1 => inTo k l s t j + if conf k l j = true ∧ s ≤ (ix l j).at_ ∧ (ix l j).at_ ≤ t then (ix l j).len else 0
structure WInv (k : Bk) (l : List It) (s : Int) (j : Nat) : Prop where
  sum : ∀ t, (stTo k l j).last ≤ t → inTo k l s t j * k.t + (stTo k l j).has ≤ k.r * k.t + max 0 ((stTo k l j).last - s) * k.b
  none_ : ∀ t, (stTo k l j).last < s → inTo k l s t j = 0
end Bkt
end Go.Proofs.YtgdijbaodfghjaaGreatDoor

/-
  Plain law of the shaper: what it lets go conforms to its bucket, in order, at the time that When tells. No program in sight.
-/
namespace Go.Proofs.YtgdijbaodfghjaaGreatDoor
open Bkt
set_option linter.unusedVariables false
namespace Bkt
theorem sok_fill {k : Bk} {s : St} {now : Int} (hk : BkOk k) (hs : SOk k s) : SOk k (fill k s now) := by
  by_cases h : s.last ≤ now
  · exact (fill_ok hk hs h).1
  · unfold fill
    rw [if_neg (by omega)]
    exact hs
theorem sok_take {k : Bk} {s : St} {now n : Int} (hk : BkOk k) (hs : SOk k s) (h0 : 0 ≤ n) : SOk k (take k s now n) := by
  have h1 := sok_fill (now := now) hk hs
  have hnt : 0 ≤ n * k.t := Int.mul_nonneg h0 (by have := hk.t.1; omega)
  unfold take okB
  by_cases hc : n * k.t ≤ (fill k s now).has
  · rw [if_pos (decide_eq_true hc)]
    have := h1.last; have := h1.has1
    exact ⟨by assumption, by show 0 ≤ _ - _; omega, by show _ - _ ≤ _; omega⟩
  · rw [if_neg (by simp [hc])]
    exact h1
theorem last_fill {k : Bk} {s : St} {now : Int} : (fill k s now).last = max s.last now := by
  unfold fill
  split
  · show now = _; omega
  · omega
theorem last_take {k : Bk} {s : St} {now n : Int} : (take k s now n).last = max s.last now := by
  unfold take
  split
  · exact last_fill
  · exact last_fill
theorem sok_start {k : Bk} (hk : BkOk k) : SOk k (start k) := ⟨Int.le_refl _, Int.mul_nonneg hk.r.1 (by have := hk.t.1; omega), Int.le_refl _⟩
theorem ix_app {l : List It} {x : It} {j : Nat} (h : j < l.length) : ix (l ++ [x]) j = ix l j := by
  unfold ix List.getD
  rw [List.getElem?_append_left h]
theorem ix_last (l : List It) (x : It) : ix (l ++ [x]) l.length = x := by
  unfold ix List.getD
  rw [List.getElem?_append_right (Nat.le_refl _), Nat.sub_self]
  rfl
theorem stTo_app {k : Bk} {l : List It} {x : It} : ∀ j, j ≤ l.length → stTo k (l ++ [x]) j = stTo k l j
  | 0, _ => rfl
  | j + 1, h => by
    show take k (stTo k (l ++ [x]) j) (ix (l ++ [x]) j).at_ (ix (l ++ [x]) j).len = take k (stTo k l j) (ix l j).at_ (ix l j).len
    rw [stTo_app j (by omega), ix_app (by omega)]
theorem conf_app {k : Bk} {l : List It} {x : It} {j : Nat} (h : j < l.length) : conf k (l ++ [x]) j = conf k l j := by
  unfold conf
  rw [stTo_app j (by omega), ix_app h]
end Bkt
namespace Pl
structure Shp (σ : Type) where
  q : σ
  st : St
  next : Option Hd
def look (M : QM) (now : Int) (s : Shp M.σ) : Shp M.σ :=
  match s.next with
  | some _ => s
  | none => ⟨(M.take now s.q).2.2, s.st, (M.take now s.q).1⟩
def shTake (b : Bk) {σ : Type} (now : Int) (s : Shp σ) : Option Hd × List Hd × Shp σ :=
  match s.next with
  | none => (none, [], s)
  | some x => if Bkt.okB b s.st now x.it.len then (some x, [], ⟨s.q, take b s.st now x.it.len, none⟩) else (none, [], ⟨s.q, take b s.st now x.it.len, some x⟩)
def shWhen (b : Bk) (M : QM) (now : Int) (s : Shp M.σ) : Option Int × Shp M.σ :=
  match s.next with
  | none => ((M.when_ now s.q).1, ⟨(M.when_ now s.q).2, s.st, none⟩)
  | some x => if b.r < x.it.len then (none, s) else (some (whenAt b s.st now x.it.len), ⟨s.q, fill b s.st now, some x⟩)
def one : Option Hd → Int
  | none => 0
  | some _ => 1
def lenO : Option Hd → Int
  | none => 0
  | some x => x.it.len
def shM (b : Bk) (M : QM) : QM where
  σ := Shp M.σ
  put := fun now x s => if b.r < x.it.len then ([x], s) else ((M.put now x s.q).1, ⟨(M.put now x s.q).2, s.st, s.next⟩)
  take := fun now s => shTake b now (look M now s)
  when_ := fun now s => shWhen b M now (look M now s)
  wait := fun s => s.next.toList.map key ++ M.wait s.q
  len := fun s => M.len s.q + one s.next
  bytes := fun s => M.bytes s.q + lenO s.next
def Sure (M : QM) : Prop := ∀ now s, (M.take now s).2.1 = []
/-! what a play's law asks -/
def lensTo (ts : List Stp) : Nat → List Int
  | 0 => []
  | k + 1 => match ts[k]? with
    | some t => if t.what = 0 then lensTo ts k ++ [t.it.len] else lensTo ts k
    | none => lensTo ts k
def laterAt (ts : List Stp) (k : Nat) : Int := match ts[k]? with | some t => t.later | none => 0
def goneTo (ts : List Stp) (sn : Nat → Seen) : Nat → List It
  | 0 => []
  | k + 1 => if 0 ≤ (sn k).taken then goneTo ts sn k ++ [⟨laterAt ts k, (lensTo ts (k + 1)).getD (sn k).taken.toNat 0, 0, 0, 0⟩] else goneTo ts sn k
def nowB (ts : List Stp) : Nat → Int
  | 0 => 0
  | k + 1 => laterAt ts k
structure WOk (b : Bk) (last : Int) (lens : List Int) (x : Hd) : Prop where
  lo : last < x.num
  n0 : 0 ≤ x.num
  hi : x.num < lens.length
  is : lens.getD x.num.toNat 0 = x.it.len
  len : 1 ≤ x.it.len ∧ x.it.len ≤ 10000
  room : x.it.len ≤ b.r
structure GOk (b : Bk) (now : Int) (gone : List It) : Prop where
  conf : ∀ j, j < gone.length → conf b gone j = true
  fine : ∀ j, j < gone.length → (0 ≤ (ix gone j).at_ ∧ (ix gone j).at_ ≤ now) ∧ (1 ≤ (ix gone j).len ∧ (ix gone j).len ≤ 10000) ∧ (ix gone j).flow = 0 ∧ (ix gone j).band = 0 ∧ (ix gone j).mark = 0
  up : ∀ j, j + 1 < gone.length → (ix gone j).at_ ≤ (ix gone (j + 1)).at_
  sok : SOk b (stTo b gone gone.length)
  last : (stTo b gone gone.length).last ≤ now
structure SInv (b : Bk) (last : Int) (lens : List Int) (gone : List It) (now : Int) (s : Shp (List Hd)) : Prop where
  up : ((s.next.toList ++ s.q).map Hd.num).Pairwise (· < ·)
  w : ∀ x ∈ s.next.toList ++ s.q, WOk b last lens x
  low : -1 ≤ last
  ltn : last < lens.length
  sok : SOk b s.st
  last : s.st.last ≤ now
  eq : ∀ T, now ≤ T → fill b s.st T = fill b (stTo b gone gone.length) T
  g : GOk b now gone
  now0 : 0 ≤ now
def WS (b : Bk) (now : Int) (s : Shp (List Hd)) (wn : Int) : Prop := 0 ≤ wn → ∃ x, s.next = some x ∧ ∀ T, now ≤ T → (Bkt.okB b s.st T x.it.len = true ↔ wn ≤ T)
theorem GOk.later {b : Bk} {now T : Int} {gone : List It} (h : GOk b now gone) (hT : now ≤ T) : GOk b T gone :=
  ⟨h.conf, fun j hj => by obtain ⟨⟨a, c⟩, d⟩ := h.fine j hj; exact ⟨⟨a, by omega⟩, d⟩, h.up, h.sok, by have := h.last; omega⟩
theorem GOk.more {b : Bk} {now T : Int} {gone : List It} {n : Int} (h : GOk b now gone) (hk : BkOk b) (h0 : 0 ≤ now) (hT : now ≤ T) (hn : 1 ≤ n ∧ n ≤ 10000) (hok : Bkt.okB b (stTo b gone gone.length) T n = true) :
    GOk b T (gone ++ [⟨T, n, 0, 0, 0⟩]) ∧ stTo b (gone ++ [⟨T, n, 0, 0, 0⟩]) (gone ++ [(⟨T, n, 0, 0, 0⟩ : It)]).length = take b (stTo b gone gone.length) T n := by
  have hl : (gone ++ [(⟨T, n, 0, 0, 0⟩ : It)]).length = gone.length + 1 := by simp
  have hst : stTo b (gone ++ [⟨T, n, 0, 0, 0⟩]) (gone ++ [(⟨T, n, 0, 0, 0⟩ : It)]).length = take b (stTo b gone gone.length) T n := by
    rw [hl]
    show take b (stTo b _ gone.length) (ix _ gone.length).at_ (ix _ gone.length).len = _
    rw [stTo_app _ (Nat.le_refl _), ix_last]
  refine ⟨⟨?_, ?_, ?_, ?_, ?_⟩, hst⟩
  · intro j hj
    rcases Nat.lt_or_ge j gone.length with h' | h'
    · rw [conf_app h']; exact h.conf j h'
    · obtain rfl : j = gone.length := by omega
      unfold Bkt.conf
      rw [stTo_app _ (Nat.le_refl _), ix_last]
      exact hok
  · intro j hj
    rcases Nat.lt_or_ge j gone.length with h' | h'
    · rw [ix_app h']
      obtain ⟨⟨a, c⟩, d⟩ := h.fine j h'
      exact ⟨⟨a, by omega⟩, d⟩
    · obtain rfl : j = gone.length := by omega
      rw [ix_last]
      exact ⟨⟨by show 0 ≤ T; omega, Int.le_refl _⟩, hn, rfl, rfl, rfl⟩
  · intro j hj
    rcases Nat.lt_or_ge (j + 1) gone.length with h' | h'
    · rw [ix_app h', ix_app (by omega)]; exact h.up j h'
    · have e : j + 1 = gone.length := by omega
      rw [e, ix_last, ix_app (by omega)]
      have := (h.fine j (by omega)).1.2
      show _ ≤ T
      omega
  · rw [hst]; exact sok_take hk h.sok (by omega)
  · rw [hst, last_take]
    have := h.last
    omega
theorem SInv.start {b : Bk} (hk : BkOk b) : SInv b (-1) [] [] 0 ⟨[], start b, none⟩ :=
  ⟨by simp, fun x hx => by simp at hx, by omega, by simp, sok_start hk, Int.le_refl _, fun T _ => rfl, ⟨fun j hj => absurd hj (by simp), fun j hj => absurd hj (by simp), fun j hj => absurd hj (by simp), sok_start hk, Int.le_refl _⟩, Int.le_refl _⟩
theorem SInv.look {b : Bk} {p : FP} {last : Int} {lens : List Int} {gone : List It} {now T : Int} {s : Shp (List Hd)} (h : SInv b last lens gone now s) : SInv b last lens gone now (look (fifoM p) T s) ∧ ((look (fifoM p) T s).next = none → (look (fifoM p) T s).q = []) ∧ (look (fifoM p) T s).st = s.st := by
  obtain ⟨q, st, nx⟩ := s
  cases nx with
  | some x => exact ⟨h, ⟨fun e => (by cases e), rfl⟩⟩
  | none =>
    cases q with
    | nil => exact ⟨h, ⟨fun _ => rfl, rfl⟩⟩
    | cons x r => exact ⟨⟨h.up, h.w, h.low, h.ltn, h.sok, h.last, h.eq, h.g, h.now0⟩, ⟨fun e => (by cases e), rfl⟩⟩
theorem SInv.later {b : Bk} {last : Int} {lens : List Int} {gone : List It} {now T : Int} {s : Shp (List Hd)} (h : SInv b last lens gone now s) (hT : now ≤ T) : SInv b last lens gone T s :=
  ⟨h.up, h.w, h.low, h.ltn, h.sok, by have := h.last; omega, fun T' hT' => h.eq T' (by omega), h.g.later hT, by have := h.now0; omega⟩
theorem WOk.more {b : Bk} {last : Int} {lens : List Int} {x : Hd} {n : Int} (h : WOk b last lens x) : WOk b last (lens ++ [n]) x :=
  ⟨h.lo, h.n0, by have := h.hi; simp; omega, by
    have h0 := h.n0; have h1 := h.hi
    rw [← h.is, List.getD, List.getElem?_append_left (by omega)]; rfl, h.len, h.room⟩
theorem SInv.put {b : Bk} {p : FP} {last : Int} {lens : List Int} {gone : List It} {now T : Int} {s : Shp (List Hd)} (h : SInv b last lens gone now s) (hT : now ≤ T) (hd : p.head = false) (it : It) (hit : 1 ≤ it.len ∧ it.len ≤ 10000) :
    SInv b last (lens ++ [it.len]) gone T ((shM b (fifoM p)).put T ⟨it, lens.length⟩ s).2 := by
  have base : SInv b last (lens ++ [it.len]) gone T s :=
    ⟨h.up, fun x hx => (h.w x hx).more, h.low, by have := h.ltn; simp; omega, h.sok, by have := h.last; omega, fun T' hT' => h.eq T' (by omega), h.g.later hT, by have := h.now0; omega⟩
  by_cases hr : b.r < it.len
  · have e : (shM b (fifoM p)).put T ⟨it, lens.length⟩ s = ([⟨it, lens.length⟩], s) := if_pos hr
    rw [e]
    exact base
  · have e : (shM b (fifoM p)).put T ⟨it, lens.length⟩ s = ((fputL p ⟨it, lens.length⟩ s.q).1, ⟨(fputL p ⟨it, lens.length⟩ s.q).2, s.st, s.next⟩) := if_neg hr
    rw [e]
    unfold fputL
    rw [if_pos hd]
    split
    · exact base
    · have new : WOk b last (lens ++ [it.len]) ⟨it, lens.length⟩ := by
        have := h.ltn; have := h.low
        refine ⟨by show last < (lens.length : Int); omega, by show (0 : Int) ≤ lens.length; omega, by simp; omega, ?_, hit, by show it.len ≤ b.r; omega⟩
        simp [List.getD]
      refine ⟨?_, ?_, base.low, base.ltn, base.sok, base.last, base.eq, base.g, base.now0⟩
      · show ((s.next.toList ++ (s.q ++ [(⟨it, (lens.length : Int)⟩ : Hd)])).map Hd.num).Pairwise (· < ·)
        rw [← List.append_assoc, List.map_append]
        refine pairwise_snoc h.up (fun y hy => ?_)
        obtain ⟨z, hz, rfl⟩ := List.mem_map.1 hy
        exact (h.w z hz).hi
      · intro x hx
        have hx' : x ∈ s.next.toList ++ (s.q ++ [(⟨it, (lens.length : Int)⟩ : Hd)]) := hx
        rw [← List.append_assoc] at hx'
        rcases List.mem_append.1 hx' with hx' | hx'
        · exact base.w x hx'
        · simp at hx'
          subst hx'
          exact new
theorem SInv.take {b : Bk} {last : Int} {lens : List Int} {gone : List It} {now T : Int} {s : Shp (List Hd)} {x : Hd} (h : SInv b last lens gone now s) (hk : BkOk b) (hT : now ≤ T) (hx : s.next = some x) (ho : Bkt.okB b s.st T x.it.len = true) :
    SInv b x.num lens (gone ++ [⟨T, lens.getD x.num.toNat 0, 0, 0, 0⟩]) T ⟨s.q, Bkt.take b s.st T x.it.len, none⟩ := by
  obtain ⟨q, st, nx⟩ := s
  dsimp only at hx ho
  subst hx
  have hw := h.w x (by simp)
  have heq := h.eq T hT
  dsimp only at heq
  have hok : Bkt.okB b (stTo b gone gone.length) T x.it.len = true := by
    unfold Bkt.okB at ho ⊢
    rw [← heq]
    exact ho
  have htk : Bkt.take b st T x.it.len = Bkt.take b (stTo b gone gone.length) T x.it.len := by
    unfold Bkt.take
    rw [ho, hok, heq]
  obtain ⟨g1, g2⟩ := h.g.more hk h.now0 hT hw.len hok
  have hu := h.up
  have e : ((some x).toList ++ q : List Hd) = x :: q := rfl
  dsimp only at hu
  rw [e, List.map_cons, List.pairwise_cons] at hu
  rw [hw.is]
  refine ⟨hu.2, ?_, by show -1 ≤ x.num; have := hw.n0; omega, hw.hi, sok_take hk h.sok (by have := hw.len; omega), by
    show (Bkt.take b st T x.it.len).last ≤ T; rw [last_take]; have := h.last; dsimp only at this; omega, fun T' hT' => ?_, g1, by have := h.now0; omega⟩
  · intro y hy
    have hy' : y ∈ q := by simpa using hy
    have hy2 := h.w y (List.mem_append_right _ hy')
    exact ⟨hu.1 _ (List.mem_map_of_mem hy'), hy2.n0, hy2.hi, hy2.is, hy2.len, hy2.room⟩
  · rw [g2]
    show fill b (Bkt.take b st T x.it.len) T' = _
    rw [htk]
def TimesOk (ts : List Stp) : Prop := ∀ k t, ts[k]? = some t → nowB ts k ≤ t.later ∧ t.later ≤ 1000000000
structure SStep (ts : List Stp) (sn : Nat → Seen) (i : Nat) : Prop where
  t : 0 ≤ (sn i).taken → lastTo sn i < (sn i).taken ∧ (sn i).taken < (lensTo ts (i + 1)).length
  w : ∀ j, i = j + 1 → 0 ≤ (sn j).when_ → (∀ t, ts[i]? = some t → t.what = 1) → (0 ≤ (sn i).taken ↔ (sn j).when_ ≤ laterAt ts i)
structure SAll (b : Bk) (p : FP) (ts : List Stp) (sn : Nat → Seen) (k : Nat) (ns : Nat × Shp (List Hd)) : Prop where
  inv : SInv b (lastTo sn k) (lensTo ts k) (goneTo ts sn k) (nowB ts k) ns.2
  n : ns.1 = (lensTo ts k).length
  ws : ∀ j, k = j + 1 → WS b (nowB ts k) ns.2 (sn j).when_
  all : ∀ i, i < k → SStep ts sn i
end Pl
end Go.Proofs.YtgdijbaodfghjaaGreatDoor

/-
  Plain law of ItemTakesMore: ticks that bytes take, rounded up.
-/
namespace Go.Proofs.YtgdijbaodfghjaaGreatDoor
namespace Bkt
def takes (b t n : Int) : Int := (n * t + b - 1) / b
theorem takes_bd (b t n : Int) (hb : 1 ≤ b) : n * t ≤ b * takes b t n ∧ b * takes b t n ≤ n * t + b - 1 := by
  unfold takes
  have h1 := Int.mul_ediv_add_emod (n * t + b - 1) b
  have h2 := Int.emod_nonneg (n * t + b - 1) (show b ≠ 0 by omega)
  have h3 := Int.emod_lt_of_pos (n * t + b - 1) (show 0 < b by omega)
  generalize b * ((n * t + b - 1) / b) = X at *
  omega
theorem mul_lt {b x y : Int} (hb : 1 ≤ b) (h : b * x < b * y) : x < y := Int.lt_of_mul_lt_mul_left h (by omega)
theorem takes_hi {b t n N : Int} (hb : 1 ≤ b) (ht : 1 ≤ t) (h0 : 0 ≤ n) (ht' : t ≤ 1000000) (h1 : n ≤ N) : 0 ≤ takes b t n ∧ takes b t n ≤ N * 1000000 := by
  obtain ⟨x1, x2⟩ := takes_bd b t n hb
  have hp : 0 ≤ n * t := Int.mul_nonneg h0 (by omega)
  have hp2 : n * t ≤ N * 1000000 := Int.mul_le_mul h1 ht' (by omega) (by omega)
  generalize takes b t n = x at *
  have h2 : 0 < x + 1 := mul_lt (x := 0) (y := x + 1) hb (by rw [Int.mul_add, Int.mul_one]; omega)
  refine ⟨by omega, ?_⟩
  have h3 : 0 ≤ (b - 1) * (x - 1) ∨ x = 0 := by
    by_cases e : x = 0
    · exact .inr e
    · exact .inl (Int.mul_nonneg (by omega) (by omega))
  rcases h3 with h3 | h3
  · rw [Int.sub_mul, Int.mul_sub, Int.mul_one, Int.one_mul] at h3
    generalize b * x = X at *
    omega
  · omega
end Bkt
end Go.Proofs.YtgdijbaodfghjaaGreatDoor

/-
  Plain law of bands of whatever queues: the machine, that it loses nothing.
-/
namespace Go.Proofs.YtgdijbaodfghjaaGreatDoor
open Bkt
namespace Pl
set_option linter.unusedVariables false
theorem flat_sameG {α : Type} {G G' : Nat → List α} : ∀ (I : List Nat), (∀ i ∈ I, G' i = G i) → I.flatMap G' = I.flatMap G
  | [], _ => rfl
  | i :: I, h => by rw [List.flatMap_cons, List.flatMap_cons, h i List.mem_cons_self, flat_sameG I fun j hj => h j (List.mem_cons_of_mem _ hj)]
theorem flat_updG {α : Type} (f : Nat) {G G' : Nat → List α} (h : ∀ i, i ≠ f → G' i = G i) : ∀ (I : List Nat), I.Nodup → f ∈ I → ∃ R, (I.flatMap G).Perm (G f ++ R) ∧ (I.flatMap G').Perm (G' f ++ R)
  | [], _, hf => by cases hf
  | i :: I, hn, hf => by
    rw [List.nodup_cons] at hn
    rw [List.flatMap_cons, List.flatMap_cons]
    by_cases e : i = f
    · subst e
      refine ⟨I.flatMap G, List.Perm.refl _, ?_⟩
      rw [flat_sameG I fun j hj => h j (fun e => hn.1 (e ▸ hj))]
    · have hf' : f ∈ I := by
        rcases List.mem_cons.1 hf with e2 | h2
        · exact absurd e2.symm e
        · exact h2
      obtain ⟨R, h1, h2⟩ := flat_updG f h I hn.2 hf'
      refine ⟨G i ++ R, ?_, ?_⟩
      · exact (h1.append_left (G i)).trans (List.perm_append_comm_assoc _ _ _)
      · rw [h i e]
        exact (h2.append_left (G i)).trans (List.perm_append_comm_assoc _ _ _)
section
variable {Ms : Nat → QM}
abbrev BSt (Ms : Nat → QM) : Type := (i : Nat) → (Ms i).σ
def updD (s : BSt Ms) (i : Nat) (v : (Ms i).σ) : BSt Ms := fun j => if h : j = i then h ▸ v else s j
theorem updD_same (s : BSt Ms) (i : Nat) (v : (Ms i).σ) : updD s i v i = v := by simp [updD]
theorem updD_ne (s : BSt Ms) {i : Nat} (v : (Ms i).σ) {j : Nat} (h : j ≠ i) : updD s i v j = s j := by simp [updD, h]
def bandOf (m : Nat) (x : It) : Nat := min x.band.toNat (m - 1)
theorem bandOf_lt {m : Nat} (hm : 0 < m) (x : It) : bandOf m x < m := by unfold bandOf; omega
def takeG (Ms : Nat → QM) (now : Int) : Nat → Nat → BSt Ms → Option Hd × List Hd × BSt Ms
  | 0, _, s => (none, [], s)
  | n + 1, i, s =>
    match ((Ms i).take now (s i)).1 with
    | some x => (some x, ((Ms i).take now (s i)).2.1, updD s i ((Ms i).take now (s i)).2.2)
    | none => ((takeG Ms now n (i + 1) (updD s i ((Ms i).take now (s i)).2.2)).1, ((Ms i).take now (s i)).2.1 ++ (takeG Ms now n (i + 1) (updD s i ((Ms i).take now (s i)).2.2)).2.1, (takeG Ms now n (i + 1) (updD s i ((Ms i).take now (s i)).2.2)).2.2)
def lessO (b : Option Int) : Option Int → Option Int
  | none => b
  | some a => match b with
    | none => some a
    | some c => if a < c then some a else some c
def whenG (Ms : Nat → QM) (now : Int) : Nat → Nat → Option Int → BSt Ms → Option Int × BSt Ms
  | 0, _, b, s => (b, s)
  | n + 1, i, b, s => whenG Ms now n (i + 1) (lessO b ((Ms i).when_ now (s i)).1) (updD s i ((Ms i).when_ now (s i)).2)
def waitG (Ms : Nat → QM) (m : Nat) (s : BSt Ms) : List (Int × Int) := (List.range m).flatMap fun i => (Ms i).wait (s i)
def sumG (f : Nat → Int) : Nat → Int
  | 0 => 0
  | n + 1 => sumG f n + f n
def bndM (Ms : Nat → QM) (m : Nat) : QM where
  σ := BSt Ms
  put := fun now x s => (((Ms (bandOf m x.it)).put now x (s (bandOf m x.it))).1, updD s (bandOf m x.it) ((Ms (bandOf m x.it)).put now x (s (bandOf m x.it))).2)
  take := fun now s => takeG Ms now m 0 s
  when_ := fun now s => whenG Ms now m 0 none s
  wait := waitG Ms m
  len := fun s => sumG (fun i => (Ms i).len (s i)) m
  bytes := fun s => sumG (fun i => (Ms i).bytes (s i)) m
theorem waitG_upd {m k : Nat} (hk : k < m) (s : BSt Ms) (v : (Ms k).σ) : ∃ R, (waitG Ms m s).Perm ((Ms k).wait (s k) ++ R) ∧ (waitG Ms m (updD s k v)).Perm ((Ms k).wait v ++ R) := by
  obtain ⟨R, h1, h2⟩ := flat_updG k (G := fun i => (Ms i).wait (s i)) (G' := fun i => (Ms i).wait (updD s k v i)) (fun i hi => by rw [updD_ne _ _ hi]) (List.range m) List.nodup_range (List.mem_range.2 hk)
  rw [updD_same] at h2
  exact ⟨R, h1, h2⟩
def BndI (m : Nat) (I : (i : Nat) → (Ms i).σ → Prop) (s : BSt Ms) : Prop := ∀ i, i < m → I i (s i)
theorem bndI_upd {m k : Nat} {I : (i : Nat) → (Ms i).σ → Prop} {s : BSt Ms} (h : BndI m I s) {v : (Ms k).σ} (hv : I k v) : BndI m I (updD s k v) := fun i hi => by
  by_cases e : i = k
  · subst e; rw [updD_same]; exact hv
  · rw [updD_ne _ _ e]; exact h i hi
theorem takeO_good {late : Bool} {m : Nat} {I : (i : Nat) → (Ms i).σ → Prop} (G : ∀ i, i < m → (Ms i).Good late (I i)) (now : Int) {i : Nat} (hi : i < m) (s : BSt Ms) (h : BndI m I s) {r : Option Hd × List Hd × (Ms i).σ} (hr : (Ms i).take now (s i) = r) :
    BndI m I (updD s i r.2.2) ∧ (waitG Ms m s).Perm (r.2.1.map key ++ (r.1.toList.map key ++ waitG Ms m (updD s i r.2.2))) := by
  obtain ⟨g1, g2⟩ := (G i hi).take (s i) now (h i hi)
  rw [hr] at g1 g2
  obtain ⟨R, p1, p2⟩ := waitG_upd hi s r.2.2
  refine ⟨bndI_upd h g1, (p1.trans (g2.append_right R)).trans ?_⟩
  rw [List.append_assoc, List.append_assoc]
  exact List.Perm.append_left _ (List.Perm.append_left _ p2.symm)
theorem takeG_some {now : Int} {n i : Nat} {s : BSt Ms} {x : Hd} {lo : List Hd} {v : (Ms i).σ} (h : (Ms i).take now (s i) = (some x, lo, v)) : takeG Ms now (n + 1) i s = (some x, lo, updD s i v) := by
  unfold takeG; rw [h]
theorem takeG_none {now : Int} {n i : Nat} {s : BSt Ms} {lo : List Hd} {v : (Ms i).σ} (h : (Ms i).take now (s i) = (none, lo, v)) : takeG Ms now (n + 1) i s = ((takeG Ms now n (i + 1) (updD s i v)).1, lo ++ (takeG Ms now n (i + 1) (updD s i v)).2.1, (takeG Ms now n (i + 1) (updD s i v)).2.2) := by
  rw [takeG, h]
theorem whenO_good {late : Bool} {m : Nat} {I : (i : Nat) → (Ms i).σ → Prop} (G : ∀ i, i < m → (Ms i).Good late (I i)) (now : Int) {i : Nat} (hi : i < m) (s : BSt Ms) (h : BndI m I s) {r : Option Int × (Ms i).σ} (hr : (Ms i).when_ now (s i) = r) :
    BndI m I (updD s i r.2) ∧ (waitG Ms m s).Perm (waitG Ms m (updD s i r.2)) := by
  obtain ⟨g1, g2⟩ := (G i hi).when_ (s i) now (h i hi)
  rw [hr] at g1 g2
  obtain ⟨R, p1, p2⟩ := waitG_upd hi s r.2
  exact ⟨bndI_upd h g1, (p1.trans (g2.append_right R)).trans p2.symm⟩
theorem whenG_is {now : Int} {n i : Nat} {b : Option Int} {s : BSt Ms} {o : Option Int} {v : (Ms i).σ} (h : (Ms i).when_ now (s i) = (o, v)) : whenG Ms now (n + 1) i b s = whenG Ms now n (i + 1) (lessO b o) (updD s i v) := by
  rw [whenG, h]
theorem takeG_good {late : Bool} {m : Nat} {I : (i : Nat) → (Ms i).σ → Prop} (G : ∀ i, i < m → (Ms i).Good late (I i)) (now : Int) : ∀ (n i : Nat) (s : BSt Ms), i + n ≤ m → BndI m I s →
    BndI m I (takeG Ms now n i s).2.2 ∧ (waitG Ms m s).Perm ((takeG Ms now n i s).2.1.map key ++ ((takeG Ms now n i s).1.toList.map key ++ waitG Ms m (takeG Ms now n i s).2.2))
  | 0, i, s, _, h => ⟨h, List.Perm.refl _⟩
  | n + 1, i, s, hi, h => by
    obtain ⟨g1, g2⟩ := (G i (by omega)).take (s i) now (h i (by omega))
    unfold takeG
    generalize (Ms i).take now (s i) = r at *
    obtain ⟨o, lo, v⟩ := r
    dsimp only at g1 g2 ⊢
    obtain ⟨R, p1, p2⟩ := waitG_upd (by omega : i < m) s v
    have hI2 := bndI_upd h g1
    cases o with
    | some x =>
      refine ⟨hI2, ?_⟩
      dsimp only
      refine (p1.trans (g2.append_right R)).trans ?_
      rw [List.append_assoc, List.append_assoc]
      exact List.Perm.append_left _ (List.Perm.append_left _ p2.symm)
    | none =>
      obtain ⟨k1, k2⟩ := takeG_good G now n (i + 1) (updD s i v) (by omega) hI2
      refine ⟨k1, ?_⟩
      dsimp only
      have e : (waitG Ms m s).Perm (lo.map key ++ waitG Ms m (updD s i v)) := by
        refine (p1.trans (g2.append_right R)).trans ?_
        rw [List.append_assoc]
        exact List.Perm.append_left _ p2.symm
      refine (e.trans (List.Perm.append_left _ k2)).trans ?_
      rw [List.map_append, List.append_assoc]
theorem whenG_good {late : Bool} {m : Nat} {I : (i : Nat) → (Ms i).σ → Prop} (G : ∀ i, i < m → (Ms i).Good late (I i)) (now : Int) : ∀ (n i : Nat) (b : Option Int) (s : BSt Ms), i + n ≤ m → BndI m I s →
    BndI m I (whenG Ms now n i b s).2 ∧ (waitG Ms m s).Perm (waitG Ms m (whenG Ms now n i b s).2)
  | 0, i, b, s, _, h => ⟨h, List.Perm.refl _⟩
  | n + 1, i, b, s, hi, h => by
    obtain ⟨g1, g2⟩ := (G i (by omega)).when_ (s i) now (h i (by omega))
    unfold whenG
    obtain ⟨R, p1, p2⟩ := waitG_upd (by omega : i < m) s ((Ms i).when_ now (s i)).2
    obtain ⟨k1, k2⟩ := whenG_good G now n (i + 1) (lessO b ((Ms i).when_ now (s i)).1) _ (by omega) (bndI_upd h g1)
    exact ⟨k1, ((p1.trans (g2.append_right R)).trans p2.symm).trans k2⟩
theorem sumG_le {f g : Nat → Int} : ∀ {n : Nat}, (∀ i, i < n → f i ≤ g i) → sumG f n ≤ sumG g n
  | 0, _ => Int.le_refl _
  | n + 1, h => by
    have h1 := sumG_le (n := n) (fun i hi => h i (by omega))
    have h2 := h n (by omega)
    unfold sumG
    omega
theorem sumG_eq {f g : Nat → Int} : ∀ {n : Nat}, (∀ i, i < n → f i = g i) → sumG f n = sumG g n
  | 0, _ => rfl
  | n + 1, h => by unfold sumG; rw [sumG_eq (n := n) (fun i hi => h i (by omega)), h n (by omega)]
theorem range_snoc_flat {α : Type} (f : Nat → List α) (n : Nat) : (List.range (n + 1)).flatMap f = (List.range n).flatMap f ++ f n := by
  rw [List.range_succ, List.flatMap_append]
  simp
theorem waitG_len (s : BSt Ms) : ∀ m, ((waitG Ms m s).length : Int) = sumG (fun i => ((Ms i).wait (s i)).length) m
  | 0 => rfl
  | m + 1 => by
    have h := waitG_len s m
    unfold waitG at h ⊢
    rw [range_snoc_flat, List.length_append]
    unfold sumG
    omega
theorem waitG_sum (s : BSt Ms) : ∀ m, sumLen (waitG Ms m s) = sumG (fun i => sumLen ((Ms i).wait (s i))) m
  | 0 => rfl
  | m + 1 => by
    have h := waitG_sum s m
    unfold waitG at h ⊢
    rw [range_snoc_flat, sumLen_append]
    unfold sumG
    omega
theorem bnd_len {late : Bool} {m : Nat} {I : (i : Nat) → (Ms i).σ → Prop} (G : ∀ i, i < m → (Ms i).Good late (I i)) (s : BSt Ms) (h : BndI m I s) :
    sumG (fun i => (Ms i).len (s i)) m ≤ ((waitG Ms m s).length : Int) ∧ sumG (fun i => (Ms i).bytes (s i)) m ≤ sumLen (waitG Ms m s) ∧ (late = false → sumG (fun i => (Ms i).len (s i)) m = ((waitG Ms m s).length : Int) ∧ sumG (fun i => (Ms i).bytes (s i)) m = sumLen (waitG Ms m s)) := by
  rw [waitG_len s m, waitG_sum s m]
  exact ⟨sumG_le fun i hi => ((G i hi).len (s i) (h i hi)).1, sumG_le fun i hi => ((G i hi).len (s i) (h i hi)).2.1, fun hl =>
    ⟨sumG_eq fun i hi => (((G i hi).len (s i) (h i hi)).2.2 hl).1, sumG_eq fun i hi => (((G i hi).len (s i) (h i hi)).2.2 hl).2⟩⟩
theorem bnd_good {late : Bool} {m : Nat} (hm : 0 < m) {I : (i : Nat) → (Ms i).σ → Prop} (G : ∀ i, i < m → (Ms i).Good late (I i)) : (bndM Ms m).Good late (BndI m I) where
  put := fun s now x h ho => by
    have hk := bandOf_lt hm x.it
    show BndI m I (updD s (bandOf m x.it) ((Ms (bandOf m x.it)).put now x (s (bandOf m x.it))).2) ∧ (waitG Ms m s ++ [key x]).Perm (((Ms (bandOf m x.it)).put now x (s (bandOf m x.it))).1.map key ++ waitG Ms m (updD s (bandOf m x.it) ((Ms (bandOf m x.it)).put now x (s (bandOf m x.it))).2))
    generalize bandOf m x.it = k at *
    obtain ⟨g1, g2⟩ := (G k hk).put (s k) now x (h k hk) ho
    obtain ⟨R, p1, p2⟩ := waitG_upd hk s ((Ms k).put now x (s k)).2
    refine ⟨bndI_upd h g1, ?_⟩
    refine (p1.append_right [key x]).trans ?_
    rw [List.append_assoc]
    refine (List.Perm.append_left _ List.perm_append_comm).trans ?_
    rw [← List.append_assoc]
    refine (g2.append_right R).trans ?_
    rw [List.append_assoc]
    exact List.Perm.append_left _ p2.symm
  take := fun s now h => takeG_good G now m 0 s (by omega) h
  when_ := fun s now h => whenG_good G now m 0 none s (by omega) h
  len := fun s h => bnd_len G s h
end
structure QB (M : QM) (late : Bool) (I : M.σ → Prop) : Prop where
  good : M.Good late I
  ps : ∀ s, I s → ∀ p ∈ M.wait s, (0 : Int) ≤ p.2 ∧ p.2 ≤ 10000
  pos : ∀ s, I s → 0 ≤ M.len s ∧ 0 ≤ M.bytes s
theorem QM.Good.weak {M : QM} {late : Bool} {I : M.σ → Prop} (G : M.Good late I) : M.Good true I :=
  ⟨G.put, G.take, G.when_, fun s h => ⟨(G.len s h).1, (G.len s h).2.1, fun e => by cases e⟩⟩
theorem QB.weak {M : QM} {late : Bool} {I : M.σ → Prop} (G : QB M late I) : QB M true I := ⟨G.good.weak, G.ps, G.pos⟩
theorem QB.at_ {M : QM} {late l2 : Bool} {I : M.σ → Prop} (G : QB M late I) (h : late = true → l2 = true) : QB M l2 I := by
  cases late with
  | true => rw [h rfl]; exact G
  | false =>
    cases l2 with
    | true => exact G.weak
    | false => exact G
def PI (M : QM) (I : M.σ → Prop) (s : M.σ) : Prop := I s ∧ ∀ p ∈ M.wait s, (0 : Int) ≤ p.2 ∧ p.2 ≤ 10000
theorem sumLen_bd : ∀ {l : List (Int × Int)}, (∀ p ∈ l, (0 : Int) ≤ p.2 ∧ p.2 ≤ 10000) → 0 ≤ sumLen l ∧ sumLen l ≤ 10000 * (l.length : Int)
  | [], _ => ⟨Int.le_refl _, Int.le_refl _⟩
  | p :: r, h => by
    have h1 := sumLen_bd (l := r) (fun q hq => h q (List.mem_cons_of_mem _ hq))
    have h2 := h p List.mem_cons_self
    unfold sumLen
    rw [List.length_cons]
    omega
theorem okB_key {x : Hd} (h : okB x.it = true) : (0 : Int) ≤ (key x).2 ∧ (key x).2 ≤ 10000 := by
  unfold okB at h; rw [decide_eq_true_iff] at h; show 0 ≤ x.it.len ∧ x.it.len ≤ 10000; omega
theorem ps_snoc {W : List (Int × Int)} {x : Hd} (hw : ∀ p ∈ W, (0 : Int) ≤ p.2 ∧ p.2 ≤ 10000) (h : okB x.it = true) : ∀ p ∈ W ++ [key x], (0 : Int) ≤ p.2 ∧ p.2 ≤ 10000 := fun p hp => by
  rcases List.mem_append.1 hp with hp | hp
  · exact hw p hp
  · rw [List.mem_singleton] at hp; subst hp; exact okB_key h
theorem ps_perm {W W' : List (Int × Int)} (hp : W.Perm W') (h : ∀ p ∈ W, (0 : Int) ≤ p.2 ∧ p.2 ≤ 10000) : ∀ p ∈ W', (0 : Int) ≤ p.2 ∧ p.2 ≤ 10000 := fun p hm => h p (hp.symm.subset hm)
theorem good_pi {M : QM} {late : Bool} {I : M.σ → Prop} (G : M.Good late I) : M.Good late (PI M I) where
  put := fun s now x h ho => by
    obtain ⟨g1, g2⟩ := G.put s now x h.1 ho
    exact ⟨⟨g1, fun p hp => ps_perm g2 (ps_snoc h.2 ho) p (List.mem_append_right _ hp)⟩, g2⟩
  take := fun s now h => by
    obtain ⟨g1, g2⟩ := G.take s now h.1
    exact ⟨⟨g1, fun p hp => ps_perm g2 h.2 p (List.mem_append_right _ (List.mem_append_right _ hp))⟩, g2⟩
  when_ := fun s now h => by
    obtain ⟨g1, g2⟩ := G.when_ s now h.1
    exact ⟨⟨g1, ps_perm g2 h.2⟩, g2⟩
  len := fun s h => G.len s h.1
theorem QB.exact {M : QM} {I : M.σ → Prop} (G : M.Good false I) : QB M false (PI M I) :=
  ⟨good_pi G, fun s h => h.2, fun s h => by
    obtain ⟨_, _, h3⟩ := G.len s h.1
    obtain ⟨e1, e2⟩ := h3 rfl
    have := sumLen_bd h.2
    omega⟩
theorem QB.bd {M : QM} {late : Bool} {I : M.σ → Prop} (G : QB M late I) {s : M.σ} (h : I s) {k : Nat} (hk : (M.wait s).length ≤ k) : 0 ≤ M.len s ∧ M.len s ≤ k ∧ 0 ≤ M.bytes s ∧ M.bytes s ≤ 10000 * (k : Int) := by
  obtain ⟨h1, h2, _⟩ := G.good.len s h
  obtain ⟨h3, h4⟩ := G.pos s h
  obtain ⟨_, h5⟩ := sumLen_bd (G.ps s h)
  omega
section
variable {Ms : Nat → QM}
theorem sumG_pos {f : Nat → Int} : ∀ {n : Nat}, (∀ i, i < n → 0 ≤ f i) → 0 ≤ sumG f n
  | 0, _ => Int.le_refl _
  | n + 1, h => by
    have h1 := sumG_pos (n := n) (fun i hi => h i (by omega))
    have h2 := h n (by omega)
    unfold sumG
    omega
theorem sumG_up {f : Nat → Int} {m : Nat} (h : ∀ i, i < m → 0 ≤ f i) : ∀ {n : Nat}, n ≤ m → sumG f n ≤ sumG f m := by
  induction m with
  | zero => intro n hn; obtain rfl : n = 0 := by omega
            exact Int.le_refl _
  | succ m ih =>
    intro n hn
    by_cases e : n = m + 1
    · subst e; exact Int.le_refl _
    · have h1 := ih (fun i hi => h i (by omega)) (n := n) (by omega)
      have h2 := h m (by omega)
      have h3 : sumG f (m + 1) = sumG f m + f m := rfl
      omega
theorem bnd_qb {late : Bool} {m : Nat} (hm : 0 < m) {I : (i : Nat) → (Ms i).σ → Prop} (G : ∀ i, i < m → QB (Ms i) late (I i)) : QB (bndM Ms m) late (BndI m I) where
  good := bnd_good hm fun i hi => (G i hi).good
  ps := fun s h p hp => by
    have hp' : p ∈ (List.range m).flatMap fun i => (Ms i).wait (s i) := hp
    obtain ⟨i, hi, hpi⟩ := List.mem_flatMap.1 hp'
    have := List.mem_range.1 hi
    exact (G i this).ps _ (h i this) p hpi
  pos := fun s h => ⟨sumG_pos fun i hi => ((G i hi).pos _ (h i hi)).1, sumG_pos fun i hi => ((G i hi).pos _ (h i hi)).2⟩
theorem bnd_start {m : Nat} {s : BSt Ms} (h : ∀ i, i < m → (Ms i).wait (s i) = []) : waitG Ms m s = [] := by
  unfold waitG
  rw [List.flatMap_eq_nil_iff]
  intro i hi
  exact h i (List.mem_range.1 hi)
end
end Pl
end Go.Proofs.YtgdijbaodfghjaaGreatDoor

/-
  Plain law of a shaper over whatever queue: the machine, that it loses nothing but what is told, if late.
-/
namespace Go.Proofs.YtgdijbaodfghjaaGreatDoor
open Bkt
set_option linter.unusedVariables false
namespace Pl
structure ShS (σ : Type) where
  q : σ
  st : St
  next : Option Hd
  lost : List Hd
section
variable {M : QM}
def lookG (M : QM) (now : Int) (s : ShS M.σ) : ShS M.σ :=
  match s.next with
  | some _ => s
  | none => ⟨(M.take now s.q).2.2, s.st, (M.take now s.q).1, s.lost ++ (M.take now s.q).2.1⟩
def shgTake (b : Bk) {σ : Type} (now : Int) (s : ShS σ) : Option Hd × List Hd × ShS σ :=
  match s.next with
  | none => (none, s.lost, ⟨s.q, s.st, none, []⟩)
  | some x => if Bkt.okB b s.st now x.it.len then (some x, s.lost, ⟨s.q, take b s.st now x.it.len, none, []⟩) else (none, s.lost, ⟨s.q, take b s.st now x.it.len, some x, []⟩)
def shgWhen (b : Bk) (M : QM) (now : Int) (s : ShS M.σ) : Option Int × ShS M.σ :=
  match s.next with
  | none => ((M.when_ now s.q).1, ⟨(M.when_ now s.q).2, s.st, none, s.lost⟩)
  | some x => if b.r < x.it.len then (none, s) else (some (whenAt b s.st now x.it.len), ⟨s.q, fill b s.st now, some x, s.lost⟩)
def oneN : Option Hd → Int
  | none => 0
  | some _ => 1
def oneL : Option Hd → Int
  | none => 0
  | some x => x.it.len
def shgM (b : Bk) (M : QM) : QM where
  σ := ShS M.σ
  put := fun now x s => if b.r < x.it.len then ([x], s) else ((M.put now x s.q).1, ⟨(M.put now x s.q).2, s.st, s.next, s.lost⟩)
  take := fun now s => shgTake b now (lookG M now s)
  when_ := fun now s => shgWhen b M now (lookG M now s)
  wait := fun s => s.lost.map key ++ (s.next.toList.map key ++ M.wait s.q)
  len := fun s => M.len s.q + oneN s.next
  bytes := fun s => M.bytes s.q + oneL s.next
def ShgI (b : Bk) (I : M.σ → Prop) (s : ShS M.σ) : Prop := I s.q ∧ ∀ p ∈ (shgM b M).wait s, (0 : Int) ≤ p.2
theorem pos_perm {l l' : List (Int × Int)} (h : l.Perm l') (hp : ∀ p ∈ l, (0 : Int) ≤ p.2) : ∀ p ∈ l', (0 : Int) ≤ p.2 := fun p hm => hp p (h.symm.subset hm)
theorem lookG_good {late : Bool} {I : M.σ → Prop} (G : M.Good late I) (b : Bk) (now : Int) (s : ShS M.σ) (h : I s.q) : I (lookG M now s).q ∧ ((shgM b M).wait s).Perm ((shgM b M).wait (lookG M now s)) := by
  obtain ⟨q, st, nx, lo⟩ := s
  cases nx with
  | some x => exact ⟨h, List.Perm.refl _⟩
  | none =>
    obtain ⟨g1, g2⟩ := G.take q now h
    refine ⟨g1, ?_⟩
    show (lo.map key ++ M.wait q).Perm ((lo ++ (M.take now q).2.1).map key ++ ((M.take now q).1.toList.map key ++ M.wait (M.take now q).2.2))
    rw [List.map_append, List.append_assoc]
    exact List.Perm.append_left _ g2
theorem sumLen_pos : ∀ {l : List (Int × Int)}, (∀ p ∈ l, (0 : Int) ≤ p.2) → 0 ≤ sumLen l
  | [], _ => Int.le_refl _
  | p :: r, h => by
    have h1 := sumLen_pos (l := r) (fun q hq => h q (List.mem_cons_of_mem _ hq))
    have h2 := h p List.mem_cons_self
    unfold sumLen
    omega
theorem shg_good {late : Bool} {I : M.σ → Prop} (G : M.Good late I) (b : Bk) : (shgM b M).Good true (ShgI b I) where
  put := fun s now x h hx => by
    obtain ⟨h1, h2⟩ := h
    have hl : (0 : Int) ≤ x.it.len := by unfold okB at hx; rw [decide_eq_true_iff] at hx; omega
    have hpx : ∀ {W : List (Int × Int)}, (∀ p ∈ W, (0 : Int) ≤ p.2) → ∀ p ∈ W ++ [key x], (0 : Int) ≤ p.2 := fun hw p hp => by
      rcases List.mem_append.1 hp with hp | hp
      · exact hw p hp
      · rw [List.mem_singleton] at hp; subst hp; exact hl
    show ShgI b I (if b.r < x.it.len then (([x], s) : List Hd × ShS M.σ) else _).2 ∧ _
    by_cases hr : b.r < x.it.len
    · have e : (shgM b M).put now x s = ([x], s) := if_pos hr
      rw [if_pos hr, e]
      exact ⟨⟨h1, h2⟩, List.perm_append_comm⟩
    · have e : (shgM b M).put now x s = ((M.put now x s.q).1, ⟨(M.put now x s.q).2, s.st, s.next, s.lost⟩) := if_neg hr
      rw [if_neg hr, e]
      obtain ⟨g1, g2⟩ := G.put s.q now x h1 hx
      have hp : ((shgM b M).wait s ++ [key x]).Perm ((M.put now x s.q).1.map key ++ (shgM b M).wait ⟨(M.put now x s.q).2, s.st, s.next, s.lost⟩) := by
        show (s.lost.map key ++ (s.next.toList.map key ++ M.wait s.q) ++ [key x]).Perm (_ ++ (s.lost.map key ++ (s.next.toList.map key ++ M.wait (M.put now x s.q).2)))
        rw [← List.append_assoc, List.append_assoc]
        refine (List.Perm.append_left _ g2).trans ?_
        rw [← List.append_assoc]
        refine (List.Perm.append_right _ List.perm_append_comm).trans ?_
        rw [List.append_assoc, List.append_assoc]
      exact ⟨⟨g1, fun p hp2 => pos_perm hp (hpx h2) p (List.mem_append_right _ hp2)⟩, hp⟩
  take := fun s now h => by
    obtain ⟨h1, h2⟩ := h
    obtain ⟨g1, g2⟩ := lookG_good G b now s h1
    have e : (shgM b M).take now s = shgTake b now (lookG M now s) := rfl
    rw [e]
    have hp := pos_perm g2 h2
    generalize lookG M now s = s1 at *
    obtain ⟨q, st, nx, lo⟩ := s1
    unfold shgTake
    cases nx with
    | none => exact ⟨⟨g1, fun p hp2 => hp p (List.mem_append_right _ hp2)⟩, g2⟩
    | some x =>
      dsimp only
      split
      · exact ⟨⟨g1, fun p hp2 => hp p (List.mem_append_right _ (List.mem_append_right _ hp2))⟩, g2⟩
      · exact ⟨⟨g1, fun p hp2 => hp p (List.mem_append_right _ hp2)⟩, g2⟩
  when_ := fun s now h => by
    obtain ⟨h1, h2⟩ := h
    obtain ⟨g1, g2⟩ := lookG_good G b now s h1
    have e : (shgM b M).when_ now s = shgWhen b M now (lookG M now s) := rfl
    rw [e]
    have hp := pos_perm g2 h2
    generalize lookG M now s = s1 at *
    obtain ⟨q, st, nx, lo⟩ := s1
    unfold shgWhen
    cases nx with
    | none =>
      obtain ⟨g3, g4⟩ := G.when_ q now g1
      have hq : ((shgM b M).wait ⟨q, st, none, lo⟩).Perm ((shgM b M).wait ⟨(M.when_ now q).2, st, none, lo⟩) := List.Perm.append_left _ (List.Perm.append_left _ g4)
      exact ⟨⟨g3, pos_perm hq hp⟩, g2.trans hq⟩
    | some x =>
      dsimp only
      split
      · exact ⟨⟨g1, hp⟩, g2⟩
      · exact ⟨⟨g1, hp⟩, g2⟩
  len := fun s h => by
    obtain ⟨h1, h2⟩ := h
    obtain ⟨g1, g2, g3⟩ := G.len s.q h1
    obtain ⟨q, st, nx, lo⟩ := s
    have hlo : 0 ≤ sumLen (lo.map key) := sumLen_pos fun p hp => h2 p (List.mem_append_left _ hp)
    refine ⟨?_, ?_, fun hl => by cases hl⟩
    · show M.len q + oneN nx ≤ ((lo.map key ++ (nx.toList.map key ++ M.wait q)).length : Int)
      rw [List.length_append, List.length_append]
      dsimp only at g1
      cases nx with
      | none => simp [oneN]; omega
      | some x => simp [oneN]; omega
    · show M.bytes q + oneL nx ≤ sumLen (lo.map key ++ (nx.toList.map key ++ M.wait q))
      rw [sumLen_append, sumLen_append]
      dsimp only at g2
      cases nx with
      | none => simp [oneL, sumLen]; omega
      | some x => simp [oneL, sumLen, key]; omega
theorem shg_qb {late : Bool} {I : M.σ → Prop} (G : QB M late I) (b : Bk) : QB (shgM b M) true (PI (shgM b M) (ShgI b I)) where
  good := good_pi (shg_good G.good b)
  ps := fun s h => h.2
  pos := fun s h => by
    obtain ⟨⟨h1, _⟩, h2⟩ := h
    obtain ⟨g1, g2⟩ := G.pos s.q h1
    obtain ⟨q, st, nx, lo⟩ := s
    dsimp only at g1 g2
    show 0 ≤ M.len q + oneN nx ∧ 0 ≤ M.bytes q + oneL nx
    cases nx with
    | none => simp only [oneN, oneL]; omega
    | some x =>
      have := h2 (key x) (List.mem_append_right _ (List.mem_append_left _ (by simp)))
      have hx : (0 : Int) ≤ x.it.len := this.1
      simp only [oneN, oneL]; omega
end
end Pl
end Go.Proofs.YtgdijbaodfghjaaGreatDoor

/-
  Plain law of controlled delay: a queue as a machine; what it throws away waited for the target at least, and all goes, or is thrown away, in order.
-/
namespace Go.Proofs.YtgdijbaodfghjaaGreatDoor
open Bkt
namespace Pl
set_option linter.unusedVariables false

structure DP where
  p : FP
  target : Int
  span : Int
structure DS where
  s : List Hd
  above : Int
  drop : Bool
  next : Int
  count : Int
def rootTo (n : Int) : Nat → Int
  | 0 => 0
  | k + 1 => if (rootTo n k + 1) * (rootTo n k + 1) ≤ n then rootTo n k + 1 else rootTo n k
def rootD (n : Int) : Int := rootTo n n.toNat
theorem sq_up {a b : Int} (ha : 0 ≤ a) (h : a ≤ b) : a * a ≤ b * b := Int.mul_le_mul h h ha (by omega)
theorem sq_lt {a b : Int} (hb : 0 ≤ b) (h : a * a < b * b) : a < b := by
  rcases (show a < b ∨ b ≤ a by omega) with h' | h'
  · exact h'
  · have := sq_up hb h'; omega
theorem self_sq {a : Int} (ha : 0 ≤ a) : a ≤ a * a := by
  rcases (show 0 < a ∨ a ≤ 0 by omega) with h | h
  · have := Int.mul_le_mul (show (1 : Int) ≤ a by omega) (Int.le_refl a) ha ha
    omega
  · obtain rfl : a = 0 := by omega
    decide
theorem rootTo_ok (n : Int) (hn : 0 ≤ n) : ∀ k : Nat, 0 ≤ rootTo n k ∧ rootTo n k * rootTo n k ≤ n ∧ (n < (rootTo n k + 1) * (rootTo n k + 1) ∨ rootTo n k = k)
  | 0 => ⟨Int.le_refl _, hn, .inr rfl⟩
  | k + 1 => by
    obtain ⟨h0, h1, h2⟩ := rootTo_ok n hn k
    rw [rootTo]
    by_cases h : (rootTo n k + 1) * (rootTo n k + 1) ≤ n
    · rw [if_pos h]
      refine ⟨by omega, h, ?_⟩
      rcases h2 with h2 | h2
      · omega
      · exact .inr (by rw [h2]; rfl)
    · rw [if_neg h]
      exact ⟨h0, h1, .inl (by omega)⟩
theorem rootD_ok {n : Int} (hn : 0 ≤ n) : 0 ≤ rootD n ∧ rootD n * rootD n ≤ n ∧ n < (rootD n + 1) * (rootD n + 1) := by
  obtain ⟨h0, h1, h2⟩ := rootTo_ok n hn n.toNat
  refine ⟨h0, h1, ?_⟩
  rcases h2 with h2 | h2
  · exact h2
  · unfold rootD
    have e : rootTo n n.toNat = n := by omega
    rw [e]
    have := self_sq (show 0 ≤ n + 1 by omega)
    omega
theorem rootD_is {n r : Int} (hn : 0 ≤ n) (h0 : 0 ≤ r) (h1 : r * r ≤ n) (h2 : n < (r + 1) * (r + 1)) : rootD n = r := by
  obtain ⟨g0, g1, g2⟩ := rootD_ok hn
  have a := sq_lt (a := rootD n) (b := r + 1) (by omega) (by omega)
  have b := sq_lt (a := r) (b := rootD n + 1) (by omega) (by omega)
  omega
theorem rootD_one {n : Int} (hn : 1 ≤ n) : 1 ≤ rootD n := by
  obtain ⟨g0, g1, g2⟩ := rootD_ok (n := n) (by omega)
  rcases (show 0 < rootD n ∨ rootD n ≤ 0 by omega) with h | h
  · omega
  · obtain e : rootD n = 0 := by omega
    rw [e] at g2
    omega
def lawD (P : DP) (count at_ : Int) : Int := at_ + P.span * 1000 / rootD (1000000 * count)
theorem lawD_bd {P : DP} {c a : Int} (hs : 0 ≤ P.span ∧ P.span ≤ 1000000) (hc : 1 ≤ c) : a ≤ lawD P c a ∧ lawD P c a ≤ a + 1000000000 := by
  have h1 := rootD_one (n := 1000000 * c) (by omega)
  have h2 : 0 ≤ P.span * 1000 / rootD (1000000 * c) := Int.ediv_nonneg (by omega) (by omega)
  have h3 : P.span * 1000 / rootD (1000000 * c) ≤ P.span * 1000 := Int.ediv_le_self _ (by omega)
  unfold lawD
  omega
def pullD (P : DP) (now : Int) (D : DS) : Option Hd × Bool × DS :=
  match D.s with
  | [] => (none, false, ⟨[], -1, D.drop, D.next, D.count⟩)
  | x :: r =>
    if now - x.it.at_ < P.target ∨ r.length = 0 then (some x, false, ⟨r, -1, D.drop, D.next, D.count⟩)
    else if D.above < 0 then (some x, false, ⟨r, now + P.span, D.drop, D.next, D.count⟩)
    else (some x, decide (D.above ≤ now), ⟨r, D.above, D.drop, D.next, D.count⟩)
def dropD (P : DP) (now : Int) : List Hd → Hd → List Hd → Int → Int → Int → Option Hd × List Hd × DS
  | [], x, lost, a, nx, c => if nx ≤ now then (none, lost ++ [x], ⟨[], -1, false, nx, c + 1⟩) else (some x, lost, ⟨[], a, true, nx, c⟩)
  | y :: r, x, lost, a, nx, c =>
    if nx ≤ now then
      if now - y.it.at_ < P.target ∨ r.length = 0 then (some y, lost ++ [x], ⟨r, -1, false, nx, c + 1⟩)
      else if a < 0 then (some y, lost ++ [x], ⟨r, now + P.span, false, nx, c + 1⟩)
      else if a ≤ now then dropD P now r y (lost ++ [x]) a (lawD P (c + 1) nx) (c + 1)
      else (some y, lost ++ [x], ⟨r, a, false, nx, c + 1⟩)
    else (some x, lost, ⟨y :: r, a, true, nx, c⟩)
def cntD (P : DP) (now : Int) (D : DS) : Int := if 2 < D.count ∧ now - D.next < 16 * P.span then D.count - 2 else 1
def takeD (P : DP) (now : Int) (D : DS) : Option Hd × List Hd × DS :=
  let r := pullD P now D
  match r.1 with
  | none => (none, [], ⟨r.2.2.s, r.2.2.above, false, r.2.2.next, r.2.2.count⟩)
  | some x =>
    if D.drop = true then
      if r.2.1 = false then (some x, [], ⟨r.2.2.s, r.2.2.above, false, r.2.2.next, r.2.2.count⟩)
      else dropD P now r.2.2.s x [] r.2.2.above r.2.2.next r.2.2.count
    else if r.2.1 = true then
      let q := pullD P now r.2.2
      (q.1, [x], ⟨q.2.2.s, q.2.2.above, true, lawD P (cntD P now q.2.2) now, cntD P now q.2.2⟩)
    else (some x, [], r.2.2)
def delM (P : DP) : QM where
  σ := DS
  put := fun _ x D => ((fputL P.p x D.s).1, ⟨(fputL P.p x D.s).2, D.above, D.drop, D.next, D.count⟩)
  take := fun now D => takeD P now D
  when_ := fun now D => (if 0 < D.s.length then some now else none, D)
  wait := fun D => D.s.map key
  len := fun D => D.s.length
  bytes := fun D => tot D.s

theorem pullD_all (P : DP) (now : Int) (D : DS) : (pullD P now D).1.toList ++ (pullD P now D).2.2.s = D.s := by
  unfold pullD
  split
  · rename_i h; rw [h]; rfl
  · rename_i x r h
    rw [h]
    split
    · rfl
    · split <;> rfl
theorem pullD_bad {P : DP} {now : Int} {D : DS} (h : (pullD P now D).2.1 = true) : ∃ x r, D.s = x :: r ∧ (pullD P now D).1 = some x ∧ P.target ≤ now - x.it.at_ ∧ (pullD P now D).2.2 = ⟨r, D.above, D.drop, D.next, D.count⟩ ∧ 0 < r.length := by
  unfold pullD at h ⊢
  split at h
  · cases h
  · rename_i x r he
    by_cases h1 : now - x.it.at_ < P.target ∨ r.length = 0
    · rw [if_pos h1] at h; cases h
    · rw [if_neg h1] at h ⊢
      by_cases h2 : D.above < 0
      · rw [if_pos h2] at h; cases h
      · rw [if_neg h2]
        exact ⟨x, r, he, rfl, by omega, rfl, by omega⟩
theorem dropD_all (P : DP) (now : Int) : ∀ (s : List Hd) (x : Hd) (lost : List Hd) (a nx c : Int), (dropD P now s x lost a nx c).2.1 ++ ((dropD P now s x lost a nx c).1.toList ++ (dropD P now s x lost a nx c).2.2.s) = lost ++ (x :: s)
  | [], x, lost, a, nx, c => by
    unfold dropD
    split
    · simp
    · simp
  | y :: r, x, lost, a, nx, c => by
    unfold dropD
    split
    · split
      · simp
      · split
        · simp
        · split
          · rw [dropD_all P now r y (lost ++ [x]) a _ _]; simp
          · simp
    · simp
theorem takeD_all (P : DP) (now : Int) (D : DS) : (takeD P now D).2.1 ++ ((takeD P now D).1.toList ++ (takeD P now D).2.2.s) = D.s := by
  have h := pullD_all P now D
  unfold takeD
  dsimp only
  split
  · rename_i he
    rw [he] at h
    exact h
  · rename_i x he
    rw [he] at h
    split
    · split
      · exact h
      · rw [dropD_all]; exact h
    · split
      · have h2 := pullD_all P now (pullD P now D).2.2
        show [x] ++ _ = _
        rw [h2]
        exact h
      · exact h
theorem del_good (P : DP) (late : Bool) : (delM P).Good late fun _ => True where
  put := fun s now x _ _ => ⟨trivial, fput_perm P.p x s.s⟩
  take := fun s now _ => ⟨trivial, by
    show (List.map key s.s).Perm (List.map key (takeD P now s).2.1 ++ (List.map key (takeD P now s).1.toList ++ List.map key (takeD P now s).2.2.s))
    have := takeD_all P now s
    rw [← List.map_append, ← List.map_append]
    exact List.Perm.of_eq (congrArg (List.map key) this.symm)⟩
  when_ := fun s now _ => ⟨trivial, List.Perm.refl _⟩
  len := fun s _ => ⟨Int.le_of_eq (len_key s.s), Int.le_refl _, fun _ => ⟨len_key s.s, rfl⟩⟩

structure DOk (P : DP) (k : Nat) (D : DS) : Prop where
  ab : -1 ≤ D.above ∧ D.above ≤ 1001000000
  nx : 0 ≤ D.next ∧ D.next ≤ 2000000000
  ct : 0 ≤ D.count
  ck : D.count + D.s.length ≤ k
structure DPOk (P : DP) : Prop where
  p : FOk P.p
  tg : 0 ≤ P.target ∧ P.target ≤ 1000000
  sp : 1 ≤ P.span ∧ P.span ≤ 1000000
theorem DOk.pull {P : DP} (hP : DPOk P) {k : Nat} {D : DS} (h : DOk P k D) {now : Int} (hn : 0 ≤ now ∧ now ≤ 1000000000) : DOk P k (pullD P now D).2.2 ∧ ((pullD P now D).1.isSome = true → (pullD P now D).2.2.count + (pullD P now D).2.2.s.length + 1 ≤ k) := by
  have h1 := h.ab; have h2 := h.nx; have h3 := h.ct; have h4 := h.ck
  have hs := hP.sp
  unfold pullD
  split
  · rename_i he
    rw [he] at h4
    exact ⟨⟨⟨by simp only []; omega, by simp only []; omega⟩, h2, h3, h4⟩, fun hh => by cases hh⟩
  · rename_i x r he
    rw [he, List.length_cons] at h4
    split
    · exact ⟨⟨⟨by simp only []; omega, by simp only []; omega⟩, h2, h3, by simp only []; omega⟩, fun _ => by simp only []; omega⟩
    · split
      · exact ⟨⟨⟨by simp only []; omega, by simp only []; omega⟩, h2, h3, by simp only []; omega⟩, fun _ => by simp only []; omega⟩
      · exact ⟨⟨h1, h2, h3, by simp only []; omega⟩, fun _ => by simp only []; omega⟩
theorem DOk.dropL {P : DP} (hP : DPOk P) {k : Nat} {now : Int} (hn : 0 ≤ now ∧ now ≤ 1000000000) : ∀ (s : List Hd) (x : Hd) (lost : List Hd) (a nx c : Int), -1 ≤ a ∧ a ≤ 1001000000 → 0 ≤ nx ∧ nx ≤ 2000000000 → 0 ≤ c → c + s.length + 1 ≤ k →
    DOk P k (dropD P now s x lost a nx c).2.2
  | [], x, lost, a, nx, c, h1, h2, h3, h4 => by
    simp only [List.length_nil] at h4
    unfold dropD
    split
    · exact ⟨⟨by simp only []; omega, by simp only []; omega⟩, h2, by simp only []; omega, by simp only [List.length_nil]; omega⟩
    · exact ⟨h1, h2, h3, by simp only [List.length_nil]; omega⟩
  | y :: r, x, lost, a, nx, c, h1, h2, h3, h4 => by
    have hs := hP.sp
    rw [List.length_cons] at h4
    unfold dropD
    split
    · rename_i hnx
      split
      · exact ⟨⟨by simp only []; omega, by simp only []; omega⟩, h2, by simp only []; omega, by simp only []; omega⟩
      · split
        · exact ⟨⟨by simp only []; omega, by simp only []; omega⟩, h2, by simp only []; omega, by simp only []; omega⟩
        · split
          · have hl := lawD_bd (P := P) (c := c + 1) (a := nx) ⟨by omega, by omega⟩ (by omega)
            exact DOk.dropL hP hn r y _ a _ _ h1 ⟨by omega, by omega⟩ (by omega) (by omega)
          · exact ⟨h1, h2, by simp only []; omega, by simp only []; omega⟩
    · exact ⟨h1, h2, h3, by simp only [List.length_cons]; omega⟩
theorem cntD_bd {P : DP} {now : Int} {D : DS} (h : 0 ≤ D.count) : 1 ≤ cntD P now D ∧ (cntD P now D = 1 ∨ cntD P now D = D.count - 2) := by
  unfold cntD
  split
  · exact ⟨by omega, .inr rfl⟩
  · exact ⟨Int.le_refl _, .inl rfl⟩
theorem DOk.take {P : DP} (hP : DPOk P) {k : Nat} {D : DS} (h : DOk P k D) {now : Int} (hn : 0 ≤ now ∧ now ≤ 1000000000) : DOk P k (takeD P now D).2.2 := by
  obtain ⟨g1, g2⟩ := h.pull hP hn
  have hs := hP.sp
  unfold takeD
  dsimp only
  split
  · exact ⟨g1.ab, g1.nx, g1.ct, g1.ck⟩
  · rename_i x he
    have g3 := g2 (by rw [he]; rfl)
    split
    · split
      · exact ⟨g1.ab, g1.nx, g1.ct, g1.ck⟩
      · exact DOk.dropL hP hn _ _ _ _ _ _ g1.ab g1.nx g1.ct g3
    · split
      · rename_i hb
        obtain ⟨x', r, h1, h2, h3, h4, h5⟩ := pullD_bad hb
        obtain ⟨q1, q2⟩ := g1.pull hP hn
        have hc := cntD_bd (P := P) (now := now) (D := (pullD P now (pullD P now D).2.2).2.2) q1.ct
        have hl := lawD_bd (P := P) (a := now) ⟨by omega, by omega⟩ hc.1
        have ha := pullD_all P now (pullD P now D).2.2
        have hla := congrArg List.length ha
        rw [List.length_append] at hla
        have q3 := q1.ck
        have q4 := q1.ct
        have q5 := g1.ct
        refine ⟨q1.ab, ⟨by simp only []; omega, by simp only []; omega⟩, by simp only []; omega, ?_⟩
        simp only []
        rcases hc.2 with e | e
        · omega
        · omega
      · exact g1
theorem DOk.put {P : DP} {k : Nat} {D : DS} (h : DOk P k D) (x : Hd) : DOk P (k + 1) ⟨(fputL P.p x D.s).2, D.above, D.drop, D.next, D.count⟩ := by
  have hl := (fput_app P.p x D.s).length_eq
  simp only [List.length_append, List.length_singleton] at hl
  have := h.ck
  exact ⟨h.ab, h.nx, h.ct, by simp only []; omega⟩
end Pl
end Go.Proofs.YtgdijbaodfghjaaGreatDoor

/-
  Plain law of a play of controlled delay: what is thrown away when something is taken waited for the target; all goes, or is thrown away, in order.
-/
namespace Go.Proofs.YtgdijbaodfghjaaGreatDoor
open Bkt
namespace Pl
set_option linter.unusedVariables false

def lastL (l : Int) : List Int → Int
  | [] => l
  | x :: r => lastL x r
def cameTo (ts : List Stp) : Nat → List Int
  | 0 => []
  | k + 1 => match ts[k]? with
    | some t => if t.what = 0 then cameTo ts k ++ [t.later] else cameTo ts k
    | none => cameTo ts k
def lastG (ts : List Stp) (sn : Nat → Seen) : Nat → Int
  | 0 => -1
  | k + 1 => match ts[k]? with
    | some t => if 0 ≤ (sn k).taken then (sn k).taken else if t.what = 1 then lastL (lastG ts sn k) (sn k).lost else lastG ts sn k
    | none => lastG ts sn k
structure GInv (last : Int) (came : List Int) (n : Nat) (s : List Hd) : Prop where
  up : (s.map Hd.num).Pairwise (· < ·)
  lo : ∀ x ∈ s, last < x.num
  hi : ∀ x ∈ s, x.num < n
  ln : came.length = n
  ca : ∀ x ∈ s, came.getD x.num.toNat 0 = x.it.at_
  ltn : last < n
  low : -1 ≤ last
structure StepG (target : Int) (t : Stp) (s : Seen) (last : Int) (came : List Int) : Prop where
  lost : t.what = 1 → ∀ j, j < s.lost.length → lastL last (s.lost.take j) < s.lost.getD j 0 ∧ 0 ≤ s.lost.getD j 0 ∧ s.lost.getD j 0 < came.length ∧ target ≤ t.later - came.getD (s.lost.getD j 0).toNat 0
  tk1 : t.what = 1 → 0 ≤ s.taken → lastL last s.lost < s.taken
  tk0 : t.what ≠ 1 → s.taken < 0
theorem GInv.sub {last last' : Int} {came : List Int} {n : Nat} {a b s : List Hd} (h : GInv last came n s) (e : a ++ b = s) (h1 : ∀ x ∈ b, last' < x.num) (h2 : last' < n) (h3 : -1 ≤ last') : GInv last' came n b := by
  subst e
  refine ⟨?_, h1, fun x hx => h.hi x (List.mem_append_right _ hx), h.ln, fun x hx => h.ca x (List.mem_append_right _ hx), h2, h3⟩
  have := h.up
  rw [List.map_append, List.pairwise_append] at this
  exact this.2.1
theorem GInv.put {last : Int} {came : List Int} {n : Nat} {s : List Hd} (h : GInv last came n s) (p : FP) (hp : p.head = false) (it : It) : GInv last (came ++ [it.at_]) (n + 1) (fputL p ⟨it, n⟩ s).2 := by
  have hl := h.ln
  have hca : ∀ x ∈ s, (came ++ [it.at_]).getD x.num.toNat 0 = x.it.at_ := fun x hx => by
    have h1 := h.lo x hx; have h2 := h.hi x hx; have h3 := h.low
    rw [← h.ca x hx, List.getD, List.getD, List.getElem?_append_left (by omega)]
  have hltn := h.ltn
  unfold fputL
  rw [if_pos hp]
  split
  · exact ⟨h.up, h.lo, fun x hx => by have := h.hi x hx; omega, by simp [hl], hca, by omega, h.low⟩
  · refine ⟨?_, fun x hx => ?_, fun x hx => ?_, by simp [hl], fun x hx => ?_, by omega, h.low⟩
    · rw [List.map_append]
      exact pairwise_snoc h.up (fun y hy => by
        obtain ⟨z, hz, rfl⟩ := List.mem_map.1 hy
        exact h.hi z hz)
    · rcases List.mem_append.1 hx with hx | hx
      · exact h.lo x hx
      · rw [List.mem_singleton] at hx; subst hx; exact hltn
    · rcases List.mem_append.1 hx with hx | hx
      · have := h.hi x hx; omega
      · rw [List.mem_singleton] at hx; subst hx; show (n : Int) < _; omega
    · rcases List.mem_append.1 hx with hx | hx
      · exact hca x hx
      · rw [List.mem_singleton] at hx
        subst hx
        show (came ++ [it.at_]).getD (n : Int).toNat 0 = it.at_
        rw [Int.toNat_natCast, ← hl, List.getD, List.getElem?_append_right (Nat.le_refl _), Nat.sub_self]
        rfl
end Pl
end Go.Proofs.YtgdijbaodfghjaaGreatDoor
