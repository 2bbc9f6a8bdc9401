/-
  Plain law of the shaper: what it lets go conforms to its bucket, in order, at the time that When tells. No program in sight.
-/
import Derived.Test.YtdhojhgmaodifaaDoorFifoLaw
import Derived.Test.YtdhojhgmaodifaaDoorColLaw
namespace Go.Proofs.YtdhojhgmaodifaaDoor
open Bkt
set_option linter.unusedVariables false
namespace Bkt
theorem sok_fill {k : Bk} {s : St} {now : Int} (hk : BkOk k) (hs : SOk k s) : SOk k (fill k s now) := by
  by_cases h : s.last ≤ now
  · exact (fill_ok hk hs h).1
  · unfold fill
    rw [if_neg (by omega)]
    exact hs
theorem sok_take {k : Bk} {s : St} {now n : Int} (hk : BkOk k) (hs : SOk k s) (h0 : 0 ≤ n) : SOk k (take k s now n) := by
  have h1 := sok_fill (now := now) hk hs
  have hnt : 0 ≤ n * k.t := Int.mul_nonneg h0 (by have := hk.t.1; omega)
  unfold take okB
  by_cases hc : n * k.t ≤ (fill k s now).has
  · rw [if_pos (decide_eq_true hc)]
    have := h1.last; have := h1.has1
    exact ⟨by assumption, by show 0 ≤ _ - _; omega, by show _ - _ ≤ _; omega⟩
  · rw [if_neg (by simp [hc])]
    exact h1
theorem last_fill {k : Bk} {s : St} {now : Int} : (fill k s now).last = max s.last now := by
  unfold fill
  split
  · show now = _; omega
  · omega
theorem last_take {k : Bk} {s : St} {now n : Int} : (take k s now n).last = max s.last now := by
  unfold take
  split
  · exact last_fill
  · exact last_fill
theorem sok_start {k : Bk} (hk : BkOk k) : SOk k (start k) := ⟨Int.le_refl _, Int.mul_nonneg hk.r.1 (by have := hk.t.1; omega), Int.le_refl _⟩
theorem ok_mono {k : Bk} {s : St} {w m n : Int} (hk : BkOk k) (hs : SOk k s) (h1 : s.last ≤ w) (h2 : w ≤ m) (h : okB k s w n = true) : okB k s m n = true := by
  have hb := hk.b.1
  have e := fill_fill (k := k) (s := s) (a := w) (b := m) (by omega) h1 h2 hs.has1
  have hf := sok_fill (now := w) hk hs
  have h' : n * k.t ≤ (fill k s w).has := of_decide_eq_true h
  unfold okB
  rw [← e]
  apply decide_eq_true
  generalize fill k s w = f at *
  unfold fill
  have := hf.has1
  split
  · rename_i hlt
    have p : 0 ≤ (m - f.last) * k.b := Int.mul_nonneg (by omega) (by omega)
    show _ ≤ min _ _
    omega
  · exact h'
theorem ix_app {l : List It} {x : It} {j : Nat} (h : j < l.length) : ix (l ++ [x]) j = ix l j := by
  unfold ix List.getD
  rw [List.getElem?_append_left h]
theorem ix_last (l : List It) (x : It) : ix (l ++ [x]) l.length = x := by
  unfold ix List.getD
  rw [List.getElem?_append_right (Nat.le_refl _), Nat.sub_self]
  rfl
theorem stTo_app {k : Bk} {l : List It} {x : It} : ∀ j, j ≤ l.length → stTo k (l ++ [x]) j = stTo k l j
  | 0, _ => rfl
  | j + 1, h => by
    show take k (stTo k (l ++ [x]) j) (ix (l ++ [x]) j).at_ (ix (l ++ [x]) j).len = take k (stTo k l j) (ix l j).at_ (ix l j).len
    rw [stTo_app j (by omega), ix_app (by omega)]
theorem conf_app {k : Bk} {l : List It} {x : It} {j : Nat} (h : j < l.length) : conf k (l ++ [x]) j = conf k l j := by
  unfold conf
  rw [stTo_app j (by omega), ix_app h]
end Bkt
namespace Pl
/-- a shaper on its way: its queue, its bucket, the next one at hand -/
structure Shp (σ : Type) where
  q : σ
  st : St
  next : Option Hd
def look (M : QM) (now : Int) (s : Shp M.σ) : Shp M.σ :=
  match s.next with
  | some _ => s
  | none => ⟨(M.take now s.q).2.2, s.st, (M.take now s.q).1⟩
def shTake (b : Bk) {σ : Type} (now : Int) (s : Shp σ) : Option Hd × List Hd × Shp σ :=
  match s.next with
  | none => (none, [], s)
  | some x => if Bkt.okB b s.st now x.it.len then (some x, [], ⟨s.q, take b s.st now x.it.len, none⟩) else (none, [], ⟨s.q, take b s.st now x.it.len, some x⟩)
def shWhen (b : Bk) (M : QM) (now : Int) (s : Shp M.σ) : Option Int × Shp M.σ :=
  match s.next with
  | none => ((M.when_ now s.q).1, ⟨(M.when_ now s.q).2, s.st, none⟩)
  | some x => if b.r < x.it.len then (none, s) else (some (whenAt b s.st now x.it.len), ⟨s.q, fill b s.st now, some x⟩)
def one : Option Hd → Int
  | none => 0
  | some _ => 1
def lenO : Option Hd → Int
  | none => 0
  | some x => x.it.len
def shM (b : Bk) (M : QM) : QM where
  σ := Shp M.σ
  put := fun now x s => if b.r < x.it.len then ([x], s) else ((M.put now x s.q).1, ⟨(M.put now x s.q).2, s.st, s.next⟩)
  take := fun now s => shTake b now (look M now s)
  when_ := fun now s => shWhen b M now (look M now s)
  wait := fun s => s.next.toList.map key ++ M.wait s.q
  len := fun s => M.len s.q + one s.next
  bytes := fun s => M.bytes s.q + lenO s.next
theorem look_some {M : QM} {now : Int} {s : Shp M.σ} {x : Hd} (h : s.next = some x) : look M now s = s := by unfold look; rw [h]
theorem look_none {M : QM} {now : Int} {s : Shp M.σ} (h : s.next = none) : look M now s = ⟨(M.take now s.q).2.2, s.st, (M.take now s.q).1⟩ := by unfold look; rw [h]

/-- a queue that loses nothing when something is taken -/
def Sure (M : QM) : Prop := ∀ now s, (M.take now s).2.1 = []
theorem look_good {M : QM} {late : Bool} {I : M.σ → Prop} (G : M.Good late I) (hM : Sure M) (b : Bk) (now : Int) (s : Shp M.σ) (h : I s.q) : I (look M now s).q ∧ ((shM b M).wait s).Perm ((shM b M).wait (look M now s)) := by
  obtain ⟨q, st, nx⟩ := s
  cases nx with
  | some x => exact ⟨h, List.Perm.refl _⟩
  | none =>
    obtain ⟨g1, g2⟩ := G.take q now h
    refine ⟨g1, ?_⟩
    rw [hM now q] at g2
    exact g2
theorem sh_good {M : QM} {late : Bool} {I : M.σ → Prop} (G : M.Good late I) (hM : Sure M) (b : Bk) : (shM b M).Good late fun s => I s.q where
  put := fun s now x h hx ha => by
    show I (if b.r < x.it.len then (([x], s) : List Hd × Shp M.σ) else _).2.q ∧ _
    by_cases hr : b.r < x.it.len
    · have e : (shM b M).put now x s = ([x], s) := if_pos hr
      rw [if_pos hr, e]
      exact ⟨h, List.perm_append_comm⟩
    · have e : (shM b M).put now x s = ((M.put now x s.q).1, ⟨(M.put now x s.q).2, s.st, s.next⟩) := if_neg hr
      rw [if_neg hr, e]
      obtain ⟨g1, g2⟩ := G.put s.q now x h hx ha
      refine ⟨g1, ?_⟩
      show (s.next.toList.map key ++ M.wait s.q ++ [key x]).Perm (_ ++ (s.next.toList.map key ++ M.wait (M.put now x s.q).2))
      rw [List.append_assoc]
      refine (List.Perm.append_left _ g2).trans ?_
      rw [← List.append_assoc, ← List.append_assoc]
      exact List.Perm.append_right _ List.perm_append_comm
  take := fun s now h => by
    obtain ⟨g1, g2⟩ := look_good G hM b now s h
    have e : (shM b M).take now s = shTake b now (look M now s) := rfl
    rw [e]
    generalize look M now s = s1 at *
    obtain ⟨q, st, nx⟩ := s1
    unfold shTake
    cases nx with
    | none => exact ⟨g1, g2⟩
    | some x =>
      dsimp only
      split
      · exact ⟨g1, g2⟩
      · exact ⟨g1, g2⟩
  when_ := fun s now h => by
    obtain ⟨g1, g2⟩ := look_good G hM b now s h
    have e : (shM b M).when_ now s = shWhen b M now (look M now s) := rfl
    rw [e]
    generalize look M now s = s1 at *
    obtain ⟨q, st, nx⟩ := s1
    unfold shWhen
    cases nx with
    | none =>
      obtain ⟨g3, g4⟩ := G.when_ q now g1
      exact ⟨g3, g2.trans g4⟩
    | some x =>
      dsimp only
      split
      · exact ⟨g1, g2⟩
      · exact ⟨g1, g2⟩
  len := fun s h => by
    obtain ⟨g1, g2, g3⟩ := G.len s.q h
    obtain ⟨q, st, nx⟩ := s
    cases nx with
    | none =>
      show M.len q + 0 ≤ ((M.wait q).length : Int) ∧ M.bytes q + 0 ≤ sumLen (M.wait q) ∧ _
      exact ⟨by dsimp only at g1; omega, by dsimp only at g2; omega, fun hl => by
        obtain ⟨a, b⟩ := g3 hl
        show M.len q + 0 = ((M.wait q).length : Int) ∧ M.bytes q + 0 = sumLen (M.wait q)
        dsimp only at a b
        omega⟩
    | some x =>
      have e1 : (((shM b M).wait ⟨q, st, some x⟩).length : Int) = (M.wait q).length + 1 := by
        show ((key x :: M.wait q).length : Int) = _
        rw [List.length_cons]; omega
      have e2 : sumLen ((shM b M).wait ⟨q, st, some x⟩) = x.it.len + sumLen (M.wait q) := rfl
      rw [e1, e2]
      show M.len q + 1 ≤ _ ∧ M.bytes q + x.it.len ≤ _ ∧ _
      dsimp only at g1 g2 g3
      exact ⟨by omega, by omega, fun hl => by
        obtain ⟨a, b⟩ := g3 hl
        show M.len q + 1 = _ ∧ M.bytes q + x.it.len = _
        omega⟩

/-! what a play's law asks -/
def lensTo (ts : List Stp) : Nat → List Int
  | 0 => []
  | k + 1 => match ts[k]? with
    | some t => if t.what = 0 then lensTo ts k ++ [t.it.len] else lensTo ts k
    | none => lensTo ts k
def laterAt (ts : List Stp) (k : Nat) : Int := match ts[k]? with | some t => t.later | none => 0
def goneTo (ts : List Stp) (sn : Nat → Seen) : Nat → List It
  | 0 => []
  | k + 1 => if 0 ≤ (sn k).taken then goneTo ts sn k ++ [⟨laterAt ts k, (lensTo ts (k + 1)).getD (sn k).taken.toNat 0, 0, 0, 0⟩] else goneTo ts sn k
def nowB (ts : List Stp) : Nat → Int
  | 0 => 0
  | k + 1 => laterAt ts k
/-- a packet that waits -/
structure WOk (b : Bk) (last : Int) (lens : List Int) (x : Hd) : Prop where
  lo : last < x.num
  n0 : 0 ≤ x.num
  hi : x.num < lens.length
  is : lens.getD x.num.toNat 0 = x.it.len
  len : 1 ≤ x.it.len ∧ x.it.len ≤ 10000
  room : x.it.len ≤ b.r
/-- what went -/
structure GOk (b : Bk) (now : Int) (gone : List It) : Prop where
  conf : ∀ j, j < gone.length → conf b gone j = true
  fine : ∀ j, j < gone.length → (0 ≤ (ix gone j).at_ ∧ (ix gone j).at_ ≤ now) ∧ (1 ≤ (ix gone j).len ∧ (ix gone j).len ≤ 10000) ∧ (ix gone j).flow = 0 ∧ (ix gone j).band = 0 ∧ (ix gone j).mark = 0
  up : ∀ j, j + 1 < gone.length → (ix gone j).at_ ≤ (ix gone (j + 1)).at_
  sok : SOk b (stTo b gone gone.length)
  last : (stTo b gone gone.length).last ≤ now
structure SInv (b : Bk) (last : Int) (lens : List Int) (gone : List It) (now : Int) (s : Shp (List Hd)) : Prop where
  up : ((s.next.toList ++ s.q).map Hd.num).Pairwise (· < ·)
  w : ∀ x ∈ s.next.toList ++ s.q, WOk b last lens x
  low : -1 ≤ last
  ltn : last < lens.length
  sok : SOk b s.st
  last : s.st.last ≤ now
  eq : ∀ T, now ≤ T → fill b s.st T = fill b (stTo b gone gone.length) T
  g : GOk b now gone
  now0 : 0 ≤ now
/-- what the last answer of When says -/
def WS (b : Bk) (now : Int) (s : Shp (List Hd)) (wn : Int) : Prop := 0 ≤ wn → ∃ x, s.next = some x ∧ ∀ T, now ≤ T → (Bkt.okB b s.st T x.it.len = true ↔ wn ≤ T)
theorem GOk.later {b : Bk} {now T : Int} {gone : List It} (h : GOk b now gone) (hT : now ≤ T) : GOk b T gone :=
  ⟨h.conf, fun j hj => by obtain ⟨⟨a, c⟩, d⟩ := h.fine j hj; exact ⟨⟨a, by omega⟩, d⟩, h.up, h.sok, by have := h.last; omega⟩
theorem GOk.more {b : Bk} {now T : Int} {gone : List It} {n : Int} (h : GOk b now gone) (hk : BkOk b) (h0 : 0 ≤ now) (hT : now ≤ T) (hn : 1 ≤ n ∧ n ≤ 10000) (hok : Bkt.okB b (stTo b gone gone.length) T n = true) :
    GOk b T (gone ++ [⟨T, n, 0, 0, 0⟩]) ∧ stTo b (gone ++ [⟨T, n, 0, 0, 0⟩]) (gone ++ [(⟨T, n, 0, 0, 0⟩ : It)]).length = take b (stTo b gone gone.length) T n := by
  have hl : (gone ++ [(⟨T, n, 0, 0, 0⟩ : It)]).length = gone.length + 1 := by simp
  have hst : stTo b (gone ++ [⟨T, n, 0, 0, 0⟩]) (gone ++ [(⟨T, n, 0, 0, 0⟩ : It)]).length = take b (stTo b gone gone.length) T n := by
    rw [hl]
    show take b (stTo b _ gone.length) (ix _ gone.length).at_ (ix _ gone.length).len = _
    rw [stTo_app _ (Nat.le_refl _), ix_last]
  refine ⟨⟨?_, ?_, ?_, ?_, ?_⟩, hst⟩
  · intro j hj
    rcases Nat.lt_or_ge j gone.length with h' | h'
    · rw [conf_app h']; exact h.conf j h'
    · obtain rfl : j = gone.length := by omega
      unfold Bkt.conf
      rw [stTo_app _ (Nat.le_refl _), ix_last]
      exact hok
  · intro j hj
    rcases Nat.lt_or_ge j gone.length with h' | h'
    · rw [ix_app h']
      obtain ⟨⟨a, c⟩, d⟩ := h.fine j h'
      exact ⟨⟨a, by omega⟩, d⟩
    · obtain rfl : j = gone.length := by omega
      rw [ix_last]
      exact ⟨⟨by show 0 ≤ T; omega, Int.le_refl _⟩, hn, rfl, rfl, rfl⟩
  · intro j hj
    rcases Nat.lt_or_ge (j + 1) gone.length with h' | h'
    · rw [ix_app h', ix_app (by omega)]; exact h.up j h'
    · have e : j + 1 = gone.length := by omega
      rw [e, ix_last, ix_app (by omega)]
      have := (h.fine j (by omega)).1.2
      show _ ≤ T
      omega
  · rw [hst]; exact sok_take hk h.sok (by omega)
  · rw [hst, last_take]
    have := h.last
    omega
theorem SInv.start {b : Bk} (hk : BkOk b) : SInv b (-1) [] [] 0 ⟨[], start b, none⟩ :=
  ⟨by simp, fun x hx => by simp at hx, by omega, by simp, sok_start hk, Int.le_refl _, fun T _ => rfl, ⟨fun j hj => absurd hj (by simp), fun j hj => absurd hj (by simp), fun j hj => absurd hj (by simp), sok_start hk, Int.le_refl _⟩, Int.le_refl _⟩
/-- the next one is at hand -/
theorem SInv.look {b : Bk} {p : FP} {last : Int} {lens : List Int} {gone : List It} {now T : Int} {s : Shp (List Hd)} (h : SInv b last lens gone now s) : SInv b last lens gone now (look (fifoM p) T s) ∧ ((look (fifoM p) T s).next = none → (look (fifoM p) T s).q = []) ∧ (look (fifoM p) T s).st = s.st := by
  obtain ⟨q, st, nx⟩ := s
  cases nx with
  | some x => exact ⟨h, ⟨fun e => (by cases e), rfl⟩⟩
  | none =>
    cases q with
    | nil => exact ⟨h, ⟨fun _ => rfl, rfl⟩⟩
    | cons x r => exact ⟨⟨h.up, h.w, h.low, h.ltn, h.sok, h.last, h.eq, h.g, h.now0⟩, ⟨fun e => (by cases e), rfl⟩⟩
theorem SInv.filled {b : Bk} {last : Int} {lens : List Int} {gone : List It} {now T : Int} {s : Shp (List Hd)} (h : SInv b last lens gone now s) (hk : BkOk b) (hT : now ≤ T) : SInv b last lens gone T ⟨s.q, fill b s.st T, s.next⟩ :=
  ⟨h.up, h.w, h.low, h.ltn, sok_fill hk h.sok, by show (fill b s.st T).last ≤ T; rw [last_fill]; have := h.last; omega,
    fun T' hT' => by
      show fill b (fill b s.st T) T' = _
      rw [fill_fill (by have := hk.b.1; omega) (by have := h.last; omega) hT' h.sok.has1]
      exact h.eq T' (by omega), h.g.later hT, by have := h.now0; omega⟩
theorem SInv.later {b : Bk} {last : Int} {lens : List Int} {gone : List It} {now T : Int} {s : Shp (List Hd)} (h : SInv b last lens gone now s) (hT : now ≤ T) : SInv b last lens gone T s :=
  ⟨h.up, h.w, h.low, h.ltn, h.sok, by have := h.last; omega, fun T' hT' => h.eq T' (by omega), h.g.later hT, by have := h.now0; omega⟩
theorem WOk.more {b : Bk} {last : Int} {lens : List Int} {x : Hd} {n : Int} (h : WOk b last lens x) : WOk b last (lens ++ [n]) x :=
  ⟨h.lo, h.n0, by have := h.hi; simp; omega, by
    have h0 := h.n0; have h1 := h.hi
    rw [← h.is, List.getD, List.getElem?_append_left (by omega)]; rfl, h.len, h.room⟩
theorem SInv.put {b : Bk} {p : FP} {last : Int} {lens : List Int} {gone : List It} {now T : Int} {s : Shp (List Hd)} (h : SInv b last lens gone now s) (hT : now ≤ T) (hd : p.head = false) (it : It) (hit : 1 ≤ it.len ∧ it.len ≤ 10000) :
    SInv b last (lens ++ [it.len]) gone T ((shM b (fifoM p)).put T ⟨it, lens.length⟩ s).2 := by
  have base : SInv b last (lens ++ [it.len]) gone T s :=
    ⟨h.up, fun x hx => (h.w x hx).more, h.low, by have := h.ltn; simp; omega, h.sok, by have := h.last; omega, fun T' hT' => h.eq T' (by omega), h.g.later hT, by have := h.now0; omega⟩
  by_cases hr : b.r < it.len
  · have e : (shM b (fifoM p)).put T ⟨it, lens.length⟩ s = ([⟨it, lens.length⟩], s) := if_pos hr
    rw [e]
    exact base
  · have e : (shM b (fifoM p)).put T ⟨it, lens.length⟩ s = ((fputL p ⟨it, lens.length⟩ s.q).1, ⟨(fputL p ⟨it, lens.length⟩ s.q).2, s.st, s.next⟩) := if_neg hr
    rw [e]
    unfold fputL
    rw [if_pos hd]
    split
    · exact base
    · have new : WOk b last (lens ++ [it.len]) ⟨it, lens.length⟩ := by
        have := h.ltn; have := h.low
        refine ⟨by show last < (lens.length : Int); omega, by show (0 : Int) ≤ lens.length; omega, by simp; omega, ?_, hit, by show it.len ≤ b.r; omega⟩
        simp [List.getD]
      refine ⟨?_, ?_, base.low, base.ltn, base.sok, base.last, base.eq, base.g, base.now0⟩
      · show ((s.next.toList ++ (s.q ++ [(⟨it, (lens.length : Int)⟩ : Hd)])).map Hd.num).Pairwise (· < ·)
        rw [← List.append_assoc, List.map_append]
        refine pairwise_snoc h.up (fun y hy => ?_)
        obtain ⟨z, hz, rfl⟩ := List.mem_map.1 hy
        exact (h.w z hz).hi
      · intro x hx
        have hx' : x ∈ s.next.toList ++ (s.q ++ [(⟨it, (lens.length : Int)⟩ : Hd)]) := hx
        rw [← List.append_assoc] at hx'
        rcases List.mem_append.1 hx' with hx' | hx'
        · exact base.w x hx'
        · simp at hx'
          subst hx'
          exact new
/-- taken: in order, and what it was -/
theorem SInv.take {b : Bk} {last : Int} {lens : List Int} {gone : List It} {now T : Int} {s : Shp (List Hd)} {x : Hd} (h : SInv b last lens gone now s) (hk : BkOk b) (hT : now ≤ T) (hx : s.next = some x) (ho : Bkt.okB b s.st T x.it.len = true) :
    SInv b x.num lens (gone ++ [⟨T, lens.getD x.num.toNat 0, 0, 0, 0⟩]) T ⟨s.q, Bkt.take b s.st T x.it.len, none⟩ := by
  obtain ⟨q, st, nx⟩ := s
  dsimp only at hx ho
  subst hx
  have hw := h.w x (by simp)
  have heq := h.eq T hT
  dsimp only at heq
  have hok : Bkt.okB b (stTo b gone gone.length) T x.it.len = true := by
    unfold Bkt.okB at ho ⊢
    rw [← heq]
    exact ho
  have htk : Bkt.take b st T x.it.len = Bkt.take b (stTo b gone gone.length) T x.it.len := by
    unfold Bkt.take
    rw [ho, hok, heq]
  obtain ⟨g1, g2⟩ := h.g.more hk h.now0 hT hw.len hok
  have hu := h.up
  have e : ((some x).toList ++ q : List Hd) = x :: q := rfl
  dsimp only at hu
  rw [e, List.map_cons, List.pairwise_cons] at hu
  rw [hw.is]
  refine ⟨hu.2, ?_, by show -1 ≤ x.num; have := hw.n0; omega, hw.hi, sok_take hk h.sok (by have := hw.len; omega), by
    show (Bkt.take b st T x.it.len).last ≤ T; rw [last_take]; have := h.last; dsimp only at this; omega, fun T' hT' => ?_, g1, by have := h.now0; omega⟩
  · intro y hy
    have hy' : y ∈ q := by simpa using hy
    have hy2 := h.w y (List.mem_append_right _ hy')
    exact ⟨hu.1 _ (List.mem_map_of_mem hy'), hy2.n0, hy2.hi, hy2.is, hy2.len, hy2.room⟩
  · rw [g2]
    show fill b (Bkt.take b st T x.it.len) T' = _
    rw [htk]
theorem nowB_succ {ts : List Stp} {k : Nat} {t : Stp} (h : ts[k]? = some t) : nowB ts (k + 1) = t.later ∧ laterAt ts k = t.later := by
  have e : laterAt ts k = t.later := by unfold laterAt; rw [h]
  exact ⟨e, e⟩
/-- the play's times -/
def TimesOk (ts : List Stp) : Prop := ∀ k t, ts[k]? = some t → nowB ts k ≤ t.later ∧ t.later ≤ 1000000000
/-- what the law asks of a step -/
structure SStep (ts : List Stp) (sn : Nat → Seen) (i : Nat) : Prop where
  t : 0 ≤ (sn i).taken → lastTo sn i < (sn i).taken ∧ (sn i).taken < (lensTo ts (i + 1)).length
  w : ∀ j, i = j + 1 → 0 ≤ (sn j).when_ → (∀ t, ts[i]? = some t → t.what = 1) → (0 ≤ (sn i).taken ↔ (sn j).when_ ≤ laterAt ts i)
structure SAll (b : Bk) (p : FP) (ts : List Stp) (sn : Nat → Seen) (k : Nat) (ns : Nat × Shp (List Hd)) : Prop where
  inv : SInv b (lastTo sn k) (lensTo ts k) (goneTo ts sn k) (nowB ts k) ns.2
  n : ns.1 = (lensTo ts k).length
  ws : ∀ j, k = j + 1 → WS b (nowB ts k) ns.2 (sn j).when_
  all : ∀ i, i < k → SStep ts sn i
theorem shp_play {b : Bk} {p : FP} (hk : BkOk b) (hd : p.head = false) (ts : List Stp) (hl : ∀ t ∈ ts, StpOk t) (hT : TimesOk ts) : ∀ k, k ≤ ts.length →
    SAll b p ts (seenAt (shM b (fifoM p)) ⟨[], start b, none⟩ ts) k (nth (shM b (fifoM p)) ⟨[], start b, none⟩ ts k)
  | 0, _ => ⟨SInv.start hk, rfl, fun j hj => by omega, fun i hi => by omega⟩
  | k + 1, hkl => by
    obtain ⟨h1, h2, h3, h4⟩ := shp_play hk hd ts hl hT k (by omega)
    have ek : ts[k]? = some ts[k] := List.getElem?_eq_getElem (by omega)
    have en := nth_succ (shM b (fifoM p)) ⟨[], start b, none⟩ ek
    have es := seenAt_of (shM b (fifoM p)) ⟨[], start b, none⟩ ek
    obtain ⟨hT1, hT2⟩ := hT k _ ek
    obtain ⟨el1, el2⟩ := nowB_succ ek
    have hm : ts[k] ∈ ts := List.getElem_mem _
    have hok := hl _ hm
    have eln : lensTo ts (k + 1) = if ts[k].what = 0 then lensTo ts k ++ [ts[k].it.len] else lensTo ts k := by
      show (match ts[k]? with | some t => if t.what = 0 then lensTo ts k ++ [t.it.len] else lensTo ts k | none => lensTo ts k) = _
      rw [ek]
    have elast : ∀ sn : Nat → Seen, lastTo sn (k + 1) = if 0 ≤ (sn k).taken then (sn k).taken else lastTo sn k := fun _ => rfl
    have egone : ∀ sn : Nat → Seen, goneTo ts sn (k + 1) = if 0 ≤ (sn k).taken then goneTo ts sn k ++ [⟨laterAt ts k, (lensTo ts (k + 1)).getD (sn k).taken.toNat 0, 0, 0, 0⟩] else goneTo ts sn k := fun _ => rfl
    rw [en]
    generalize hsn : seenAt (shM b (fifoM p)) ⟨[], start b, none⟩ ts = sn at *
    generalize nth (shM b (fifoM p)) ⟨[], start b, none⟩ ts k = ns at *
    obtain ⟨n, s⟩ := ns
    dsimp only at h1 h2 h3 en es
    have hall : SStep ts sn k → ∀ i, i < k + 1 → SStep ts sn i := fun hs i hi => by
      rcases Nat.lt_or_ge i k with h' | h'
      · exact h4 i h'
      · obtain rfl : i = k := by omega
        exact hs
    have hno : (sn k).taken = -1 → lastTo sn (k + 1) = lastTo sn k ∧ goneTo ts sn (k + 1) = goneTo ts sn k := fun e => by
      rw [elast, egone, e, if_neg (by omega), if_neg (by omega)]
      exact ⟨rfl, rfl⟩
    have hst : (∀ t, ts[k]? = some t → t.what ≠ 1) → (sn k).taken = -1 → SStep ts sn k := fun hw e =>
      ⟨fun h => absurd h (by omega), fun j _ _ hw1 => absurd (hw1 _ ek) (hw _ ek)⟩
    subst h2
    generalize htk : ts[k] = t at *
    by_cases c0 : t.what = 0
    · rw [stepM_put c0] at es ⊢
      have e1 : (sn k).taken = -1 := by rw [es]
      have e2 : (sn k).when_ = -1 := by rw [es]
      rw [if_pos c0] at eln
      have hit := hok c0
      have hlen : 1 ≤ t.it.len ∧ t.it.len ≤ 10000 := by
        have := hit.1
        unfold okB at this
        simp at this
        omega
      obtain ⟨e3, e4⟩ := hno e1
      refine ⟨?_, by show (lensTo ts k).length + 1 = _; rw [eln]; simp, fun j hj => by
        obtain rfl : j = k := by omega
        intro h; omega, hall (hst (fun t' ht' => by rw [ek] at ht'; cases ht'; omega) e1)⟩
      rw [e3, e4, eln, el1]
      exact h1.put hT1 hd t.it hlen
    · rw [if_neg c0] at eln
      by_cases c1 : t.what = 1
      · rw [stepM_take c1] at es ⊢
        have e2 : (sn k).when_ = -1 := by rw [es]
        have hws : ∀ S, ∀ j, k + 1 = j + 1 → WS b (nowB ts (k + 1)) S (sn j).when_ := fun S j hj => by
          obtain rfl : j = k := by omega
          intro h; omega
        obtain ⟨l1, l2, l3⟩ := h1.look (p := p) (T := t.later)
        have etk : (shM b (fifoM p)).take t.later s = shTake b t.later (look (fifoM p) t.later s) := rfl
        rw [etk] at es ⊢
        have hlk : ∀ x, s.next = some x → look (fifoM p) t.later s = s := fun x hx => look_some hx
        generalize look (fifoM p) t.later s = s1 at *
        cases hnx : s1.next with
        | none =>
          have e5 : shTake b t.later s1 = (none, [], s1) := by unfold shTake; rw [hnx]
          rw [e5] at es ⊢
          have e1 : (sn k).taken = -1 := by rw [es]; rfl
          obtain ⟨e3, e4⟩ := hno e1
          refine ⟨?_, by rw [eln], hws _, hall ⟨fun h => by omega, fun j hj hw _ => ?_⟩⟩
          · rw [e3, e4, eln, el1]
            exact l1.later hT1
          · obtain ⟨x, hx, _⟩ := h3 j hj hw
            rw [hlk x hx] at hnx
            rw [hnx] at hx
            cases hx
        | some x =>
          have hw := l1.w x (by rw [hnx]; simp)
          have hws2 : ∀ j, k = j + 1 → 0 ≤ (sn j).when_ → (Bkt.okB b s1.st t.later x.it.len = true ↔ (sn j).when_ ≤ t.later) := fun j hj hwn => by
            obtain ⟨y, hy, h⟩ := h3 j hj hwn
            rw [hlk y hy] at hnx ⊢
            rw [hnx] at hy
            injection hy with hy
            subst hy
            exact h t.later hT1
          by_cases ho : Bkt.okB b s1.st t.later x.it.len = true
          · have e5 : shTake b t.later s1 = (some x, [], ⟨s1.q, Bkt.take b s1.st t.later x.it.len, none⟩) := by unfold shTake; rw [hnx]; dsimp only; rw [if_pos ho]
            rw [e5] at es ⊢
            have e1 : (sn k).taken = x.num := by rw [es]; rfl
            have hp : 0 ≤ (sn k).taken := by rw [e1]; exact hw.n0
            refine ⟨?_, by rw [eln], hws _, hall ⟨fun _ => ?_, fun j hj hwn _ => ?_⟩⟩
            · rw [elast, egone, if_pos hp, if_pos hp, eln, el1, el2, e1]
              exact l1.take hk hT1 hnx ho
            · rw [e1, eln]
              exact ⟨hw.lo, hw.hi⟩
            · rw [el2]
              exact ⟨fun _ => (hws2 j hj hwn).1 ho, fun _ => hp⟩
          · have e5 : shTake b t.later s1 = (none, [], ⟨s1.q, Bkt.take b s1.st t.later x.it.len, some x⟩) := by unfold shTake; rw [hnx]; dsimp only; rw [if_neg ho]
            rw [e5] at es ⊢
            have e1 : (sn k).taken = -1 := by rw [es]; rfl
            obtain ⟨e3, e4⟩ := hno e1
            refine ⟨?_, by rw [eln], hws _, hall ⟨fun h => by omega, fun j hj hwn _ => ?_⟩⟩
            · rw [e3, e4, eln, el1]
              have e6 : Bkt.take b s1.st t.later x.it.len = fill b s1.st t.later := by unfold Bkt.take; rw [if_neg ho]
              rw [e6, ← hnx]
              exact l1.filled hk hT1
            · rw [el2, e1]
              exact ⟨fun h => by omega, fun h => absurd ((hws2 j hj hwn).2 h) ho⟩
      · rw [stepM_when c0 c1] at es ⊢
        have e1 : (sn k).taken = -1 := by rw [es]
        obtain ⟨e3, e4⟩ := hno e1
        obtain ⟨l1, l2, l3⟩ := h1.look (p := p) (T := t.later)
        have etk : (shM b (fifoM p)).when_ t.later s = shWhen b (fifoM p) t.later (look (fifoM p) t.later s) := rfl
        rw [etk] at es ⊢
        generalize look (fifoM p) t.later s = s1 at *
        have hstep := hst (fun t' ht' => by rw [ek] at ht'; cases ht'; exact c1) e1
        have e6 : (sn k).when_ = whn (shWhen b (fifoM p) t.later s1).1 := by rw [es]
        cases hnx : s1.next with
        | none =>
          have hq := l2 hnx
          have e5 : shWhen b (fifoM p) t.later s1 = (none, ⟨[], s1.st, none⟩) := by unfold shWhen; rw [hnx]; dsimp only; rw [hq]; rfl
          rw [e5] at e6 ⊢
          refine ⟨?_, by rw [eln], fun j hj => by
            obtain rfl : j = k := by omega
            intro h; rw [e6] at h; exact absurd h (by show ¬ (0 : Int) ≤ -1; decide), hall hstep⟩
          rw [e3, e4, eln, el1]
          obtain ⟨q, st, nx⟩ := s1
          dsimp only at hnx hq
          subst hnx; subst hq
          exact l1.later hT1
        | some x =>
          have hw := l1.w x (by rw [hnx]; simp)
          have e5 : shWhen b (fifoM p) t.later s1 = (some (whenAt b s1.st t.later x.it.len), ⟨s1.q, fill b s1.st t.later, some x⟩) := by
            unfold shWhen; rw [hnx]; dsimp only; rw [if_neg (by have := hw.room; omega)]
          rw [e5] at e6 ⊢
          refine ⟨?_, by rw [eln], fun j hj => ?_, hall hstep⟩
          · rw [e3, e4, eln, el1, ← hnx]
            exact l1.filled hk hT1
          · obtain rfl : j = k := by omega
            intro _
            refine ⟨x, rfl, fun T hTT => ?_⟩
            rw [el1] at hTT
            have hlast : s1.st.last ≤ t.later := by have := l1.last; omega
            obtain ⟨w1, w2, w3⟩ := when_law (n := x.it.len) hk l1.sok hlast (by have := hw.len; omega) hw.room
            have e7 : Bkt.okB b (fill b s1.st t.later) T x.it.len = Bkt.okB b s1.st T x.it.len := by
              unfold Bkt.okB
              rw [fill_fill (by have := hk.b.1; omega) hlast hTT l1.sok.has1]
            rw [e7, e6]
            show _ ↔ whenAt b s1.st t.later x.it.len ≤ T
            refine ⟨fun h => ?_, fun h => ok_mono hk l1.sok (by omega) h w2⟩
            rcases Int.lt_or_le T (whenAt b s1.st t.later x.it.len) with h' | h'
            · rw [w3 (by omega) T hTT h'] at h; cases h
            · exact h'
end Pl
end Go.Proofs.YtdhojhgmaodifaaDoor
