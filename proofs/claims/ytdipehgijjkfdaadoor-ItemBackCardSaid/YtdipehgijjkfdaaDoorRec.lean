/-
  Records in a row: a slice of structs that reads as a list.
-/
import Derived.Test.YtdipehgijjkfdaaDoorMem
namespace Go.Proofs.YtdipehgijjkfdaaDoor
open Go.RowKit
set_option linter.unusedVariables false

/-- how a struct lies in cells -/
structure Rec (α : Type) where
  sz : Nat
  cells : α → List Value
  len : ∀ x, (cells x).length = sz
  pos : 0 < sz
  zero : α
def ixR {α : Type} (R : Rec α) (l : List α) (i : Nat) : α := l.getD i R.zero
section
variable {α : Type} {R : Rec α}
theorem flatR_len (l : List α) : (l.flatMap R.cells).length = l.length * R.sz := by
  induction l with
  | nil => simp
  | cons x l ih => rw [List.flatMap_cons, List.length_append, ih, List.length_cons, R.len, Nat.succ_mul]; omega
theorem flatR_get (l : List α) : ∀ k j, k < l.length → j < R.sz → (l.flatMap R.cells)[k * R.sz + j]? = (R.cells (ixR R l k))[j]? := by
  induction l with
  | nil => intro k j hk; simp at hk
  | cons x l ih =>
    intro k j hk hj
    rw [List.flatMap_cons]
    rcases k with _ | k
    · rw [List.getElem?_append_left (by rw [R.len, Nat.zero_mul, Nat.zero_add]; exact hj), Nat.zero_mul, Nat.zero_add]
      simp [ixR]
    · rw [List.getElem?_append_right (by rw [R.len, Nat.succ_mul]; omega), R.len, show (k + 1) * R.sz + j - R.sz = k * R.sz + j from by rw [Nat.succ_mul]; omega, ih k j (by simpa using hk) hj]
      rfl
theorem ixR_app_lt {l : List α} {y : α} {i : Nat} (h : i < l.length) : ixR R (l ++ [y]) i = ixR R l i := by
  simp [ixR, List.getD, List.getElem?_append_left h]
theorem ixR_app_last {l : List α} {y : α} : ixR R (l ++ [y]) l.length = y := by simp [ixR, List.getD]

/-- a slice that reads as the list -/
def RdR (R : Rec α) (w : World) (B : Nat) (A : Option Addr) (n : Nat) (l : List α) : Prop := Reads w B R.sz A n (l.flatMap R.cells)
variable {w w' : World} {B B' n : Nat} {A : Option Addr} {l : List α}
theorem RdR.len (h : RdR R w B A n l) : l.length = n := by
  have := h.1
  rw [flatR_len] at this
  exact Nat.eq_of_mul_eq_mul_right R.pos this
theorem RdR.nil : RdR R w B A 0 [] := ⟨by simp, fun h => absurd h (by omega)⟩
theorem RdR.addr (h : RdR R w B A n l) {k : Nat} (hk : k < n) : ∃ b off, A = some ⟨b, off, none⟩ ∧ b < B := by
  obtain ⟨ad, e, hb, hc⟩ := h.2 (by omega)
  have hl := h.len
  have h0 := flatR_get (R := R) l 0 0 (by omega) R.pos
  have hz : (R.cells (ixR R l 0))[0]? = some ((R.cells (ixR R l 0))[0]'(by rw [R.len]; exact R.pos)) := List.getElem?_eq_getElem _
  rw [hz, Nat.zero_mul, Nat.zero_add] at h0
  have := hc 0 _ h0
  obtain ⟨b, off, spot⟩ := ad
  have hs : spot = none := by simpa [Addr.add] using World.cell?_spot this
  subst hs
  exact ⟨b, off, e, hb⟩
theorem RdR.all {b off : Nat} (h : RdR R w B (some ⟨b, off, none⟩) n l) {k : Nat} (hk : k < n) : ∀ j u, (R.cells (ixR R l k))[j]? = some u → w.cell? ⟨b, off + (k * R.sz + j), none⟩ = some u := by
  intro j u hu
  have hj : j < R.sz := by
    rcases Nat.lt_or_ge j R.sz with h' | h'
    · exact h'
    · rw [List.getElem?_eq_none (by rw [R.len]; exact h')] at hu; cases hu
  obtain ⟨ad, e, hb, hc⟩ := h.2 (by omega)
  injection e with e
  subst e
  have hl := h.len
  have := hc (k * R.sz + j) u (by rw [flatR_get l k j (by omega) hj]; exact hu)
  unfold Addr.add at this
  split at this
  · rename_i h0; rw [h0]; exact this
  · exact this
theorem RdR.over (h : RdR R w B A n l) (hb : Below w.heap.size w w') (hB : B ≤ w.heap.size) : RdR R w' w'.heap.size A n l :=
  Reads.more (Reads.below (Reads.more h hB) hb) hb.size
theorem RdR.more (h : RdR R w B A n l) (hB : B ≤ B') : RdR R w B' A n l := Reads.more h hB
theorem RdR.keep (h : RdR R w B A n l) (hk : ∀ p : Addr, p.block < B → w'.cell? p = w.cell? p) : RdR R w' B A n l := Reads.keep h hk

/-- the cells of one row, as they lie -/
theorem own_get {base : Nat} {e : TypeId} {g c : Nat} (h : w.ownsRow base e R.sz (.slice (some ⟨g, 0, none⟩) n c) n (l.flatMap R.cells)) (hl : l.length = n) {k : Nat} (hk : k < n) :
    ∀ j u, (R.cells (ixR R l k))[j]? = some u → w.cell? ⟨g, k * R.sz + j, none⟩ = some u := by
  intro j u hu
  have hj : j < R.sz := by
    rcases Nat.lt_or_ge j R.sz with h' | h'
    · exact h'
    · rw [List.getElem?_eq_none (by rw [R.len]; exact h')] at hu; cases hu
  have hlt : k * R.sz + j < n * R.sz := by
    have : (k + 1) * R.sz ≤ n * R.sz := Nat.mul_le_mul_right _ hk
    rw [Nat.succ_mul] at this
    omega
  rw [h.cellAt _ hlt, flatR_get l k j (by omega) hj]
  exact hu
theorem own_rdR {base : Nat} {e : TypeId} {v : Value} (h : w.ownsRow base e R.sz v n (l.flatMap R.cells)) : ∃ A c, v = .slice A n c ∧ RdR R w w.heap.size A n l := by
  obtain ⟨A, c, hv, hr⟩ := own_reads h
  exact ⟨A, c, hv, hr⟩
theorem flatR_app (l : List α) (y : α) : (l ++ [y]).flatMap R.cells = l.flatMap R.cells ++ R.cells y := by simp
end

/-- 'out = append(out, x)' of a struct: the element lies in a new block -/
theorem wpList_pushR {α : Type} (R : Rec α) {P : Program} {w : World} {ops : Array Oper} {rest : List Oper} {o : Oper} {a : Act} {Q : Exit → Act → World → Prop} (hgd : o.guard = none) (s x : Operand) (t : TypeId)
    (base : Nat) (e : TypeId) (z : Value) (bytes : Nat) (ht : P.underlying t = some (.slice e)) (hinfo : (P.info? e).map (fun i => (i.zero, i.size, i.bytes)) = some (some z, R.sz, bytes))
    (ho : o.op = .call { callee := .builtin .append, args := #[s, x], argTypes := #[t, t] })
    (hzs : z.cells.size = R.sz) (v : Value) (n : Nat) (l : List α) (y : α) (cs : Array Value) (hown : w.ownsRow base e R.sz v n (l.flatMap R.cells)) (hs : a.eval s = v) (hcs : cs.toList = R.cells y)
    (hx : a.eval x = .slice (some ⟨w.heap.size, 0, none⟩) 1 1) (h1 : ∀ u ∈ R.cells y, u.oneCell' = true)
    (hn : n ≤ 1000000) (hbytes : bytes ≤ 1000) (hbase : base ≤ w.heap.size)
    (h : ∀ v' w', w'.ownsRow base e R.sz v' (n + 1) ((l ++ [y]).flatMap R.cells) → w.grownBy w' v.ownBlock → Below base w w' → wpList P ops Q rest (a.put o.dst v') w') :
    wpList P ops Q (o :: rest) a (w.alloc (.cells cs e)) := by
  obtain ⟨i0, hi, hz0, hz1, hz2⟩ := info_parts hinfo
  have hb2 : (n + 1) * bytes ≤ 1000001 * 1000 := Nat.mul_le_mul (by omega) hbytes
  have hlen : cs.size = R.sz := by rw [← Array.length_toList, hcs, R.len]
  refine wpList_append_own _ hgd s x t ho base e i0 z R.sz bytes ht hi hz0 hz1 hz2 hzs R.pos v n (l.flatMap R.cells) hs (hown.alloc _) ⟨w.heap.size, 0, none⟩ 1 1 (R.cells y) hx (by rw [R.len, Nat.one_mul]) ?_ h1
    (by simp only [maxLen]; omega) (by omega) (by simp; omega) ?_
  · intro j u hu
    have e1 : (⟨w.heap.size, 0, none⟩ : Addr).add j = ⟨w.heap.size, j, none⟩ := by unfold Addr.add; split <;> simp_all
    rw [e1, (Blk.new w e cs).cell j, ← hu, ← hcs]
    simp
  · intro v' w' hown' hg _
    rw [← flatR_app] at hown'
    have hg0 : w.grownBy w' v.ownBlock := (World.grownBy_alloc w (.cells cs e) v.ownBlock).trans hg
    refine h v' w' hown' hg0 ((Below.refl base w).grown hg0 hbase ?_)
    intro k hk
    rcases hown.2 with ⟨rfl, _⟩ | ⟨g, cap, cur, rfl, hge, _⟩
    · simp [Value.ownBlock] at hk
    · simp [Value.ownBlock] at hk
      omega
end Go.Proofs.YtdipehgijjkfdaaDoor
