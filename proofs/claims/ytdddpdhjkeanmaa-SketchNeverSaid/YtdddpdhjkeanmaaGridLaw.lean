/-
  Plain law of the grid: Cormode and Muthukrishnan. No program in sight.
-/
import Derived.Test.YtdddpdhjkeanmaaGriLaw
namespace Go.Proofs.Ytdddpdhjkeanmaa
namespace Pl
/-- how many keys come to a cell -/
def cntBy (f : Int → Int) : List Int → Int → Int
  | [], _ => 0
  | x :: r, j => (if f x = j then 1 else 0) + cntBy f r j
theorem cntBy_app (f : Int → Int) (a b : List Int) (j : Int) : cntBy f (a ++ b) j = cntBy f a j + cntBy f b j := by
  induction a with
  | nil => simp [cntBy]
  | cons x r ih => show (if f x = j then 1 else 0) + cntBy f (r ++ b) j = (if f x = j then 1 else 0) + cntBy f r j + cntBy f b j; rw [ih]; omega
theorem cntBy_snoc (f : Int → Int) (a : List Int) (x j : Int) : cntBy f (a ++ [x]) j = cntBy f a j + (if f x = j then 1 else 0) := by
  rw [cntBy_app]; simp [cntBy]
theorem cntBy_le (f : Int → Int) (l : List Int) (j : Int) : 0 ≤ cntBy f l j ∧ cntBy f l j ≤ l.length := by
  induction l with
  | nil => simp [cntBy]
  | cons x r ih => unfold cntBy; rw [List.length_cons]; split <;> omega
theorem cnt_cntBy (f : Int → Int) (l : List Int) (k : Int) : cnt l k ≤ cntBy f l (f k) := by
  induction l with
  | nil => simp [cnt, cntBy]
  | cons x r ih =>
    unfold cnt cntBy
    by_cases e : x = k
    · rw [if_pos e, if_pos (by rw [e])]; omega
    · rw [if_neg e]; split <;> omega
/-- the guess -/
def gTo (h : Nat → Int → Int) (L : List Int) (key : Int) : Nat → Int
  | 0 => -1
  | r + 1 => if gTo h L key r < 0 ∨ cntBy (h r) L (h r key) < gTo h L key r then cntBy (h r) L (h r key) else gTo h L key r
theorem gTo_le (h : Nat → Int → Int) (L : List Int) (key : Int) : ∀ r, -1 ≤ gTo h L key r ∧ gTo h L key r ≤ L.length
  | 0 => ⟨Int.le_refl _, by show (-1 : Int) ≤ _; omega⟩
  | r + 1 => by
    have ih := gTo_le h L key r
    have := cntBy_le (h r) L (h r key)
    unfold gTo
    split <;> omega
theorem gTo_law (h : Nat → Int → Int) (L : List Int) (key : Int) : ∀ r, cnt L key ≤ gTo h L key (r + 1)
  | 0 => by
    have := cnt_cntBy (h 0) L key
    show _ ≤ if gTo h L key 0 < 0 ∨ _ then _ else _
    rw [if_pos (.inl (by show (-1 : Int) < 0; omega))]
    exact this
  | r + 1 => by
    have ih := gTo_law h L key r
    have := cnt_cntBy (h (r + 1)) L key
    show _ ≤ if gTo h L key (r + 1) < 0 ∨ _ then _ else _
    split <;> omega
end Pl
end Go.Proofs.Ytdddpdhjkeanmaa
