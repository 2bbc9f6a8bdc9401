/-
  Plain law of a play of flows that are put together by a hash: what each step makes of the lists' lengths; who is thrown away was in a longest list.
-/
import Derived.Test.YthhgbpbaihgogaaHshLaw
namespace Go.Proofs.Ythhgbpbaihgogaa
open Bkt
namespace Pl
set_option linter.unusedVariables false

def lenI (s : HS) (j : Nat) : Int := (s.L j).length
def hs0 : HS := ⟨fun _ => [], []⟩
/-- the number u was put in with a flow of list j -/
def inL' (P : HP) (fs : List Int) (u : Int) (j : Nat) : Prop := 0 ≤ u ∧ u < fs.length ∧ whr P (fs.getD u.toNat 0) = j ∧ j < P.m
structure HStep (P : HP) (t : Stp) (sn : Seen) (s s' : HS) (fs : List Int) : Prop where
  len : sn.len ≤ P.room
  put : t.what = 0 → (0 ≤ t.it.flow ∧ t.it.flow < 16) ∧ sn.taken < 0 ∧
    ((sn.lost = [] ∧ lenI s' = updf (lenI s) (whr P t.it.flow) (lenI s (whr P t.it.flow) + 1)) ∨
     ∃ u j, sn.lost = [u] ∧ inL' P fs u j ∧ (∀ i, i < P.m → updf (lenI s) (whr P t.it.flow) (lenI s (whr P t.it.flow) + 1) i ≤ updf (lenI s) (whr P t.it.flow) (lenI s (whr P t.it.flow) + 1) j) ∧
       lenI s' = updf (updf (lenI s) (whr P t.it.flow) (lenI s (whr P t.it.flow) + 1)) j (updf (lenI s) (whr P t.it.flow) (lenI s (whr P t.it.flow) + 1) j - 1))
  take : t.what ≠ 0 → sn.lost = [] ∧ ((sn.taken < 0 ∧ lenI s' = lenI s) ∨ ∃ j, inL' P fs sn.taken j ∧ lenI s' = updf (lenI s) j (lenI s j - 1))
theorem lenI_add (k : Nat) (x : Hd) (s : HS) : lenI (addH k x s) = updf (lenI s) k (lenI s k + 1) := by
  funext i
  unfold lenI addH
  dsimp only
  by_cases e : i = k
  · subst e; rw [updf_same, updf_same]; simp
  · rw [updf_ne _ _ e, updf_ne _ _ e]
theorem lenI_cut {j : Nat} {s : HS} {l : List Hd} {y : Hd} (h : s.L j = l ++ [y]) : lenI (cutH j s) = updf (lenI s) j (lenI s j - 1) := by
  funext i
  unfold lenI cutH
  dsimp only
  by_cases e : i = j
  · subst e; rw [updf_same, updf_same, h]; simp
  · rw [updf_ne _ _ e, updf_ne _ _ e]
theorem mem_fl {P : HP} {s : HS} (h : HI0 P s) {k : Nat} (hk : k < P.m) {y : Hd} (hy : y ∈ s.L k) : y.it.flow.toNat < 16 ∧ y ∈ flH P s y.it.flow.toNat ∧ whr P y.it.flow = k ∧ (y.it.flow.toNat : Int) = y.it.flow := by
  obtain ⟨_, _, h0, h1, h2⟩ := h.b k hk y hy
  have e : (y.it.flow.toNat : Int) = y.it.flow := by omega
  refine ⟨by omega, ?_, h2, e⟩
  unfold flH
  rw [e, h2, List.mem_filter]
  exact ⟨hy, by simp⟩
theorem inL_of {P : HP} {s : HS} (h : HI0 P s) {fs : List Int} {last : Nat → Int} {n : Nat} (ho : OInv fs last n (flH P s)) {k : Nat} (hk : k < P.m) {y : Hd} (hy : y ∈ s.L k) : inL' P fs y.num k := by
  obtain ⟨h1, h2, h3, h4⟩ := mem_fl h hk hy
  obtain ⟨g1, g2, g3, g4⟩ := ho.x _ h1 y h2
  refine ⟨g1, by have := ho.len; omega, ?_, hk⟩
  rw [g3, h4, h3]
theorem hput_step {P : HP} (hP : HPOk P) {s : HS} (h : HI P s) {fs : List Int} {last : Nat → Int} {n : Nat} (ho : OInv fs last n (flH P s)) (hlast : ∀ f, last f ≤ n) (it : It) (hok : okB it = true) :
    (((putH P ⟨it, n⟩ s).1.map Hd.num = [] ∧ lenI (putH P ⟨it, n⟩ s).2 = updf (lenI s) (whr P it.flow) (lenI s (whr P it.flow) + 1)) ∨
     ∃ u j, (putH P ⟨it, n⟩ s).1.map Hd.num = [u] ∧ inL' P (fs ++ [it.flow]) u j ∧ (∀ i, i < P.m → updf (lenI s) (whr P it.flow) (lenI s (whr P it.flow) + 1) i ≤ updf (lenI s) (whr P it.flow) (lenI s (whr P it.flow) + 1) j) ∧
       lenI (putH P ⟨it, n⟩ s).2 = updf (updf (lenI s) (whr P it.flow) (lenI s (whr P it.flow) + 1)) j (updf (lenI s) (whr P it.flow) (lenI s (whr P it.flow) + 1) j - 1)) := by
  have hfl := (okB_fine.1 hok).f2
  have hp := putH_ok hP h (x := ⟨it, n⟩) hok
  have ha := h.h.add hP (x := ⟨it, n⟩) hok
  have hop := ho.put (fun f _ => hlast f) it (by omega)
  have e : flH P (addH (whr P it.flow) ⟨it, n⟩ s) = fun f : Nat => if it.flow = f then flH P s f ++ [⟨it, n⟩] else flH P s f := by
    funext f
    exact flH_add P s ⟨it, n⟩ f
  rw [← e] at hop
  have hla := lenI_add (whr P it.flow) ⟨it, n⟩ s
  rw [← hla]
  have hw := hp.ways
  dsimp only at hw ha
  generalize putH P ⟨it, n⟩ s = r at *
  generalize addH (whr P it.flow) ⟨it, n⟩ s = s1 at *
  rcases hw with ⟨_, e⟩ | ⟨_, hj, l, y, hL, e⟩
  · left
    rw [e]
    exact ⟨rfl, rfl⟩
  · right
    refine ⟨y.num, lngTo s1.L P.m, ?_, inL_of ha hop hj (y := y) (by rw [hL]; simp), fun i hi => ?_, ?_⟩
    · rw [e]; rfl
    · have := lngTo_max s1.L P.m i hi
      unfold lenI
      omega
    · rw [e]; exact lenI_cut hL
theorem wait_hs0 (m : Nat) : waitH m hs0 = [] := by
  unfold waitH
  rw [List.flatMap_eq_nil_iff]
  intro k _
  rfl
theorem hs0_ok {P : HP} (hP : HPOk P) : HI P hs0 := ⟨⟨by simp [hs0], fun k hk => by simp [hs0] at hk, fun k _ h => by simp [hs0] at h, fun k _ x hx => by simp [hs0] at hx⟩, by rw [wait_hs0]; have := hP.room; simp; omega⟩
theorem hash_play {P : HP} (hP : HPOk P) {ts : List Stp} (hts : ∀ t ∈ ts, StpOk t) {k : Nat} (hk : k < ts.length) :
    HStep P ts[k] (seenAt (hashM P) hs0 ts k) (nth (hashM P) hs0 ts k).2 (nth (hashM P) hs0 ts (k + 1)).2 (flowTo ts (k + 1)) := by
  have hP' := hP
  have hI0 := hs0_ok hP
  have hw0 := wait_hs0 P.m
  have hg := hash_good P hP
  have hIk := (good_nth hg (s0 := hs0) hI0 hw0 hts k).1
  obtain ⟨ho, hlast, _⟩ := ord_play hg (hash_ord P hP) (s0 := hs0) hI0 hw0 (fun f => rfl) hts k (by omega)
  have ek : ts[k]? = some ts[k] := List.getElem?_eq_getElem hk
  have en := nth_succ (hashM P) hs0 ek
  have es := seenAt_of (hashM P) hs0 ek
  have ef := flowTo_succ ek
  rw [en, es, ef]
  clear en es ef
  have ht := hts _ (List.getElem_mem hk)
  generalize lastF ts (seenAt (hashM P) hs0 ts) k = last at *
  generalize flowTo ts k = fs at *
  generalize nth (hashM P) hs0 ts k = ns at *
  obtain ⟨n, s⟩ := ns
  generalize ts[k] = t at *
  have ho' : OInv fs last n (flH P s) := ho
  have hIk' : HI P s := hIk
  clear ho hIk
  dsimp only
  by_cases c0 : t.what = 0
  · rw [stepM_put c0, if_pos c0]
    obtain ⟨hok, _⟩ := ht c0
    have hfl := (okB_fine.1 hok).f2
    have hp := putH_ok hP hIk' (x := ⟨t.it, n⟩) hok
    exact ⟨hp.hi.rm, fun _ => ⟨by omega, (by show (-1 : Int) < 0; decide), hput_step hP hIk' ho' hlast t.it hok⟩, fun h => absurd c0 h⟩
  · by_cases c1 : t.what = 1
    · rw [stepM_take c1, if_neg c0]
      have htk := takeH_ok hIk'
      refine ⟨htk.hi.rm, fun h => absurd h c0, fun _ => ⟨rfl, ?_⟩⟩
      show (tkn (takeH s).1 < 0 ∧ lenI (takeH s).2 = lenI s) ∨ ∃ j, inL' P fs (tkn (takeH s).1) j ∧ lenI (takeH s).2 = updf (lenI s) j (lenI s j - 1)
      cases hT : s.T with
      | nil =>
        rw [htk.none_ hT]
        exact .inl ⟨by show (-1 : Int) < 0; decide, rfl⟩
      | cons j T =>
        obtain ⟨x, q, e1, hj, e2⟩ := htk.some_ j T hT
        rw [e2]
        right
        refine ⟨j, inL_of hIk'.h ho' hj (y := x) (by rw [e1]; simp), ?_⟩
        funext i
        show ((updf s.L j q i).length : Int) = updf (lenI s) j (lenI s j - 1) i
        by_cases e : i = j
        · subst e; rw [updf_same, updf_same]; unfold lenI; rw [e1]; simp
        · rw [updf_ne _ _ e, updf_ne _ _ e]; rfl
    · rw [stepM_when c0 c1, if_neg c0]
      exact ⟨hIk'.rm, fun h => absurd h c0, fun _ => ⟨rfl, .inl ⟨by show (-1 : Int) < 0; decide, rfl⟩⟩⟩
end Pl
end Go.Proofs.Ythhgbpbaihgogaa
