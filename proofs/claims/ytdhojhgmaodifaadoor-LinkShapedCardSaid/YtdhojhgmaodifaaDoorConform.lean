/-
  What bucket.Conform tells: which packets conform; an error where the bucket or the packets may not be.
-/
import Derived.Test.YtdhojhgmaodifaaDoorList
namespace Go.Proofs.YtdhojhgmaodifaaDoor
open Go.RowKit Bkt
set_option linter.unusedVariables false

theorem Tryd.boolInfo : (Tryd.prog.info? 4).map (fun i => (i.zero, i.size, i.bytes)) = some (some (.bool false), 1, 1) := by kernel_rfl
/-- the first n of a test, told as Bools -/
def boolsOf (f : Nat → Bool) (n : Nat) : List Value := (List.range n).map fun i => .bool (f i)
theorem boolsOf_succ (f : Nat → Bool) (n : Nat) : boolsOf f (n + 1) = boolsOf f n ++ [.bool (f n)] := by simp [boolsOf, List.range_succ]
def RdB (w : World) (B : Nat) (A : Option Addr) (n : Nat) (f : Nat → Bool) : Prop := Reads w B 1 A n (boolsOf f n)
def BoolsOut (w : World) (n : Nat) (f : Nat → Bool) (e : Ending) (w' : World) : Prop := ∃ A c, e = .returned (.tuple #[.slice A n c, .nilIface]) ∧ Below w.heap.size w w' ∧ RdB w' w'.heap.size A n f
def NilErr (w : World) (e : Ending) (w' : World) : Prop := ∃ (T : TypeId) (v : Value), e = .returned (.tuple #[.slice none 0 0, .iface T v]) ∧ Below w.heap.size w w'
theorem itOk_of {l : List It} (h : ListFine l) : ItOk l := ⟨fun j hj => (h.2.1 j hj).f0, fun j hj => (h.2.1 j hj).f1, h.2.2⟩
theorem st_bd {k : Bk} {l : List It} (hk : BkOk k) (hl : ItOk l) {j : Nat} (hj : j < l.length) :
    0 ≤ (stTo k l j).last ∧ (stTo k l j).last ≤ 1000000000 ∧ 0 ≤ (stTo k l j).has ∧ (stTo k l j).has ≤ k.r * k.t := by
  have h1 := inv_all hk hl j (by omega)
  have h2 := h1.last j hj (Nat.le_refl _)
  have h3 := (hl.at0 j hj).2
  exact ⟨h1.last0, by omega, has_nonneg hk hl j (by omega), has_bd hk hl (by omega)⟩

set_option maxHeartbeats 2000000 in
set_option maxRecDepth 100000 in
theorem conform_yes (k : Bk) (A : Option Addr) (n c : Nat) (l : List It) (w : World) (hr : RdIt w w.heap.size A n l) (hg : Handle w) (hk : BkOk k) (hf : ListFine l) :
    Calls Tryd.prog 17 #[bkV k, .slice A n c] w (BoolsOut w n (conf k l)) := by
  have hl := hr.len
  have hi := itOk_of hf
  have hn : n ≤ 100 := by have := hf.1; omega
  have hbd : ∀ j, j < n → 0 ≤ (stTo k l j).last ∧ (stTo k l j).last ≤ 1000000000 ∧ 0 ≤ (stTo k l j).has ∧ (stTo k l j).has ≤ k.r * k.t := fun j hj => st_bd hk hi (by omega)
  have hib : ∀ j, j < n → ((ix l j).at_ ≤ 1000000000) ∧ 0 ≤ (ix l j).len ∧ (ix l j).len ≤ 1000000 := fun j hj => by
    have h1 := hi.at0 j (by omega); have h2 := hi.len j (by omega); omega
  have HBD := Lib.hid hbd; have HIB := Lib.hid hib; have HG := Lib.hid hg; have HF := Lib.hid hf; have HK := Lib.hid hk
  have hnew := fun W => new_yes k W hk
  have HNEW := Lib.hid hnew
  obtain ⟨kb, kt, kr⟩ := k
  unfold bkV at hnew ⊢
  dsimp only at hnew ⊢
  have HNW := Lib.hid hnew
  clear hbd hib hg hf hk hnew hi hl HNEW
  go_enter Tryd.func17, Tryd.ntmps17
  go_wp2_with fail
  refine (HNW.out _).mono ?_
  rintro e w1 ⟨g, hgB, rfl, hb1, hst⟩
  have hbw1 : Below w.heap.size w w1 := ((Below.refl _ w).alloc (Nat.le_refl _) _).trans (hb1.mono (by simp))
  have hgB' : w.heap.size ≤ g := by simp at hgB; omega
  clear hb1 hgB
  have hr1 := hr.over hbw1 (Nat.le_refl _)
  go_wp2_with fail
  refine (list_any A n c l w1 hr1 (HG.out.below hbw1)).mono ?_
  rintro e w2 (⟨_, rfl, hb2⟩ | ⟨hbad, _⟩)
  · have hbw2 := hbw1.trans (hb2.mono hbw1.size)
    have hst2 : StB w2 g ⟨kb, kt, kr⟩ (Bkt.start ⟨kb, kt, kr⟩) := Blk.below hst hb2 (Blk.lt hst)
    clear hb2 hst hbw1 hr1
    go_wp2_with fail
    go_loopw [9, 27] (fun v i wr => ∃ j : Nat, j ≤ n ∧ i = .int .i64 j ∧ wr.ownsRow w.heap.size 4 1 v j (boolsOf (conf ⟨kb, kt, kr⟩ l) j) ∧ Below w.heap.size w wr ∧ StB wr g ⟨kb, kt, kr⟩ (stTo ⟨kb, kt, kr⟩ l j))
      (fun _ i _ => n - (intOf i).toNat)
    case atStart => exact ⟨0, Nat.zero_le _, rfl, World.ownsRow_nil _ _ _ _, hbw2, hst2⟩
    case round =>
      clear hbw2 hst2
      obtain ⟨j, hj, rfl, hown, hb, hst⟩ := hrel
      by_cases hlt : j < n
      · obtain ⟨b, off, rfl, hbB⟩ := hr.addr hlt
        obtain ⟨c0, c1, c2, c3, c4⟩ := (hr.over hb (Nat.le_refl _)).cells hlt
        obtain ⟨s0, s1, s2, s3⟩ := HBD.out j hlt
        obtain ⟨i0, i1, i2⟩ := HIB.out j hlt
        have HCF : Hid (conf ⟨kb, kt, kr⟩ l j = okB ⟨kb, kt, kr⟩ (stTo ⟨kb, kt, kr⟩ l j) (ix l j).at_ (ix l j).len) := rfl
        have HST : Hid (stTo ⟨kb, kt, kr⟩ l (j + 1) = Bkt.take ⟨kb, kt, kr⟩ (stTo ⟨kb, kt, kr⟩ l j) (ix l j).at_ (ix l j).len) := rfl
        have HSB := Lib.hid hst; clear hst
        generalize ix l j = x at *
        generalize stTo ⟨kb, kt, kr⟩ l j = s at *
        have htk := fun W hW => take_any ⟨kb, kt, kr⟩ s g x.at_ x.len W HK.out hW s0 s1 i0 s2 s3 i1 i2
        have HTK := Lib.hid htk
        clear htk s0 s1 s2 s3 i0 i1 i2
        go_wp2_with fail
        refine (HTK.out _ (Blk.alloc HSB.out _)).mono ?_
        rintro e w3 ⟨rfl, hg3, hst3⟩
        have hne : u9.ownBlock ≠ some g := own_blk_ne hown HSB.out (by decide)
        have hown3 : w3.ownsRow w.heap.size 4 1 u9 j (boolsOf (conf ⟨kb, kt, kr⟩ l) j) := (hown.alloc _).kept hg3 (.inr hne)
        have hb3 : Below w.heap.size w w3 := (hb.alloc hb.size _).grown hg3 (by have := hb.size; simp; omega) (fun q hq => by injection hq with hq; omega)
        have HS3 := Lib.hid hst3
        clear hst3 hg3 hown c0 c1 c2 c3 c4 hb hne
        rw [← HCF.out]
        generalize hcf : conf ⟨kb, kt, kr⟩ l j = cf at *
        have HC2 := Lib.hid hcf; clear hcf
        go_wp2_with (at_builtin; refine wpList_push1 rfl _ _ 34 rfl w.heap.size 4 (.bool false) 1 Tryd.underlying34 Tryd.boolInfo rfl u9 j _ (.bool cf) (by rfl) hown3 (by rfl) rfl (by omega) (by omega) hb3.size ?_; intro v' w4 hown' hg' hb')
        have hne4 : u9.ownBlock ≠ some g := own_blk_ne hown3 HS3.out (by decide)
        have hst4 : StB w4 g ⟨kb, kt, kr⟩ (Bkt.take ⟨kb, kt, kr⟩ s x.at_ x.len) := Blk.grown HS3.out hg' (fun h => hne4 h.symm)
        have HS4 := Lib.hid hst4; clear hst4
        go_roundw
        case rel =>
          refine ⟨j + 1, by omega, by go_num, ?_, hb3.trans hb', by rw [HST.out]; exact HS4.out⟩
          rw [boolsOf_succ, HC2.out]; exact hown'
        case measure => simp [intOf]; omega
      · obtain rfl : j = n := by omega
        obtain ⟨A2, c2, rfl, hrd⟩ := own_reads hown
        go_wp2_with fail
        go_ret2
        exact ⟨A2, c2, rfl, hb, hrd⟩
  · exact absurd HF.out hbad
end Go.Proofs.YtdhojhgmaodifaaDoor
