/-
  sketch.sorted: its walk.
-/
import Derived.Test.YtdddpdhjkeanmaaSkSorted2
import Derived.WalkSpells
namespace Go.Proofs.Ytdddpdhjkeanmaa
open Go.RowKit Go.Sort Go.Shelf
open Go.Maps (Keyed int_keyed keyOf_int_mk)
set_option linter.unusedVariables false
set_option maxHeartbeats 2000000 in
set_option maxRecDepth 100000 in
theorem sorted_any {b n : Nat} {D : DataW Unit} (c : Int → Int) (E : List (Int × Int)) (w : World) (hown : w.ownsMap Try.prog 3 (plainElem Try.prog 3) b n D) (hF : FRep D c) (hE : Pl.Ent E c) (hn : n ≤ 1000) :
    Calls Try.prog 14 #[.map (some b)] w (SrtOut w c E.length) := by
  have hN : Maps.size D ≤ 1000 := Nat.le_trans hown.size_le hn
  have hcs := col_start hF
  have HOWN := Lib.hid hown; have HF := Lib.hid hF; have HE := Lib.hid hE; have HCS := Lib.hid hcs
  have hbw : b < w.heap.size := hown.lt
  clear hown hF hE hcs
  go_enter Try.func14, Try.ntmps14
  go_wp2_with (at_range; refine wpList_range_own _ rfl (.tmp 6) 44 rfl 3 3 Try.lawI Try.underlying44 (plainElem Try.prog 3) b n D rfl HOWN.out ?_; intro w0 hrg0 hg0 hs0)
  go_frame
  have hrel0 : SrtRel c w w0 b n (Maps.size D) D (Maps.has D) (Maps.size D) [] (.slice none 0 0) := ⟨hrg0, World.ownsRow_nil _ _ _ _, bl_grown (Below.refl _ _) hg0 (Nat.le_refl _) (fun k e => by cases e), HCS.out, by simp, by omega⟩
  have HREL0 := Lib.hid hrel0
  clear hrel0 hrg0 hg0 hs0
  go_loopw [3, 4, 5] (fun v3 _ _ wr => ∃ left cnt O, SrtRel c w wr b n (Maps.size D) D left cnt O v3) (fun _ _ _ wr => wr.rangeLeft b w.heap.size)
  case atStart => exact ⟨_, _, _, HREL0.out⟩
  case round =>
    obtain ⟨left, cnt, O, hrel⟩ := hrel
    obtain ⟨A3, c3, rfl, _⟩ := own_reads hrel.own
    have HREL := Lib.hid hrel
    have hlO : O.length ≤ 1000000 := by have := hrel.len; omega
    clear hrel
    go_wp2_with (at_next; refine wpList_next_ranges_ii _ rfl (.tmp 7) rfl 3 3 .i64 .i64 Try.lawI Try.underlying3 Try.underlying3 b w.heap.size n D left cnt rfl HREL.out.rg ?_ ?_)
    · intro _ hl0
      have hent := HREL.out.col.done hl0
      have hlen := (hent.perm HE.out).length_eq
      have hso := sort_any (B := w.heap.size) HREL.out.own (by omega) HREL.out.bel.size hlO
      have HSO := Lib.hid hso; have HENT := Lib.hid hent; have HLEN := Lib.hid hlen
      clear hso hent hlen hl0
      go_wp2_with (go_at_call 16; (with_reducible refine HSO.out.mono ?_); rintro e w5 ⟨rfl, P, hp, hr, hb⟩)
      go_ret
      have h1 := HENT.out.of_perm hp.symm
      unfold SrtOut
      rw [← HLEN.out]
      exact ⟨_, _, P, rfl, h1, hp.length_eq, hr, HREL.out.bel.trans hb⟩
    · intro x v w1 cnt1 hwx hwv hlx hat hrg1 hlt hg1 hs1 hen
      have hcx := HF.out.entry hat
      have hcol := HREL.out.col.step (x := x) (v := v) hlx hcx.1 (hcx.1 ▸ hcx.2)
      have hown1 : w1.ownsRow (w.heap.size + 1) 32 2 (.slice A3 O.length c3) O.length (O.flatMap PrR.cells) := HREL.out.own.kept hg1 (by
        rcases HREL.out.own.2 with ⟨h', _⟩ | ⟨g', cap, cur, h', hb', _⟩
        · injection h' with h1 _ _
          subst h1
          exact .inl rfl
        · injection h' with h1 _ _
          subst h1
          refine .inr fun e => ?_
          have : g' = w.heap.size := by simpa [Value.ownBlock] using e
          omega)
      have hsz1 : w.heap.size + 1 ≤ w1.heap.size := by have := HREL.out.sz; omega
      have hbel1 := bl_grown HREL.out.bel hg1 HREL.out.bel.size (fun k e => by injection e with e; omega)
      have HCOL := Lib.hid hcol; have HOWN1 := Lib.hid hown1; have HBEL1 := Lib.hid hbel1; have HRG1 := Lib.hid hrg1
      have hlen1 := HREL.out.len
      have hleft := HREL.out.rg.left_eq
      have HLEFT := Lib.hid hleft
      clear hcx hcol hown1 hbel1 hrg1 hg1 hat hlx hleft hs1
      go_wp2_with (at_builtin; go_must (refine wpList_pushR PrR rfl (.tmp 13) (.tmp 17) 24 (w.heap.size + 1) 32 (.agg #[.int .i64 0, .int .i64 0]) 16 Try.underlying24 Try.prInfo rfl rfl (.slice A3 O.length c3) O.length O (x, v) #[.int .i64 x, .int .i64 v] HOWN1.out rfl rfl rfl (pr_one _) hlO (by omega) hsz1 ?_); intro v' w2 h1 h2 h3; have H1 := Lib.hid h1; have H2 := Lib.hid h2; have H3 := Lib.hid h3; clear h1 h2 h3)
      have hfin : SrtRel c w w2 b n (Maps.size D) D (fun z => left z && !z.sameKey (kI x)) cnt1 (O ++ [(x, v)]) v' := by
        have hne : ∀ i, (Value.slice A3 O.length c3).ownBlock = some i → w.heap.size + 1 ≤ i := fun i hi => by
          rcases HOWN1.out.2 with ⟨h', _⟩ | ⟨g', cap, cur, h', hb', _⟩
          · injection h' with h1 _ _
            subst h1
            simp [Value.ownBlock] at hi
          · injection h' with h1 _ _
            subst h1
            have : g' = i := by simpa [Value.ownBlock] using hi
            omega
        refine ⟨HRG1.out.kept H2.out (fun e => ?_) (fun e => ?_), by rw [List.length_append]; exact H1.out, HBEL1.out.trans (H3.out.mono (by omega)), HCOL.out, by rw [List.length_append, List.length_singleton]; omega, Nat.le_trans hsz1 H3.out.size⟩
        · have := hne b e.symm; omega
        · have := hne _ e.symm; omega
      go_roundw
      case rel => exact ⟨_, _, _, hfin⟩
      case measure => rw [hfin.rg.left_eq, HLEFT.out]; exact hlt
end Go.Proofs.Ytdddpdhjkeanmaa
