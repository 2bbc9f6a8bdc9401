/-
  item.Text: packets as lines.
-/
import Derived.Test.YtdipehgijjkfdaaDoorList
import Derived.Test.YtdipehgijjkfdaaDoorItNum
import Derived.Test.YtdipehgijjkfdaaDoorSqCut
namespace Go.Proofs.YtdipehgijjkfdaaDoor
open Go.RowKit Bkt
set_option linter.unusedVariables false
def nums (x : It) : List Int := [x.at_, x.len, x.flow, x.band, x.mark]
def lnT (x : It) : List UInt8 := glue 32 ((nums x).map Lib.itoa)
def txT : List It → List UInt8
  | [] => []
  | x :: r => lnT x ++ 10 :: txT r
def preT (x : It) : Nat → List UInt8
  | 0 => []
  | j + 1 => preT x j ++ ((if 0 < j then [32] else []) ++ Lib.itoa ((nums x).getD j 0))
theorem preT_5 (x : It) : preT x 5 = lnT x := by
  simp [preT, lnT, nums, glue]
theorem txT_snoc (x : It) : ∀ l : List It, txT (l ++ [x]) = txT l ++ (lnT x ++ [10])
  | [] => by simp [txT]
  | y :: r => by simp [txT, txT_snoc x r]
theorem chunk_app (a b : List UInt8) : Lib.byteCells (a ++ b) = Lib.byteCells a ++ Lib.byteCells b := by simp [Lib.byteCells]
theorem bld_below {T e : TypeId} {B b : Nat} {bs : List Value} {w w' : World} (h : Lib.IsBuilder T e B b bs w) (hb : Below w.heap.size w w') : Lib.IsBuilder T e B b bs w' := by
  have key : ∀ p, Lib.BuilderAt T e B b p bs w → Lib.BuilderAt T e B b p bs w' := by
    rintro p ⟨h0, v, h1, h2, h3⟩
    refine ⟨h0, v, (hb.block b ?_).trans h1, ?_, h3⟩
    · rcases Nat.lt_or_ge b w.heap.size with h | h
      · exact h
      · rw [Array.getElem?_eq_none h] at h1; cases h1
    · refine ⟨h2.1, ?_⟩
      rcases h2.2 with h | ⟨g, cap, cur, h4, h5, h6, h7⟩
      · exact .inl h
      · refine .inr ⟨g, cap, cur, h4, h5, (hb.block g ?_).trans h6, h7⟩
        rcases Nat.lt_or_ge g w.heap.size with h | h
        · exact h
        · rw [Array.getElem?_eq_none h] at h6; cases h6
  rcases h with h | h
  · exact .inl (key _ h)
  · exact .inr (key _ h)
theorem ix_it (c0 c1 c2 c3 c4 : Int) (w : World) : (Instr.index 58 (.agg #[.int .i64 c0, .int .i64 c1, .int .i64 c2, .int .i64 c3, .int .i64 c4]) (.int .i64 0)).run Tryd.prog w = .ok (.int .i64 c0) w ∧ (Instr.index 58 (.agg #[.int .i64 c0, .int .i64 c1, .int .i64 c2, .int .i64 c3, .int .i64 c4]) (.int .i64 1)).run Tryd.prog w = .ok (.int .i64 c1) w ∧
    (Instr.index 58 (.agg #[.int .i64 c0, .int .i64 c1, .int .i64 c2, .int .i64 c3, .int .i64 c4]) (.int .i64 2)).run Tryd.prog w = .ok (.int .i64 c2) w ∧ (Instr.index 58 (.agg #[.int .i64 c0, .int .i64 c1, .int .i64 c2, .int .i64 c3, .int .i64 c4]) (.int .i64 3)).run Tryd.prog w = .ok (.int .i64 c3) w ∧
    (Instr.index 58 (.agg #[.int .i64 c0, .int .i64 c1, .int .i64 c2, .int .i64 c3, .int .i64 c4]) (.int .i64 4)).run Tryd.prog w = .ok (.int .i64 c4) w := by
  refine ⟨?_, ?_, ?_, ?_, ?_⟩ <;> simp [Instr.index, run_underlying Tryd.underlying58, asIntOf, part, Tryd.sizeOf3, Tryd.isAgg3, go_sem]
theorem ix_num (x : It) (j : Nat) (hj : j < 5) (w : World) : (Instr.index 58 (.agg #[.int .i64 x.at_, .int .i64 x.len, .int .i64 x.flow, .int .i64 x.band, .int .i64 x.mark]) (.int .i64 (j : Nat))).run Tryd.prog w = .ok (.int .i64 ((nums x).getD j 0)) w := by
  obtain ⟨h0, h1, h2, h3, h4⟩ := ix_it x.at_ x.len x.flow x.band x.mark w
  rcases (by omega : j = 0 ∨ j = 1 ∨ j = 2 ∨ j = 3 ∨ j = 4) with rfl | rfl | rfl | rfl | rfl
  · exact h0
  · exact h1
  · exact h2
  · exact h3
  · exact h4
theorem nums_bd {x : It} (h : ItFine x) (j : Nat) : 0 ≤ (nums x).getD j 0 ∧ (nums x).getD j 0 ≤ 1000000000 := by
  have := h.f0; have := h.f1; have := h.f2; have := h.f3; have := h.f4
  rcases (by omega : j = 0 ∨ j = 1 ∨ j = 2 ∨ j = 3 ∨ j = 4 ∨ 5 ≤ j) with rfl | rfl | rfl | rfl | rfl | hj
  · show 0 ≤ x.at_ ∧ x.at_ ≤ _; omega
  · show 0 ≤ x.len ∧ x.len ≤ _; omega
  · show 0 ≤ x.flow ∧ x.flow ≤ _; omega
  · show 0 ≤ x.band ∧ x.band ≤ _; omega
  · show 0 ≤ x.mark ∧ x.mark ≤ _; omega
  · rw [List.getD, List.getElem?_eq_none (by simpa [nums] using hj)]
    simp
theorem preT_len {x : It} (h : ItFine x) : ∀ j, (preT x j).length ≤ 12 * j
  | 0 => by simp [preT]
  | j + 1 => by
    have h1 := preT_len h j
    have h2 := nums_bd h j
    have h3 := Fl.itoa_len2 h2.1 h2.2
    simp only [preT, List.length_append]
    generalize (nums x).getD j 0 = z at *
    split <;> simp <;> omega
theorem txT_len : ∀ {l : List It}, (∀ i, i < l.length → ItFine (ix l i)) → (txT l).length ≤ 61 * l.length
  | [], _ => by simp [txT]
  | x :: r, h => by
    have h1 := txT_len (l := r) (fun i hi => h (i + 1) (by simp; omega))
    have h2 := preT_len (h 0 (by simp)) 5
    have h3 : (lnT x).length ≤ 60 := by rw [← preT_5]; exact h2
    simp only [txT, List.length_append, List.length_cons]
    omega
set_option maxHeartbeats 4000000 in
set_option maxRecDepth 100000 in
theorem text_it (A : Option Addr) (n c : Nat) (l : List It) (w : World) (hr : RdIt w w.heap.size A n l) (hn : n ≤ 1000) (hfi : ∀ i, i < n → ItFine (ix l i)) (hv : PvN w) :
    Calls Tryd.prog 9 #[.slice A n c] w fun e w' => e = .returned (.string ⟨(txT l).toArray⟩) ∧ Below w.heap.size w w' := by
  have hl := hr.len
  have htl := txT_len (l := l) (fun i hi => hfi i (by omega))
  have HR := Lib.hid hr; have HFI := Lib.hid hfi; have HV := Lib.hid hv; have HL := Lib.hid hl; have HTL := Lib.hid htl
  clear hr hfi hv htl
  go_enter Tryd.func9, Tryd.ntmps9
  go_wp2_with fail
  have hs0 := Lib.fresh_isBuilder 57 5 w
  have hb0 : Below w.heap.size w (w.alloc (.cells #[.pointer none, .slice none 0 0] 57)) := (Below.refl w.heap.size w).alloc (Nat.le_refl _) _
  have HS0 := Lib.hid hs0; have HB0 := Lib.hid hb0
  clear hs0 hb0
  go_loopw [10] (fun iv wr => ∃ k : Nat, k ≤ n ∧ iv = .int .i64 k ∧ Hid (Lib.IsBuilder 57 5 w.heap.size w.heap.size (Lib.byteCells (txT (l.take k))) wr ∧ Below w.heap.size w wr)) (fun iv _ => n - (intOf iv).toNat)
  case atStart => exact ⟨0, Nat.zero_le _, rfl, Lib.hid ⟨HS0.out, HB0.out⟩⟩
  case round =>
    obtain ⟨k, hk, rfl, hx⟩ := hrel
    obtain ⟨hbl, hb⟩ := hx.out
    by_cases hlt : k < n
    · obtain ⟨b, off, rfl, hbB⟩ := HR.out.addr hlt
      obtain ⟨c0, c1, c2, c3, c4⟩ := (HR.out.over hb (Nat.le_refl _)).cells hlt
      have hfx := HFI.out k hlt
      have htk : txT (l.take (k + 1)) = txT (l.take k) ++ (lnT (ix l k) ++ [10]) := by
        rw [← txT_snoc, List.take_add_one, List.getElem?_eq_getElem (by omega)]
        simp [ix, List.getD, List.getElem?_eq_getElem (show k < l.length by omega)]
      have hlk : (txT (l.take k)).length ≤ 61 * 1000 := by
        have := txT_len (l := l.take k) (fun i hi => by
          have hi2 : i < k := by simp at hi; omega
          have : ix (l.take k) i = ix l i := by first | (simp [ix, List.getD, hi2]; done) | simp [ix, List.getD, List.getElem?_take, hi2]
          rw [this]; exact HFI.out i (by omega))
        simp at this
        omega
      generalize ix l k = x at *
      have hbl2 : Lib.IsBuilder 57 5 w.heap.size w.heap.size (Lib.byteCells (txT (l.take k))) (wr.alloc (.cells #[.int .i64 x.at_, .int .i64 x.len, .int .i64 x.flow, .int .i64 x.band, .int .i64 x.mark] 31)) := bld_below hbl ((Below.refl _ _).alloc (Nat.le_refl _) _)
      have hb2 : Below w.heap.size w (wr.alloc (.cells #[.int .i64 x.at_, .int .i64 x.len, .int .i64 x.flow, .int .i64 x.band, .int .i64 x.mark] 31)) := hb.alloc hb.size _
      have HBL2 := Lib.hid hbl2; have HB2 := Lib.hid hb2; have HFX := Lib.hid hfx; have HTK := Lib.hid htk; have HLK := Lib.hid hlk
      clear hbl hb hx hbl2 hb2 hfx htk hlk
      go_wp2_with fail
      go_loopw [25] (fun jv wr' => ∃ j : Nat, j ≤ 5 ∧ jv = .int .i64 j ∧ Hid (Lib.IsBuilder 57 5 w.heap.size w.heap.size (Lib.byteCells (txT (l.take k) ++ preT x j)) wr' ∧ Below w.heap.size w wr')) (fun jv _ => 5 - (intOf jv).toNat)
      case atStart => exact ⟨0, by omega, rfl, Lib.hid ⟨by rw [preT, List.append_nil]; exact HBL2.out, HB2.out⟩⟩
      case round =>
        obtain ⟨j, hj, rfl, hx⟩ := hrel
        obtain ⟨hbl, hb⟩ := hx.out
        have hpl := preT_len HFX.out j
        by_cases hj5 : j < 5
        · have jj : (j : Int) < 5 := by omega
          have hix := fun W => ix_num x j hj5 W
          have hz := nums_bd HFX.out j
          have hzl := Fl.itoa_len2 hz.1 hz.2
          have hpre : preT x (j + 1) = preT x j ++ ((if 0 < j then [32] else []) ++ Lib.itoa ((nums x).getD j 0)) := rfl
          have hit := fun W (h : Below w.heap.size w W) => itoa_n ((nums x).getD j 0) (by omega) (by omega) W (HV.out.below h HV.out.sz)
          have HPRE := Lib.hid hpre; have HIT := Lib.hid hit; have HBL := Lib.hid hbl; have HB := Lib.hid hb
          obtain ⟨bs, hbs⟩ : ∃ bs, txT (l.take k) ++ preT x j = bs := ⟨_, rfl⟩
          rw [hbs] at HBL
          have hbsl : bs.length ≤ 61 * 1000 + 60 := by rw [← hbs, List.length_append]; have := HLK.out; omega
          have HBS := Lib.hid hbs
          generalize (nums x).getD j 0 = z at *
          clear hbl hb hx hpre hit hbs
          by_cases hj0 : 0 < j
          · have j0 : (0 : Int) < (j : Int) := by omega
            have HWB := Lib.hid (Tryd.Builder_WriteByte w.heap.size w.heap.size (Lib.byteCells bs) 32 wr HBL.out (by rw [Lib.byteCells_length]; omega) HB.out.size)
            go_wp2_with fail
            (with_reducible refine HWB.out.mono ?_)
            rintro e w3 ⟨rfl, hb3, hbb3⟩
            have HBB3 := Lib.hid (HB.out.trans hbb3)
            have HB3 : Hid (Lib.IsBuilder 57 5 w.heap.size w.heap.size (Lib.byteCells (bs ++ [32])) w3) := Lib.hid (by rw [chunk_app]; exact .inr hb3)
            clear hb3 hbb3
            go_wp2_with fail
            (with_reducible refine (HIT.out _ HBB3.out).mono ?_)
            rintro e w4 ⟨hb4, rfl⟩
            have HB4 := Lib.hid (bld_below HB3.out hb4)
            have HBB4 := Lib.hid (HBB3.out.trans (hb4.mono HBB3.out.size))
            have HWS := Lib.hid (Tryd.Builder_WriteString w.heap.size w.heap.size (Lib.byteCells (bs ++ [32])) ⟨(Lib.itoa z).toArray⟩ w4 HB4.out (by rw [Lib.byteCells_length]; show _ + (Lib.itoa z).toArray.size ≤ _; simp; omega) HBB4.out.size)
            clear hb4
            go_wp2_with fail
            (with_reducible refine HWS.out.mono ?_)
            rintro e w5 ⟨rfl, hb5, hbb5⟩
            have hfin : Lib.IsBuilder 57 5 w.heap.size w.heap.size (Lib.byteCells (txT (l.take k) ++ preT x (j + 1))) w5 := by
              have e : Lib.byteCells (txT (l.take k) ++ preT x (j + 1)) = Lib.byteCells (bs ++ [32]) ++ Lib.strCells ⟨(Lib.itoa z).toArray⟩ := by
                rw [HPRE.out, if_pos hj0, ← HBS.out]
                simp [Lib.byteCells, Lib.strCells]
              rw [e]; exact .inr hb5
            have HF := Lib.hid hfin; have HBB5 := Lib.hid (HBB4.out.trans hbb5)
            clear hfin hb5 hbb5
            go_wp2_with fail
            exact ⟨⟨j + 1, by omega, by go_num, Lib.hid ⟨HF.out, HBB5.out⟩⟩, by simp [intOf]; omega⟩
          · obtain rfl : j = 0 := by omega
            have hix0 : ∀ W, (Instr.index 58 (.agg #[.int .i64 x.at_, .int .i64 x.len, .int .i64 x.flow, .int .i64 x.band, .int .i64 x.mark]) (.int .i64 0)).run Tryd.prog W = .ok (.int .i64 z) W := hix
            go_wp2_with fail
            (with_reducible refine (HIT.out _ HB.out).mono ?_)
            rintro e w4 ⟨hb4, rfl⟩
            have HB4 := Lib.hid (bld_below HBL.out hb4)
            have HBB4 := Lib.hid (HB.out.trans (hb4.mono HB.out.size))
            have HWS := Lib.hid (Tryd.Builder_WriteString w.heap.size w.heap.size (Lib.byteCells bs) ⟨(Lib.itoa z).toArray⟩ w4 HB4.out (by rw [Lib.byteCells_length]; show _ + (Lib.itoa z).toArray.size ≤ _; simp; omega) HBB4.out.size)
            clear hb4
            go_wp2_with fail
            (with_reducible refine HWS.out.mono ?_)
            rintro e w5 ⟨rfl, hb5, hbb5⟩
            have hfin : Lib.IsBuilder 57 5 w.heap.size w.heap.size (Lib.byteCells (txT (l.take k) ++ preT x (0 + 1))) w5 := by
              have e : Lib.byteCells (txT (l.take k) ++ preT x (0 + 1)) = Lib.byteCells bs ++ Lib.strCells ⟨(Lib.itoa z).toArray⟩ := by
                rw [HPRE.out, if_neg hj0, ← HBS.out]
                simp [Lib.byteCells, Lib.strCells]
              rw [e]; exact .inr hb5
            have HF := Lib.hid hfin; have HBB5 := Lib.hid (HBB4.out.trans hbb5)
            clear hfin hb5 hbb5
            go_wp2_with fail
            exact ⟨⟨0 + 1, by omega, by go_num, Lib.hid ⟨HF.out, HBB5.out⟩⟩, by simp [intOf]⟩
        · obtain rfl : j = 5 := by omega
          have HWB := Lib.hid (Tryd.Builder_WriteByte w.heap.size w.heap.size (Lib.byteCells (txT (l.take k) ++ preT x 5)) 10 wr hbl (by rw [Lib.byteCells_length, List.length_append]; have := HLK.out; omega) hb.size)
          have HB := Lib.hid hb
          clear hbl hb hx
          go_wp2_with fail
          (with_reducible refine HWB.out.mono ?_)
          rintro e w3 ⟨rfl, hb3, hbb3⟩
          have hfin : Lib.IsBuilder 57 5 w.heap.size w.heap.size (Lib.byteCells (txT (l.take (k + 1)))) w3 := by
            have e : Lib.byteCells (txT (l.take (k + 1))) = Lib.byteCells (txT (l.take k) ++ preT x 5) ++ [.int .u8 10] := by
              rw [HTK.out, preT_5, ← List.append_assoc, chunk_app]; rfl
            rw [e]; exact .inr hb3
          have HF := Lib.hid hfin; have HBB3 := Lib.hid (HB.out.trans hbb3)
          clear hfin hb3 hbb3
          go_wp2_with fail
          exact ⟨⟨k + 1, by omega, by go_num, Lib.hid ⟨HF.out, HBB3.out⟩⟩, by simp [intOf]; omega⟩
    · obtain rfl : k = n := by omega
      rw [List.take_of_length_le (by omega)] at hbl
      have HST := Lib.hid (Tryd.Builder_String_any w.heap.size w.heap.size (txT l) wr hbl hb.size)
      have HB := Lib.hid hb
      clear hbl hb hx
      go_wp2_with fail
      (with_reducible refine HST.out.mono ?_)
      rintro e w3 ⟨rfl, hb3⟩
      have HB3 := Lib.hid hb3
      clear hb3
      go_wp2_with fail
      go_ret
      exact ⟨rfl, HB.out.trans HB3.out⟩
end Go.Proofs.YtdipehgijjkfdaaDoor
