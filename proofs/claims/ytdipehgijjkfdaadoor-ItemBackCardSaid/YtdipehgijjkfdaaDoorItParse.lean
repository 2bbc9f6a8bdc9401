/-
  item.Parse at packets' lines.
-/
import Derived.Test.YtdipehgijjkfdaaDoorItPaM
namespace Go.Proofs.YtdipehgijjkfdaaDoor
open Go.RowKit Bkt
set_option linter.unusedVariables false
attribute [local go_sem] Oper.semAt_some
theorem lnT_no10 {x : It} (h : ItFine x) : (10 : UInt8) ∉ lnT x := by
  have hn : ∀ j, (10 : UInt8) ∉ Lib.itoa ((nums x).getD j 0) := fun j => (Bo.pure_itoa (nums_bd h j).1).2
  rw [← preT_5]
  have h0 := hn 0; have h1 := hn 1; have h2 := hn 2; have h3 := hn 3; have h4 := hn 4
  simp only [preT, List.mem_append, List.nil_append]
  simp
  exact ⟨⟨⟨⟨by simpa using h0, by simpa using h1⟩, by simpa using h2⟩, by simpa using h3⟩, by simpa using h4⟩
set_option maxHeartbeats 8000000 in
set_option maxRecDepth 100000 in
theorem parse_it (l : List It) (hf : ListFine l) (w : World) (hv : PvN w) (hg : Handle w) :
    Calls Tryd.prog 8 #[.string ⟨(txT l).toArray⟩] w fun e w' => ∃ A c, e = .returned (.tuple #[.slice A l.length c, .nilIface]) ∧ RdIt w' w'.heap.size A l.length l ∧ Below w.heap.size w w' := by
  have hfn : ∀ f, Fence.wide.fn f := fun _ => trivial
  have hdp : Fence.wide.depth = none := rfl
  have hl100 := hf.1
  have htl := txT_len hf.2.1
  have hcut := sq_cuts 10 (l.map lnT ++ [[]]) (by simp) (fun s hs => by
    rcases List.mem_append.1 hs with hs | hs
    · obtain ⟨x, hx, rfl⟩ := List.mem_map.1 hs
      obtain ⟨i, hi, e⟩ := List.getElem_of_mem hx
      have : ix l i = x := by simp [ix, List.getD, List.getElem?_eq_getElem hi, e]
      exact lnT_no10 (this ▸ hf.2.1 i hi)
    · simp at hs; subst hs; simp) (by rw [glue_lines]; omega) (w.heap.size + 5) (w.heap.size + 4) (w.heap.size + 6) (by omega) (by omega) (by omega)
  rw [List.length_append, List.length_map, List.length_singleton] at hcut
  obtain ⟨wd, hwd⟩ : ∃ wd : Nat → List UInt8, (fun k => (l.map lnT ++ [[]]).getD k []) = wd := ⟨_, rfl⟩
  have hcut' : Cuts Tryd.prog 36 #[.pointer (some ⟨w.heap.size + 5, 0, none⟩), .pointer (some ⟨w.heap.size + 4, 0, none⟩), .pointer (some ⟨w.heap.size + 6, 0, none⟩)] (l.length + 1) (fun k => #[.string ⟨(wd k).toArray⟩]) (fun i => i = w.heap.size + 5 ∨ i = w.heap.size + 4 ∨ i = w.heap.size + 6) (fun k W => SqT 10 (w.heap.size + 5) (w.heap.size + 4) (w.heap.size + 6) (glue 10 ((l.map lnT ++ [[]]).drop k)) W) := by
    rw [← hwd]; exact hcut
  have HCUT := Lib.hid hcut'
  have HWD := Lib.hid hwd; have HF := Lib.hid hf; have HV := Lib.hid hv; have HG := Lib.hid hg
  clear hcut' hwd hcut hf hv hg
  obtain ⟨tx, htx⟩ : ∃ tx, txT l = tx := ⟨_, rfl⟩
  have HTX := Lib.hid htx
  rw [htx]
  rw [htx] at htl
  clear htx
  have d0 : decide ((20000 : Int) < (tx.length : Int)) = false := decide_eq_false (by omega)
  have hsz := sq_len tx
  refine (callsIn_wide (n := 0)).1 ?_
  refine callsIn_of_wp_marks Tryd.func8 rfl trivial ?_ rfl
  simp only [Tryd.ntmps8, List.size_toArray, List.length_cons, List.length_nil, Nat.reduceAdd, Nat.reduceSub, Array.replicate_succ, Array.replicate_zero, List.push_toArray, List.append_toArray, List.nil_append, List.cons_append]
  gi_wp2_with (gi_at_call 16; refine (callsIn_wide.2 (split_seq _ _ _)).mono ?_; rintro e w' ⟨rfl, rfl⟩)
  have HST := Lib.hid (pa_start w tx l)
  have HSQ := Lib.hid (pa_sq w tx)
  have hsw : (PaW w tx).heap.size = w.heap.size + 7 := by simp [PaW]
  have HSW := Lib.hid hsw
  clear hsw
  change Code.wpIn _ _ _ _ _ _ (PaW w tx)
  generalize PaW w tx = W0 at *
  refine range_law (gf := 36) rfl (enters_of Tryd.func36 (by kernel_rfl) rfl) HCUT.out (fun _ => rfl) ?hZ ?hT (PaI w l) ?hI HST.out (fun k => { tmps := #[.string ⟨tx.toArray⟩, undef, .pointer (some ⟨w.heap.size, 0, none⟩), .pointer (some ⟨w.heap.size + 1, 0, none⟩), .pointer (some ⟨w.heap.size + 1 + 1, 0, none⟩), .pointer (some ⟨w.heap.size + 1 + 1 + 1, 0, none⟩), .string ⟨(wd k).toArray⟩, undef, undef, .string ⟨tx.toArray⟩, .int .i64 (tx.length : Nat), .bool false, undef, .string ⟨tx.toArray⟩, .func (.func 36) #[] #[.pointer (some ⟨w.heap.size + 1 + 1 + 1 + 1 + 1, 0, none⟩), .pointer (some ⟨w.heap.size + 1 + 1 + 1 + 1, 0, none⟩), .pointer (some ⟨w.heap.size + 1 + 1 + 1 + 1 + 2, 0, none⟩)], .string ⟨(wd k).toArray⟩, undef, undef, undef, undef, undef, undef, undef, undef, undef, undef, undef, undef, undef, undef, undef, undef, undef, undef, undef, undef, undef, undef, undef, undef, undef, undef, undef, undef, undef, undef, undef, undef, undef, undef, undef, undef, undef], defers := [] }) ?assign ?body ?done
  case hZ =>
    have := HSW.out
    rintro i (rfl | rfl | rfl) <;> omega
  case hT =>
    intro W hs
    have h9 := HSQ.out.same hs
    rw [← HTX.out, ← glue_lines] at h9
    exact h9
  case hI =>
    intro k W1 W2 h hc
    have := HSW.out
    exact h.chg (hc.mono fun i _ hi => by rcases hi with (e | e | e) | e <;> omega)
  case assign =>
    intro l k W K hK
    gi_wp2
    exact hK
  case body =>
    intro r k W hI hk hsz
    have hs0 := HSW.out
    dsimp only
    by_cases hlt : k < l.length
    · have hlk : l[k]? = some (ix l k) := by simp [ix, List.getD, List.getElem?_eq_getElem hlt]
      have hfx := HF.out.2.1 k hlt
      have hwk : wd k = lnT (ix l k) := by
        rw [← HWD.out]
        show (l.map lnT ++ [[]]).getD k [] = _
        rw [List.getD, List.getElem?_append_left (by simpa using hlt), List.getElem?_map, hlk]; rfl
      have htk : l.take (k + 1) = l.take k ++ [ix l k] := by rw [List.take_add_one, hlk]; rfl
      have hlf : ListFine (l.take (k + 1)) := by
        have hi : ∀ i, i < k + 1 → ix (l.take (k + 1)) i = ix l i := fun i hi => by first | (simp [ix, List.getD, hi]; done) | simp [ix, List.getD, List.getElem?_take, hi]
        have hll : (l.take (k + 1)).length = k + 1 := by rw [List.length_take]; omega
        refine ⟨by omega, fun i hi2 => ?_, fun i hi2 => ?_⟩
        · rw [hi i (by omega)]; exact HF.out.2.1 i (by omega)
        · rw [hi i (by omega), hi (i + 1) (by omega)]; exact HF.out.2.2 i (by omega)
      have hbl := preT_len hfx 5
      rw [preT_5] at hbl
      have hne : lnT (ix l k) ≠ [] := by
        intro e
        have : Lib.itoa ((nums (ix l k)).getD 0 0) ≠ [] := by
          obtain ⟨u, hu⟩ := Int.eq_ofNat_of_zero_le (nums_bd hfx 0).1
          rw [hu, show Lib.itoa ((u : Nat) : Int) = Lib.decDigits u from Bo.itoa_nat u]
          exact Bo.dec_ne u
        rw [← preT_5] at e
        simp [preT] at e
      generalize ix l k = x at *
      have hvW := HV.out.over hI.b
      have hline := line_f (nums x) rfl (fun z hz => by
        obtain ⟨i, hi, e⟩ := List.getElem_of_mem hz
        have := nums_bd hfx i
        rw [List.getD, List.getElem?_eq_getElem hi, e] at this
        exact this) W hvW (by show (lnT x).length ≤ _; omega)
      have HLINE : Hid (Calls Tryd.prog 17 #[.string ⟨(lnT x).toArray⟩] W fun e w' => e = .returned (.tuple #[.agg #[.int .i64 x.at_, .int .i64 x.len, .int .i64 x.flow, .int .i64 x.band, .int .i64 x.mark], .nilIface]) ∧ Below W.heap.size W w') := Lib.hid hline
      rw [hwk]
      have hse : (lnT x == []) = false := by rw [beq_eq_false_iff_ne]; exact hne
      have hsl := sq_len (lnT x)
      have HI := Lib.hid hI; have HLF := Lib.hid hlf; have HTK := Lib.hid htk; have HFX := Lib.hid hfx
      clear hI hlf htk hfx hline hvW hwk hlk HWD HCUT HST HSQ
      generalize lnT x = sk at *
      gi_wp2_with (gi_at_call 17; refine (CallsIn.inRound r (callsIn_wide.2 HLINE.out)).mono ?_; rintro e w1 ⟨rfl, hb1⟩; have HB1 := Lib.hid hb1; clear hb1)
      have hbA : Below W.heap.size W (w1.alloc (.cells #[.int .i64 x.at_, .int .i64 x.len, .int .i64 x.flow, .int .i64 x.band, .int .i64 x.mark] 31)) := HB1.out.alloc HB1.out.size _
      have hk7 := Blk.new w1 31 #[.int .i64 x.at_, .int .i64 x.len, .int .i64 x.flow, .int .i64 x.band, .int .i64 x.mark]
      have hs1 : (w1.alloc (.cells #[.int .i64 x.at_, .int .i64 x.len, .int .i64 x.flow, .int .i64 x.band, .int .i64 x.mark] 31)).heap.size = w1.heap.size + 1 := by simp
      have HBA := Lib.hid hbA; have HK7 := Lib.hid hk7; have HS1 := Lib.hid hs1
      clear hbA hk7 hs1
      generalize w1.alloc (.cells #[.int .i64 x.at_, .int .i64 x.len, .int .i64 x.flow, .int .i64 x.band, .int .i64 x.mark] 31) = W1 at *
      have hI1 := HI.out.chg (Chg.of_below (S := fun i => w.heap.size + 4 ≤ i ∧ i < w.heap.size + 9) HBA.out)
      obtain ⟨v, hbk, hown⟩ := hI1.out
      rw [Nat.min_eq_left (by omega)] at hown
      have hlt9 := fun j hj => (hown.lt j hj).1
      obtain ⟨A, c, rfl, hc, hnone, hrd⟩ := hown.reads
      have HS : Hid (∀ wx, Below W1.heap.size W1 wx → wx.cell? ⟨w.heap.size + 1 + 1, 0, none⟩ = some (.slice A k c) ∧ wx.cell? ⟨w1.heap.size, 0, none⟩ = some (.int .i64 x.at_) ∧ wx.cell? ⟨w1.heap.size, 1, none⟩ = some (.int .i64 x.len) ∧ wx.cell? ⟨w1.heap.size, 2, none⟩ = some (.int .i64 x.flow) ∧ wx.cell? ⟨w1.heap.size, 3, none⟩ = some (.int .i64 x.band) ∧ wx.cell? ⟨w1.heap.size, 4, none⟩ = some (.int .i64 x.mark)) := Lib.hid fun wx h => by
        have e1 := hbk.below h hbk.lt; have e2 := HK7.out.below h HK7.out.lt
        exact ⟨e1.cell 0, e2.cell 0, e2.cell 1, e2.cell 2, e2.cell 3, e2.cell 4⟩
      have HSD : Hid (_ ∧ _ ∧ _ ∧ _ ∧ _ ∧ _) := Lib.hid (HS.out W1.drew (bl_drew (Below.refl _ _)))
      have HI1 := Lib.hid hI1; have HBK := Lib.hid hbk; have HOWN := Lib.hid hown; have HRD := Lib.hid hrd; have HLT := Lib.hid hlt9
      have HNO := Lib.hid hnone
      clear hI1 hbk hown hrd hlt9 hnone
      obtain ⟨i0, hi0, hz0, hz1, hz2⟩ := info_parts Tryd.itInfo
      have HNN : Hid (A = none → k = 0 ∧ k = 0) := Lib.hid (fun e => by have := HNO.out e; omega)
      have HLO : Hid (((l.take k).flatMap ItR.cells).length = k * 5) := Lib.hid (by rw [flatR_len, List.length_take, Nat.min_eq_left (by omega)]; rfl)
      have HOLD : Hid (∀ W', Below W1.heap.size W1 W' → ∀ b, A = some b → ∀ (j : Nat) (u : Value), ((l.take k).flatMap ItR.cells)[j]? = some u → W'.cell? (b.add j) = some u) := Lib.hid fun W' h b e j u hj => by
        have hk1 : 0 < k := by rcases Nat.eq_zero_or_pos k with h0 | h0; (subst h0; simp at hj); exact h0
        obtain ⟨ad, e', hbb, hcc⟩ := HRD.out.2 (by omega)
        rw [e] at e'; injection e' with e'; subst e'
        have e2 : (b.add j).block = b.block := by unfold Addr.add; split <;> rfl
        exact (h.cell (p := b.add j) (by rw [e2]; exact hbb)).trans (hcc j u hj)
      have HCX : Hid (∀ W', Blk W' W1.heap.size 31 #[.int .i64 x.at_, .int .i64 x.len, .int .i64 x.flow, .int .i64 x.band, .int .i64 x.mark] → ∀ (j : Nat) (u : Value), (itCells x)[j]? = some u → W'.cell? ((⟨W1.heap.size, 0, none⟩ : Addr).add j) = some u) := Lib.hid fun W' h j u hj => by
        have e2 : (⟨W1.heap.size, 0, none⟩ : Addr).add j = ⟨W1.heap.size, j, none⟩ := by unfold Addr.add; split <;> simp_all
        rw [e2, h.cell j, ← hj]; simp [itCells]
      have hHA : Handle W1 := HG.out.below (HI.out.b.trans (HBA.out.mono HI.out.b.size))
      have HLST : Hid (∀ w3 A3 c3, Below W1.heap.size W1 w3 → Reads w3 w3.heap.size 5 A3 (k + 1) ((l.take k).flatMap ItR.cells ++ itCells x) → Calls Tryd.prog 7 #[.slice A3 (k + 1) c3] w3 fun e w' => e = .returned .nilIface ∧ Below w3.heap.size w3 w') := Lib.hid fun w3 A3 c3 hb hr => by
        have hrd : RdIt w3 w3.heap.size A3 (k + 1) (l.take (k + 1)) := by
          have e : (l.take (k + 1)).flatMap itCells = (l.take k).flatMap ItR.cells ++ itCells x := by rw [HTK.out, List.flatMap_append]; simp [ItR]
          show Reads _ _ _ _ _ ((l.take (k + 1)).flatMap itCells)
          rw [e]; exact hr
        refine (list_any A3 (k + 1) c3 (l.take (k + 1)) w3 hrd (hHA.below hb)).mono ?_
        rintro e w' (⟨_, rfl, h⟩ | ⟨h, _⟩)
        · exact ⟨rfl, h⟩
        · exact absurd HLF.out h
      clear hHA
      refine region_in_till (fun wx => wx.cell? ⟨w.heap.size + 1 + 1, 0, none⟩ = some (.slice A k c) ∧ wx.cell? ⟨w1.heap.size, 0, none⟩ = some (.int .i64 x.at_) ∧ wx.cell? ⟨w1.heap.size, 1, none⟩ = some (.int .i64 x.len) ∧ wx.cell? ⟨w1.heap.size, 2, none⟩ = some (.int .i64 x.flow) ∧ wx.cell? ⟨w1.heap.size, 3, none⟩ = some (.int .i64 x.band) ∧ wx.cell? ⟨w1.heap.size, 4, none⟩ = some (.int .i64 x.mark)) [] (by rintro ⟨a9, w9, h9⟩; exact Exit.noConfusion h9.1) (by kernel_rfl) (by kernel_rfl) ?_
      refine till_take 0 [] _ ?_ (by simp only [List.getElem?_toArray, List.getElem?_cons_zero]; rfl) (by kernel_rfl) (by kernel_rfl) (by kernel_rfl) (by kernel_rfl) (by kernel_rfl) (by intro _ _ _ _ h; exact h) (Or.inl ⟨by rfl, ?_⟩) HSD.out ?_
      rotate_left 1; focus (intro wx hSw; (try dsimp only at hSw); obtain ⟨q0, q1, q2, q3, q4, q5⟩ := hSw; go_simp; try with_reducible rfl)
      try simp only [Act.put, List.setIfInBounds_toArray, List.set_cons_zero, List.set_cons_succ]
      refine till_take 1 [] _ ?_ (by simp only [List.getElem?_toArray, List.getElem?_cons_succ, List.getElem?_cons_zero]; rfl) (by kernel_rfl) (by kernel_rfl) (by kernel_rfl) (by kernel_rfl) (by kernel_rfl) (by intro _ _ _ _ h; exact h) (Or.inl ⟨by rfl, ?_⟩) HSD.out ?_
      rotate_left 1; focus (intro wx hSw; (try dsimp only at hSw); obtain ⟨q0, q1, q2, q3, q4, q5⟩ := hSw; go_simp; try with_reducible rfl)
      try simp only [Act.put, List.setIfInBounds_toArray, List.set_cons_zero, List.set_cons_succ]
      refine till_take 3 [] _ ?_ (by simp only [List.getElem?_toArray, List.getElem?_cons_succ, List.getElem?_cons_zero]; rfl) (by kernel_rfl) (by kernel_rfl) (by kernel_rfl) (by kernel_rfl) (by kernel_rfl) (by intro _ _ _ _ h; exact h) (Or.inl ⟨by rfl, ?_⟩) HSD.out ?_
      rotate_left 1; focus (intro wx hSw; (try dsimp only at hSw); obtain ⟨q0, q1, q2, q3, q4, q5⟩ := hSw; go_simp; try with_reducible rfl)
      try simp only [Act.put, List.setIfInBounds_toArray, List.set_cons_zero, List.set_cons_succ]
      refine till_take 6 [] _ ?_ (by simp only [List.getElem?_toArray, List.getElem?_cons_succ, List.getElem?_cons_zero]; rfl) (by kernel_rfl) (by kernel_rfl) (by kernel_rfl) (by kernel_rfl) (by kernel_rfl) (by intro _ _ _ _ h; exact h) (Or.inl ⟨by rfl, ?_⟩) HSD.out ?_
      rotate_left 1; focus (intro wx hSw; (try dsimp only at hSw); obtain ⟨q0, q1, q2, q3, q4, q5⟩ := hSw; go_simp; try with_reducible rfl)
      try simp only [Act.put, List.setIfInBounds_toArray, List.set_cons_zero, List.set_cons_succ]
      refine till_take 2 [] _ ?_ (by simp only [List.getElem?_toArray, List.getElem?_cons_succ, List.getElem?_cons_zero]; rfl) (by kernel_rfl) (by kernel_rfl) (by kernel_rfl) (by kernel_rfl) (by kernel_rfl) (by intro _ _ _ _ h; exact h) (Or.inl ⟨by rfl, ?_⟩) HSD.out ?_
      rotate_left 1; focus (intro wx hSw; (try dsimp only at hSw); obtain ⟨q0, q1, q2, q3, q4, q5⟩ := hSw; go_simp; try with_reducible rfl)
      try simp only [Act.put, List.setIfInBounds_toArray, List.set_cons_zero, List.set_cons_succ]
      refine till_take 4 [] _ ?_ (by simp only [List.getElem?_toArray, List.getElem?_cons_succ, List.getElem?_cons_zero]; rfl) (by kernel_rfl) (by kernel_rfl) (by kernel_rfl) (by kernel_rfl) (by kernel_rfl) (by intro _ _ _ _ h; exact h) (Or.inl ⟨by rfl, ?_⟩) HSD.out ?_
      rotate_left 1; focus (intro wx hSw; (try dsimp only at hSw); obtain ⟨q0, q1, q2, q3, q4, q5⟩ := hSw; go_simp; try with_reducible rfl)
      try simp only [Act.put, List.setIfInBounds_toArray, List.set_cons_zero, List.set_cons_succ]
      refine till_take 5 [] _ (.slice A k k) (by simp only [List.getElem?_toArray, List.getElem?_cons_succ, List.getElem?_cons_zero]; rfl) (by kernel_rfl) (by kernel_rfl) (by kernel_rfl) (by kernel_rfl) (by kernel_rfl) (by intro _ _ _ _ h; exact h) (Or.inl ⟨by rfl, ?_⟩) HSD.out ?_
      · intro wx hSw
        cases A with
        | none =>
          have hc0 : c = 0 := HNO.out rfl
          have hk0 : k = 0 := by omega
          subst hc0; subst hk0
          go_simp
        | some ad =>
          have i1 : (k : Int) ≤ (c : Int) := by omega
          go_simp
      try simp only [Act.put, List.setIfInBounds_toArray, List.set_cons_zero, List.set_cons_succ]
      refine till_ready [7] (by kernel_rfl) (by simp) ?_
      refine alls_cons (by simp only [List.getElem?_toArray, List.getElem?_cons_succ, List.getElem?_cons_zero]; rfl) (fun K hK => ?_) alls_nil
      go_simp
      refine hK.out _ _ (fun _ => HS.out _ (by first | exact bl_drew (bl_alloc (Below.refl _ _)) | exact bl_alloc (bl_drew (Below.refl _ _)))) ?_
      clear hK K
      try simp only [Act.put, List.setIfInBounds_toArray, List.set_cons_zero, List.set_cons_succ]
      refine till_ready [8] (by kernel_rfl) (by simp) ?_
      refine alls_cons (by simp only [List.getElem?_toArray, List.getElem?_cons_succ, List.getElem?_cons_zero]; rfl) (fun K hK => ?_) alls_nil
      refine step_append_grows rfl (.tmp 30) (.tmp 32) 22 rfl 31 i0 _ 5 40 Tryd.underlying22 hi0 hz0 hz1 hz2 rfl (by decide) A k k ((l.take k).flatMap ItR.cells) rfl HNN.out HLO.out (HOLD.out _ (by first | exact bl_drew (bl_alloc (Below.refl _ _)) | exact bl_alloc (bl_drew (Below.refl _ _)))) ⟨W1.heap.size, 0, none⟩ 1 1 (itCells x) (by first | rfl | (show Value.slice _ _ _ = _; simp; done)) rfl (HCX.out _ (by first | exact (Blk.new W1 _ _).drew | exact Blk.new W1.drew _ _)) (it_one x) (by omega) (by simp only [maxLen]; omega) (by omega) ?_
      intro v3 w3 hown3 hgr3
      obtain ⟨A3, c3, rfl, hrd3⟩ := own_reads hown3
      have hb3 : Below W1.heap.size W1 w3 := Below.grown (row := none) (by first | exact bl_drew (bl_alloc (Below.refl _ _)) | exact bl_alloc (bl_drew (Below.refl _ _))) hgr3 (by simp) (fun k e => by cases e)
      have HLS := Lib.hid (HLST.out w3 A3 c3 hb3 hrd3)
      have HB3 := Lib.hid hb3
      clear hown3 hgr3 hrd3 hb3
      refine hK.out _ _ (fun _ => HS.out _ HB3.out) ?_
      clear hK K
      try simp only [Act.put, List.setIfInBounds_toArray, List.set_cons_zero, List.set_cons_succ]
      refine till_ready [9] (by kernel_rfl) (by simp) ?_
      refine alls_cons (by simp only [List.getElem?_toArray, List.getElem?_cons_succ, List.getElem?_cons_zero]; rfl) (fun K hK => ?_) alls_nil
      go_simp
      go_at_call 7; (with_reducible refine HLS.out.mono ?_); rintro e w4 ⟨rfl, hb4⟩
      have HB4 := Lib.hid (HB3.out.trans (hb4.mono HB3.out.size)); clear hb4
      refine hK.out _ _ (fun _ => HS.out _ HB4.out) ?_
      clear hK K
      try simp only [Act.put, List.setIfInBounds_toArray, List.set_cons_zero, List.set_cons_succ]
      have HSE : Hid (_ ∧ _ ∧ _ ∧ _ ∧ _ ∧ _) := Lib.hid (HS.out w4 HB4.out)
      refine till_take 10 [] _ ?_ (by simp only [List.getElem?_toArray, List.getElem?_cons_succ, List.getElem?_cons_zero]; rfl) (by kernel_rfl) (by kernel_rfl) (by kernel_rfl) (by kernel_rfl) (by kernel_rfl) (by intro _ _ _ _ h; exact h) (Or.inl ⟨by rfl, ?_⟩) HSE.out ?_
      rotate_left 1; focus (intro wx hSw; (try dsimp only at hSw); obtain ⟨q0, q1, q2, q3, q4, q5⟩ := hSw; go_simp; try with_reducible rfl)
      try simp only [Act.put, List.setIfInBounds_toArray, List.set_cons_zero, List.set_cons_succ]
      refine till_done (by kernel_rfl) ?_ _
      have hI4 := HI1.out.chg (Chg.of_below (S := fun i => w.heap.size + 4 ≤ i ∧ i < w.heap.size + 9) HB4.out)
      have hbk4 := HBK.out.below HB4.out HBK.out.lt
      obtain ⟨a, hat4, ha0, ha1⟩ := hI4.at_
      have HO4 : Hid (OwnW w4 (w.heap.size + 9) 31 ItR.sz (.slice A k c) k ((l.take k).flatMap ItR.cells)) := Lib.hid (HOWN.out.below HB4.out)
      obtain ⟨q0, q1, q2, q3, q4, q5⟩ := HS.out w4 HB4.out
      have f0 := hbk4.frozen 0
      have p0 := hat4.cell 0; have g0 := hat4.frozen 0
      simp at p0
      have hs4 := HB4.out.size; have hsB := HBA.out.size
      have hw4 : w.heap.size + 9 ≤ w4.heap.size := by omega
      have HI4 := Lib.hid hI4; have HBK4 := Lib.hid hbk4; have HAT4 := Lib.hid hat4
      clear hI4 hbk4 hat4
      gi_wp2_with (gi_at_builtin; refine wpListIn_addW ItR rfl (.tmp 43) (.tmp 45) 22 (w.heap.size + 9) 31 (.agg #[.int .i64 0, .int .i64 0, .int .i64 0, .int .i64 0, .int .i64 0]) 40 Tryd.underlying22 Tryd.itInfo rfl rfl (.slice A k c) k (l.take k) x #[.int .i64 x.at_, .int .i64 x.len, .int .i64 x.flow, .int .i64 x.band, .int .i64 x.mark] HO4.out rfl rfl (by show Value.slice (some ⟨w4.heap.size, 0, none⟩) 1 1 = _; simp) (it_one x) (by omega) (by omega) hw4 ?_; intro v5 w5 h1 h2 h3; rw [← HTK.out] at h1; have hb5 := HBK4.out.grown h2 (fun e => by have := HLT.out _ e.symm; omega); have ha5 := HAT4.out.grown h2 (fun e => by have := HLT.out _ e.symm; omega); have y5 := hb5.cell 0; have f5 := hb5.frozen 0; have p5 := ha5.cell 0; have g5 := ha5.frozen 0; simp at y5 p5; obtain ⟨A5, c5, rfl, _, _, _⟩ := h1.reads; have H1 := Lib.hid h1; have H2 := Lib.hid h2; clear h1 h2 h3 hb5 ha5 q0 q1 q2 q3 q4 q5 f0 p0 g0)
      have HP := Lib.hid (PaI.push (a' := a + ((sk.length : Int) + 1)) HI4.out (by omega) hw4 HBK4.out HLT.out HAT4.out (by omega) (by push_cast; omega) H1.out H2.out)
      refine ⟨HP.out.1, (by simpa using Nat.le_trans (Nat.le_trans hsB hs4) HP.out.2.1), fun i hi => ?_⟩
      have hi2 : w.heap.size + 4 ≤ i ∧ i < w.heap.size + 9 := by rcases hi with (e | e | e) | e <;> omega
      exact (HP.out.2.2 i hi2.1 hi2.2).trans ((HB4.out.block i (by omega)).trans (HBA.out.block i (by omega)))
    · obtain rfl : k = l.length := by omega
      have hwk : wd l.length = [] := by
        rw [← HWD.out]
        show (l.map lnT ++ [[]]).getD l.length [] = _
        rw [List.getD, List.getElem?_append_right (by simp)]
        simp
      rw [hwk]
      obtain ⟨a, hat4, ha0, ha1⟩ := hI.at_
      have p0 := hat4.cell 0; have g0 := hat4.frozen 0
      simp at p0
      have HI := Lib.hid hI; have HAT4 := Lib.hid hat4
      clear hI hat4 HWD HCUT HST HSQ hwk
      gi_wp2
      have HP := Lib.hid (PaI.bump (a' := a + 1) HI.out rfl (by omega) HAT4.out (by omega) (by push_cast; omega))
      refine ⟨HP.out.1, fun i hi => ?_⟩
      exact HP.out.2.2 i (by rcases hi with (e | e | e) | e <;> omega) (by rcases hi with (e | e | e) | e <;> omega)
  case done =>
    intro D W hD hD2 hI hK
    have hs0 := HSW.out
    obtain ⟨v, hbk, hown⟩ := hI.out
    rw [List.take_of_length_le (by omega), Nat.min_eq_right (by omega)] at hown
    have hlt := fun j hj => (hown.lt j hj).1
    obtain ⟨A0, c0, rfl, hc0, _, hr⟩ := hown.reads
    have y0 := hbk.cell 0
    have k0 := hI.r0.cell 0; have k1 := hI.r1.cell 0
    have g0 := hI.r0.frozen 0; have g1 := hI.r1.frozen 0
    simp at y0 k0 k1
    have HI := Lib.hid hI; have HK := Lib.hid hK; have HRR := Lib.hid hr; have HOW := Lib.hid hown
    clear hI hbk hown hr hK
    gi_wp2
    generalize hW9 : ((W.setCell ⟨w.heap.size, 0, none⟩ (.slice A0 l.length c0)).setCell ⟨w.heap.size + 1, 0, none⟩ .nilIface) = W9
    have hb9 : Blk W9 w.heap.size 22 #[.slice A0 l.length c0] := by
      rw [← hW9]
      exact (HI.out.r0.set_ 0 _).far (p := ⟨w.heap.size + 1, 0, none⟩) (by simp) _
    have hr9 : Blk W9 (w.heap.size + 1) 25 #[.nilIface] := by
      rw [← hW9]
      exact (HI.out.r1.far (p := ⟨w.heap.size, 0, none⟩) (by simp) _).set_ 0 .nilIface
    have hbl9 : Below w.heap.size w W9 := by
      rw [← hW9]
      exact (HI.out.b.setCell (p := ⟨w.heap.size, 0, none⟩) (Nat.le_refl _) _).setCell (p := ⟨w.heap.size + 1, 0, none⟩) (Nat.le_succ _) _
    have hch9 : Chg W W9 (fun i => i = w.heap.size ∨ i = w.heap.size + 1) := by
      rw [← hW9]
      exact (Chg.setCell (p := ⟨w.heap.size, 0, none⟩) (Chg.refl W _) (fun _ => .inl rfl) _).setCell (p := ⟨w.heap.size + 1, 0, none⟩) (fun _ => .inr rfl) _
    have hDl : D < W.heap.size := by
      rcases Nat.lt_or_ge D W.heap.size with h | h
      · exact h
      · have := HK.out; rw [Array.getElem?_eq_none h] at this; cases this
    have hd9 : W9.heap[D]? = some (.deferred (some [])) := (hch9.block D hDl (by omega)).trans HK.out
    have hpc : ∀ p : Addr, p.block ≠ D → (W9.putObj D (.deferred none)).cell? p = W9.cell? p := fun p hp => by unfold World.cell?; rw [World.putObj_heap_other hp]
    have r0 := (hpc ⟨w.heap.size, 0, none⟩ (by show w.heap.size ≠ D; omega)).trans (hb9.cell 0)
    have r1 := (hpc ⟨w.heap.size + 1, 0, none⟩ (by show w.heap.size + 1 ≠ D; omega)).trans (hr9.cell 0)
    simp at r0 r1
    have hbf : Below w.heap.size w (W9.putObj D (.deferred none)) := hbl9.trans ⟨rfl, rfl, rfl, by simp, fun i hi => World.putObj_heap_other (by omega)⟩
    have hch10 : Chg W (W9.putObj D (.deferred none)) (fun i => i = w.heap.size ∨ i = w.heap.size + 1 ∨ i = D) := (hch9.mono fun i _ e => e.imp id .inl).trans (chg_put D _ (.inr (.inr rfl))) (fun i _ e => e)
    have hfin : RdIt (W9.putObj D (.deferred none)) (W9.putObj D (.deferred none)).heap.size A0 l.length l := by
      have h9 := HOW.out.chg hch10 (fun j hj e => by have := hlt j hj; omega)
      obtain ⟨A', c', e, _, _, hr'⟩ := h9.reads
      injection e with e1 e2 e3
      subst e1
      exact hr'
    have HBF := Lib.hid hbf; have HD9 := Lib.hid hd9; have HFI := Lib.hid hfin
    clear hb9 hr9 hbl9 hpc hbf hd9 hlt HI HK hfin hch9 hch10 hW9
    refine ⟨by simp, .inl ⟨_, _, rfl, run_takeDeferred HD9.out, ?_⟩⟩
    exact ⟨.tuple #[.slice A0 l.length c0, .nilIface], (by simp [results, Tryd.results8, go_sem, r0, r1]), A0, c0, rfl, HFI.out, HBF.out⟩
end Go.Proofs.YtdipehgijjkfdaaDoor
