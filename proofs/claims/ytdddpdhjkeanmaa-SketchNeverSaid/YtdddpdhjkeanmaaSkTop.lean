/-
  sketch.Exact and sketch.Top: what they tell.
-/
import Derived.Test.YtdddpdhjkeanmaaSkSorted3
namespace Go.Proofs.Ytdddpdhjkeanmaa
open Go.RowKit Go.Sort Go.Shelf
open Go.Maps (Keyed int_keyed keyOf_int_mk)
set_option linter.unusedVariables false
theorem keyI {x : Int} (h : (Lit.int .i64 x).wf = true) : keyOf Try.prog 3 (.int .i64 x) = some (.int .i64 x) := keyOf_int_mk Try.underlying3 h
theorem cnt_snoc (L : List Int) (x k : Int) : Pl.cnt (L ++ [x]) k = if k = x then Pl.cnt L k + 1 else Pl.cnt L k := by
  rw [Pl.cnt_app]
  show Pl.cnt L k + ((if x = k then 1 else 0) + 0) = _
  by_cases h : k = x
  · rw [if_pos h, if_pos h.symm]; omega
  · rw [if_neg h, if_neg (fun e => h e.symm)]; omega
theorem take_next (zs : List Int) {k : Nat} (h : k < zs.length) : zs.take (k + 1) = zs.take k ++ [zs.getD k 0] := by
  rw [List.take_add_one, List.getD, List.getElem?_eq_getElem h]; rfl
theorem lookup_is {H : Type} {D : DataW H} {c : Int → Int} {x v : Int} (h : FRep D c) (e : D.atKey (.int .i64 x) (.lit (.int .i64 0)) = .lit (.int .i64 v)) : v = c x := by
  have h1 := h.at_ x
  have h2 : D.atKey (kI x) (.lit (.int .i64 0)) = .lit (.int .i64 v) := e
  rw [h1] at h2
  injection h2 with h2
  injection h2 with _ h2
  exact h2.symm
/-- a row that tells all counts -/
theorem cnt_ent : ∀ L : List Int, ∃ E, Pl.Ent E (Pl.cnt L) ∧ E.length ≤ L.length
  | [] => ⟨[], ⟨.nil, fun k v => by simp [Pl.cnt]; omega⟩, Nat.le_refl _⟩
  | y :: r => by
    obtain ⟨E0, h0, hl⟩ := cnt_ent r
    have e : Pl.cnt (y :: r) = Pl.inc (Pl.cnt r) y := by
      funext k
      show (if y = k then 1 else 0) + Pl.cnt r k = _
      unfold Pl.inc
      by_cases e : k = y
      · rw [if_pos e, if_pos e.symm]; omega
      · rw [if_neg e, if_neg (fun e2 => e e2.symm)]; omega
    rw [e]
    by_cases hz : Pl.cnt r y = 0
    · obtain ⟨E', h1, h2, _⟩ := Pl.ent_inc_new h0 hz
      exact ⟨E', h1, by rw [List.length_cons]; omega⟩
    · obtain ⟨E', h1, h2, _⟩ := Pl.ent_inc_has h0 (Pl.cnt_nn r) hz
      exact ⟨E', h1, by rw [List.length_cons]; omega⟩
structure ExRel (w wr : World) (zs : List Int) (k : Nat) (D : DataW Unit) : Prop where
  own : wr.ownsMap Try.prog 3 (plainElem Try.prog 3) w.heap.size k D
  rep : FRep D (Pl.cnt (zs.take k))
  bel : Below w.heap.size w wr
def PairsOut (w : World) (c : Int → Int) (e : Ending) (w' : World) : Prop :=
  ∃ A cap P, e = .returned (.slice A P.length cap) ∧ Pl.Ent P c ∧ RdR PrR w' w'.heap.size A P.length P ∧ Below w.heap.size w w'
set_option maxHeartbeats 1000000 in
set_option maxRecDepth 100000 in
theorem exact_any (A : Option Addr) (n c : Nat) (zs : List Int) (w : World) (hr : RdI w w.heap.size A n zs) (hw : ∀ z ∈ zs, (Lit.int .i64 z).wf = true) (hn : n ≤ 1000) :
    Calls Try.prog 7 #[.slice A n c] w fun e w' => ∃ P : List (Int × Int), P.length ≤ n ∧ Pl.Ent P (Pl.cnt zs) ∧ ∃ A' cap, e = .returned (.slice A' P.length cap) ∧ RdR PrR w' w'.heap.size A' P.length P ∧ Below w.heap.size w w' := by
  have hmm := @run_makeMap Try.prog
  have hl := hr.len
  have HR := Lib.hid hr; have HW := Lib.hid hw; have HL := Lib.hid hl
  clear hr hw hl
  have hrel0 : ExRel w (w.alloc (.map #[] 0)) zs 0 (.map []) := ⟨World.ownsMap_made _ _ _ _, frep_empty.congr (fun k => by simp [Pl.cnt]), (Below.refl _ _).alloc (Nat.le_refl _) _⟩
  have HREL0 := Lib.hid hrel0
  clear hrel0
  go_enter Try.func7, Try.ntmps7
  go_wp2_with fail
  go_loopw [5, 9] (fun _ i wr => ∃ (k : Nat) (D : DataW Unit), k ≤ n ∧ i = .int .i64 k ∧ ExRel w wr zs k D) (fun _ i _ => n - (intOf i).toNat)
  case atStart => exact ⟨0, _, Nat.zero_le _, rfl, HREL0.out⟩
  case round =>
    obtain ⟨k, D, hk, rfl, hrel⟩ := hrel
    have HREL := Lib.hid hrel
    clear hrel
    by_cases hlt : k < n
    · have ik : (k : Int) < (n : Int) := by omega
      obtain ⟨b, off, rfl, hb, hc⟩ := HR.out.get hlt
      have x0 := (HREL.out.bel.cell (p := ⟨b, off + k, none⟩) hb).trans hc
      have hkl : k < zs.length := by have := HL.out; omega
      have hwx := HW.out _ (List.getElem_mem hkl)
      have hgd : zs.getD k 0 = zs[k] := by rw [List.getD, List.getElem?_eq_getElem hkl]; rfl
      rw [← hgd] at hwx
      have hnx := take_next zs hkl
      have HNX := Lib.hid hnx; have HWX := Lib.hid hwx
      clear hc hwx hgd hnx
      generalize zs.getD k 0 = x at *
      go_upto_region 6 with (first
        | (at_lookup; refine wpList_lookup_own_int _ rfl (.tmp 13) (.tmp 14) 44 rfl 3 3 .i64 Try.lawI Try.underlying44 Try.underlying3 (Try.zeroI _) w.heap.size k D rfl HREL.out.own (.int .i64 x) (.int .i64 x) rfl (keyI HWX.out) ?_; intro v hat hwc; have HAT := Lib.hid (lookup_is HREL.out.rep hat); clear hat)
        | (at_mapUpdate; refine wpList_mapUpdate_own _ rfl (.tmp 13) (.tmp 14) (.tmp 16) 44 rfl 3 3 Try.lawI Try.underlying44 (plainElem Try.prog 3) w.heap.size k D rfl HREL.out.own (by unfold maxLen; omega) (.int .i64 x) _ (.int .i64 x) rfl rfl (keyI HWX.out) _ [] (plainElem_int Try.underlying3 (wrap64_wf _)) ?_; intro w2 h1 h2; have H1 := Lib.hid h1; have H2 := Lib.hid h2; clear h1 h2))
      have hcv : 0 ≤ v ∧ v ≤ 1000 := by
        rw [HAT.out]
        have h1 := Pl.cnt_nn (zs.take k) x
        have h2 := Pl.cnt_le (zs.take k) x
        have h3 : (zs.take k).length ≤ k := by rw [List.length_take]; omega
        omega
      have ev : wrap64 (v + 1) = v + 1 := IntWalk.wrap64_in _ (by omega)
      have hfin : ExRel w w2 zs (k + 1) (D.put (kI x) (.lit (.int .i64 (v + 1)))) := by
        refine ⟨?_, ?_, bl_grown HREL.out.bel H2.out HREL.out.bel.size (fun j e => by injection e with e; omega)⟩
        · have := H1.out
          first
            | exact this
            | (rw [ev] at this; exact this)
        · refine (HREL.out.rep.put x (v + 1) (by omega)).congr fun q => ?_
          rw [HNX.out, cnt_snoc, HAT.out]
          by_cases e : q = x
          · rw [if_pos e, if_pos e, e]
          · rw [if_neg e, if_neg e]
      have HFIN := Lib.hid hfin
      clear hfin
      go_wp2_with fail
      exact ⟨⟨k + 1, _, by omega, by go_num, HFIN.out⟩, by simp [intOf]; omega⟩
    · obtain rfl : n = k := by omega
      have htk : zs.take n = zs := List.take_of_length_le (by have := HL.out; omega)
      obtain ⟨E, hE, hEl⟩ := cnt_ent zs
      have hso := sorted_any (Pl.cnt zs) E wr HREL.out.own (htk ▸ HREL.out.rep) hE hn
      have HSO := Lib.hid hso; have HE := Lib.hid hE
      have hEl2 : E.length ≤ n := by have := HL.out; omega
      clear hso htk hE hEl
      go_wp2_with (go_at_call 14; (with_reducible refine HSO.out.mono ?_); rintro e w5 ⟨A5, c5, P, rfl, h1, h2, h3, h4⟩)
      go_ret
      rw [← h2] at h3 hEl2 ⊢
      exact ⟨P, hEl2, h1, A5, c5, rfl, h3, HREL.out.bel.trans (h4.mono HREL.out.bel.size)⟩
/-- on the way down: those that came already are one less -/
def midC (c : Int → Int) (left : Lit → Bool) : Int → Int := fun k => if left (kI k) = true then c k else Pl.dec c k
theorem mid_start {H : Type} {D : DataW H} {c : Int → Int} (h : FRep D c) : ∀ k, c k = midC c (Maps.has D) k := fun k => by
  unfold midC
  rw [h.has]
  by_cases hk : c k = 0
  · rw [if_neg (by simp [hk])]
    unfold Pl.dec
    rw [if_neg (by omega)]
  · rw [if_pos (by simpa using hk)]
theorem mid_done {c : Int → Int} {left : Lit → Bool} (hl : ∀ kl, left kl = false) : ∀ k, midC c left k = Pl.dec c k := fun k => by
  unfold midC
  rw [hl]; rfl
theorem mid_step {c : Int → Int} {left : Lit → Bool} {x : Int} (hx : left (kI x) = true) (h0 : 0 < c x) (k : Int) : (if k = x then c x - 1 else midC c left k) = midC c (fun z => left z && !z.sameKey (kI x)) k := by
  by_cases hk : k = x
  · subst hk
    rw [if_pos rfl]
    unfold midC Pl.dec
    simp only [kI_same]
    simp [h0]
  · rw [if_neg hk]
    unfold midC
    simp only [kI_same]
    simp [hk]
structure TopRel (w wr : World) (K : Nat) (zs : List Int) (k : Nat) (D : DataW Unit) (c : Int → Int) (E : List (Int × Int)) (d : Int) : Prop where
  own : wr.ownsMap Try.prog 3 (plainElem Try.prog 3) w.heap.size k D
  rep : FRep D c
  inv : Pl.MgInv K (zs.take k) c E d
  bel : Below w.heap.size w wr
structure DecRel (w wr : World) (n : Nat) (r : Nat) (D : DataW Unit) (c : Int → Int) (left : Lit → Bool) (cnt : Nat) : Prop where
  rg : wr.ranges Try.prog 3 (plainElem Try.prog 3) w.heap.size r n D left cnt
  rep : FRep D (midC c left)
  bel : Below w.heap.size w wr
theorem mg_bd {K : Nat} {L : List Int} {c : Int → Int} {E : List (Int × Int)} {d : Int} (h : Pl.MgInv K L c E d) (k : Int) : 0 ≤ c k ∧ c k ≤ L.length := by
  have := h.up k; have := h.nn k; have := Pl.cnt_le L k; omega
set_option maxHeartbeats 4000000 in
set_option maxRecDepth 100000 in
theorem top_any (A : Option Addr) (n c : Nat) (zs : List Int) (K : Nat) (w : World) (hr : RdI w w.heap.size A n zs) (hw : ∀ z ∈ zs, (Lit.int .i64 z).wf = true) (hn : n ≤ 1000) (hK : 1 ≤ K ∧ K ≤ 100) :
    Calls Try.prog 6 #[.slice A n c, .int .i64 K] w fun e w' => ∃ (P : List (Int × Int)) (cf : Int → Int) (E : List (Int × Int)) (d : Int), P.length ≤ K ∧ Pl.Ent P cf ∧ Pl.MgInv K zs cf E d ∧ ∃ A' cap, e = .returned (.tuple #[.slice A' P.length cap, .nilIface]) ∧ RdR PrR w' w'.heap.size A' P.length P ∧ Below w.heap.size w w' := by
  have hmm := @run_makeMap Try.prog
  have hl := hr.len
  have HR := Lib.hid hr; have HW := Lib.hid hw; have HL := Lib.hid hl
  clear hr hw hl
  have hrel0 : TopRel w (w.alloc (.map #[] 0)) K zs 0 (.map []) (fun _ => 0) [] 0 := ⟨World.ownsMap_made _ _ _ _, frep_empty, by simpa using Pl.mg_start K, (Below.refl _ _).alloc (Nat.le_refl _) _⟩
  have HREL0 := Lib.hid hrel0
  clear hrel0
  have d0 : decide ((K : Int) < 1) = false := decide_eq_false (by omega)
  have d1 : decide ((100 : Int) < (K : Int)) = false := decide_eq_false (by omega)
  go_enter Try.func6, Try.ntmps6
  go_wp2_with fail
  go_loopw [8, 9, 10, 11, 22] (fun _ _ _ _ i wr => ∃ (k : Nat) (D : DataW Unit) (cf : Int → Int) (E : List (Int × Int)) (d : Int), k ≤ n ∧ i = .int .i64 k ∧ TopRel w wr K zs k D cf E d) (fun _ _ _ _ i _ => n - (intOf i).toNat)
  case atStart => exact ⟨0, _, _, _, _, Nat.zero_le _, rfl, HREL0.out⟩
  case round =>
    obtain ⟨k, D, cf, E, d, hk, rfl, hrel⟩ := hrel
    have HREL := Lib.hid hrel
    clear hrel
    by_cases hlt : k < n
    · have ik : (k : Int) < (n : Int) := by omega
      obtain ⟨b, off, rfl, hb, hc⟩ := HR.out.get hlt
      have x0 := (HREL.out.bel.cell (p := ⟨b, off + k, none⟩) hb).trans hc
      have hkl : k < zs.length := by have := HL.out; omega
      have hwx := HW.out _ (List.getElem_mem hkl)
      have hgd : zs.getD k 0 = zs[k] := by rw [List.getD, List.getElem?_eq_getElem hkl]; rfl
      rw [← hgd] at hwx
      have hnx := take_next zs hkl
      have hst := Pl.mg_step HREL.out.inv (zs.getD k 0)
      rw [← hnx] at hst
      have hbd := fun q => mg_bd HREL.out.inv q
      have hlk : (zs.take k).length ≤ k := by rw [List.length_take]; omega
      have hsz := HREL.out.rep.size HREL.out.inv.e
      have HST := Lib.hid hst; have HWX := Lib.hid hwx; have HBD := Lib.hid hbd; have HSZ := Lib.hid hsz
      clear hc hwx hgd hnx hst hbd hsz
      generalize zs.getD k 0 = x at *
      go_upto_region 8 with (at_lookup; refine wpList_lookup_own_ok_int _ rfl (.tmp 27) (.tmp 28) 44 rfl 3 3 .i64 Try.lawI Try.underlying44 Try.underlying3 (Try.zeroI _) w.heap.size k D rfl HREL.out.own (.int .i64 x) (.int .i64 x) rfl (keyI HWX.out) ?_; intro v hat hwc; clear hat)
      have hfinI : ∀ (w2 : World) (vv : Int), vv = cf x → (cf x ≠ 0 ∨ E.length < K) → w2.ownsMap Try.prog 3 (plainElem Try.prog 3) w.heap.size (k + 1) (D.put (.int .i64 x) (.lit (.int .i64 (wrap64 (vv + 1))))) → wr.grownBy w2 (some w.heap.size) →
          ∃ (D : DataW Unit) (cf : Int → Int) (E : List (Int × Int)) (d : Int), TopRel w w2 K zs (k + 1) D cf E d := fun w2 vv hv hor h1 h2 => by
        subst hv
        have hb0 := HBD.out x
        have ev : wrap64 (cf x + 1) = cf x + 1 := IntWalk.wrap64_in _ (by omega)
        obtain ⟨E', d', hi⟩ := HST.out
        have em : Pl.mgStep K E.length cf x = Pl.inc cf x := by unfold Pl.mgStep; rw [if_pos hor]
        rw [em] at hi
        rw [ev] at h1
        exact ⟨_, _, E', d', h1, (HREL.out.rep.put x (cf x + 1) (by omega)).congr fun q => by
          unfold Pl.inc
          by_cases e : q = x
          · rw [if_pos e, if_pos e, e]
          · rw [if_neg e, if_neg e], hi, bl_grown HREL.out.bel h2 HREL.out.bel.size (fun j e => by injection e with e; omega)⟩
      have HFI := Lib.hid hfinI
      clear hfinI
      by_cases hcx : cf x = 0
      · have hhas : Maps.has D (.int .i64 x) = false := by
          have := HREL.out.rep.has x
          rw [hcx] at this
          exact this
        rw [hhas]
        have hlen := fun ty => HREL.out.own.len Try.underlying44 ty
        rw [HSZ.out] at hlen
        by_cases hE : E.length < K
        · have HOR := Lib.hid (show cf x ≠ 0 ∨ E.length < K from .inr hE)
          have dE : decide ((E.length : Int) < (K : Int)) = true := decide_eq_true (by omega)
          clear hhas
          go_wp2_with (first
            | (at_lookup; refine wpList_lookup_own_int _ rfl (.tmp 39) (.tmp 40) 44 rfl 3 3 .i64 Try.lawI Try.underlying44 Try.underlying3 (Try.zeroI _) w.heap.size k D rfl HREL.out.own (.int .i64 x) (.int .i64 x) rfl (keyI HWX.out) ?_; intro v2 hat hwc2; have HAT := Lib.hid (lookup_is HREL.out.rep hat); clear hat)
            | (at_mapUpdate; refine wpList_mapUpdate_own _ rfl (.tmp 39) (.tmp 40) (.tmp 42) 44 rfl 3 3 Try.lawI Try.underlying44 (plainElem Try.prog 3) w.heap.size k D rfl HREL.out.own (by unfold maxLen; omega) (.int .i64 x) _ (.int .i64 x) rfl rfl (keyI HWX.out) _ [] (plainElem_int Try.underlying3 (wrap64_wf _)) ?_; intro w2 h1 h2; have H1 := Lib.hid h1; have H2 := Lib.hid h2; clear h1 h2))
          obtain ⟨D3, c3, E3, d3, h3⟩ := HFI.out w2 v2 HAT.out HOR.out H1.out H2.out
          exact ⟨⟨k + 1, D3, c3, E3, d3, by omega, by go_num, h3⟩, by simp [intOf]; omega⟩
        · have dE : decide ((E.length : Int) < (K : Int)) = false := decide_eq_false (by omega)
          clear hhas
          have hfinD : ∀ (w2 : World) (D2 : DataW Unit), w2.ownsMap Try.prog 3 (plainElem Try.prog 3) w.heap.size k D2 → FRep D2 (Pl.dec cf) → Below w.heap.size w w2 → ∃ (D : DataW Unit) (cf : Int → Int) (E : List (Int × Int)) (d : Int), TopRel w w2 K zs (k + 1) D cf E d := fun w2 D2 h1 h2 h3 => by
            obtain ⟨E', d', hi⟩ := HST.out
            have em : Pl.mgStep K E.length cf x = Pl.dec cf := by unfold Pl.mgStep; rw [if_neg (fun h => by rcases h with h | h; exact h hcx; exact hE h)]
            rw [em] at hi
            exact ⟨_, _, E', d', h1.mono (by omega), h2, hi, h3⟩
          have HFD := Lib.hid hfinD
          clear hfinD
          go_wp2_with (at_range; refine wpList_range_own _ rfl (.tmp 43) 44 rfl 3 3 Try.lawI Try.underlying44 (plainElem Try.prog 3) w.heap.size k D rfl HREL.out.own ?_; intro w0 hrg0 hg0 hs0)
          go_frame
          have hrel0 : DecRel w w0 k wr.heap.size D cf (Maps.has D) (Maps.size D) := ⟨hrg0, HREL.out.rep.congr (mid_start HREL.out.rep), bl_grown HREL.out.bel hg0 HREL.out.bel.size (fun j e => by cases e)⟩
          have HREL0 := Lib.hid hrel0
          have hrs : w.heap.size ≤ wr.heap.size := HREL.out.bel.size
          clear hrel0 hrg0 hg0 hs0 hlen
          generalize wr.heap.size = r at *
          go_loopw [11] (fun _ wt => ∃ left cnt D2, DecRel w wt k r D2 cf left cnt) (fun _ wt => wt.rangeLeft w.heap.size r)
          case atStart => exact ⟨_, _, _, HREL0.out⟩
          case round =>
            obtain ⟨left, cnt, D2, hrel⟩ := hrel
            have HR2 := Lib.hid hrel
            clear hrel
            go_wp2_with (at_next; refine wpList_next_ranges_ii _ rfl (.tmp 44) rfl 3 3 .i64 .i64 Try.lawI Try.underlying3 Try.underlying3 w.heap.size r k D2 left cnt rfl HR2.out.rg ?_ ?_)
            · intro _ hl0
              obtain ⟨D3, c3, E3, d3, h3⟩ := HFD.out _ D2 HR2.out.rg.owns (HR2.out.rep.congr (mid_done hl0)) HR2.out.bel
              have H3 := Lib.hid h3
              clear h3 hl0
              go_wp2_with fail
              exact ⟨⟨k + 1, D3, c3, E3, d3, by omega, by go_num, H3.out⟩, by simp [intOf]; omega⟩
            · intro y v2 w1 cnt1 hwy hwv hly hat hrg1 hlt1 hg1 hs1 hen
              have hcy := HR2.out.rep.entry hat
              have hmy : midC cf left y = cf y := by unfold midC; rw [if_pos (by exact hly)]
              rw [hmy] at hcy
              have hcy0 : 0 < cf y ∧ cf y ≤ 1000 := by have := HBD.out y; omega
              have hev : wrap64 (cf y - 1) = cf y - 1 := IntWalk.wrap64_in _ (by omega)
              have hbel1 := bl_grown HR2.out.bel hg1 HR2.out.bel.size (fun j e => by injection e with e; omega)
              have hhas1 : Maps.has D2 (.int .i64 y) = true := Maps.has_true_of_atKey hat
              have hst := mid_step (c := cf) (left := left) (x := y) hly hcy0.1
              have HRG1 := Lib.hid hrg1; have HB1 := Lib.hid hbel1; have HHAS := Lib.hid hhas1; have HST2 := Lib.hid hst; have HEV := Lib.hid hev; have HWY := Lib.hid hwy; have HCY := Lib.hid hcy.1; have HMY := Lib.hid hmy
              have hleft := HR2.out.rg.left_eq
              have HLEFT := Lib.hid hleft
              clear hcy hmy hbel1 hhas1 hst hev hrg1 hg1 hat hly hwv hs1 hleft
              go_upto_region 14 with (first
                | (at_lookup; refine wpList_lookup_own_int _ rfl (.tmp 49) (.tmp 50) 44 rfl 3 3 .i64 Try.lawI Try.underlying44 Try.underlying3 (Try.zeroI _) w.heap.size k D2 rfl HRG1.out.owns (.int .i64 y) (.int .i64 y) rfl (keyI HWY.out) ?_; intro v3 hat hwc3; have HAT := Lib.hid (lookup_is HR2.out.rep hat); clear hat)
                | (at_mapUpdate; refine wpList_mapUpdate_ranges rfl (.tmp 49) (.tmp 50) (.tmp 52) 44 rfl 3 Try.lawI Try.underlying44 rfl HRG1.out (by unfold maxLen; omega) (.int .i64 y) _ (.int .i64 y) rfl rfl (keyI HWY.out) _ [] (plainElem_int Try.underlying3 (wrap64_wf _)) HHAS.out ?_; intro w2 h1 h2 h3; have H1 := Lib.hid h1; have H2 := Lib.hid h2; have H3 := Lib.hid h3; clear h1 h2 h3))
              have hv3 : v3 = cf y := HAT.out.trans HMY.out
              have hw3 : wrap64 (v3 - 1) = cf y - 1 := by rw [hv3]; exact HEV.out
              have h1 := H1.out
              rw [hw3] at h1
              have H4 := Lib.hid h1
              have hb2 := bl_grown HB1.out H2.out.grown HB1.out.size (fun j e => by injection e with e; omega)
              have HB2 := Lib.hid hb2
              clear hv3 hw3 h1 H1 hb2 HAT
              go_upto_if 56 with (at_lookup; refine wpList_lookup_own_int _ rfl (.tmp 53) (.tmp 54) 44 rfl 3 3 .i64 Try.lawI Try.underlying44 Try.underlying3 (Try.zeroI _) w.heap.size k (D2.put (.int .i64 y) (.lit (.int .i64 (cf y - 1)))) rfl H4.out.owns (.int .i64 y) (.int .i64 y) rfl (keyI HWY.out) ?_; intro v4 hat hwc4; have HAT4 := Lib.hid hat; clear hat)
              have hv4 : v4 = cf y - 1 := by
                have h1 := HAT4.out
                have h2 := Maps.atKey_put_same (k := kI y) HR2.out.rep.isMap (kI_key y) (.lit (.int .i64 (cf y - 1))) (.lit (.int .i64 0))
                have h3 : (D2.put (.int .i64 y) (.lit (.int .i64 (cf y - 1)))).atKey (.int .i64 y) (.lit (.int .i64 0)) = .lit (.int .i64 (cf y - 1)) := h2
                rw [h3] at h1
                injection h1 with h1
                injection h1 with _ h1
                exact h1.symm
              clear HAT4
              by_cases hz : cf y = 1
              · obtain rfl : v4 = 0 := by omega
                clear hv4
                go_wp2_with (at_delete; refine wpList_delete_ranges _ rfl (.tmp 57) (.tmp 58) 44 3 rfl 3 Try.lawI Try.underlying44 (plainElem Try.prog 3) w.heap.size r k _ _ cnt1 rfl H4.out (.int .i64 y) (.int .i64 y) rfl (keyI HWY.out) ?_; intro w3 cnt3 h1 hle hturn; have H5 := Lib.hid h1; have H6 := Lib.hid hturn; clear h1 hturn; go_frame)
                have h5 := H5.out
                rw [Maps.strike_twice] at h5
                have hfin : DecRel w w3 k r ((D2.put (kI y) (.lit (.int .i64 (cf y - 1)))).del (kI y)) cf (fun z => left z && !z.sameKey (kI y)) cnt3 :=
                  ⟨h5, (put_del D2 HR2.out.rep.isMap y _ HR2.out.rep).congr fun q => by rw [← HST2.out q]; split <;> omega, bl_grown HB2.out H6.out.grown HB2.out.size (fun j e => by injection e with e; omega)⟩
                have HFIN := Lib.hid hfin
                clear hfin h5
                go_roundw
                case rel => exact ⟨_, _, _, HFIN.out⟩
                case measure => rw [HFIN.out.rg.left_eq, HLEFT.out]; omega
              · have dz : (v4 == 0) = false := by simp; omega
                have hfin : DecRel w w2 k r (D2.put (kI y) (.lit (.int .i64 (cf y - 1)))) cf (fun z => left z && !z.sameKey (kI y)) cnt1 :=
                  ⟨H4.out, (HR2.out.rep.put y (cf y - 1) (by omega)).congr fun q => by rw [← HST2.out q], HB2.out⟩
                have HFIN := Lib.hid hfin
                clear hfin hv4
                go_wp2_with fail
                go_roundw
                case rel => exact ⟨_, _, _, HFIN.out⟩
                case measure => rw [HFIN.out.rg.left_eq, HLEFT.out]; omega
      · have hhas : Maps.has D (.int .i64 x) = true := by
          have := HREL.out.rep.has x
          rw [decide_eq_true hcx] at this
          exact this
        rw [hhas]
        have HOR := Lib.hid (show cf x ≠ 0 ∨ E.length < K from .inl hcx)
        clear hhas
        go_wp2_with (first
          | (at_lookup; refine wpList_lookup_own_int _ rfl (.tmp 39) (.tmp 40) 44 rfl 3 3 .i64 Try.lawI Try.underlying44 Try.underlying3 (Try.zeroI _) w.heap.size k D rfl HREL.out.own (.int .i64 x) (.int .i64 x) rfl (keyI HWX.out) ?_; intro v2 hat hwc2; have HAT := Lib.hid (lookup_is HREL.out.rep hat); clear hat)
          | (at_mapUpdate; refine wpList_mapUpdate_own _ rfl (.tmp 39) (.tmp 40) (.tmp 42) 44 rfl 3 3 Try.lawI Try.underlying44 (plainElem Try.prog 3) w.heap.size k D rfl HREL.out.own (by unfold maxLen; omega) (.int .i64 x) _ (.int .i64 x) rfl rfl (keyI HWX.out) _ [] (plainElem_int Try.underlying3 (wrap64_wf _)) ?_; intro w2 h1 h2; have H1 := Lib.hid h1; have H2 := Lib.hid h2; clear h1 h2))
        obtain ⟨D3, c3, E3, d3, h3⟩ := HFI.out w2 v2 HAT.out HOR.out H1.out H2.out
        exact ⟨⟨k + 1, D3, c3, E3, d3, by omega, by go_num, h3⟩, by simp [intOf]; omega⟩
    · obtain rfl : n = k := by omega
      have htk : zs.take n = zs := List.take_of_length_le (by have := HL.out; omega)
      have hso := sorted_any cf E wr HREL.out.own HREL.out.rep HREL.out.inv.e hn
      have hinv := HREL.out.inv
      rw [htk] at hinv
      have HSO := Lib.hid hso; have HINV := Lib.hid hinv
      clear hso htk hinv
      go_wp2_with (go_at_call 14; (with_reducible refine HSO.out.mono ?_); rintro e w5 ⟨A5, c5, P, rfl, h1, h2, h3, h4⟩)
      go_ret2
      have hk := HINV.out.k
      rw [← h2] at h3 hk ⊢
      exact ⟨P, cf, E, d, hk, h1, HINV.out, A5, c5, rfl, h3, HREL.out.bel.trans (h4.mono HREL.out.bel.size)⟩
end Go.Proofs.Ytdddpdhjkeanmaa
