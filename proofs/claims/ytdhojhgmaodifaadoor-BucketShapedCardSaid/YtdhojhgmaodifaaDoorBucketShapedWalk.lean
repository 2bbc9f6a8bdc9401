/-
  The walk of the law BucketShaped.
-/
import Derived.Test.YtdhojhgmaodifaaDoorShape
import Derived.Test.YtdhojhgmaodifaaDoorPick
import Derived.Test.YtdhojhgmaodifaaDoorBucketColorsWalk
namespace Go.Proofs.YtdhojhgmaodifaaDoor
open Go.RowKit Bkt Crv
set_option linter.unusedVariables false

theorem Tryd.itemInfo : (Tryd.prog.info? 39).map (fun i => (i.zero, i.size, i.bytes)) = some (some (.agg #[.int .i64 0, .int .i64 0, .int .i64 0, .int .i64 0, .int .i64 0]), 5, 40) := by kernel_rfl

/-! ### lists of packets, at other times -/
def setAt (x : It) (t : Int) : It := ⟨t, x.len, x.flow, x.band, x.mark⟩
def atsOf (l : List It) (n : Nat) (f : Nat → Int) : List It := (List.range n).map fun i => setAt (ix l i) (f i)
theorem atsOf_len (l : List It) (n : Nat) (f : Nat → Int) : (atsOf l n f).length = n := by simp [atsOf]
theorem ix_atsOf {l : List It} {n : Nat} {f : Nat → Int} {i : Nat} (h : i < n) : ix (atsOf l n f) i = setAt (ix l i) (f i) := by simp [atsOf, ix, h]
theorem itCells_setAt (x : It) (t : Int) (c : Nat) : (itCells (setAt x t))[c]? = if c = 0 then some (.int .i64 t) else (itCells x)[c]? := by
  match c with
  | 0 => rfl
  | 1 => rfl
  | 2 => rfl
  | 3 => rfl
  | 4 => rfl
  | c + 5 => simp [itCells, setAt]
theorem flat_ext {l l' : List It} (hl : l.length = l'.length) (h : ∀ i, i < l.length → ∀ c, c < 5 → (itCells (ix l i))[c]? = (itCells (ix l' i))[c]?) : l.flatMap itCells = l'.flatMap itCells := by
  apply List.ext_getElem?
  intro p
  by_cases hp : p < l.length * 5
  · have e : p = (p / 5) * 5 + p % 5 := by omega
    rw [e, flat_get l _ _ (by omega) (by omega), flat_get l' _ _ (by omega) (by omega)]
    exact h _ (by omega) _ (by omega)
  · rw [List.getElem?_eq_none (by rw [flat_len]; omega), List.getElem?_eq_none (by rw [flat_len]; omega)]
theorem flat_set {l l' : List It} {j : Nat} {t : Int} (hl : l'.length = l.length) (hj : j < l.length) (h : ∀ i, i < l.length → ix l' i = if i = j then setAt (ix l i) t else ix l i) :
    (l.flatMap itCells).set (j * 5) (.int .i64 t) = l'.flatMap itCells := by
  apply List.ext_getElem?
  intro p
  by_cases hp : p < l.length * 5
  · have e : p = (p / 5) * 5 + p % 5 := by omega
    rw [List.getElem?_set]
    have hr : (l'.flatMap itCells)[p]? = (itCells (ix l' (p / 5)))[p % 5]? := by
      conv => lhs; rw [e]
      exact flat_get l' _ _ (by omega) (by omega)
    have hq : (l.flatMap itCells)[p]? = (itCells (ix l (p / 5)))[p % 5]? := by
      conv => lhs; rw [e]
      exact flat_get l _ _ (by omega) (by omega)
    rw [hr, hq, h _ (by omega)]
    by_cases hjp : j * 5 = p
    · rw [if_pos hjp, if_pos (by rw [flat_len]; omega), if_pos (by omega), itCells_setAt, if_pos (by omega)]
    · rw [if_neg hjp]
      by_cases hd : p / 5 = j
      · rw [if_pos hd, itCells_setAt, if_neg (by omega)]
      · rw [if_neg hd]
  · rw [List.getElem?_eq_none (by rw [List.length_set, flat_len]; omega), List.getElem?_eq_none (by rw [flat_len]; omega)]
theorem flat_take {l l' : List It} {q : Nat} (hl : l'.length = q) (hq : q ≤ l.length) (h : ∀ i, i < q → ix l' i = ix l i) : l'.flatMap itCells = (l.flatMap itCells).take (q * 5) := by
  apply List.ext_getElem?
  intro p
  by_cases hp : p < q * 5
  · have e : p = (p / 5) * 5 + p % 5 := by omega
    rw [List.getElem?_take_of_lt hp]
    have hr : (l'.flatMap itCells)[p]? = (itCells (ix l' (p / 5)))[p % 5]? := by
      conv => lhs; rw [e]
      exact flat_get l' _ _ (by omega) (by omega)
    have hq : (l.flatMap itCells)[p]? = (itCells (ix l (p / 5)))[p % 5]? := by
      conv => lhs; rw [e]
      exact flat_get l _ _ (by omega) (by omega)
    rw [hr, hq, h _ (by omega)]
  · rw [List.getElem?_eq_none (by rw [flat_len]; omega), List.getElem?_eq_none (by simp; omega)]
/-- the packets, the first j at their times -/
def mAt (k : Bk) (l : List It) (j : Nat) : List It := atsOf l l.length fun i => if i < j then shT k l i else (ix l i).at_
theorem mAt_zero (k : Bk) (l : List It) : (mAt k l 0).flatMap itCells = l.flatMap itCells :=
  flat_ext (atsOf_len _ _ _) fun i hi c hc => by
    have hi' : i < l.length := by rwa [mAt, atsOf_len] at hi
    rw [mAt, ix_atsOf hi', if_neg (by omega), itCells_setAt]
    split
    · rename_i h; subst h; rfl
    · rfl
theorem mAt_succ (k : Bk) (l : List It) (j : Nat) (hj : j < l.length) : ((mAt k l j).flatMap itCells).set (j * 5) (.int .i64 (shT k l j)) = (mAt k l (j + 1)).flatMap itCells :=
  flat_set (by simp [mAt, atsOf_len]) (by rw [mAt, atsOf_len]; exact hj) fun i hi => by
    have hi' : i < l.length := by rwa [mAt, atsOf_len] at hi
    unfold mAt
    rw [ix_atsOf hi', ix_atsOf hi']
    by_cases e : i = j
    · subst e; rw [if_pos rfl, if_pos (by omega)]; rfl
    · rw [if_neg e]
      by_cases h : i < j
      · rw [if_pos h, if_pos (by omega)]
      · rw [if_neg h, if_neg (by omega)]
/-- the first q + 1 at their times, the last of these a tick sooner -/
def mSoon (k : Bk) (l : List It) (q : Nat) : List It := atsOf l (q + 1) fun i => if i = q then shT k l q - 1 else shT k l i
theorem mSoon_flat (k : Bk) (l : List It) (q : Nat) (hq : q < l.length) : (mSoon k l q).flatMap itCells = (((mAt k l l.length).flatMap itCells).set (q * 5) (.int .i64 (shT k l q - 1))).take ((q + 1) * 5) := by
  rw [flat_set (l := mAt k l l.length) (l' := atsOf l l.length fun i => if i = q then shT k l q - 1 else shT k l i) (by simp [mAt, atsOf_len]) (by rw [mAt, atsOf_len]; exact hq) (fun i hi => by
    have hi' : i < l.length := by rwa [mAt, atsOf_len] at hi
    unfold mAt
    rw [ix_atsOf hi', ix_atsOf hi', if_pos hi']
    by_cases e : i = q
    · subst e; rw [if_pos rfl, if_pos rfl]; rfl
    · rw [if_neg e, if_neg e])]
  refine flat_take (atsOf_len _ _ _) (by rw [atsOf_len]; omega) fun i hi => ?_
  unfold mSoon
  rw [ix_atsOf hi, ix_atsOf (by omega)]
theorem shT_prev (k : Bk) (l : List It) (q : Nat) : (shp k l (q + 1)).2 = shT k l q := rfl
structure ShFacts (k : Bk) (l : List It) : Prop where
  at0 : ∀ j, j < l.length → 0 ≤ (ix l j).at_
  at_ : ∀ j, j < l.length → (ix l j).at_ ≤ shT k l j
  up : ∀ j, j + 1 < l.length → shT k l j ≤ shT k l (j + 1)
  hi : ∀ j, j < l.length → shT k l j ≤ 1000000000
  fine : ListFine (mAt k l l.length)
  all : ∀ j, j < l.length → conf k (mAt k l l.length) j = true
  fine2 : ∀ q, q < l.length → max (shp k l q).2 (ix l q).at_ < shT k l q → ListFine (mSoon k l q)
  not2 : ∀ q, q < l.length → max (shp k l q).2 (ix l q).at_ < shT k l q → conf k (mSoon k l q) q = false
theorem shFacts {k : Bk} {l : List It} (hk : BkOk k) (hf : ListFine l) (hg : ∀ j, j < l.length → ShGood k l j) : ShFacts k l := by
  have hi : ItOk l := ⟨fun j hj => (hf.2.1 j hj).f0, fun j hj => (hf.2.1 j hj).f1, hf.2.2⟩
  obtain ⟨h1, h2, h3, h4⟩ := shaped_law hk hi fun j hj => (hg j hj).1
  have hm : ∀ i, i < l.length → (ix (mAt k l l.length) i).at_ = shT k l i ∧ (ix (mAt k l l.length) i).len = (ix l i).len := fun i hi => by
    unfold mAt; rw [ix_atsOf hi, if_pos hi]; exact ⟨rfl, rfl⟩
  refine ⟨fun j hj => (hf.2.1 j hj).f0.1, h1, h2, fun j hj => (hg j hj).2, ⟨by rw [mAt, atsOf_len]; exact hf.1, fun i hi' => ?_, fun i hi' => ?_⟩, h3 _ hm, fun q hq hlt => ⟨?_, fun i hi' => ?_, fun i hi' => ?_⟩, fun q hq hlt => ?_⟩
  · have hi2 : i < l.length := by rwa [mAt, atsOf_len] at hi'
    have hx := hf.2.1 i hi2
    have := h1 i hi2; have := (hg i hi2).2; have := hx.f0
    unfold mAt; rw [ix_atsOf hi2, if_pos hi2]
    exact ⟨⟨by show 0 ≤ shT k l i; omega, by assumption⟩, hx.f1, hx.f2, hx.f3, hx.f4⟩
  · have hi2 : i + 1 < l.length := by rwa [mAt, atsOf_len] at hi'
    rw [(hm i (by omega)).1, (hm (i + 1) hi2).1]; exact h2 i hi2
  · rw [mSoon, atsOf_len]; have := hf.1; omega
  · have hi2 : i < q + 1 := by rwa [mSoon, atsOf_len] at hi'
    have hx := hf.2.1 i (by omega)
    have := h1 i (by omega); have := (hg i (by omega)).2; have := hx.f0
    unfold mSoon; rw [ix_atsOf hi2]
    refine ⟨⟨?_, ?_⟩, hx.f1, hx.f2, hx.f3, hx.f4⟩
    · show 0 ≤ if i = q then _ else _
      split
      · rename_i e; subst e; omega
      · omega
    · show (if i = q then _ else _) ≤ _
      split
      · rename_i e; subst e; omega
      · omega
  · have hi2 : i + 1 < q + 1 := by rwa [mSoon, atsOf_len] at hi'
    unfold mSoon
    rw [ix_atsOf (by omega), ix_atsOf hi2]
    show (if i = q then _ else _) ≤ (if i + 1 = q then _ else _)
    rw [if_neg (by omega)]
    split
    · rename_i e
      subst e
      rw [shT_prev] at hlt
      omega
    · exact h2 i (by omega)
  · exact h4 _ q hq (fun i hi => by unfold mSoon; rw [ix_atsOf (by omega), if_neg (by omega)]; exact ⟨rfl, rfl⟩) (by unfold mSoon; rw [ix_atsOf (by omega), if_pos rfl]; rfl) (by unfold mSoon; rw [ix_atsOf (by omega)]; rfl) hlt

theorem flat_one (l : List It) : ∀ u ∈ l.flatMap itCells, u.oneCell' = true := by
  intro u hu
  rw [List.mem_flatMap] at hu
  obtain ⟨x, _, hx⟩ := hu
  simp [itCells] at hx
  rcases hx with rfl | rfl | rfl | rfl | rfl <;> rfl
theorem rdIt_own {w : World} {base n c q : Nat} {g : Nat} {xs : List Value} {m : List It} (h : w.ownsRow base 39 5 (.slice (some ⟨g, 0, none⟩) n c) n xs) (hm : m.flatMap itCells = xs.take (q * 5)) (hl : m.length = q) (hq : q ≤ n) : RdIt w w.heap.size (some ⟨g, 0, none⟩) q m := by
  refine ⟨by rw [flat_len, hl], fun h0 => ⟨_, rfl, (h.lt g rfl).2, fun j u hu => ?_⟩⟩
  have hj : j < q * 5 := by
    rcases Nat.lt_or_ge j (q * 5) with h' | h'
    · exact h'
    · rw [List.getElem?_eq_none (by rw [flat_len, hl]; exact h')] at hu; cases hu
  have e : (⟨g, 0, none⟩ : Addr).add j = ⟨g, j, none⟩ := by unfold Addr.add; split <;> simp_all
  rw [e, h.cellAt j (by omega)]
  rw [hm, List.getElem?_take_of_lt hj] at hu
  exact hu
theorem RdIt.first {w : World} {B b off n : Nat} {l : List It} (h : RdIt w B (some ⟨b, off, none⟩) n l) {k : Nat} (hk : k < n) : w.cell? ⟨b, off + k * 5, none⟩ = some (.int .i64 (ix l k).at_) := h.all hk 0 _ rfl

set_option maxHeartbeats 1500000 in
set_option maxRecDepth 100000 in
theorem bucketShaped_core (k : Bk) (A : Option Addr) (n c : Nat) (l : List It) (wh : Int) (w : World) (hr : RdIt w w.heap.size A n l) (hg : Handle w) (hwh : -9223372036854775808 ≤ wh ∧ wh ≤ 9223372036854775807) :
    Calls Tryd.prog 6 #[bkV k, .slice A n c, .int .i64 wh] w fun e w' => e = .returned (.bool true) ∧ Below w.heap.size w w' := by
  have hl := hr.len
  have HL := Lib.hid hl; have HG := Lib.hid hg; have HWH := Lib.hid hwh
  clear hl hg hwh
  have hshape : ∀ W, RdIt W W.heap.size A n l → Handle W → Calls Tryd.prog 21 #[bkV k, .slice A n c] W fun e w' => (BkOk k ∧ ListFine l ∧ (∀ j, j < n → ShGood k l j) ∧ IntsOut W n (shT k l) e w') ∨ NilErr W e w' := fun W hW hH => by
    by_cases hok : BkOk k ∧ ListFine l
    · exact (shape_yes k A n c l W hW hH hok.1 hok.2).mono fun e w' h => h.imp (fun h => ⟨hok.1, hok.2, h⟩) id
    · exact (shape_no k A n c l W hW hH hok).mono fun e w' h => .inr h
  have hcon := fun A' n' c' m W hW hH hk hf => conform_yes k A' n' c' m W hW hH hk hf
  have hfac := fun hk hf hgd => shFacts (k := k) (l := l) hk hf hgd
  have HFAC := Lib.hid hfac
  obtain ⟨kb, kt, kr⟩ := k
  unfold bkV at hshape hcon ⊢
  dsimp only at hshape hcon ⊢
  have HSH := Lib.hid hshape; have HCO := Lib.hid hcon
  clear hshape hcon hfac
  go_enter Tryd.func6, Tryd.ntmps6
  go_wp2_with fail
  have hb0 : Below w.heap.size w (w.alloc (.cells #[.int .i64 kb, .int .i64 kt, .int .i64 kr] 32)) := (Below.refl _ w).alloc (Nat.le_refl _) _
  have hk0 : Blk (w.alloc (.cells #[.int .i64 kb, .int .i64 kt, .int .i64 kr] 32)) w.heap.size 32 #[.int .i64 kb, .int .i64 kt, .int .i64 kr] := Blk.new _ _ _
  refine (HSH.out _ (hr.over hb0 (Nat.le_refl _)) (HG.out.below hb0)).mono ?_
  rintro e w1 (⟨hk, hf, hgd, A1, c1, rfl, hb1, ht⟩ | ⟨T, v, rfl, hb1⟩)
  · have hfc := HFAC.out hk hf (fun j hj => hgd j (by rw [← HL.out]; exact hj))
    have hn : n ≤ 100 := by have := hf.1; have := HL.out; omega
    have HK := Lib.hid hk; have HFC := Lib.hid hfc
    have HK1 := Lib.hid (hk0.below hb1 hk0.lt)
    have HB1 := Lib.hid (hb0.trans (hb1.mono hb0.size))
    have HT := Lib.hid ht
    clear hk hf hgd hfc hb0 hk0 hb1 ht
    go_wp2_with fail
    refine (poured_any w1).mono ?_
    rintro e w2 ⟨rfl, hb2⟩
    have HK2 := Lib.hid (HK1.out.below hb2 HK1.out.lt)
    have HB2 := Lib.hid (HB1.out.trans (hb2.mono HB1.out.size))
    have HT2 := Lib.hid (HT.out.over hb2 (Nat.le_refl _))
    clear hb2 HK1 HB1 HT
    have hr2 := hr.over HB2.out (Nat.le_refl _)
    have HR2 := Lib.hid hr2; clear hr2
    obtain ⟨i0, hi0, hz0, hz1, hz2⟩ := info_parts Tryd.itemInfo
    have hown0 := World.ownsRow_made (base := w2.heap.size) (e := 39) (size := 5) w2 #[] 0 (Nat.le_refl _) (by simp only [maxLen]; omega) rfl
    have hr3 : RdIt (w2.alloc (.cells #[] 39)) w2.heap.size A n l := Reads.alloc HR2.out (Nat.le_refl _) _
    have HR3 := Lib.hid hr3; clear hr3
    go_wp2_with (at_builtin; refine wpList_append_any _ rfl _ _ _ rfl w2.heap.size 39 i0 _ 5 40 Tryd.underlying33 hi0 hz0 hz1 hz2 rfl (by omega) (.slice (some ⟨w2.heap.size, 0, none⟩) 0 0) 0 [] rfl hown0 w2.heap.size A n c _ rfl HR3.out (flat_one l) (by simp only [maxLen]; omega) (by omega) (by simp) ?_; intro v1 w3 hown1 hg1 hat1)
    have hb3 : Below w2.heap.size w2 w3 := ((Below.refl _ w2).alloc (Nat.le_refl _) _).grown hg1 (by simp) (fun q hq => by simp [Value.ownBlock] at hq; omega)
    rw [Nat.zero_add, List.nil_append] at hown1
    obtain ⟨Am, cm, rfl, _⟩ := own_reads hown1
    rw [← mAt_zero ⟨kb, kt, kr⟩ l] at hown1
    have hr3 := HR2.out.over hb3 (Nat.le_refl _)
    have ht3 := HT2.out.over hb3 (Nat.le_refl _)
    have HK3 := Lib.hid (HK2.out.below hb3 HK2.out.lt)
    clear hown0 HR3 hg1 hat1 hi0 hz0 hz1 hz2
    have HL2 : Hid (l.length = n) := HL
    go_wp2_with fail
    go_loopw [10] (fun i wr => ∃ j : Nat, j ≤ n ∧ i = .int .i64 j ∧ wr.ownsRow w2.heap.size 39 5 (.slice Am n cm) n ((mAt ⟨kb, kt, kr⟩ l j).flatMap itCells) ∧ Below w2.heap.size w2 wr) (fun i _ => n - (intOf i).toNat)
    case atStart => exact ⟨0, Nat.zero_le _, rfl, hown1, hb3⟩
    case round =>
      clear hown1 hb3 hr3 ht3
      obtain ⟨j, hj, rfl, hown, hb⟩ := hrel
      by_cases hlt : j < n
      · obtain ⟨gm, cap, hAm, hgm, hgl⟩ := hown.form (by omega)
        injection hAm with e1 _ e3
        subst e1; subst e3
        obtain ⟨b, off, rfl, hbB⟩ := hr.addr hlt
        obtain ⟨b1, o1, rfl, hb1B, k1⟩ := (HT2.out.over hb (Nat.le_refl _)).getT hlt
        have k0 := (HR2.out.over hb (Nat.le_refl _)).first hlt
        have kp : ∀ i, i + 1 = j → wr.cell? ⟨b1, o1 + i, none⟩ = some (.int .i64 (shT ⟨kb, kt, kr⟩ l i)) := fun i hi => by
          obtain ⟨b', o', e, _, h⟩ := (HT2.out.over hb (Nat.le_refl _)).getT (k := i) (by omega)
          injection e with e; injection e with e1 e2
          subst e1 e2
          exact h
        have hjl : j < l.length := by have := HL2.out; omega
        have hta := HFC.out.at_ j hjl
        have hti := HFC.out.hi j hjl
        have htu : ∀ i, i + 1 = j → shT ⟨kb, kt, kr⟩ l i ≤ shT ⟨kb, kt, kr⟩ l j := fun i hi => by have := HFC.out.up i (by omega); rw [hi] at this; exact this
        have HMS := Lib.hid (mAt_succ ⟨kb, kt, kr⟩ l j hjl)
        have HOWN := Lib.hid hown; have HBB := Lib.hid hb
        have fz : wr.frozen? ⟨gm, j * 5, none⟩ = false := hown.frozenAt (j * 5)
        have cz : ∃ u, wr.cell? ⟨gm, j * 5, none⟩ = some u := by
          rw [hown.cellAt (j * 5) (by omega)]
          exact ⟨_, List.getElem?_eq_getElem (by rw [flat_len, mAt, atsOf_len]; omega)⟩
        obtain ⟨u0, cz⟩ := cz
        have HGM := Lib.hid hgm
        clear hown hb hgm hjl
        generalize shT ⟨kb, kt, kr⟩ l j = T at *
        generalize (ix l j).at_ = ta at *
        have i1 : (j : Int) < (n : Int) := by omega
        have hd1 : decide (T < ta) = false := decide_eq_false (by omega)
        have hd2 : decide (1000000000 < T) = false := decide_eq_false (by omega)
        rcases j with _ | j
        · have hd0 : decide ((0 : Int) < ((0 : Nat) : Int)) = false := by simp
          clear kp htu
          simp only [Nat.zero_mul, Nat.add_zero] at k0 k1 fz cz
          have i2 : (0 : Int) < (n : Int) := by omega
          go_wp2_with fail
          go_quiet (fail)
          go_wp2_with fail
          go_roundw
          case rel =>
            refine ⟨1, by omega, by go_num, ?_, ?_⟩
            · have := (World.ownsRow.stored (w := wr.drewN nq) HOWN.out (0 * 5) (.int .i64 T)).1
              rw [HMS.out] at this
              exact this
            · exact (below_drewN HBB.out _).setCell HGM.out _
          case measure => simp [intOf]; omega
        · have kp' := kp j rfl
          have htu' := htu j rfl
          generalize shT ⟨kb, kt, kr⟩ l j = tp at *
          have j1 : (0 : Int) < (j : Int) + 1 := by omega
          have j2 : (j : Int) < (n : Int) := by omega
          clear kp htu
          have j3 : (j : Int) + 1 < (n : Int) := by omega
          have hd3 : decide (T < tp) = false := decide_eq_false (by omega)
          have hd4 : decide ((0 : Int) < (j : Int) + 1) = true := decide_eq_true j1
          go_wp2_with fail
          go_quiet (fail)
          go_wp2_with fail
          go_roundw
          case rel =>
            refine ⟨j + 1 + 1, by omega, by go_num, ?_, ?_⟩
            · have := (World.ownsRow.stored (w := wr.drewN nq) HOWN.out ((j + 1) * 5) (.int .i64 T)).1
              rw [HMS.out] at this
              exact this
            · exact (below_drewN HBB.out _).setCell HGM.out _
          case measure => simp [intOf]; omega
      · obtain rfl : j = n := by omega
        have hrm : RdIt wr wr.heap.size Am j (mAt ⟨kb, kt, kr⟩ l j) := by
          obtain ⟨A', c', e, h⟩ := own_reads hown
          injection e with e1 e2 e3
          subst e1
          exact h
        have hfine := HFC.out.fine
        have hall := HFC.out.all
        rw [HL2.out] at hfine hall
        have HBW := Lib.hid (HB2.out.trans (hb.mono HB2.out.size))
        have HK4 := Lib.hid (HK2.out.below hb HK2.out.lt)
        have HT4 := Lib.hid (HT2.out.over hb (Nat.le_refl _))
        have HR4 := Lib.hid (HR2.out.over hb (Nat.le_refl _))
        have HOWN := Lib.hid hown; have HRM := Lib.hid hrm; have HFI := Lib.hid hfine; have HAL := Lib.hid hall
        have HB22 := Lib.hid hb
        clear hown hb hrm hfine hall
        have s0 : wr.cell? ⟨w.heap.size, 0, none⟩ = some (.int .i64 kb) := HK4.out.cell 0
        have s1 : wr.cell? ⟨w.heap.size, 1, none⟩ = some (.int .i64 kt) := HK4.out.cell 1
        have s2 : wr.cell? ⟨w.heap.size, 2, none⟩ = some (.int .i64 kr) := HK4.out.cell 2
        obtain ⟨wo, rfl⟩ : ∃ wo : World, wo = wr := ⟨_, rfl⟩
        go_wp2_with fail
        refine (HCO.out _ _ _ _ wo HRM.out (HG.out.below HBW.out) HK.out HFI.out).mono ?_
        rintro e w5 ⟨A5, c5, rfl, hb5, hx5⟩
        have HB5 := Lib.hid (HBW.out.trans (hb5.mono HBW.out.size))
        have HK5 := Lib.hid (HK4.out.below hb5 HK4.out.lt)
        have HT5 := Lib.hid (HT4.out.over hb5 (Nat.le_refl _))
        have HR5 := Lib.hid (HR4.out.over hb5 (Nat.le_refl _))
        have HO5 := Lib.hid (own_ov HOWN.out hb5)
        have HX5 := Lib.hid hx5
        have HB25 := Lib.hid (HB22.out.trans (hb5.mono HB22.out.size))
        clear hb5 hx5 s0 s1 s2 HOWN HRM
        go_wp2_with fail
        go_loopw [12] (fun i wr => ∃ i' : Nat, i' ≤ j ∧ i = .int .i64 i' ∧ wr = w5) (fun i _ => j - (intOf i).toNat)
        case atStart => exact ⟨0, Nat.zero_le _, rfl, rfl⟩
        case round =>
          obtain ⟨i, hi, rfl, hwr⟩ := hrel
          obtain rfl : wr = w5 := hwr
          by_cases hlt : i < j
          · obtain ⟨b1, o1, rfl, _, k1⟩ := HX5.out.get hlt
            rw [HAL.out i hlt] at k1
            have i1 : (i : Int) < (j : Int) := by omega
            go_wp2_with fail
            go_roundw
            case rel => exact ⟨i + 1, by omega, by go_num, (by first | rfl | trivial)⟩
            case measure => simp [intOf]; omega
          · obtain rfl : i = j := by omega
            clear HX5 HT4 HR4 HK4 HT2 HR2 hlt hi
            by_cases hz : i = 0
            · subst hz
              go_wp2_with fail
              go_ret
              exact ⟨rfl, HB5.out⟩
            · have hzi : ((i : Int) == 0) = false := by simpa using hz
              go_wp2_with fail
              refine (pick_any wh i _ (by omega) (by omega) HWH.out.1 HWH.out.2).mono ?_
              rintro e w' ⟨qz, hq0, hq1, rfl, rfl⟩
              obtain ⟨q, rfl⟩ : ∃ q : Nat, qz = q := ⟨qz.toNat, by omega⟩
              have hqi : q < i := by omega
              obtain ⟨b, off, rfl, hbB⟩ := hr.addr hqi
              obtain ⟨b1, o1, rfl, hb1B, k1⟩ := HT5.out.getT hqi
              have k0 := HR5.out.first hqi
              have kp : ∀ i', i' + 1 = q → wr.cell? ⟨b1, o1 + i', none⟩ = some (.int .i64 (shT ⟨kb, kt, kr⟩ l i')) := fun i' hi' => by
                obtain ⟨b', o', e, _, h⟩ := HT5.out.getT (k := i') (by omega)
                injection e with e; injection e with e1 e2
                subst e1 e2
                exact h
              have hql : q < l.length := by have := HL2.out; omega
              have hqat := HFC.out.at_ q hql
              have hqhi := HFC.out.hi q hql
              have hqa0 := HFC.out.at0 q hql
              have hf2 := HFC.out.fine2 q hql
              have hn2 := HFC.out.not2 q hql
              have hms := mSoon_flat ⟨kb, kt, kr⟩ l q hql
              have hm0 : q = 0 → max (shp ⟨kb, kt, kr⟩ l q).2 (ix l q).at_ = (ix l q).at_ := by
                rintro rfl
                show max 0 (ix l 0).at_ = _
                omega
              have hm1 : ∀ p, p + 1 = q → max (shp ⟨kb, kt, kr⟩ l q).2 (ix l q).at_ = max (ix l q).at_ (shT ⟨kb, kt, kr⟩ l p) := by
                rintro p rfl
                rw [shT_prev]; omega
              have hmt : max (shp ⟨kb, kt, kr⟩ l q).2 (ix l q).at_ ≤ shT ⟨kb, kt, kr⟩ l q := by
                rcases q with _ | p
                · rw [hm0 rfl]; exact hqat
                · rw [hm1 p rfl]; have := HFC.out.up p hql; omega
              have hmg : (ix l q).at_ ≤ max (shp ⟨kb, kt, kr⟩ l q).2 (ix l q).at_ := by omega
              obtain ⟨gm, cap, hAm, hgm, hgl⟩ := HO5.out.form (by omega)
              injection hAm with e1 _ e3
              subst e1; subst e3
              have hcap := (show i ≤ cm from by
                rcases HO5.out.2 with ⟨h', h0⟩ | ⟨g', cap', cur, h', _, _, hc, _⟩
                · omega
                · injection h' with h1 h2 h3; omega)
              have fz : wr.frozen? ⟨gm, q * 5, none⟩ = false := HO5.out.frozenAt (q * 5)
              have cz : wr.cell? ⟨gm, q * 5, none⟩ = some (.int .i64 (shT ⟨kb, kt, kr⟩ l q)) := by
                rw [HO5.out.cellAt (q * 5) (by omega)]
                have e := flat_get (mAt ⟨kb, kt, kr⟩ l i) q 0 (by rw [mAt, atsOf_len]; exact hql) (by omega)
                rw [Nat.add_zero] at e
                rw [e, mAt, ix_atsOf hql, if_pos hqi]
                rfl
              rw [HL2.out] at hms
              have HMS := Lib.hid hms; have HF2 := Lib.hid hf2; have HN2 := Lib.hid hn2; have HM0 := Lib.hid hm0; have HM1 := Lib.hid hm1
              clear hms hf2 hn2 hm0 hm1 hql
              generalize max (shp ⟨kb, kt, kr⟩ l q).2 (ix l q).at_ = M at *
              generalize shT ⟨kb, kt, kr⟩ l q = T at *
              generalize (ix l q).at_ = ta at *
              have i1 : (q : Int) < (i : Int) := by omega
              have i0' : (0 : Int) ≤ (q : Int) := by omega
              go_upto_if 127 with fail
              go_cut [14] (fun u wx => u = .int .i64 M ∧ wx = wr)
              case first =>
                rcases q with _ | p
                · go_wp2_with fail
                  go_meet
                  exact ⟨by rw [HM0.out (by simp)], rfl⟩
                · have kp' := kp p rfl
                  have hm1' := HM1.out p rfl
                  have HM1' := Lib.hid hm1'; clear hm1'
                  generalize shT ⟨kb, kt, kr⟩ l p = tp at *
                  have j1 : (p : Int) < (i : Int) := by omega
                  clear kp
                  go_wp2_with fail
                  all_goals (go_meet; exact ⟨by rw [HM1'.out]; congr 1; omega, rfl⟩)
              case rest =>
                obtain ⟨rfl, rfl⟩ := hcut
                clear kp
                by_cases hTM : T = M
                · subst hTM
                  go_wp2_with fail
                  go_ret
                  exact ⟨rfl, HB5.out⟩
                · have hTb : (T == M) = false := by simpa using hTM
                  have hlt2 : M < T := by omega
                  clear hTM
                  go_upto_region 31 with fail
                  have hgw : w.heap.size < gm := by have := Blk.lt HK2.out; omega
                  have hbS : Below w.heap.size w (wc.setCell ⟨gm, q * 5, none⟩ (.int .i64 (T - 1))) := HB5.out.setCell (by show w.heap.size ≤ gm; omega) _
                  have hkS : Blk (wc.setCell ⟨gm, q * 5, none⟩ (.int .i64 (T - 1))) w.heap.size 32 #[.int .i64 kb, .int .i64 kt, .int .i64 kr] := HK5.out.far (p := ⟨gm, q * 5, none⟩) (by show w.heap.size ≠ gm; omega) _
                  have hoS := (HO5.out.stored (q * 5) (.int .i64 (T - 1))).1
                  have hrS := rdIt_own (q := q + 1) hoS HMS.out (by rw [mSoon, atsOf_len]) (by omega)
                  have HBS := Lib.hid hbS; have HRS := Lib.hid hrS
                  have s0 := hkS.cell 0
                  have s1 := hkS.cell 1
                  have s2 := hkS.cell 2
                  have s0 : (wc.setCell ⟨gm, q * 5, none⟩ (.int .i64 (T - 1))).cell? ⟨w.heap.size, 0, none⟩ = some (.int .i64 kb) := s0
                  have s1 : (wc.setCell ⟨gm, q * 5, none⟩ (.int .i64 (T - 1))).cell? ⟨w.heap.size, 1, none⟩ = some (.int .i64 kt) := s1
                  have s2 : (wc.setCell ⟨gm, q * 5, none⟩ (.int .i64 (T - 1))).cell? ⟨w.heap.size, 2, none⟩ = some (.int .i64 kr) := s2
                  clear hbS hkS hoS hrS fz cz k0 k1
                  generalize wc.setCell ⟨gm, q * 5, none⟩ (.int .i64 (T - 1)) = wS at *
                  go_wp2_with fail
                  refine (HCO.out _ _ _ _ wS HRS.out (HG.out.below HBS.out) HK.out (HF2.out hlt2)).mono ?_
                  rintro e w7 ⟨A7, c7, rfl, hb7, hx7⟩
                  obtain ⟨b7, o7, rfl, _, k7⟩ := hx7.get (show q < q + 1 by omega)
                  rw [HN2.out hlt2] at k7
                  have HB7 := Lib.hid (HBS.out.trans (hb7.mono HBS.out.size))
                  have hqq : (((q + 1 : Nat) : Int) == (q : Int) + 1) = true := by simp
                  clear s0 s1 s2 hb7 hx7
                  go_wp2_with fail
                  go_ret
                  exact ⟨rfl, HB7.out⟩
  · have HB1 := Lib.hid (hb0.trans (hb1.mono hb0.size)); clear hb0 hb1 hk0
    go_wp2_with fail
    refine (poured_any w1).mono ?_
    rintro e w2 ⟨rfl, hb2⟩
    have HB2 := Lib.hid (HB1.out.trans (hb2.mono HB1.out.size)); clear hb2 HB1
    go_wp2_with fail
    refine (poured_any w2).mono ?_
    rintro e w3 ⟨rfl, hb3⟩
    go_wp2_with fail
    go_ret
    exact ⟨rfl, HB2.out.trans (hb3.mono HB2.out.size)⟩
end Go.Proofs.YtdhojhgmaodifaaDoor
