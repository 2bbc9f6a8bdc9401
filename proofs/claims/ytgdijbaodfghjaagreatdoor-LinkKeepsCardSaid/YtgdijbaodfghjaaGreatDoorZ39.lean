/-
  Texts of this claim, one behind the other: Left.
-/
import Derived.Test.YtgdijbaodfghjaaGreatDoorZ14
import Derived.Test.YtgdijbaodfghjaaGreatDoorZ36
import Derived.Deep.CutRange
import Derived.Deep.CutBlock
/-
  The check that nothing is lost but what is told (left), where it says yes.
-/
namespace Go.Proofs.YtgdijbaodfghjaaGreatDoor
open Go.RowKit Bkt
set_option linter.unusedVariables false

theorem rdSn_at {w : World} {B b off n : Nat} {vs : List SnV} (h : RdR SnR w B (some ⟨b, off, none⟩) n vs) {k : Nat} (hk : k < n) :
    w.cell? ⟨b, off + k * 6, none⟩ = some (.int .i64 (ixR SnR vs k).taken) ∧ w.cell? ⟨b, off + k * 6 + 1, none⟩ = some (.int .i64 (ixR SnR vs k).mark) ∧ w.cell? ⟨b, off + k * 6 + 2, none⟩ = some (.int .i64 (ixR SnR vs k).when_) ∧
    w.cell? ⟨b, off + k * 6 + 3, none⟩ = some (.int .i64 (ixR SnR vs k).len) ∧ w.cell? ⟨b, off + k * 6 + 4, none⟩ = some (.int .i64 (ixR SnR vs k).bytes) ∧ w.cell? ⟨b, off + k * 6 + 5, none⟩ = some (.slice (ixR SnR vs k).A (ixR SnR vs k).n (ixR SnR vs k).c) := by
  have ha := fun j u => h.all hk j u
  refine ⟨?_, ?_, ?_, ?_, ?_, ?_⟩
  · have := ha 0 _ rfl; rw [Nat.add_zero] at this; exact this
  · have := ha 1 _ rfl; rw [← Nat.add_assoc] at this; exact this
  · have := ha 2 _ rfl; rw [← Nat.add_assoc] at this; exact this
  · have := ha 3 _ rfl; rw [← Nat.add_assoc] at this; exact this
  · have := ha 4 _ rfl; rw [← Nat.add_assoc] at this; exact this
  · have := ha 5 _ rfl; rw [← Nat.add_assoc] at this; exact this
theorem bl_N {B : Nat} {w w' : World} (h : Below B w w') (n : Nat) : Below B w (w'.drewN n) := ⟨h.os, h.tape, h.output, h.size, h.block⟩
theorem RdSn.at_ {w : World} {B n : Nat} {A : Option Addr} {sn : Nat → Pl.Seen} (h : RdSn w B A n sn) {k : Nat} (hk : k < n) : ∃ b off A' c, A = some ⟨b, off, none⟩ ∧ b < B ∧ w.cell? ⟨b, off + k * 6, none⟩ = some (.int .i64 (sn k).taken) ∧
    w.cell? ⟨b, off + k * 6 + 3, none⟩ = some (.int .i64 (sn k).len) ∧ w.cell? ⟨b, off + k * 6 + 4, none⟩ = some (.int .i64 (sn k).bytes) ∧ w.cell? ⟨b, off + k * 6 + 5, none⟩ = some (.slice A' (sn k).lost.length c) ∧ RdI w B A' (sn k).lost.length (sn k).lost := by
  obtain ⟨vs, hr, his⟩ := h
  obtain ⟨b, off, rfl, hb⟩ := hr.addr hk
  obtain ⟨c0, _, _, c3, c4, c5⟩ := rdSn_at hr hk
  have h1 := his k hk
  rw [h1.taken] at c0; rw [h1.len] at c3; rw [h1.bytes] at c4
  have h2 := h1.rd
  rw [h1.n] at c5 h2
  exact ⟨b, off, _, _, rfl, hb, c0, c3, c4, c5, h2⟩
theorem SnIs.over {w w' : World} {B : Nat} {v : SnV} {s : Pl.Seen} (h : SnIs w B v s) (hb : Below w.heap.size w w') (hB : B ≤ w.heap.size) : SnIs w' w'.heap.size v s :=
  ⟨h.taken, h.mark, h.when_, h.len, h.bytes, h.n, h.rd.over hb hB⟩
theorem RdSn.over {w w' : World} {B n : Nat} {A : Option Addr} {sn : Nat → Pl.Seen} (h : RdSn w B A n sn) (hb : Below w.heap.size w w') (hB : B ≤ w.heap.size) : RdSn w' w'.heap.size A n sn := by
  obtain ⟨vs, hr, his⟩ := h
  exact ⟨vs, hr.over hb hB, fun i hi => (his i hi).over hb hB⟩
theorem blk_four (W : World) (a b c d : Array Value) (ta tb tc td : TypeId) : Blk ((((W.alloc (.cells a ta)).alloc (.cells b tb)).alloc (.cells c tc)).alloc (.cells d td)) W.heap.size ta a ∧ Blk ((((W.alloc (.cells a ta)).alloc (.cells b tb)).alloc (.cells c tc)).alloc (.cells d td)) (W.heap.size + 1) tb b ∧
    Blk ((((W.alloc (.cells a ta)).alloc (.cells b tb)).alloc (.cells c tc)).alloc (.cells d td)) (W.heap.size + 2) tc c ∧ Blk ((((W.alloc (.cells a ta)).alloc (.cells b tb)).alloc (.cells c tc)).alloc (.cells d td)) (W.heap.size + 3) td d ∧
    Below W.heap.size W ((((W.alloc (.cells a ta)).alloc (.cells b tb)).alloc (.cells c tc)).alloc (.cells d td)) := by
  obtain ⟨h1, h2, h3⟩ := blkTwo W ta tb a b
  obtain ⟨h4, h5, h6⟩ := blkTwo ((W.alloc (.cells a ta)).alloc (.cells b tb)) tc td c d
  have e : ((W.alloc (.cells a ta)).alloc (.cells b tb)).heap.size = W.heap.size + 2 := by simp
  rw [e] at h4 h5
  exact ⟨h1.below h6 h1.lt, h2.below h6 h2.lt, h4, h5, h3.trans (h6.mono h3.size)⟩

structure LRel (w1 wr : World) (late : Bool) (ts : List Pl.Stp) (sn : Nat → Pl.Seen) (gS : Nat) (k : Nat) (S : Pl.LS) (vs vt : Value) : Prop where
  mem : LMem wr w1.heap.size gS (gS + 1) (gS + 1 + 1) (gS + 1 + 1 + 1) S vs vt
  lto : Pl.leftTo late ts sn k = some S
  lb : LB S (200000 * k)
  bel : Below w1.heap.size w1 wr
  len : S.state.length ≤ k

theorem leftTo_le {late : Bool} {ts : List Pl.Stp} {sn : Nat → Pl.Seen} {n : Nat} (h : ∃ S, Pl.leftTo late ts sn n = some S) : ∀ d k, k + d = n → ∃ S, Pl.leftTo late ts sn k = some S
  | 0, k, e => by rw [Nat.add_zero] at e; subst e; exact h
  | d + 1, k, e => by
    obtain ⟨S, hS⟩ := leftTo_le h d (k + 1) (by omega)
    rw [Pl.leftTo] at hS
    cases hk : Pl.leftTo late ts sn k with
    | none => rw [hk] at hS; cases hS
    | some S' => exact ⟨S', rfl⟩
theorem leftTo_step {late : Bool} {ts : List Pl.Stp} {sn : Nat → Pl.Seen} {n k : Nat} {S : Pl.LS} {t : Pl.Stp} (h : ∃ S, Pl.leftTo late ts sn n = some S) (hk : k < n) (hS : Pl.leftTo late ts sn k = some S) (ht : ts[k]? = some t) :
    ∃ S', Pl.stepL late S t (sn k) = some S' ∧ Pl.leftTo late ts sn (k + 1) = some S' := by
  obtain ⟨S', h'⟩ := leftTo_le h (n - (k + 1)) (k + 1) (by omega)
  refine ⟨S', ?_, h'⟩
  rw [Pl.leftTo, hS, Option.bind_some, ht] at h'
  exact h'
theorem stepL_inv {late : Bool} {S S' : Pl.LS} {t : Pl.Stp} {s : Pl.Seen} (h : Pl.stepL late S t s = some S') :
    ∃ S2, Pl.outsL (Pl.inL S t) s.lost = some S2 ∧ (0 ≤ s.taken → Pl.outL S2 s.taken = some S') ∧ (s.taken < 0 → S2 = S') ∧ s.len ≤ S'.wait ∧ s.bytes ≤ S'.bytes ∧ (late = false → S'.wait ≤ s.len ∧ S'.bytes ≤ s.bytes) := by
  unfold Pl.stepL at h
  cases h1 : Pl.outsL (Pl.inL S t) s.lost with
  | none => rw [h1] at h; cases h
  | some S2 =>
    rw [h1, Option.bind_some] at h
    cases h2 : (if 0 ≤ s.taken then Pl.outL S2 s.taken else some S2) with
    | none => rw [h2] at h; cases h
    | some S3 =>
      rw [h2, Option.bind_some] at h
      split at h
      · rename_i hc
        injection h with h
        subst h
        refine ⟨S2, rfl, fun h0 => by rw [if_pos h0] at h2; exact h2, fun h0 => ?_, hc⟩
        rw [if_neg (by omega)] at h2
        injection h2
      · cases h
theorem inL_LB {S : Pl.LS} {t : Pl.Stp} {m : Nat} (h : LB S m) (ht : t.what = 0 → 0 ≤ t.it.len ∧ t.it.len ≤ 10000) : LB (Pl.inL S t) (m + 1) := by
  have a := h.w; have b := h.b
  unfold Pl.inL
  split
  · rename_i h0
    have := ht h0
    refine ⟨by dsimp only; omega, by dsimp only; omega, fun x hx => ?_⟩
    rcases List.mem_append.1 hx with hx | hx
    · exact h.s x hx
    · rw [List.mem_singleton] at hx; subst hx; exact this
  · exact ⟨by omega, by omega, h.s⟩
theorem inL_len (S : Pl.LS) (t : Pl.Stp) : (Pl.inL S t).state.length ≤ S.state.length + 1 := by
  unfold Pl.inL
  split
  · simp
  · omega
structure ORel (w1 wo wr : World) (S0 S2 : Pl.LS) (ls : List Int) (m j : Nat) (S : Pl.LS) (vs vt : Value) : Prop where
  mem : LMem wr w1.heap.size w1.heap.size (w1.heap.size + 1) (w1.heap.size + 1 + 1) (w1.heap.size + 1 + 1 + 1) S vs vt
  rest : Pl.outsL S (ls.drop j) = some S2
  lb : LB S (m + j)
  bel : Below w1.heap.size wo wr
  len : S.state.length ≤ S0.state.length
theorem outL_len {S S' : Pl.LS} {k : Int} (h : Pl.outL S k = some S') : S'.state.length = S.state.length := by
  obtain ⟨_, _, _, rfl⟩ := outL_some h
  simp
theorem ORel.step {w1 wo wr w' : World} {S0 S2 S : Pl.LS} {ls : List Int} {m j : Nat} {vs vt : Value} (h : ORel w1 wo wr S0 S2 ls m j S vs vt) (hj : j < ls.length) :
    ∃ S', Pl.outL S (ls.getD j 0) = some S' ∧ (∀ w', LMem w' w1.heap.size w1.heap.size (w1.heap.size + 1) (w1.heap.size + 1 + 1) (w1.heap.size + 1 + 1 + 1) S' vs vt → Below w1.heap.size wr w' → ORel w1 wo w' S0 S2 ls m (j + 1) S' vs vt) := by
  have hr := h.rest
  rw [List.drop_eq_getElem_cons hj, Pl.outsL] at hr
  have e : ls.getD j 0 = ls[j] := by rw [List.getD, List.getElem?_eq_getElem hj]; rfl
  cases h1 : Pl.outL S ls[j] with
  | none => rw [h1] at hr; cases hr
  | some S' =>
    rw [h1, Option.bind_some] at hr
    exact ⟨S', by rw [e, h1], fun w' hm hb => ⟨hm, hr, h.lb.out h1 h.mem.sl, h.bel.trans hb, by rw [outL_len h1]; exact h.len⟩⟩

set_option maxHeartbeats 4000000 in
set_option maxRecDepth 100000 in
theorem left_yes (A : Option Addr) (n c : Nat) (l : List Pl.Stp) (As : Option Addr) (cs : Nat) (sn : Nat → Pl.Seen) (late : Bool) (w : World) (hr : RdR StR w w.heap.size A n l) (hrs : RdSn w w.heap.size As n sn) (hn : n ≤ 1000)
    (hl : ∀ i, i < n → (sn i).lost.length ≤ 100000) (hto : ∃ S, Pl.leftTo late (Pl.timesTo l n) sn n = some S) :
    Calls Tryz.prog 18 #[.slice A n c, .slice As n cs, .bool late] w fun e w' => e = .returned (.bool true) ∧ Below w.heap.size w w' := by
  have hll := hr.len
  have htl := Pl.timesTo_len l n (by omega)
  have hok := Pl.times_ok l
  rw [hll] at hok
  have HL := Lib.hid hl; have HTO := Lib.hid hto; have HTL := Lib.hid htl; have HOK := Lib.hid hok
  clear hl hto htl hok hll
  go_enter Tryz.func18, Tryz.ntmps18
  go_wp2_with fail
  refine (times_any A n c l w hr (by omega)).mono ?_
  rintro e w1 ⟨At, ct, rfl, hrt, hb1, _⟩
  rw [HTL.out] at hrt
  rw [HTL.out]
  have hrs1 := hrs.over hb1 (Nat.le_refl _)
  generalize Pl.timesTo l n = ts at *
  obtain ⟨k1, k2, k3, k4, k5⟩ := blk_four w1 #[.slice none 0 0] #[.slice none 0 0] #[.int .i64 0] #[.int .i64 0] 26 26 3 3
  have hrel0 : LRel w1 ((((w1.alloc (.cells #[.slice none 0 0] 26)).alloc (.cells #[.slice none 0 0] 26)).alloc (.cells #[.int .i64 0] 3)).alloc (.cells #[.int .i64 0] 3)) late ts sn w1.heap.size 0 ⟨[], [], 0, 0⟩ (.slice none 0 0) (.slice none 0 0) :=
    ⟨⟨k1, k2, k3, k4, OwnW.nil _ _ _ _, OwnW.nil _ _ _ _, ⟨by omega, by omega, by omega, by omega⟩, by omega, by omega, (fun i h => by simp [Value.ownBlock] at h), (fun i h => by simp [Value.ownBlock] at h), rfl⟩, rfl,
      ⟨by simp, by simp, fun x hx => by simp at hx⟩, k5, by simp⟩
  have HREL0 := Lib.hid hrel0; have HB1 := Lib.hid hb1
  clear hrel0 k1 k2 k3 k4 k5 hb1
  go_wp2_with fail
  go_loopw [13] (fun i wr => ∃ (k : Nat) (S : Pl.LS) (vs vt : Value), k ≤ n ∧ i = .int .i64 k ∧ LRel w1 wr late ts sn w1.heap.size k S vs vt) (fun i _ => n - (intOf i).toNat)
  case atStart => exact ⟨0, _, _, _, Nat.zero_le _, rfl, HREL0.out⟩
  case round =>
    obtain ⟨k, S, vs, vt, hk, rfl, hrel⟩ := hrel
    have HREL := Lib.hid hrel
    clear hrel
    by_cases hlt : k < n
    · obtain ⟨b, off, rfl, hbB⟩ := hrt.addr hlt
      obtain ⟨c0, _, _, c3, _, _, _⟩ := rdSt_at hrt hlt
      have i1 : (k : Int) < (n : Int) := by omega
      have d0 := (HREL.out.bel.cell (p := ⟨b, off + k * 7, none⟩) hbB).trans c0
      have d3 := (HREL.out.bel.cell (p := ⟨b, off + k * 7 + 3, none⟩) hbB).trans c3
      clear c0 c3
      have hget : ts[k]? = some (ixR StR ts k) := by
        unfold ixR
        rw [List.getD, List.getElem?_eq_getElem (show k < ts.length by have := HTL.out; omega)]; rfl
      have hin := HOK.out _ (List.mem_of_getElem? hget)
      have HGET := Lib.hid hget; have HIN := Lib.hid hin
      clear hget hin
      generalize ixR StR ts k = t at *
      obtain ⟨sw, sl, ⟨sa, sn', sf, sb, sm⟩⟩ := t
      dsimp only at d0 d3
      have hszr := HREL.out.bel.size
      go_upto_if 34 with fail
      go_cut [] from 23 to 131 (fun wx => ∃ vs vt, LMem wx w1.heap.size w1.heap.size (w1.heap.size + 1) (w1.heap.size + 1 + 1) (w1.heap.size + 1 + 1 + 1) (Pl.inL S ⟨sw, sl, ⟨sa, sn', sf, sb, sm⟩⟩) vs vt ∧ Below w1.heap.size wr wx)
      case first =>
        by_cases h0 : sw = 0
        · subst h0
          have hil : Pl.inL S ⟨0, sl, ⟨sa, sn', sf, sb, sm⟩⟩ = ⟨S.size ++ [sn'], S.state ++ [0], S.wait + 1, S.bytes + sn'⟩ := by unfold Pl.inL; rw [if_pos rfl]
          have HIL := Lib.hid hil
          have hsn : 0 ≤ sn' ∧ sn' ≤ 10000 := okB_len (HIN.out rfl).1
          have hmem := HREL.out.mem
          have hboth := Both.of hmem
          have hlb := HREL.out.lb
          have hw := hlb.w; have hb := hlb.b
          have hlen := HREL.out.len
          have hsl := hmem.sl
          have e8 := hmem.bS.cell 0; have e9 := hmem.bT.cell 0; have g8 := hmem.bS.frozen 0; have g9 := hmem.bT.frozen 0
          simp at e8 e9
          have HSL := Lib.hid hsl; have HB := Lib.hid hboth
          obtain ⟨Av, cv, rfl, _, _, _⟩ := hmem.oS.reads
          obtain ⟨Aw, cw, rfl, _, _, _⟩ := hmem.oT.reads
          clear hil hmem hboth hlb hsl
          have n1 : w1.heap.size ≠ w1.heap.size + 1 := by omega
          have n2 : w1.heap.size + 1 ≠ w1.heap.size := by omega
          go_wp2_with fail
          have hsle : S.size.length ≤ 1000 := by have := HSL.out; omega
          have hb0 := Both.drew HB.out
          have HB0 := Lib.hid hb0
          have D3 := Lib.hid d3
          clear hb0 HB d3 e8 e9 g8 g9
          refine wp_till (fun wx => wx.cell? ⟨w1.heap.size, 0, none⟩ = some (.slice Av S.size.length cv) ∧ wx.cell? ⟨w1.heap.size + 1, 0, none⟩ = some (.slice Aw S.state.length cw) ∧ wx.cell? ⟨b, off + k * 7 + 3, none⟩ = some (.int .i64 sn')) [12, 13] (by kernel_rfl) ?_
          generalize wr.drew = W at *
          refine till_take 1 [] _ ?_ (by simp only [List.getElem?_toArray, List.getElem?_cons_succ, List.getElem?_cons_zero]; rfl) (by kernel_rfl) (by kernel_rfl) (by kernel_rfl) (by kernel_rfl) (by kernel_rfl) (by intro _ _ _ _ h; exact h) (Or.inl ⟨by rfl, ?_⟩) (HB0.out.sees D3.out hbB) ?_
          rotate_left 1; focus (intro wx hSw; (try dsimp only at hSw); obtain ⟨q1, q2, q3⟩ := hSw; go_simp; try with_reducible rfl)
          try simp only [Act.put, List.setIfInBounds_toArray, List.set_cons_zero, List.set_cons_succ]
          refine till_take 2 [] _ ?_ (by simp only [List.getElem?_toArray, List.getElem?_cons_succ, List.getElem?_cons_zero]; rfl) (by kernel_rfl) (by kernel_rfl) (by kernel_rfl) (by kernel_rfl) (by kernel_rfl) (by intro _ _ _ _ h; exact h) (Or.inl ⟨by rfl, ?_⟩) (HB0.out.sees D3.out hbB) ?_
          rotate_left 1; focus (intro wx hSw; (try dsimp only at hSw); obtain ⟨q1, q2, q3⟩ := hSw; go_simp; try with_reducible rfl)
          try simp only [Act.put, List.setIfInBounds_toArray, List.set_cons_zero, List.set_cons_succ]
          refine till_take 3 [] _ ?_ (by simp only [List.getElem?_toArray, List.getElem?_cons_succ, List.getElem?_cons_zero]; rfl) (by kernel_rfl) (by kernel_rfl) (by kernel_rfl) (by kernel_rfl) (by kernel_rfl) (by intro _ _ _ _ h; exact h) (Or.inl ⟨by rfl, ?_⟩) (HB0.out.sees D3.out hbB) ?_
          rotate_left 1; focus (intro wx hSw; (try dsimp only at hSw); obtain ⟨q1, q2, q3⟩ := hSw; go_simp; try with_reducible rfl)
          try simp only [Act.put, List.setIfInBounds_toArray, List.set_cons_zero, List.set_cons_succ]
          refine till_take 4 [] _ ?_ (by simp only [List.getElem?_toArray, List.getElem?_cons_succ, List.getElem?_cons_zero]; rfl) (by kernel_rfl) (by kernel_rfl) (by kernel_rfl) (by kernel_rfl) (by kernel_rfl) (by intro _ _ _ _ h; exact h) (Or.inl ⟨by rfl, ?_⟩) (HB0.out.sees D3.out hbB) ?_
          rotate_left 1; focus (intro wx hSw; (try dsimp only at hSw); obtain ⟨q1, q2, q3⟩ := hSw; go_simp; try with_reducible rfl)
          try simp only [Act.put, List.setIfInBounds_toArray, List.set_cons_zero, List.set_cons_succ]
          refine till_take 5 [] _ ?_ (by simp only [List.getElem?_toArray, List.getElem?_cons_succ, List.getElem?_cons_zero]; rfl) (by kernel_rfl) (by kernel_rfl) (by kernel_rfl) (by kernel_rfl) (by kernel_rfl) (by intro _ _ _ _ h; exact h) (Or.inl ⟨by rfl, ?_⟩) (HB0.out.sees D3.out hbB) ?_
          rotate_left 1; focus (intro wx hSw; (try dsimp only at hSw); obtain ⟨q1, q2, q3⟩ := hSw; go_simp; try with_reducible rfl)
          try simp only [Act.put, List.setIfInBounds_toArray, List.set_cons_zero, List.set_cons_succ]
          refine till_take 6 [] _ ?_ (by simp only [List.getElem?_toArray, List.getElem?_cons_succ, List.getElem?_cons_zero]; rfl) (by kernel_rfl) (by kernel_rfl) (by kernel_rfl) (by kernel_rfl) (by kernel_rfl) (by intro _ _ _ _ h; exact h) (Or.inl ⟨by rfl, ?_⟩) (HB0.out.sees D3.out hbB) ?_
          rotate_left 1; focus (intro wx hSw; (try dsimp only at hSw); obtain ⟨q1, q2, q3⟩ := hSw; go_simp; try with_reducible rfl)
          try simp only [Act.put, List.setIfInBounds_toArray, List.set_cons_zero, List.set_cons_succ]
          refine till_take 0 [] _ ?_ (by simp only [List.getElem?_toArray, List.getElem?_cons_zero]; rfl) (by kernel_rfl) (by kernel_rfl) (by kernel_rfl) (by kernel_rfl) (by kernel_rfl) (by intro _ _ _ _ h; exact h) (Or.inl ⟨by rfl, ?_⟩) (HB0.out.sees D3.out hbB) ?_
          rotate_left 1; focus (intro wx hSw; (try dsimp only at hSw); obtain ⟨q1, q2, q3⟩ := hSw; go_simp; try with_reducible rfl)
          try simp only [Act.put, List.setIfInBounds_toArray, List.set_cons_zero, List.set_cons_succ]
          refine till_take 9 [11] _ ?_ (by simp only [List.getElem?_toArray, List.getElem?_cons_succ, List.getElem?_cons_zero]; rfl) (by kernel_rfl) (by kernel_rfl) (by kernel_rfl) (by kernel_rfl) (by kernel_rfl) (by intro _ _ _ _ h; exact h) (Or.inl ⟨by rfl, ?_⟩) (HB0.out.sees D3.out hbB) ?_
          rotate_left 1; focus (intro wx hSw; (try dsimp only at hSw); obtain ⟨q1, q2, q3⟩ := hSw; go_simp; try with_reducible rfl)
          try simp only [Act.put, List.setIfInBounds_toArray, List.set_cons_zero, List.set_cons_succ]
          refine till_ready [7, 10] (by kernel_rfl) (by simp) ?_
          refine alls_cons (by simp only [List.getElem?_toArray, List.getElem?_cons_succ, List.getElem?_cons_zero]; rfl) (fun K hK => ?_) ?_
          focus
            go_simp
            refine hK.out _ _ (fun _ => (HB0.out.alloc _).sees D3.out hbB) ?_
            clear hK K
            try simp only [Act.put, List.setIfInBounds_toArray, List.set_cons_zero, List.set_cons_succ]
            obtain ⟨hb2, hp2⟩ := Both.lay HB0.out (sn')
            have HB_1 := Lib.hid hb2; have P1_2 := Lib.hid hp2; clear hb2 hp2
            clear HB0
            refine till_ready [8, 10] (by kernel_rfl) (by simp) ?_
            refine alls_cons (by simp only [List.getElem?_toArray, List.getElem?_cons_succ, List.getElem?_cons_zero]; rfl) (fun K hK => ?_) ?_
            focus
              refine step_addW IntR (by rfl) (.tmp 35) (.tmp 42) _ w1.heap.size 3 _ 8 Tryz.underlying26 Tryz.intRInfo (by rfl) rfl _ S.size.length S.size (sn') HB_1.out.oS (by rfl) ⟨_, (by first | rfl | (show Value.slice _ _ _ = _; simp; done)), int_cells P1_2.out.c⟩ (int_one _) (by omega) (by omega) HB_1.out.szle ?_
              intro v1 w2 h1 h2 h3
              obtain ⟨A8, c8, rfl, _, _, _⟩ := h1.reads
              have hb2 := HB_1.out.push1 h1 h2 h3
              have HB_3 := Lib.hid hb2; clear hb2
              clear HB_1 P1_2 h1 h2 h3
              refine hK.out _ _ (fun _ => HB_3.out.sees D3.out hbB) ?_
              clear hK K
              try simp only [Act.put, List.setIfInBounds_toArray, List.set_cons_zero, List.set_cons_succ]
              refine till_ready [10] (by kernel_rfl) (by simp) ?_
              refine alls_cons (by simp only [List.getElem?_toArray, List.getElem?_cons_succ, List.getElem?_cons_zero]; rfl) (fun K hK => ?_) alls_nil
              go_simp
              refine hK.out _ _ (fun _ => (HB_3.out.alloc _).sees D3.out hbB) ?_
              clear hK K
              try simp only [Act.put, List.setIfInBounds_toArray, List.set_cons_zero, List.set_cons_succ]
              obtain ⟨hb2, hp2⟩ := Both.lay HB_3.out (0)
              have HB_4 := Lib.hid hb2; have P2_5 := Lib.hid hp2; clear hb2 hp2
              clear HB_3
              refine till_ready [11] (by kernel_rfl) (by simp) ?_
              refine alls_cons (by simp only [List.getElem?_toArray, List.getElem?_cons_succ, List.getElem?_cons_zero]; rfl) (fun K hK => ?_) alls_nil
              refine step_addW IntR (by rfl) (.tmp 44) (.tmp 45) _ w1.heap.size 3 _ 8 Tryz.underlying26 Tryz.intRInfo (by rfl) rfl _ S.state.length S.state (0) HB_4.out.oT (by rfl) ⟨_, (by first | rfl | (show Value.slice _ _ _ = _; simp; done)), int_cells P2_5.out.c⟩ (int_one _) (by omega) (by omega) HB_4.out.szle ?_
              intro v1 w2 h1 h2 h3
              obtain ⟨A11, c11, rfl, _, _, _⟩ := h1.reads
              have hb2 := HB_4.out.push2 h1 h2 h3
              have HB_6 := Lib.hid hb2; clear hb2
              clear HB_4 P2_5 h1 h2 h3
              refine hK.out _ _ (fun _ => HB_6.out.sees D3.out hbB) ?_
              clear hK K
              try simp only [Act.put, List.setIfInBounds_toArray, List.set_cons_zero, List.set_cons_succ]
              refine till_ready [12] (by kernel_rfl) (by simp) ?_
              refine alls_cons (by simp only [List.getElem?_toArray, List.getElem?_cons_succ, List.getElem?_cons_zero]; rfl) (fun K hK => ?_) alls_nil
              have y8 := HB_6.out.bS.cell 0; have x8 := HB_6.out.bS.frozen 0; have y9 := HB_6.out.bT.cell 0; have x9 := HB_6.out.bT.frozen 0; simp at y8 y9
              go_simp
              refine hK.out _ _ (fun h => Bool.noConfusion h) ?_
              clear hK K
              try simp only [Act.put, List.setIfInBounds_toArray, List.set_cons_zero, List.set_cons_succ]
              refine till_ready [13] (by kernel_rfl) (by simp) ?_
              refine alls_cons (by simp only [List.getElem?_toArray, List.getElem?_cons_succ, List.getElem?_cons_zero]; rfl) (fun K hK => ?_) alls_nil
              go_simp
              refine hK.out _ _ (fun h => Bool.noConfusion h) ?_
              clear hK K y8 y9 x8 x9
              try simp only [Act.put, List.setIfInBounds_toArray, List.set_cons_zero, List.set_cons_succ]
              refine till_done (by kernel_rfl) ?_ _
              obtain ⟨hm1, hm2⟩ := Both.mem (S := ⟨S.size ++ [sn'], S.state ++ [0], S.wait, S.bytes⟩) HB_6.out (by simp; exact HSL.out)
              generalize (w2.setCell ⟨w1.heap.size, 0, none⟩ (Value.slice A8 (S.size.length + 1) c8)).setCell ⟨w1.heap.size + 1, 0, none⟩ (Value.slice A11 (S.state.length + 1) c11) = W9 at *
              have z1 := hm1.bW.cell 0; have z2 := hm1.bB.cell 0; have z3 := hm1.bW.frozen 0; have z4 := hm1.bB.frozen 0
              simp at z1 z2
              have z5 := (hm2.cell (p := ⟨b, off + k * 7 + 3, none⟩) hbB).trans D3.out
              have hnums := hm1.nums (S.wait + 1) (S.bytes + sn')
              have HN := Lib.hid hnums; have HM2 := Lib.hid hm2
              clear hm1 hm2 hnums HB_6
              have n3 : w1.heap.size + 1 + 1 ≠ w1.heap.size + 1 + 1 + 1 := by omega
              have n4 : w1.heap.size + 1 + 1 + 1 ≠ w1.heap.size + 1 + 1 := by omega
              have n5 : b ≠ w1.heap.size + 1 + 1 := by omega
              have n6 : w1.heap.size + 1 + 1 ≠ b := by omega
              go_wp2_with fail
              go_region
              all_goals
                go_wp2_with fail
                go_meet
                case rel => exact ⟨_, _, by rw [HIL.out]; exact HN.out.1.drew, HM2.out.trans HN.out.2.drew⟩
            refine alls_cons (by simp only [List.getElem?_toArray, List.getElem?_cons_succ, List.getElem?_cons_zero]; rfl) (fun K hK => ?_) alls_nil
            go_simp
            refine hK.out _ _ (fun _ => (HB_1.out.alloc _).sees D3.out hbB) ?_
            clear hK K
            try simp only [Act.put, List.setIfInBounds_toArray, List.set_cons_zero, List.set_cons_succ]
            obtain ⟨hb2, hp2⟩ := Both.lay HB_1.out (0)
            have HB_7 := Lib.hid hb2; have P2_8 := Lib.hid hp2; clear hb2 hp2
            have hp3 := Pend.alloc P1_2.out (.cells #[.int .i64 (0)] 3)
            have P1_9 := Lib.hid hp3; clear hp3 P1_2
            clear HB_1
            refine till_ready [8] (by kernel_rfl) (by simp) ?_
            refine alls_cons (by simp only [List.getElem?_toArray, List.getElem?_cons_succ, List.getElem?_cons_zero]; rfl) (fun K hK => ?_) alls_nil
            refine step_addW IntR (by rfl) (.tmp 35) (.tmp 42) _ w1.heap.size 3 _ 8 Tryz.underlying26 Tryz.intRInfo (by rfl) rfl _ S.size.length S.size (sn') HB_7.out.oS (by rfl) ⟨_, (by first | rfl | (show Value.slice _ _ _ = _; simp; done)), int_cells P1_9.out.c⟩ (int_one _) (by omega) (by omega) HB_7.out.szle ?_
            intro v1 w2 h1 h2 h3
            obtain ⟨A8, c8, rfl, _, _, _⟩ := h1.reads
            have hb2 := HB_7.out.push1 h1 h2 h3
            have HB_10 := Lib.hid hb2; clear hb2
            have hp3 := P2_8.out.grow1 h2 h3
            have P2_11 := Lib.hid hp3; clear hp3 P2_8
            clear HB_7 P1_9 h1 h2 h3
            refine hK.out _ _ (fun _ => HB_10.out.sees D3.out hbB) ?_
            clear hK K
            try simp only [Act.put, List.setIfInBounds_toArray, List.set_cons_zero, List.set_cons_succ]
            refine till_ready [11] (by kernel_rfl) (by simp) ?_
            refine alls_cons (by simp only [List.getElem?_toArray, List.getElem?_cons_succ, List.getElem?_cons_zero]; rfl) (fun K hK => ?_) alls_nil
            refine step_addW IntR (by rfl) (.tmp 44) (.tmp 45) _ w1.heap.size 3 _ 8 Tryz.underlying26 Tryz.intRInfo (by rfl) rfl _ S.state.length S.state (0) HB_10.out.oT (by rfl) ⟨_, (by first | rfl | (show Value.slice _ _ _ = _; simp; done)), int_cells P2_11.out.c⟩ (int_one _) (by omega) (by omega) HB_10.out.szle ?_
            intro v1 w2 h1 h2 h3
            obtain ⟨A11, c11, rfl, _, _, _⟩ := h1.reads
            have hb2 := HB_10.out.push2 h1 h2 h3
            have HB_12 := Lib.hid hb2; clear hb2
            clear HB_10 P2_11 h1 h2 h3
            refine hK.out _ _ (fun _ => HB_12.out.sees D3.out hbB) ?_
            clear hK K
            try simp only [Act.put, List.setIfInBounds_toArray, List.set_cons_zero, List.set_cons_succ]
            refine till_ready [12] (by kernel_rfl) (by simp) ?_
            refine alls_cons (by simp only [List.getElem?_toArray, List.getElem?_cons_succ, List.getElem?_cons_zero]; rfl) (fun K hK => ?_) alls_nil
            have y8 := HB_12.out.bS.cell 0; have x8 := HB_12.out.bS.frozen 0; have y9 := HB_12.out.bT.cell 0; have x9 := HB_12.out.bT.frozen 0; simp at y8 y9
            go_simp
            refine hK.out _ _ (fun h => Bool.noConfusion h) ?_
            clear hK K
            try simp only [Act.put, List.setIfInBounds_toArray, List.set_cons_zero, List.set_cons_succ]
            refine till_ready [13] (by kernel_rfl) (by simp) ?_
            refine alls_cons (by simp only [List.getElem?_toArray, List.getElem?_cons_succ, List.getElem?_cons_zero]; rfl) (fun K hK => ?_) alls_nil
            go_simp
            refine hK.out _ _ (fun h => Bool.noConfusion h) ?_
            clear hK K y8 y9 x8 x9
            try simp only [Act.put, List.setIfInBounds_toArray, List.set_cons_zero, List.set_cons_succ]
            refine till_done (by kernel_rfl) ?_ _
            obtain ⟨hm1, hm2⟩ := Both.mem (S := ⟨S.size ++ [sn'], S.state ++ [0], S.wait, S.bytes⟩) HB_12.out (by simp; exact HSL.out)
            generalize (w2.setCell ⟨w1.heap.size, 0, none⟩ (Value.slice A8 (S.size.length + 1) c8)).setCell ⟨w1.heap.size + 1, 0, none⟩ (Value.slice A11 (S.state.length + 1) c11) = W9 at *
            have z1 := hm1.bW.cell 0; have z2 := hm1.bB.cell 0; have z3 := hm1.bW.frozen 0; have z4 := hm1.bB.frozen 0
            simp at z1 z2
            have z5 := (hm2.cell (p := ⟨b, off + k * 7 + 3, none⟩) hbB).trans D3.out
            have hnums := hm1.nums (S.wait + 1) (S.bytes + sn')
            have HN := Lib.hid hnums; have HM2 := Lib.hid hm2
            clear hm1 hm2 hnums HB_12
            have n3 : w1.heap.size + 1 + 1 ≠ w1.heap.size + 1 + 1 + 1 := by omega
            have n4 : w1.heap.size + 1 + 1 + 1 ≠ w1.heap.size + 1 + 1 := by omega
            have n5 : b ≠ w1.heap.size + 1 + 1 := by omega
            have n6 : w1.heap.size + 1 + 1 ≠ b := by omega
            go_wp2_with fail
            go_region
            all_goals
              go_wp2_with fail
              go_meet
              case rel => exact ⟨_, _, by rw [HIL.out]; exact HN.out.1.drew, HM2.out.trans HN.out.2.drew⟩
          refine alls_cons (by simp only [List.getElem?_toArray, List.getElem?_cons_succ, List.getElem?_cons_zero]; rfl) (fun K hK => ?_) alls_nil
          go_simp
          refine hK.out _ _ (fun _ => (HB0.out.alloc _).sees D3.out hbB) ?_
          clear hK K
          try simp only [Act.put, List.setIfInBounds_toArray, List.set_cons_zero, List.set_cons_succ]
          obtain ⟨hb2, hp2⟩ := Both.lay HB0.out (0)
          have HB_13 := Lib.hid hb2; have P2_14 := Lib.hid hp2; clear hb2 hp2
          clear HB0
          refine till_ready [7] (by kernel_rfl) (by simp) ?_
          refine alls_cons (by simp only [List.getElem?_toArray, List.getElem?_cons_succ, List.getElem?_cons_zero]; rfl) (fun K hK => ?_) alls_nil
          go_simp
          refine hK.out _ _ (fun _ => (HB_13.out.alloc _).sees D3.out hbB) ?_
          clear hK K
          try simp only [Act.put, List.setIfInBounds_toArray, List.set_cons_zero, List.set_cons_succ]
          obtain ⟨hb2, hp2⟩ := Both.lay HB_13.out (sn')
          have HB_15 := Lib.hid hb2; have P1_16 := Lib.hid hp2; clear hb2 hp2
          have hp3 := Pend.alloc P2_14.out (.cells #[.int .i64 (sn')] 3)
          have P2_17 := Lib.hid hp3; clear hp3 P2_14
          clear HB_13
          refine till_ready [8] (by kernel_rfl) (by simp) ?_
          refine alls_cons (by simp only [List.getElem?_toArray, List.getElem?_cons_succ, List.getElem?_cons_zero]; rfl) (fun K hK => ?_) alls_nil
          refine step_addW IntR (by rfl) (.tmp 35) (.tmp 42) _ w1.heap.size 3 _ 8 Tryz.underlying26 Tryz.intRInfo (by rfl) rfl _ S.size.length S.size (sn') HB_15.out.oS (by rfl) ⟨_, (by first | rfl | (show Value.slice _ _ _ = _; simp; done)), int_cells P1_16.out.c⟩ (int_one _) (by omega) (by omega) HB_15.out.szle ?_
          intro v1 w2 h1 h2 h3
          obtain ⟨A8, c8, rfl, _, _, _⟩ := h1.reads
          have hb2 := HB_15.out.push1 h1 h2 h3
          have HB_18 := Lib.hid hb2; clear hb2
          have hp3 := P2_17.out.grow1 h2 h3
          have P2_19 := Lib.hid hp3; clear hp3 P2_17
          clear HB_15 P1_16 h1 h2 h3
          refine hK.out _ _ (fun _ => HB_18.out.sees D3.out hbB) ?_
          clear hK K
          try simp only [Act.put, List.setIfInBounds_toArray, List.set_cons_zero, List.set_cons_succ]
          refine till_ready [11] (by kernel_rfl) (by simp) ?_
          refine alls_cons (by simp only [List.getElem?_toArray, List.getElem?_cons_succ, List.getElem?_cons_zero]; rfl) (fun K hK => ?_) alls_nil
          refine step_addW IntR (by rfl) (.tmp 44) (.tmp 45) _ w1.heap.size 3 _ 8 Tryz.underlying26 Tryz.intRInfo (by rfl) rfl _ S.state.length S.state (0) HB_18.out.oT (by rfl) ⟨_, (by first | rfl | (show Value.slice _ _ _ = _; simp; done)), int_cells P2_19.out.c⟩ (int_one _) (by omega) (by omega) HB_18.out.szle ?_
          intro v1 w2 h1 h2 h3
          obtain ⟨A11, c11, rfl, _, _, _⟩ := h1.reads
          have hb2 := HB_18.out.push2 h1 h2 h3
          have HB_20 := Lib.hid hb2; clear hb2
          clear HB_18 P2_19 h1 h2 h3
          refine hK.out _ _ (fun _ => HB_20.out.sees D3.out hbB) ?_
          clear hK K
          try simp only [Act.put, List.setIfInBounds_toArray, List.set_cons_zero, List.set_cons_succ]
          refine till_ready [12] (by kernel_rfl) (by simp) ?_
          refine alls_cons (by simp only [List.getElem?_toArray, List.getElem?_cons_succ, List.getElem?_cons_zero]; rfl) (fun K hK => ?_) alls_nil
          have y8 := HB_20.out.bS.cell 0; have x8 := HB_20.out.bS.frozen 0; have y9 := HB_20.out.bT.cell 0; have x9 := HB_20.out.bT.frozen 0; simp at y8 y9
          go_simp
          refine hK.out _ _ (fun h => Bool.noConfusion h) ?_
          clear hK K
          try simp only [Act.put, List.setIfInBounds_toArray, List.set_cons_zero, List.set_cons_succ]
          refine till_ready [13] (by kernel_rfl) (by simp) ?_
          refine alls_cons (by simp only [List.getElem?_toArray, List.getElem?_cons_succ, List.getElem?_cons_zero]; rfl) (fun K hK => ?_) alls_nil
          go_simp
          refine hK.out _ _ (fun h => Bool.noConfusion h) ?_
          clear hK K y8 y9 x8 x9
          try simp only [Act.put, List.setIfInBounds_toArray, List.set_cons_zero, List.set_cons_succ]
          refine till_done (by kernel_rfl) ?_ _
          obtain ⟨hm1, hm2⟩ := Both.mem (S := ⟨S.size ++ [sn'], S.state ++ [0], S.wait, S.bytes⟩) HB_20.out (by simp; exact HSL.out)
          generalize (w2.setCell ⟨w1.heap.size, 0, none⟩ (Value.slice A8 (S.size.length + 1) c8)).setCell ⟨w1.heap.size + 1, 0, none⟩ (Value.slice A11 (S.state.length + 1) c11) = W9 at *
          have z1 := hm1.bW.cell 0; have z2 := hm1.bB.cell 0; have z3 := hm1.bW.frozen 0; have z4 := hm1.bB.frozen 0
          simp at z1 z2
          have z5 := (hm2.cell (p := ⟨b, off + k * 7 + 3, none⟩) hbB).trans D3.out
          have hnums := hm1.nums (S.wait + 1) (S.bytes + sn')
          have HN := Lib.hid hnums; have HM2 := Lib.hid hm2
          clear hm1 hm2 hnums HB_20
          have n3 : w1.heap.size + 1 + 1 ≠ w1.heap.size + 1 + 1 + 1 := by omega
          have n4 : w1.heap.size + 1 + 1 + 1 ≠ w1.heap.size + 1 + 1 := by omega
          have n5 : b ≠ w1.heap.size + 1 + 1 := by omega
          have n6 : w1.heap.size + 1 + 1 ≠ b := by omega
          go_wp2_with fail
          go_region
          all_goals
            go_wp2_with fail
            go_meet
            case rel => exact ⟨_, _, by rw [HIL.out]; exact HN.out.1.drew, HM2.out.trans HN.out.2.drew⟩
        · have t0 : (sw == 0) = false := by simpa using h0
          have hil : Pl.inL S ⟨sw, sl, ⟨sa, sn', sf, sb, sm⟩⟩ = S := by unfold Pl.inL; rw [if_neg h0]
          have HIL := Lib.hid hil
          clear hil
          go_wp2_with fail
          go_meet
          case rel => exact ⟨_, _, by rw [HIL.out]; exact HREL.out.mem, Below.refl _ _⟩
      case rest =>
        obtain ⟨vs2, vt2, hm, hbw⟩ := hcut
        obtain ⟨S', hst, hlto⟩ := leftTo_step HTO.out hlt HREL.out.lto HGET.out
        obtain ⟨S2, hs1, hs2, hs3, hs4, hs5, hs6⟩ := stepL_inv hst
        have hor : ORel w1 wc wc (Pl.inL S ⟨sw, sl, ⟨sa, sn', sf, sb, sm⟩⟩) S2 (sn k).lost (200000 * k + 1) 0 (Pl.inL S ⟨sw, sl, ⟨sa, sn', sf, sb, sm⟩⟩) vs2 vt2 :=
          ⟨hm, hs1, inL_LB HREL.out.lb (fun h => okB_len (HIN.out h).1), Below.refl _ _, Nat.le_refl _⟩
        have hll := HL.out k hlt
        have hbc := HREL.out.bel.trans hbw
        obtain ⟨bs, os, A', c', rfl, hbs, y0, y3, y4, y5, yr⟩ := hrs1.at_ hlt
        have il : (inL_len S ⟨sw, sl, ⟨sa, sn', sf, sb, sm⟩⟩) = (inL_len S ⟨sw, sl, ⟨sa, sn', sf, sb, sm⟩⟩) := rfl
        have ilen := inL_len S ⟨sw, sl, ⟨sa, sn', sf, sb, sm⟩⟩
        have hlen := HREL.out.len
        have HOR := Lib.hid hor; have HST := Lib.hid hst; have HLTO := Lib.hid hlto; have HS2 := Lib.hid hs2; have HS3 := Lib.hid hs3; have HS4 := Lib.hid hs4; have HS5 := Lib.hid hs5; have HS6 := Lib.hid hs6
        have HBC := Lib.hid hbc
        have Y0 := Lib.hid y0; have Y3 := Lib.hid y3; have Y4 := Lib.hid y4; have Y5 := Lib.hid y5; have YR := Lib.hid yr
        clear hor hst hlto hs1 hs2 hs3 hs4 hs5 hs6 hm hbw hbc y0 y3 y4 y5 yr il d0 d3
        generalize (sn k).lost = ls at *
        generalize Pl.inL S ⟨sw, sl, ⟨sa, sn', sf, sb, sm⟩⟩ = S0 at *
        go_wp2_with fail
        go_loopw [14] (fun i wi => ∃ (j : Nat) (Sj : Pl.LS) (va vb : Value), j ≤ ls.length ∧ i = .int .i64 j ∧ ORel w1 wc wi S0 S2 ls (200000 * k + 1) j Sj va vb) (fun i _ => ls.length - (intOf i).toNat)
        case atStart => exact ⟨0, _, _, _, Nat.zero_le _, rfl, HOR.out⟩
        case round =>
          obtain ⟨j, Sj, va, vb, hj, rfl, hoj⟩ := hrel
          have hbi := HBC.out.trans hoj.bel
          have y5 := (hbi.cell (p := ⟨bs, os + k * 6 + 5, none⟩) hbs).trans Y5.out
          have HOJ := Lib.hid hoj; have HBI := Lib.hid hbi
          clear hoj hbi
          by_cases hjl : j < ls.length
          · obtain ⟨bl, ol, rfl, hbl⟩ := YR.out.addr hjl
            have y6 := (HBI.out.cell (p := ⟨bl, ol + j, none⟩) hbl).trans (YR.out.all rfl j hjl)
            have ij : (j : Int) < (ls.length : Int) := by omega
            obtain ⟨Sn, ho, hnext⟩ := ORel.step (w' := wc) HOJ.out hjl
            have hcall := out_yes w1.heap.size w1.heap.size (w1.heap.size + 1) (w1.heap.size + 1 + 1) (w1.heap.size + 1 + 1 + 1) (200000 * k + 1 + j) Sj Sn va vb (ls.getD j 0) wr HOJ.out.mem ho HOJ.out.lb (by omega) (by have := HOJ.out.len; omega)
            have HC := Lib.hid hcall; have HNX := Lib.hid hnext
            clear hcall ho hnext
            generalize ls.getD j 0 = kj at *
            go_wp2_with (go_at_call 25; (with_reducible refine HC.out.mono ?_); rintro e w5 ⟨rfl, hm5, hb5⟩; have hx := HNX.out w5 hm5 hb5; have HX := Lib.hid hx; clear hx hm5 hb5)
            go_roundw
            case rel => exact ⟨j + 1, Sn, va, vb, by omega, by go_num, HX.out⟩
            case measure => simp [intOf]; omega
          · obtain rfl : j = ls.length := by omega
            have ho := HOJ.out
            have hre : Sj = S2 := by
              have := ho.rest
              rw [List.drop_length] at this
              exact Option.some.inj this
            subst hre
            have HO2 := Lib.hid ho
            clear ho
            have y0 := (HBI.out.cell (p := ⟨bs, os + k * 6, none⟩) hbs).trans Y0.out
            have y3 := (HBI.out.cell (p := ⟨bs, os + k * 6 + 3, none⟩) hbs).trans Y3.out
            have y4 := (HBI.out.cell (p := ⟨bs, os + k * 6 + 4, none⟩) hbs).trans Y4.out
            generalize (sn k).taken = tk at *
            generalize (sn k).len = sl' at *
            generalize (sn k).bytes = sb' at *
            have ilx : ¬ (ls.length : Int) < (ls.length : Int) := by omega
            have hfin : ∀ (Sf : Pl.LS) (wf : World), Sf = S' → LMem wf w1.heap.size w1.heap.size (w1.heap.size + 1) (w1.heap.size + 1 + 1) (w1.heap.size + 1 + 1 + 1) Sf va vb → Below w1.heap.size wr wf → LB Sf (200000 * (k + 1)) → Sf.state.length ≤ k + 1 →
                ∃ (k' : Nat) (S : Pl.LS) (vs vt : Value), k' ≤ n ∧ Value.int .i64 ((k : Int) + 1) = .int .i64 k' ∧ LRel w1 wf late ts sn w1.heap.size k' S vs vt :=
              fun Sf wf e h1 h2 h3 h4 => ⟨k + 1, Sf, va, vb, by omega, by go_num, ⟨h1, by rw [e]; exact HLTO.out, h3, HBI.out.trans h2, h4⟩⟩
            have HFIN := Lib.hid hfin
            clear hfin y0 y3 y4
            have hlbl : LB Sj (200000 * (k + 1)) ∧ Sj.state.length ≤ k + 1 := by
              have h1 := HO2.out.lb; have h2 := HO2.out.len
              refine ⟨⟨?_, ?_, h1.s⟩, by omega⟩
              · have := h1.w; omega
              · have := h1.b; omega
            have HLBL := Lib.hid hlbl
            clear hlbl
            by_cases ht : 0 ≤ tk
            · have hcall := out_yes w1.heap.size w1.heap.size (w1.heap.size + 1) (w1.heap.size + 1 + 1) (w1.heap.size + 1 + 1 + 1) (200000 * k + 1 + ls.length) Sj S' va vb tk wr HO2.out.mem (HS2.out ht) HO2.out.lb (by omega) (by have := HO2.out.len; omega)
              have hlb2 : LB S' (200000 * (k + 1)) ∧ S'.state.length ≤ k + 1 := by
                have h1 := HO2.out.lb.out (HS2.out ht) HO2.out.mem.sl
                have h2 := HO2.out.len; have h3 := outL_len (HS2.out ht)
                refine ⟨⟨?_, ?_, h1.s⟩, by omega⟩
                · have := h1.w; omega
                · have := h1.b; omega
              have HC := Lib.hid hcall; have HLB2 := Lib.hid hlb2
              clear hcall hlb2
              have y0 := (HBI.out.cell (p := ⟨bs, os + k * 6, none⟩) hbs).trans Y0.out
              have y5 := (HBI.out.cell (p := ⟨bs, os + k * 6 + 5, none⟩) hbs).trans Y5.out
              go_wp2_with (go_at_call 25; (with_reducible refine HC.out.mono ?_); rintro e w5 ⟨rfl, hm5, hb5⟩; have HM5 := Lib.hid hm5; have HB5 := Lib.hid hb5; clear hm5 hb5)
              have z1 := HM5.out.bW.cell 0; have z2 := HM5.out.bB.cell 0
              simp at z1 z2
              have y3 := ((HBI.out.trans HB5.out).cell (p := ⟨bs, os + k * 6 + 3, none⟩) hbs).trans Y3.out
              have y4 := ((HBI.out.trans HB5.out).cell (p := ⟨bs, os + k * 6 + 4, none⟩) hbs).trans Y4.out
              have h4 := HS4.out; have h5 := HS5.out
              have t1 : decide (S'.wait < sl') = false := by simp; omega
              have t2 : decide (S'.bytes < sb') = false := by simp; omega
              clear h4 h5
              cases late with
              | true =>
                go_quiet (fail)
                go_wp2_with fail
                go_roundw
                case rel => exact HFIN.out _ _ rfl (HM5.out.drewN _) (bl_N HB5.out _) HLB2.out.1 HLB2.out.2
                case measure => simp [intOf]; omega
              | false =>
                have h6 := HS6.out rfl
                have t3 : decide (sl' < S'.wait) = false := by simp; omega
                have t4 : decide (sb' < S'.bytes) = false := by simp; omega
                clear h6
                go_quiet (fail)
                go_wp2_with fail
                go_roundw
                case rel => exact HFIN.out _ _ rfl (HM5.out.drewN _) (bl_N HB5.out _) HLB2.out.1 HLB2.out.2
                case measure => simp [intOf]; omega
            · have e := HS3.out (by omega)
              subst e
              have hm5 := HO2.out.mem
              have hb5 : Below w1.heap.size wr wr := Below.refl _ _
              have HM5 := Lib.hid hm5; have HB5 := Lib.hid hb5; have HLB2 := Lib.hid HLBL.out
              have y0 := (HBI.out.cell (p := ⟨bs, os + k * 6, none⟩) hbs).trans Y0.out
              have y5 := (HBI.out.cell (p := ⟨bs, os + k * 6 + 5, none⟩) hbs).trans Y5.out
              clear hm5 hb5
              go_wp2_with fail
              have z1 := HM5.out.bW.cell 0; have z2 := HM5.out.bB.cell 0
              simp at z1 z2
              have y3 := ((HBI.out.trans HB5.out).cell (p := ⟨bs, os + k * 6 + 3, none⟩) hbs).trans Y3.out
              have y4 := ((HBI.out.trans HB5.out).cell (p := ⟨bs, os + k * 6 + 4, none⟩) hbs).trans Y4.out
              have h4 := HS4.out; have h5 := HS5.out
              have t1 : decide (Sj.wait < sl') = false := by simp; omega
              have t2 : decide (Sj.bytes < sb') = false := by simp; omega
              clear h4 h5
              cases late with
              | true =>
                go_quiet (fail)
                go_wp2_with fail
                go_roundw
                case rel => exact HFIN.out _ _ rfl (HM5.out.drewN _) (bl_N HB5.out _) HLB2.out.1 HLB2.out.2
                case measure => simp [intOf]; omega
              | false =>
                have h6 := HS6.out rfl
                have t3 : decide (sl' < Sj.wait) = false := by simp; omega
                have t4 : decide (sb' < Sj.bytes) = false := by simp; omega
                clear h6
                go_quiet (fail)
                go_wp2_with fail
                go_roundw
                case rel => exact HFIN.out _ _ rfl (HM5.out.drewN _) (bl_N HB5.out _) HLB2.out.1 HLB2.out.2
                case measure => simp [intOf]; omega
    · obtain rfl : k = n := by omega
      have hl := HTL.out
      have hb := HB1.out.trans (HREL.out.bel.mono (HB1.out.size))
      have HB := Lib.hid hb
      clear hb hl
      go_wp2_with fail
      go_ret
      exact ⟨rfl, HB.out⟩
end Go.Proofs.YtgdijbaodfghjaaGreatDoor
