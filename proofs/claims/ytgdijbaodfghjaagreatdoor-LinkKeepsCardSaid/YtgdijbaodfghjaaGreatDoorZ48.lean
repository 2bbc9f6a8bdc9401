/-
  Texts of this claim, one behind the other: LinkKeepsWalk.
-/
import Derived.Test.YtgdijbaodfghjaaGreatDoorZ42
import Derived.Test.YtgdijbaodfghjaaGreatDoorZ46
import Derived.Test.YtgdijbaodfghjaaGreatDoorZ23
import Derived.Test.YtgdijbaodfghjaaGreatDoorZ41
import Derived.Test.YtgdijbaodfghjaaGreatDoorZ47
/-
  LinkKeeps: the whole walk. (printed by gen_keeps.py)
-/
namespace Go.Proofs.YtgdijbaodfghjaaGreatDoor
open Go.RowKit Bkt
set_option linter.unusedVariables false
theorem rdSnt_5 {w : World} {B n : Nat} {b off : Nat} {l : List Pl.Snt} (h : RdR SntR w B (some ⟨b, off, none⟩) n l) {k : Nat} (hk : k < n) :
    w.cell? ⟨b, off + k * 4, none⟩ = some (.int .i64 (ixR SntR l k).num) ∧ w.cell? ⟨b, off + k * 4 + 1, none⟩ = some (.int .i64 (ixR SntR l k).from_) ∧ w.cell? ⟨b, off + k * 4 + 2, none⟩ = some (.int .i64 (ixR SntR l k).to_) ∧ w.cell? ⟨b, off + k * 4 + 3, none⟩ = some (.int .i64 (ixR SntR l k).mark) :=
  ⟨h.all hk 0 _ rfl, h.all hk 1 _ rfl, h.all hk 2 _ rfl, h.all hk 3 _ rfl⟩
theorem rd_chg2 {α : Type} {R : Rec α} {w w' : World} {S : Nat → Prop} {n : Nat} {A : Option Addr} {l : List α} (h : RdR R w w.heap.size A n l) (hc : Chg w w' S) (hn : 0 < n → ∀ b off, A = some ⟨b, off, none⟩ → ¬ S b) : RdR R w' w'.heap.size A n l := by
  rcases Nat.eq_zero_or_pos n with e | e
  · exact ⟨h.1, fun h0 => absurd h0 (by omega)⟩
  · exact (h.chg (Nat.le_refl _) hc (hn e)).more hc.size
def shapeL : List UInt8 := [115, 104, 97, 112, 101]
theorem not_late {text : List UInt8} {P : Pk} (hp : parseW [] text = some P) (hno : ∀ j, j + 5 ≤ text.length → (text.drop j).take 5 ≠ shapeL) : P.late = false := by
  cases hl : P.late with
  | false => rfl
  | true =>
    exfalso
    unfold parseW at hp
    split at hp
    · cases hp
    · have hm := parseP_late hp hl
      obtain ⟨s, hs, e⟩ := List.mem_map.1 hm
      have e2 : s = shapeL := by
        have : s.toArray = #[115, 104, 97, 112, 101] := congrArg ByteArray.data e
        have := congrArg Array.toList this
        simpa [shapeL] using this
      subst e2
      obtain ⟨p, q, e3⟩ := Pl.lexW_sub text [] hs
      rw [List.nil_append] at e3
      refine hno p.length ?_ ?_
      · rw [e3]; simp [shapeL]
      · rw [e3, List.append_assoc, List.drop_left]
        simp [shapeL]
structure KsR (W wr : World) (rb rt : Int) (A : Option Addr) (n c : Nat) (l : List It) (until_ : Int) (gz bs gs : Nat) (As Al : Option Addr) (cs cl : Nat) (sent : List Pl.Snt) (lost : List Int) (Q ms : Int) (ks : List Int) : Prop where
  rk : Blk wr W.heap.size 23 #[.int .i64 rb, .int .i64 rt]
  on : OnM wr (W.heap.size + 1) bs (W.heap.size + 2) gs A n c until_ ks
  it : RdIt wr wr.heap.size A n l
  zk : Blk wr gz 28 #[.slice As sent.length cs, .slice Al lost.length cl, .int .i64 Q, .int .i64 ms]
  sn : RdR SntR wr wr.heap.size As sent.length sent
  lo : RdR IntR wr wr.heap.size Al lost.length lost
  b : Below W.heap.size W wr
  g0 : W.heap.size + 2 < gs
  gz : gz ≠ gs
  sa : 0 < sent.length → ∀ b off, As = some ⟨b, off, none⟩ → b ≠ gs
  la : 0 < lost.length → ∀ b off, Al = some ⟨b, off, none⟩ → b ≠ gs
  ia : 0 < n → ∀ b off, A = some ⟨b, off, none⟩ → b < W.heap.size
section
variable {W w w' : World} {rb rt until_ Q ms : Int} {A As Al : Option Addr} {n c gz bs gs cs cl : Nat} {l : List It} {sent : List Pl.Snt} {lost ks ks' : List Int}
theorem KsR.chg (h : KsR W w rb rt A n c l until_ gz bs gs As Al cs cl sent lost Q ms ks) (hc : Chg w w' (fun i => i = gs)) (hr : RowB w' gs n ks') : KsR W w' rb rt A n c l until_ gz bs gs As Al cs cl sent lost Q ms ks' := by
  have h0 := h.g0
  exact ⟨h.rk.chg hc (by omega), h.on.chg hc hr, rd_chg2 (R := ItR) h.it hc (fun hn b off e => by have := h.ia hn b off e; omega), h.zk.chg hc h.gz, rd_chg2 h.sn hc h.sa, rd_chg2 h.lo hc h.la, h.b.trans (hc.below h.b.size (fun i hi e => by omega)), h.g0, h.gz, h.sa, h.la, h.ia⟩
theorem KsR.below (h : KsR W w rb rt A n c l until_ gz bs gs As Al cs cl sent lost Q ms ks) (hb : Below w.heap.size w w') : KsR W w' rb rt A n c l until_ gz bs gs As Al cs cl sent lost Q ms ks :=
  h.chg (Chg.of_below hb) (h.on.r.below hb)
end
set_option maxHeartbeats 1000000 in
set_option maxRecDepth 100000 in
theorem linkKeeps_many (text : List UInt8) (rb rt : Int) (A : Option Addr) (n c : Nat) (until_ : Int) (W : World) (h : 400 < text.length ∨ 60 < n) :
    Calls Tryz.prog 5 #[.string ⟨text.toArray⟩, .agg #[.int .i64 rb, .int .i64 rt], .slice A n c, .int .i64 until_] W fun e w' => e = .returned (.bool true) ∧ Below W.heap.size W w' := by
  have hb0 : Below W.heap.size W (((W.alloc (.cells #[.int .i64 rb, .int .i64 rt] 23)).alloc (.cells #[.slice A n c] 24)).alloc (.cells #[.int .i64 until_] 3)) := bl_alloc (bl_alloc (bl_alloc (Below.refl _ _)))
  by_cases c1 : 400 < text.length
  · have d1 : decide ((400 : Int) < (text.length : Int)) = true := decide_eq_true (by omega)
    clear h
    go_enter Tryz.func5, Tryz.ntmps5
    go_wp2_with fail
    go_ret
    exact ⟨rfl, hb0⟩
  · have d1 : decide ((400 : Int) < (text.length : Int)) = false := decide_eq_false (by omega)
    have d2 : decide ((60 : Int) < (n : Int)) = true := decide_eq_true (by omega)
    clear h
    go_enter Tryz.func5, Tryz.ntmps5
    go_wp2_with fail
    go_ret
    exact ⟨rfl, hb0⟩
theorem kp_three (W : World) (rb rt : Int) (A : Option Addr) (n c : Nat) (until_ : Int) : Blk (((W.alloc (.cells #[.int .i64 rb, .int .i64 rt] 23)).alloc (.cells #[.slice A n c] 24)).alloc (.cells #[.int .i64 until_] 3)) W.heap.size 23 #[.int .i64 rb, .int .i64 rt] ∧
    Blk (((W.alloc (.cells #[.int .i64 rb, .int .i64 rt] 23)).alloc (.cells #[.slice A n c] 24)).alloc (.cells #[.int .i64 until_] 3)) (W.heap.size + 1) 24 #[.slice A n c] ∧
    Blk (((W.alloc (.cells #[.int .i64 rb, .int .i64 rt] 23)).alloc (.cells #[.slice A n c] 24)).alloc (.cells #[.int .i64 until_] 3)) (W.heap.size + 2) 3 #[.int .i64 until_] ∧
    Below W.heap.size W (((W.alloc (.cells #[.int .i64 rb, .int .i64 rt] 23)).alloc (.cells #[.slice A n c] 24)).alloc (.cells #[.int .i64 until_] 3)) ∧
    (((W.alloc (.cells #[.int .i64 rb, .int .i64 rt] 23)).alloc (.cells #[.slice A n c] 24)).alloc (.cells #[.int .i64 until_] 3)).heap.size = W.heap.size + 3 := by
  refine ⟨((Blk.new W _ _).alloc _).alloc _, ?_, ?_, bl_alloc (bl_alloc (bl_alloc (Below.refl _ _))), by simp⟩
  · have := (Blk.new (W.alloc (.cells #[.int .i64 rb, .int .i64 rt] 23)) 24 #[.slice A n c]).alloc (.cells #[.int .i64 until_] 3)
    simpa using this
  · have := Blk.new ((W.alloc (.cells #[.int .i64 rb, .int .i64 rt] 23)).alloc (.cells #[.slice A n c] 24)) 3 #[.int .i64 until_]
    simpa using this
set_option maxHeartbeats 2000000 in
set_option maxRecDepth 100000 in
theorem linkKeeps_no (text : List UInt8) (rb rt : Int) (A : Option Addr) (n c : Nat) (until_ : Int) (W : World) (hv : Pv W) (h1 : text.length ≤ 400) (h2 : n ≤ 60) (hrun : ∀ w1, Below W.heap.size W w1 → Calls Tryz.prog 7 #[.string ⟨text.toArray⟩, .agg #[.int .i64 rb, .int .i64 rt], .slice A n c, .int .i64 until_] w1 (RunWNo w1)) :
    Calls Tryz.prog 5 #[.string ⟨text.toArray⟩, .agg #[.int .i64 rb, .int .i64 rt], .slice A n c, .int .i64 until_] W fun e w' => e = .returned (.bool true) ∧ Below W.heap.size W w' := by
  obtain ⟨hk0, hk1, hk2, hb0, hsz⟩ := kp_three W rb rt A n c until_
  have hbz := busy_any text (by omega) (((W.alloc (.cells #[.int .i64 rb, .int .i64 rt] 23)).alloc (.cells #[.slice A n c] 24)).alloc (.cells #[.int .i64 until_] 3))
  have HLK := Lib.hid (fun W' (hb : Below W.heap.size W W') => linked_yes W' (hv.below hb hv.sz).h)
  have HPL := Lib.hid (fun W' (hb : Below W.heap.size W W') => planted_yes W' (hv.below hb hv.sz))
  have HRN := Lib.hid hrun; have HB0 := Lib.hid hb0; have HK0 := Lib.hid hk0; have HK1 := Lib.hid hk1; have HK2 := Lib.hid hk2; have HBZ := Lib.hid hbz
  have d1 : decide ((400 : Int) < (text.length : Int)) = false := decide_eq_false (by omega)
  have d2 : decide ((60 : Int) < (n : Int)) = false := decide_eq_false (by omega)
  clear hk0 hk1 hk2 hb0 hbz hrun hv hsz
  go_enter Tryz.func5, Tryz.ntmps5
  go_wp2_with fail
  (with_reducible refine HBZ.out.mono ?_)
  rintro e w1 hbz
  unfold BusyOut at hbz
  obtain ⟨⟨b, rfl⟩, hb1⟩ := hbz
  have HB1 := Lib.hid (bl_next HB0.out hb1)
  have k0 := (HK0.out.below hb1 HK0.out.lt).cell 0; have k0' := (HK0.out.below hb1 HK0.out.lt).cell 1; have k1 := (HK1.out.below hb1 HK1.out.lt).cell 0; have k2 := (HK2.out.below hb1 HK2.out.lt).cell 0
  simp at k0 k0' k1 k2
  clear hb1
  cases b with
  | true =>
    go_wp2_with fail
    go_ret
    exact ⟨rfl, HB1.out⟩
  | false =>
  have HC := Lib.hid (HRN.out w1 HB1.out)
  go_wp2_with fail
  (with_reducible refine HC.out.mono ?_)
  rintro e w2 ⟨rfl, hb2⟩
  have HB2 := Lib.hid (bl_next HB1.out hb2)
  clear hb2 k0 k0' k1 k2 HC
  unfold logN
  go_wp2_with fail
  (with_reducible refine (HLK.out _ (bl_alloc HB2.out)).mono ?_)
  rintro e w3 ⟨rfl, hb3⟩
  have HB3 := Lib.hid (bl_next (bl_alloc HB2.out) hb3)
  clear hb3
  go_wp2_with fail
  (with_reducible refine (HPL.out _ HB3.out).mono ?_)
  rintro e w4 ⟨rfl, hb4⟩
  have HB4 := Lib.hid (bl_next HB3.out hb4)
  clear hb4
  go_wp2_with fail
  (with_reducible refine (HLK.out _ HB4.out).mono ?_)
  rintro e w5 ⟨rfl, hb5⟩
  have HB5 := Lib.hid (bl_next HB4.out hb5)
  clear hb5
  go_wp2_with fail
  (with_reducible refine (HPL.out _ HB5.out).mono ?_)
  rintro e w6 ⟨rfl, hb6⟩
  have HB6 := Lib.hid (bl_next HB5.out hb6)
  clear hb6
  go_wp2_with fail
  go_ret
  exact ⟨rfl, HB6.out⟩
namespace Pl
theorem takes_bd5 {rb rt n : Int} (hs : SpeedOk rb rt) (h0 : 1 ≤ n) (h1 : n ≤ 10000) : 1 ≤ takes rb rt n ∧ takes rb rt n ≤ 10001000000 := by
  refine ⟨takes_pos hs h0, ?_⟩
  obtain ⟨⟨a1, a2⟩, b1, b2⟩ := hs
  have h2 : n * rt ≤ 10000 * 1000000 := Int.mul_le_mul h1 b2 (by omega) (by omega)
  have h3 : 0 ≤ n * rt := Int.mul_nonneg (by omega) (by omega)
  unfold takes
  have := Int.ediv_le_self rb (a := n * rt + rb - 1) (by omega)
  omega
end Pl
theorem made_b (m : Nat) (hm : m ≤ 1000) : ∀ wz, (Instr.makeSlice 45 (.int .i64 (m : Int)) (.int .i64 (m : Int))).run Tryz.prog wz = .ok (.slice (some ⟨wz.heap.size, 0, none⟩) m m) (wz.alloc (.cells (madeCells #[.bool false] m) 4)) := fun wz => by
  obtain ⟨i0, hi, hz0, hz1, hz2⟩ := info_parts (show (Tryz.prog.info? 4).map (fun i => (i.zero, i.size, i.bytes)) = some (some (.bool false), 1, 1) by kernel_rfl)
  have := run_make (P := Tryz.prog) wz 45 4 i0 (.bool false) Tryz.underlying45 hi hz0 .i64 .i64 m m (by omega) (Int.le_refl _) (by rw [hz2]; omega) (by omega)
  rw [this, hz1]
  simp [Value.cells]
theorem nd_at {ks : List Int} (h : ks.Nodup) {i : Nat} {x : Int} (hi : ks[i]? = some x) : x ∉ ks.take i ∧ ks.take (i + 1) = ks.take i ++ [x] := by
  have hlt := (List.getElem?_eq_some_iff.1 hi).1
  have e : ks.take (i + 1) = ks.take i ++ [x] := by
    rw [List.take_succ_eq_append_getElem hlt, (List.getElem?_eq_some_iff.1 hi).2]
  refine ⟨fun hm => ?_, e⟩
  have h2 : (ks.take (i + 1)).Nodup := h.sublist (List.take_sublist _ _)
  rw [e, List.nodup_append] at h2
  exact h2.2.2 x hm x (List.mem_singleton.2 rfl) rfl
theorem restL_bd (l : List It) (K : List Int) (u : Int) (i : Nat) : 0 ≤ Pl.restL l K u i ∧ Pl.restL l K u i ≤ i := by
  induction i with
  | zero => simp [Pl.restL]
  | succ i ih =>
    rw [Pl.restL]
    split <;> omega
theorem kk_sent {sent : List Pl.Snt} {lost : List Int} {i : Nat} (h : i < sent.length) : (sent.map Pl.Snt.num ++ lost)[i]? = some (ixR SntR sent i).num := by
  rw [List.getElem?_append_left (by simpa using h), List.getElem?_map]
  unfold ixR
  rw [List.getD, List.getElem?_eq_getElem h]; rfl
theorem kk_lost {sent : List Pl.Snt} {lost : List Int} {j : Nat} (h : j < lost.length) : (sent.map Pl.Snt.num ++ lost)[sent.length + j]? = some (ixR IntR lost j) := by
  rw [List.getElem?_append_right (by simp)]
  unfold ixR
  simp [List.getD, List.getElem?_eq_getElem h]
set_option maxHeartbeats 8000000 in
set_option maxRecDepth 100000 in
theorem linkKeeps_yes {P : Pk} (text : List UInt8) (rb rt : Int) (A : Option Addr) (n c : Nat) (l : List It) (until_ : Int) (W : World) (hv : Pv W) (hr : RdIt W W.heap.size A n l) (h1 : text.length ≤ 400) (h2 : n ≤ 60) (hp : parseW [] text = some P) (hs : SpeedOk rb rt) (hf : ListFine l) (hu : 0 ≤ until_ ∧ until_ ≤ 10000000) :
    Calls Tryz.prog 5 #[.string ⟨text.toArray⟩, .agg #[.int .i64 rb, .int .i64 rt], .slice A n c, .int .i64 until_] W fun e w' => e = .returned (.bool true) ∧ Below W.heap.size W w' := by
  have hll := hr.len
  obtain ⟨hk0, hk1, hk2, hb0, hsz⟩ := kp_three W rb rt A n c until_
  have hbz := busy_any text (by omega) (((W.alloc (.cells #[.int .i64 rb, .int .i64 rt] 23)).alloc (.cells #[.slice A n c] 24)).alloc (.cells #[.int .i64 until_] 3))
  have hg := P.qb.good
  have hrun := fun w1 (hb : Below W.heap.size W w1) => run_w_yes (P := P) text (by omega) rb rt until_ A n c l w1 (hv.below hb hv.sz) (hr.over hb (Nat.le_refl _)) hp hs hf hu (Pl.kp_inv hg hf hs until_) (Pl.kp_start P.hI P.w0 l rb rt until_ hu.1) (fun S hS => Pl.KpB.bd hg hf hS)
  have HLK := Lib.hid (fun W' (hb : Below W.heap.size W W') => linked_yes W' (hv.below hb hv.sz).h)
  have HPL := Lib.hid (fun W' (hb : Below W.heap.size W W') => planted_yes W' (hv.below hb hv.sz))
  have HRN := Lib.hid hrun; have HB0 := Lib.hid hb0; have HK0 := Lib.hid hk0; have HK1 := Lib.hid hk1; have HK2 := Lib.hid hk2; have HBZ := Lib.hid hbz; have HR := Lib.hid hr; have HLL := Lib.hid hll; have HF := Lib.hid hf; have HS := Lib.hid hs; have HP := Lib.hid hp; have HSZ := Lib.hid hsz; have HG := Lib.hid hg
  obtain ⟨hu0, hu1⟩ := hu
  have d1 : decide ((400 : Int) < (text.length : Int)) = false := decide_eq_false (by omega)
  have d2 : decide ((60 : Int) < (n : Int)) = false := decide_eq_false (by omega)
  clear hk0 hk1 hk2 hb0 hbz hrun hv hr hll hf hs hp hsz hg
  go_enter Tryz.func5, Tryz.ntmps5
  go_wp2_with fail
  (with_reducible refine HBZ.out.mono ?_)
  rintro e w1 hbz
  unfold BusyOut at hbz
  obtain ⟨⟨b, rfl⟩, hb1⟩ := hbz
  have hr0 := HK0.out.below hb1 HK0.out.lt; have hr1 := HK1.out.below hb1 HK1.out.lt; have hr2 := HK2.out.below hb1 HK2.out.lt
  have k0 := hr0.cell 0; have k0' := hr0.cell 1; have k1 := hr1.cell 0; have k2 := hr2.cell 0
  simp at k0 k0' k1 k2
  have hsz1 : W.heap.size + 3 ≤ w1.heap.size := by have := hb1.size; have := HSZ.out; omega
  have HB1 := Lib.hid (bl_next HB0.out hb1); have HR0 := Lib.hid hr0; have HR1 := Lib.hid hr1; have HR2 := Lib.hid hr2
  clear hb1 hr0 hr1 hr2
  cases b with
  | true =>
    go_wp2_with fail
    go_ret
    exact ⟨rfl, HB1.out⟩
  | false =>
  have HC := Lib.hid (HRN.out w1 HB1.out)
  go_wp2_with fail
  (with_reducible refine HC.out.mono ?_)
  rintro e w2 ⟨S, As, Al, cs, cl, rfl, h2⟩
  obtain ⟨hkp, hrs, hrl, hb2⟩ := h2.out
  have hlaw := Pl.kp_law HG.out HF.out hkp
  have hbdl := (Pl.KpB.bd HG.out HF.out hkp.b).2
  have hb2' := bl_next HB1.out hb2
  generalize S.sent = sent at *
  generalize S.lost = lost at *
  generalize P.M.len S.q = Q at *
  generalize S.most = ms at *
  have hsz2 := hb2.size
  have hq0 := HR0.out.below hb2 HR0.out.lt; have hq1 := HR1.out.below hb2 HR1.out.lt; have hq2 := HR2.out.below hb2 HR2.out.lt
  have hz1 := Blk.new w2 28 #[.slice As sent.length cs, .slice Al lost.length cl, .int .i64 Q, .int .i64 ms]
  have hbz : Below w2.heap.size w2 (w2.alloc (.cells #[.slice As sent.length cs, .slice Al lost.length cl, .int .i64 Q, .int .i64 ms] 28)) := bl_alloc (Below.refl _ _)
  have HB2 := Lib.hid hb2'; have HLAW := Lib.hid hlaw; have HRS := Lib.hid hrs; have HRL := Lib.hid hrl; have HQ0 := Lib.hid hq0; have HQ1 := Lib.hid hq1; have HQ2 := Lib.hid hq2; have HZ1 := Lib.hid hz1; have HBZ2 := Lib.hid hbz
  clear h2 hkp hrs hrl hb2 hb2' hlaw hq0 hq1 hq2 hz1 hbz HC k0 k0' k1 k2 HR0 HR1 HR2
  go_wp2_with fail
  (with_reducible refine (HLK.out _ (bl_alloc HB2.out)).mono ?_)
  rintro e w3 ⟨rfl, hb3⟩
  have HB3 := Lib.hid (bl_next (bl_alloc HB2.out) hb3); have HC3 := Lib.hid (hb3 : Below _ _ w3)
  clear hb3
  go_wp2_with fail
  (with_reducible refine (HPL.out _ HB3.out).mono ?_)
  rintro e w4 ⟨rfl, hb4⟩
  have hb04 := bl_next HB3.out hb4
  have h24 : Below w2.heap.size w2 w4 := HBZ2.out.trans ((HC3.out.trans (hb4.mono HC3.out.size)).mono HBZ2.out.size)
  have hz4 := (HZ1.out.below HC3.out HZ1.out.lt).below hb4 (HZ1.out.below HC3.out HZ1.out.lt).lt
  have hr0 := HQ0.out.below h24 HQ0.out.lt; have hr1 := HQ1.out.below h24 HQ1.out.lt; have hr2 := HQ2.out.below h24 HQ2.out.lt
  have hs4 := HRS.out.over h24 (Nat.le_refl _); have hl4 := HRL.out.over h24 (Nat.le_refl _)
  have hi4 := HR.out.over hb04 (Nat.le_refl _)
  have z1 := hr1.cell 0
  simp at z1
  have hsz4 : W.heap.size + 3 ≤ w4.heap.size := by have := h24.size; omega
  have hmk := made_b n (by omega)
  have hb46 : Below w4.heap.size w4 ((w4.alloc (.cells (madeCells #[.bool false] n) 4)).alloc (.cells #[.slice (some ⟨w4.heap.size, 0, none⟩) n n] 45)) := bl_alloc (bl_alloc (Below.refl _ _))
  have hks : KsR W ((w4.alloc (.cells (madeCells #[.bool false] n) 4)).alloc (.cells #[.slice (some ⟨w4.heap.size, 0, none⟩) n n] 45)) rb rt A n c l until_ w2.heap.size (w4.heap.size + 1) w4.heap.size As Al cs cl sent lost Q ms [] := by
    refine ⟨hr0.below hb46 hr0.lt, ⟨hr1.below hb46 hr1.lt, ?_, hr2.below hb46 hr2.lt, ?_, by omega, by omega, by omega⟩, hi4.over hb46 (Nat.le_refl _), hz4.below hb46 hz4.lt, hs4.over hb46 (Nat.le_refl _), hl4.over hb46 (Nat.le_refl _), bl_next hb04 hb46, by omega, by have := hz4.lt; omega, fun h0 b off e => ?_, fun h0 b off e => ?_, fun h0 b off e => ?_⟩
    · have := Blk.new (w4.alloc (.cells (madeCells #[.bool false] n) 4)) 45 #[.slice (some ⟨w4.heap.size, 0, none⟩) n n]
      simpa using this
    · exact (rowB_made w4 n).below (bl_alloc (Below.refl _ _))
    · obtain ⟨b2, o2, e2, hb2⟩ := hs4.addr h0
      rw [e2] at e; injection e with e; injection e with e; omega
    · obtain ⟨b2, o2, e2, hb2⟩ := hl4.addr h0
      rw [e2] at e; injection e with e; injection e with e; omega
    · obtain ⟨b2, o2, e2, hb2⟩ := HR.out.addr h0
      rw [e2] at e; injection e with e; injection e with e; omega
  have HKS := Lib.hid hks
  clear hks hb46 hr0 hr1 hr2 hs4 hl4 hi4 hz4 h24 hb04 hb4 HC3 HQ0 HQ1 HQ2 HRS HRL HZ1 HBZ2
  obtain ⟨K, hK⟩ : ∃ K, K = sent.map Pl.Snt.num ++ lost := ⟨_, rfl⟩
  have hso := HLAW.out.so
  have hnd : K.Nodup := by rw [hK]; exact HLAW.out.nd
  have hrg : ∀ k ∈ K, 0 ≤ k ∧ k < n ∧ (ix l k.toNat).at_ ≤ until_ := fun k hk => by rw [hK] at hk; have := HLAW.out.rg k hk; have := HLL.out; omega
  have hrest : Q ≤ Pl.restL l K until_ n ∧ (P.late = false → Q = Pl.restL l K until_ n) := by rw [hK, ← HLL.out]; exact HLAW.out.rest
  have HSO := Lib.hid hso; have HND := Lib.hid hnd; have HRG := Lib.hid hrg; have HREST := Lib.hid hrest; have HKK := Lib.hid hK
  clear hso hnd hrg hrest hK HLAW
  go_wp2_with fail
  go_loopw [12, 14] (fun fv iv wr => ∃ i : Nat, iv = .int .i64 i ∧ fv = .int .i64 (Pl.prevTo sent i) ∧ i ≤ sent.length ∧ Hid (KsR W wr rb rt A n c l until_ w2.heap.size (w4.heap.size + 1) w4.heap.size As Al cs cl sent lost Q ms (K.take i))) (fun _ iv _ => sent.length - (intOf iv).toNat)
  case atStart => exact ⟨0, rfl, rfl, Nat.zero_le _, HKS.out⟩
  case round =>
    obtain ⟨i, rfl, rfl, hi, hks⟩ := hrel
    have z0 := hks.out.zk.cell 0
    simp at z0
    by_cases hlt : i < sent.length
    · have ii : (i : Int) < (sent.length : Int) := by omega
      obtain ⟨bs2, os, rfl, hbs⟩ := hks.out.sn.addr hlt
      have hsn := hks.out.sn
      obtain ⟨s0, s1, s2, s3⟩ := rdSnt_5 hsn hlt
      have hget : sent[i]? = some (ixR SntR sent i) := by unfold ixR; rw [List.getD, List.getElem?_eq_getElem hlt]; rfl
      obtain ⟨q1, q2, q3, q4⟩ := HSO.out i _ hget
      have hkm : K[i]? = some (ixR SntR sent i).num := by rw [HKK.out]; exact kk_sent hlt
      have hkn := HRG.out _ (List.mem_of_getElem? hkm)
      obtain ⟨hnm, htk⟩ := nd_at HND.out hkm
      obtain ⟨k, hk⟩ : ∃ k : Nat, (ixR SntR sent i).num = k := ⟨(ixR SntR sent i).num.toNat, by omega⟩
      rw [hk] at s0 hkn hnm htk q2 q4
      simp only [Int.toNat_natCast] at hkn q2 q4
      obtain ⟨b, off, rfl, hbb⟩ := HR.out.addr (show k < n by omega)
      obtain ⟨x0, x1, _, _, _⟩ := hks.out.it.cells (show k < n by omega)
      have hpv : Pl.prevTo sent (i + 1) = (ixR SntR sent i).to_ := by simp only [Pl.prevTo]; rw [hget]
      rw [q4] at s2 hpv
      have hfl := HF.out.2.1 k (by have := HLL.out; omega)
      have htb := Pl.takes_bd5 HS.out hfl.f1.1 hfl.f1.2
      have HTK := Lib.hid (fun w => takes_any rb rt (ix l k).len w HS.out (by have := hfl.f1; omega) (by have := hfl.f1; omega))
      have hal0 := hfl.f0
      have hg0 := hks.out.g0
      have hgl := hks.out.on.r.lt
      have r0 := hks.out.rk.cell 0; have r1 := hks.out.rk.cell 1; have rl := hks.out.on.cl.cell 0; have ru := hks.out.on.cu.cell 0
      simp at r0 r1 rl ru
      have hia := hks.out.ia (by omega) b off rfl
      clear hfl hsn
      generalize (ixR SntR sent i).from_ = fr at *
      generalize (ixR SntR sent i).to_ = tt at *
      generalize (ixR SntR sent i).mark = mk at *
      generalize hat : (ix l k).at_ = at_ at *
      generalize hln : (ix l k).len = ln at *
      generalize htt : takes rb rt ln = tk at *
      generalize hpp : Pl.prevTo sent i = pv at *
      have i1 : decide (fr < pv) = false := decide_eq_false (by omega)
      have i2 : decide (fr < at_) = false := decide_eq_false (by omega)
      have i3 : decide (until_ < fr) = false := decide_eq_false (by omega)
      have ik : (k : Int) < (n : Int) := by omega
      have ew : IntKind.i64.wrap (fr + tk) = fr + tk := IntWalk.i64_in _ (by omega)
      have hbz : Below wr.heap.size wr (wr.alloc (.cells #[.int .i64 k, .int .i64 fr, .int .i64 (fr + tk), .int .i64 mk] 37)) := bl_alloc (Below.refl _ _)
      have hz := Blk.new wr 37 #[.int .i64 k, .int .i64 fr, .int .i64 (fr + tk), .int .i64 mk]
      have HZ := Lib.hid hz; have HBZ := Lib.hid hbz
      have hbig : Hid ((wr.cell? ⟨W.heap.size, 0, none⟩ = some (.int .i64 rb)) ∧ (wr.cell? ⟨W.heap.size, 1, none⟩ = some (.int .i64 rt)) ∧ (wr.cell? ⟨W.heap.size + 1, 0, none⟩ = some (.slice (some ⟨b, off, none⟩) n c)) ∧ (wr.cell? ⟨W.heap.size + 2, 0, none⟩ = some (.int .i64 until_)) ∧ (wr.cell? ⟨b, off + k * 5, none⟩ = some (.int .i64 at_)) ∧ (wr.cell? ⟨b, off + k * 5 + 1, none⟩ = some (.int .i64 ln))) := Lib.hid ⟨r0, r1, rl, ru, x0, x1⟩
      clear hz hbz r0 r1 rl ru x0 x1
      go_upto_region 13 with fail
      generalize wr.alloc (.cells #[.int .i64 k, .int .i64 fr, .int .i64 (fr + tk), .int .i64 mk] 37) = wz at *
      have hks2 := hks.out.below (HBZ.out.drew)
      have HKS2 := Lib.hid hks2
      have HON : Hid (Calls Tryz.prog 16 #[.int .i64 k, .pointer (some ⟨W.heap.size + 1, 0, none⟩), .pointer (some ⟨w4.heap.size + 1, 0, none⟩), .pointer (some ⟨W.heap.size + 2, 0, none⟩)] wz.drew (OnEnd wz.drew w4.heap.size n (K.take i ++ [(k : Int)]))) := Lib.hid (once_w _ _ _ _ (some ⟨b, off, none⟩) n c until_ (K.take i) l k wz.drew hks2.on hks2.it (by omega) (by omega) hnm (by rw [hat]; omega))
      have hsz9 : wr.heap.size < wz.drew.heap.size := HZ.out.lt
      have HSD : Hid (_ ∧ _ ∧ _ ∧ _ ∧ _ ∧ _ ∧ _ ∧ _ ∧ _) := Lib.hid ⟨(show wz.drew.cell? ⟨wr.heap.size, 0, none⟩ = some (.int .i64 (k : Nat)) from HZ.out.cell 0), (show wz.drew.cell? ⟨wr.heap.size, 1, none⟩ = some (.int .i64 fr) from HZ.out.cell 1), (show wz.drew.cell? ⟨wr.heap.size, 2, none⟩ = some (.int .i64 (fr + tk)) from HZ.out.cell 2), (HBZ.out.drew.cell (p := ⟨W.heap.size, 0, none⟩) (by show W.heap.size < wr.heap.size; omega)).trans hbig.out.1, (HBZ.out.drew.cell (p := ⟨W.heap.size, 1, none⟩) (by show W.heap.size < wr.heap.size; omega)).trans hbig.out.2.1, (HBZ.out.drew.cell (p := ⟨W.heap.size + 1, 0, none⟩) (by show W.heap.size + 1 < wr.heap.size; omega)).trans hbig.out.2.2.1, (HBZ.out.drew.cell (p := ⟨W.heap.size + 2, 0, none⟩) (by show W.heap.size + 2 < wr.heap.size; omega)).trans hbig.out.2.2.2.1, (HBZ.out.drew.cell (p := ⟨b, off + k * 5, none⟩) (by show b < wr.heap.size; omega)).trans hbig.out.2.2.2.2.1, (HBZ.out.drew.cell (p := ⟨b, off + k * 5 + 1, none⟩) (by show b < wr.heap.size; omega)).trans hbig.out.2.2.2.2.2⟩
      have HSC := Lib.hid (fun w6 (hc : Chg wz.drew w6 (fun i => i = w4.heap.size)) => (⟨(hc.cell (p := ⟨wr.heap.size, 0, none⟩) hsz9 (by show wr.heap.size ≠ w4.heap.size; omega)).trans HSD.out.1, (hc.cell (p := ⟨wr.heap.size, 1, none⟩) hsz9 (by show wr.heap.size ≠ w4.heap.size; omega)).trans HSD.out.2.1, (hc.cell (p := ⟨wr.heap.size, 2, none⟩) hsz9 (by show wr.heap.size ≠ w4.heap.size; omega)).trans HSD.out.2.2.1,
        (hc.cell (p := ⟨W.heap.size, 0, none⟩) (by show W.heap.size < wz.drew.heap.size; omega) (by show W.heap.size ≠ w4.heap.size; omega)).trans HSD.out.2.2.2.1, (hc.cell (p := ⟨W.heap.size, 1, none⟩) (by show W.heap.size < wz.drew.heap.size; omega) (by show W.heap.size ≠ w4.heap.size; omega)).trans HSD.out.2.2.2.2.1, (hc.cell (p := ⟨W.heap.size + 1, 0, none⟩) (by show W.heap.size + 1 < wz.drew.heap.size; omega) (by show W.heap.size + 1 ≠ w4.heap.size; omega)).trans HSD.out.2.2.2.2.2.1, (hc.cell (p := ⟨W.heap.size + 2, 0, none⟩) (by show W.heap.size + 2 < wz.drew.heap.size; omega) (by show W.heap.size + 2 ≠ w4.heap.size; omega)).trans HSD.out.2.2.2.2.2.2.1, (hc.cell (p := ⟨b, off + k * 5, none⟩) (by show b < wz.drew.heap.size; omega) (by show b ≠ w4.heap.size; omega)).trans HSD.out.2.2.2.2.2.2.2.1, (hc.cell (p := ⟨b, off + k * 5 + 1, none⟩) (by show b < wz.drew.heap.size; omega) (by show b ≠ w4.heap.size; omega)).trans HSD.out.2.2.2.2.2.2.2.2⟩ :
        w6.cell? ⟨wr.heap.size, 0, none⟩ = some (.int .i64 (k : Nat)) ∧ w6.cell? ⟨wr.heap.size, 1, none⟩ = some (.int .i64 fr) ∧ w6.cell? ⟨wr.heap.size, 2, none⟩ = some (.int .i64 (fr + tk)) ∧ w6.cell? ⟨W.heap.size, 0, none⟩ = some (.int .i64 rb) ∧ w6.cell? ⟨W.heap.size, 1, none⟩ = some (.int .i64 rt) ∧ w6.cell? ⟨W.heap.size + 1, 0, none⟩ = some (.slice (some ⟨b, off, none⟩) n c) ∧ w6.cell? ⟨W.heap.size + 2, 0, none⟩ = some (.int .i64 until_) ∧ w6.cell? ⟨b, off + k * 5, none⟩ = some (.int .i64 at_) ∧ w6.cell? ⟨b, off + k * 5 + 1, none⟩ = some (.int .i64 ln)))
      have HSB := Lib.hid (fun w6 w7 (hb : Below w6.heap.size w6 w7) (h : w6.cell? ⟨wr.heap.size, 0, none⟩ = some (.int .i64 (k : Nat)) ∧ w6.cell? ⟨wr.heap.size, 1, none⟩ = some (.int .i64 fr) ∧ w6.cell? ⟨wr.heap.size, 2, none⟩ = some (.int .i64 (fr + tk)) ∧ w6.cell? ⟨W.heap.size, 0, none⟩ = some (.int .i64 rb) ∧ w6.cell? ⟨W.heap.size, 1, none⟩ = some (.int .i64 rt) ∧ w6.cell? ⟨W.heap.size + 1, 0, none⟩ = some (.slice (some ⟨b, off, none⟩) n c) ∧ w6.cell? ⟨W.heap.size + 2, 0, none⟩ = some (.int .i64 until_) ∧ w6.cell? ⟨b, off + k * 5, none⟩ = some (.int .i64 at_) ∧ w6.cell? ⟨b, off + k * 5 + 1, none⟩ = some (.int .i64 ln)) =>
        (⟨(hb.cell (lt_of_cell h.1)).trans h.1, (hb.cell (lt_of_cell h.2.1)).trans h.2.1, (hb.cell (lt_of_cell h.2.2.1)).trans h.2.2.1, (hb.cell (lt_of_cell h.2.2.2.1)).trans h.2.2.2.1, (hb.cell (lt_of_cell h.2.2.2.2.1)).trans h.2.2.2.2.1, (hb.cell (lt_of_cell h.2.2.2.2.2.1)).trans h.2.2.2.2.2.1, (hb.cell (lt_of_cell h.2.2.2.2.2.2.1)).trans h.2.2.2.2.2.2.1, (hb.cell (lt_of_cell h.2.2.2.2.2.2.2.1)).trans h.2.2.2.2.2.2.2.1, (hb.cell (lt_of_cell h.2.2.2.2.2.2.2.2)).trans h.2.2.2.2.2.2.2.2⟩ :
        w7.cell? ⟨wr.heap.size, 0, none⟩ = some (.int .i64 (k : Nat)) ∧ w7.cell? ⟨wr.heap.size, 1, none⟩ = some (.int .i64 fr) ∧ w7.cell? ⟨wr.heap.size, 2, none⟩ = some (.int .i64 (fr + tk)) ∧ w7.cell? ⟨W.heap.size, 0, none⟩ = some (.int .i64 rb) ∧ w7.cell? ⟨W.heap.size, 1, none⟩ = some (.int .i64 rt) ∧ w7.cell? ⟨W.heap.size + 1, 0, none⟩ = some (.slice (some ⟨b, off, none⟩) n c) ∧ w7.cell? ⟨W.heap.size + 2, 0, none⟩ = some (.int .i64 until_) ∧ w7.cell? ⟨b, off + k * 5, none⟩ = some (.int .i64 at_) ∧ w7.cell? ⟨b, off + k * 5 + 1, none⟩ = some (.int .i64 ln)))
      have HPV := Lib.hid hpv; have HTKE := Lib.hid htk
      clear hks2 hpv htk hnm hks q1 q2 q3 q4
      refine wp_till (fun wx => wx.cell? ⟨wr.heap.size, 0, none⟩ = some (.int .i64 (k : Nat)) ∧ wx.cell? ⟨wr.heap.size, 1, none⟩ = some (.int .i64 fr) ∧ wx.cell? ⟨wr.heap.size, 2, none⟩ = some (.int .i64 (fr + tk)) ∧ wx.cell? ⟨W.heap.size, 0, none⟩ = some (.int .i64 rb) ∧ wx.cell? ⟨W.heap.size, 1, none⟩ = some (.int .i64 rt) ∧ wx.cell? ⟨W.heap.size + 1, 0, none⟩ = some (.slice (some ⟨b, off, none⟩) n c) ∧ wx.cell? ⟨W.heap.size + 2, 0, none⟩ = some (.int .i64 until_) ∧ wx.cell? ⟨b, off + k * 5, none⟩ = some (.int .i64 at_) ∧ wx.cell? ⟨b, off + k * 5 + 1, none⟩ = some (.int .i64 ln)) [] (by kernel_rfl) ?_
      refine till_take 0 [] _ ?_ (by simp only [List.getElem?_toArray, List.getElem?_cons_zero]; rfl) (by kernel_rfl) (by kernel_rfl) (by kernel_rfl) (by kernel_rfl) (by kernel_rfl) (by intro _ _ _ _ h; exact h) (Or.inl ⟨by rfl, ?_⟩) HSD.out ?_
      rotate_left 1; focus (intro wx hSw; (try dsimp only at hSw); obtain ⟨q0, q1, q2, q3, q4, q5, q6, q7, q8⟩ := hSw; go_simp; try with_reducible rfl)
      try simp only [Act.put, List.setIfInBounds_toArray, List.set_cons_zero, List.set_cons_succ]
      refine till_take 1 [] _ ?_ (by simp only [List.getElem?_toArray, List.getElem?_cons_succ, List.getElem?_cons_zero]; rfl) (by kernel_rfl) (by kernel_rfl) (by kernel_rfl) (by kernel_rfl) (by kernel_rfl) (by intro _ _ _ _ h; exact h) (Or.inl ⟨by rfl, ?_⟩) HSD.out ?_
      rotate_left 1; focus (intro wx hSw; (try dsimp only at hSw); obtain ⟨q0, q1, q2, q3, q4, q5, q6, q7, q8⟩ := hSw; go_simp; try with_reducible rfl)
      try simp only [Act.put, List.setIfInBounds_toArray, List.set_cons_zero, List.set_cons_succ]
      refine till_take 2 [] _ ?_ (by simp only [List.getElem?_toArray, List.getElem?_cons_succ, List.getElem?_cons_zero]; rfl) (by kernel_rfl) (by kernel_rfl) (by kernel_rfl) (by kernel_rfl) (by kernel_rfl) (by intro _ _ _ _ h; exact h) (Or.inl ⟨by rfl, ?_⟩) HSD.out ?_
      rotate_left 1; focus (intro wx hSw; (try dsimp only at hSw); obtain ⟨q0, q1, q2, q3, q4, q5, q6, q7, q8⟩ := hSw; go_simp; try with_reducible rfl)
      try simp only [Act.put, List.setIfInBounds_toArray, List.set_cons_zero, List.set_cons_succ]
      refine till_ready [3] (by kernel_rfl) (by simp) ?_
      refine alls_cons (by simp only [List.getElem?_toArray, List.getElem?_cons_succ, List.getElem?_cons_zero]; rfl) (fun K hK => ?_) alls_nil
      go_simp
      (try go_at_call 16); (with_reducible refine HON.out.mono ?_); rintro e w6 ⟨rfl, h6⟩
      have hs6 := HSC.out w6 h6.out.2; have HS6 := Lib.hid hs6; have H6 := Lib.hid h6.out; clear hs6 h6
      refine hK.out _ _ (fun _ => HS6.out) ?_
      clear hK K
      try simp only [Act.put, List.setIfInBounds_toArray, List.set_cons_zero, List.set_cons_succ]
      refine till_take 4 [] _ ?_ (by simp only [List.getElem?_toArray, List.getElem?_cons_succ, List.getElem?_cons_zero]; rfl) (by kernel_rfl) (by kernel_rfl) (by kernel_rfl) (by kernel_rfl) (by kernel_rfl) (by intro _ _ _ _ h; exact h) (Or.inl ⟨by rfl, ?_⟩) HS6.out ?_
      rotate_left 1; focus (intro wx hSw; (try dsimp only at hSw); obtain ⟨q0, q1, q2, q3, q4, q5, q6, q7, q8⟩ := hSw; go_simp; try with_reducible rfl)
      try simp only [Act.put, List.setIfInBounds_toArray, List.set_cons_zero, List.set_cons_succ]
      refine till_take 5 [] _ ?_ (by simp only [List.getElem?_toArray, List.getElem?_cons_succ, List.getElem?_cons_zero]; rfl) (by kernel_rfl) (by kernel_rfl) (by kernel_rfl) (by kernel_rfl) (by kernel_rfl) (by intro _ _ _ _ h; exact h) (Or.inl ⟨by rfl, ?_⟩) HS6.out ?_
      rotate_left 1; focus (intro wx hSw; (try dsimp only at hSw); obtain ⟨q0, q1, q2, q3, q4, q5, q6, q7, q8⟩ := hSw; go_simp; try with_reducible rfl)
      try simp only [Act.put, List.setIfInBounds_toArray, List.set_cons_zero, List.set_cons_succ]
      refine till_take 6 [] _ ?_ (by simp only [List.getElem?_toArray, List.getElem?_cons_succ, List.getElem?_cons_zero]; rfl) (by kernel_rfl) (by kernel_rfl) (by kernel_rfl) (by kernel_rfl) (by kernel_rfl) (by intro _ _ _ _ h; exact h) (Or.inl ⟨by rfl, ?_⟩) HS6.out ?_
      rotate_left 1; focus (intro wx hSw; (try dsimp only at hSw); obtain ⟨q0, q1, q2, q3, q4, q5, q6, q7, q8⟩ := hSw; go_simp; try with_reducible rfl)
      try simp only [Act.put, List.setIfInBounds_toArray, List.set_cons_zero, List.set_cons_succ]
      refine till_take 7 [] _ ?_ (by simp only [List.getElem?_toArray, List.getElem?_cons_succ, List.getElem?_cons_zero]; rfl) (by kernel_rfl) (by kernel_rfl) (by kernel_rfl) (by kernel_rfl) (by kernel_rfl) (by intro _ _ _ _ h; exact h) (Or.inl ⟨by rfl, ?_⟩) HS6.out ?_
      rotate_left 1; focus (intro wx hSw; (try dsimp only at hSw); obtain ⟨q0, q1, q2, q3, q4, q5, q6, q7, q8⟩ := hSw; go_simp; try with_reducible rfl)
      try simp only [Act.put, List.setIfInBounds_toArray, List.set_cons_zero, List.set_cons_succ]
      refine till_take 8 [] _ ?_ (by simp only [List.getElem?_toArray, List.getElem?_cons_succ, List.getElem?_cons_zero]; rfl) (by kernel_rfl) (by kernel_rfl) (by kernel_rfl) (by kernel_rfl) (by kernel_rfl) (by intro _ _ _ _ h; exact h) (Or.inl ⟨by rfl, ?_⟩) HS6.out ?_
      rotate_left 1; focus (intro wx hSw; (try dsimp only at hSw); obtain ⟨q0, q1, q2, q3, q4, q5, q6, q7, q8⟩ := hSw; go_simp; try with_reducible rfl)
      try simp only [Act.put, List.setIfInBounds_toArray, List.set_cons_zero, List.set_cons_succ]
      refine till_take 9 [] _ ?_ (by simp only [List.getElem?_toArray, List.getElem?_cons_succ, List.getElem?_cons_zero]; rfl) (by kernel_rfl) (by kernel_rfl) (by kernel_rfl) (by kernel_rfl) (by kernel_rfl) (by intro _ _ _ _ h; exact h) (Or.inl ⟨by rfl, ?_⟩) HS6.out ?_
      rotate_left 1; focus (intro wx hSw; (try dsimp only at hSw); obtain ⟨q0, q1, q2, q3, q4, q5, q6, q7, q8⟩ := hSw; go_simp; try with_reducible rfl)
      try simp only [Act.put, List.setIfInBounds_toArray, List.set_cons_zero, List.set_cons_succ]
      refine till_take 10 [] _ ?_ (by simp only [List.getElem?_toArray, List.getElem?_cons_succ, List.getElem?_cons_zero]; rfl) (by kernel_rfl) (by kernel_rfl) (by kernel_rfl) (by kernel_rfl) (by kernel_rfl) (by intro _ _ _ _ h; exact h) (Or.inl ⟨by rfl, ?_⟩) HS6.out ?_
      rotate_left 1; focus (intro wx hSw; (try dsimp only at hSw); obtain ⟨q0, q1, q2, q3, q4, q5, q6, q7, q8⟩ := hSw; go_simp; try with_reducible rfl)
      try simp only [Act.put, List.setIfInBounds_toArray, List.set_cons_zero, List.set_cons_succ]
      refine till_take 11 [] _ ?_ (by simp only [List.getElem?_toArray, List.getElem?_cons_succ, List.getElem?_cons_zero]; rfl) (by kernel_rfl) (by kernel_rfl) (by kernel_rfl) (by kernel_rfl) (by kernel_rfl) (by intro _ _ _ _ h; exact h) (Or.inl ⟨by rfl, ?_⟩) HS6.out ?_
      rotate_left 1; focus (intro wx hSw; (try dsimp only at hSw); obtain ⟨q0, q1, q2, q3, q4, q5, q6, q7, q8⟩ := hSw; go_simp; try with_reducible rfl)
      try simp only [Act.put, List.setIfInBounds_toArray, List.set_cons_zero, List.set_cons_succ]
      refine till_take 12 [] _ ?_ (by simp only [List.getElem?_toArray, List.getElem?_cons_succ, List.getElem?_cons_zero]; rfl) (by kernel_rfl) (by kernel_rfl) (by kernel_rfl) (by kernel_rfl) (by kernel_rfl) (by intro _ _ _ _ h; exact h) (Or.inl ⟨by rfl, ?_⟩) HS6.out ?_
      rotate_left 1; focus (intro wx hSw; (try dsimp only at hSw); obtain ⟨q0, q1, q2, q3, q4, q5, q6, q7, q8⟩ := hSw; go_simp; try with_reducible rfl)
      try simp only [Act.put, List.setIfInBounds_toArray, List.set_cons_zero, List.set_cons_succ]
      refine till_take 13 [] _ ?_ (by simp only [List.getElem?_toArray, List.getElem?_cons_succ, List.getElem?_cons_zero]; rfl) (by kernel_rfl) (by kernel_rfl) (by kernel_rfl) (by kernel_rfl) (by kernel_rfl) (by intro _ _ _ _ h; exact h) (Or.inl ⟨by rfl, ?_⟩) HS6.out ?_
      rotate_left 1; focus (intro wx hSw; (try dsimp only at hSw); obtain ⟨q0, q1, q2, q3, q4, q5, q6, q7, q8⟩ := hSw; go_simp; try with_reducible rfl)
      try simp only [Act.put, List.setIfInBounds_toArray, List.set_cons_zero, List.set_cons_succ]
      refine till_take 14 [] _ ?_ (by simp only [List.getElem?_toArray, List.getElem?_cons_succ, List.getElem?_cons_zero]; rfl) (by kernel_rfl) (by kernel_rfl) (by kernel_rfl) (by kernel_rfl) (by kernel_rfl) (by intro _ _ _ _ h; exact h) (Or.inl ⟨by rfl, ?_⟩) HS6.out ?_
      rotate_left 1; focus (intro wx hSw; (try dsimp only at hSw); obtain ⟨q0, q1, q2, q3, q4, q5, q6, q7, q8⟩ := hSw; go_simp; try with_reducible rfl)
      try simp only [Act.put, List.setIfInBounds_toArray, List.set_cons_zero, List.set_cons_succ]
      refine till_take 15 [] _ ?_ (by simp only [List.getElem?_toArray, List.getElem?_cons_succ, List.getElem?_cons_zero]; rfl) (by kernel_rfl) (by kernel_rfl) (by kernel_rfl) (by kernel_rfl) (by kernel_rfl) (by intro _ _ _ _ h; exact h) (Or.inl ⟨by rfl, ?_⟩) HS6.out ?_
      rotate_left 1; focus (intro wx hSw; (try dsimp only at hSw); obtain ⟨q0, q1, q2, q3, q4, q5, q6, q7, q8⟩ := hSw; go_simp; try with_reducible rfl)
      try simp only [Act.put, List.setIfInBounds_toArray, List.set_cons_zero, List.set_cons_succ]
      refine till_take 16 [] _ ?_ (by simp only [List.getElem?_toArray, List.getElem?_cons_succ, List.getElem?_cons_zero]; rfl) (by kernel_rfl) (by kernel_rfl) (by kernel_rfl) (by kernel_rfl) (by kernel_rfl) (by intro _ _ _ _ h; exact h) (Or.inl ⟨by rfl, ?_⟩) HS6.out ?_
      rotate_left 1; focus (intro wx hSw; (try dsimp only at hSw); obtain ⟨q0, q1, q2, q3, q4, q5, q6, q7, q8⟩ := hSw; go_simp; try with_reducible rfl)
      try simp only [Act.put, List.setIfInBounds_toArray, List.set_cons_zero, List.set_cons_succ]
      refine till_take 17 [] _ ?_ (by simp only [List.getElem?_toArray, List.getElem?_cons_succ, List.getElem?_cons_zero]; rfl) (by kernel_rfl) (by kernel_rfl) (by kernel_rfl) (by kernel_rfl) (by kernel_rfl) (by intro _ _ _ _ h; exact h) (Or.inl ⟨by rfl, ?_⟩) HS6.out ?_
      rotate_left 1; focus (intro wx hSw; (try dsimp only at hSw); obtain ⟨q0, q1, q2, q3, q4, q5, q6, q7, q8⟩ := hSw; go_simp; try with_reducible rfl)
      try simp only [Act.put, List.setIfInBounds_toArray, List.set_cons_zero, List.set_cons_succ]
      refine till_take 18 [] _ ?_ (by simp only [List.getElem?_toArray, List.getElem?_cons_succ, List.getElem?_cons_zero]; rfl) (by kernel_rfl) (by kernel_rfl) (by kernel_rfl) (by kernel_rfl) (by kernel_rfl) (by intro _ _ _ _ h; exact h) (Or.inl ⟨by rfl, ?_⟩) HS6.out ?_
      rotate_left 1; focus (intro wx hSw; (try dsimp only at hSw); obtain ⟨q0, q1, q2, q3, q4, q5, q6, q7, q8⟩ := hSw; go_simp; try with_reducible rfl)
      try simp only [Act.put, List.setIfInBounds_toArray, List.set_cons_zero, List.set_cons_succ]
      refine till_take 19 [] _ ?_ (by simp only [List.getElem?_toArray, List.getElem?_cons_succ, List.getElem?_cons_zero]; rfl) (by kernel_rfl) (by kernel_rfl) (by kernel_rfl) (by kernel_rfl) (by kernel_rfl) (by intro _ _ _ _ h; exact h) (Or.inl ⟨by rfl, ?_⟩) HS6.out ?_
      rotate_left 1; focus (intro wx hSw; (try dsimp only at hSw); obtain ⟨q0, q1, q2, q3, q4, q5, q6, q7, q8⟩ := hSw; go_simp; try with_reducible rfl)
      try simp only [Act.put, List.setIfInBounds_toArray, List.set_cons_zero, List.set_cons_succ]
      refine till_take 20 [] _ ?_ (by simp only [List.getElem?_toArray, List.getElem?_cons_succ, List.getElem?_cons_zero]; rfl) (by kernel_rfl) (by kernel_rfl) (by kernel_rfl) (by kernel_rfl) (by kernel_rfl) (by intro _ _ _ _ h; exact h) (Or.inl ⟨by rfl, ?_⟩) HS6.out ?_
      rotate_left 1; focus (intro wx hSw; (try dsimp only at hSw); obtain ⟨q0, q1, q2, q3, q4, q5, q6, q7, q8⟩ := hSw; go_simp; try with_reducible rfl)
      try simp only [Act.put, List.setIfInBounds_toArray, List.set_cons_zero, List.set_cons_succ]
      refine till_take 21 [] _ ?_ (by simp only [List.getElem?_toArray, List.getElem?_cons_succ, List.getElem?_cons_zero]; rfl) (by kernel_rfl) (by kernel_rfl) (by kernel_rfl) (by kernel_rfl) (by kernel_rfl) (by intro _ _ _ _ h; exact h) (Or.inl ⟨by rfl, ?_⟩) HS6.out ?_
      rotate_left 1; focus (intro wx hSw; (try dsimp only at hSw); obtain ⟨q0, q1, q2, q3, q4, q5, q6, q7, q8⟩ := hSw; go_simp; try with_reducible rfl)
      try simp only [Act.put, List.setIfInBounds_toArray, List.set_cons_zero, List.set_cons_succ]
      refine till_take 22 [] _ ?_ (by simp only [List.getElem?_toArray, List.getElem?_cons_succ, List.getElem?_cons_zero]; rfl) (by kernel_rfl) (by kernel_rfl) (by kernel_rfl) (by kernel_rfl) (by kernel_rfl) (by intro _ _ _ _ h; exact h) (Or.inl ⟨by rfl, ?_⟩) HS6.out ?_
      rotate_left 1; focus (intro wx hSw; (try dsimp only at hSw); obtain ⟨q0, q1, q2, q3, q4, q5, q6, q7, q8⟩ := hSw; go_simp; try with_reducible rfl)
      try simp only [Act.put, List.setIfInBounds_toArray, List.set_cons_zero, List.set_cons_succ]
      refine till_take 23 [] _ ?_ (by simp only [List.getElem?_toArray, List.getElem?_cons_succ, List.getElem?_cons_zero]; rfl) (by kernel_rfl) (by kernel_rfl) (by kernel_rfl) (by kernel_rfl) (by kernel_rfl) (by intro _ _ _ _ h; exact h) (Or.inl ⟨by rfl, ?_⟩) HS6.out ?_
      rotate_left 1; focus (intro wx hSw; (try dsimp only at hSw); obtain ⟨q0, q1, q2, q3, q4, q5, q6, q7, q8⟩ := hSw; go_simp; try with_reducible rfl)
      try simp only [Act.put, List.setIfInBounds_toArray, List.set_cons_zero, List.set_cons_succ]
      refine till_take 24 [] _ ?_ (by simp only [List.getElem?_toArray, List.getElem?_cons_succ, List.getElem?_cons_zero]; rfl) (by kernel_rfl) (by kernel_rfl) (by kernel_rfl) (by kernel_rfl) (by kernel_rfl) (by intro _ _ _ _ h; exact h) (Or.inl ⟨by rfl, ?_⟩) HS6.out ?_
      rotate_left 1; focus (intro wx hSw; (try dsimp only at hSw); obtain ⟨q0, q1, q2, q3, q4, q5, q6, q7, q8⟩ := hSw; go_simp; try with_reducible rfl)
      try simp only [Act.put, List.setIfInBounds_toArray, List.set_cons_zero, List.set_cons_succ]
      refine till_take 25 [] _ ?_ (by simp only [List.getElem?_toArray, List.getElem?_cons_succ, List.getElem?_cons_zero]; rfl) (by kernel_rfl) (by kernel_rfl) (by kernel_rfl) (by kernel_rfl) (by kernel_rfl) (by intro _ _ _ _ h; exact h) (Or.inl ⟨by rfl, ?_⟩) HS6.out ?_
      rotate_left 1; focus (intro wx hSw; (try dsimp only at hSw); obtain ⟨q0, q1, q2, q3, q4, q5, q6, q7, q8⟩ := hSw; go_simp; try with_reducible rfl)
      try simp only [Act.put, List.setIfInBounds_toArray, List.set_cons_zero, List.set_cons_succ]
      refine till_take 26 [] _ ?_ (by simp only [List.getElem?_toArray, List.getElem?_cons_succ, List.getElem?_cons_zero]; rfl) (by kernel_rfl) (by kernel_rfl) (by kernel_rfl) (by kernel_rfl) (by kernel_rfl) (by intro _ _ _ _ h; exact h) (Or.inl ⟨by rfl, ?_⟩) HS6.out ?_
      rotate_left 1; focus (intro wx hSw; (try dsimp only at hSw); obtain ⟨q0, q1, q2, q3, q4, q5, q6, q7, q8⟩ := hSw; go_simp; try with_reducible rfl)
      try simp only [Act.put, List.setIfInBounds_toArray, List.set_cons_zero, List.set_cons_succ]
      refine till_take 27 [] _ ?_ (by simp only [List.getElem?_toArray, List.getElem?_cons_succ, List.getElem?_cons_zero]; rfl) (by kernel_rfl) (by kernel_rfl) (by kernel_rfl) (by kernel_rfl) (by kernel_rfl) (by intro _ _ _ _ h; exact h) (Or.inl ⟨by rfl, ?_⟩) HS6.out ?_
      rotate_left 1; focus (intro wx hSw; (try dsimp only at hSw); obtain ⟨q0, q1, q2, q3, q4, q5, q6, q7, q8⟩ := hSw; go_simp; try with_reducible rfl)
      try simp only [Act.put, List.setIfInBounds_toArray, List.set_cons_zero, List.set_cons_succ]
      refine till_take 28 [] _ ?_ (by simp only [List.getElem?_toArray, List.getElem?_cons_succ, List.getElem?_cons_zero]; rfl) (by kernel_rfl) (by kernel_rfl) (by kernel_rfl) (by kernel_rfl) (by kernel_rfl) (by intro _ _ _ _ h; exact h) (Or.inl ⟨by rfl, ?_⟩) HS6.out ?_
      rotate_left 1; focus (intro wx hSw; (try dsimp only at hSw); obtain ⟨q0, q1, q2, q3, q4, q5, q6, q7, q8⟩ := hSw; go_simp; try with_reducible rfl)
      try simp only [Act.put, List.setIfInBounds_toArray, List.set_cons_zero, List.set_cons_succ]
      refine till_take 29 [] _ ?_ (by simp only [List.getElem?_toArray, List.getElem?_cons_succ, List.getElem?_cons_zero]; rfl) (by kernel_rfl) (by kernel_rfl) (by kernel_rfl) (by kernel_rfl) (by kernel_rfl) (by intro _ _ _ _ h; exact h) (Or.inl ⟨by rfl, ?_⟩) HS6.out ?_
      rotate_left 1; focus (intro wx hSw; (try dsimp only at hSw); obtain ⟨q0, q1, q2, q3, q4, q5, q6, q7, q8⟩ := hSw; go_simp; try with_reducible rfl)
      try simp only [Act.put, List.setIfInBounds_toArray, List.set_cons_zero, List.set_cons_succ]
      refine till_take 30 [] _ ?_ (by simp only [List.getElem?_toArray, List.getElem?_cons_succ, List.getElem?_cons_zero]; rfl) (by kernel_rfl) (by kernel_rfl) (by kernel_rfl) (by kernel_rfl) (by kernel_rfl) (by intro _ _ _ _ h; exact h) (Or.inl ⟨by rfl, ?_⟩) HS6.out ?_
      rotate_left 1; focus (intro wx hSw; (try dsimp only at hSw); obtain ⟨q0, q1, q2, q3, q4, q5, q6, q7, q8⟩ := hSw; go_simp; try with_reducible rfl)
      try simp only [Act.put, List.setIfInBounds_toArray, List.set_cons_zero, List.set_cons_succ]
      refine till_take 31 [] _ ?_ (by simp only [List.getElem?_toArray, List.getElem?_cons_succ, List.getElem?_cons_zero]; rfl) (by kernel_rfl) (by kernel_rfl) (by kernel_rfl) (by kernel_rfl) (by kernel_rfl) (by intro _ _ _ _ h; exact h) (Or.inl ⟨by rfl, ?_⟩) HS6.out ?_
      rotate_left 1; focus (intro wx hSw; (try dsimp only at hSw); obtain ⟨q0, q1, q2, q3, q4, q5, q6, q7, q8⟩ := hSw; go_simp; try with_reducible rfl)
      try simp only [Act.put, List.setIfInBounds_toArray, List.set_cons_zero, List.set_cons_succ]
      refine till_take 32 [] _ ?_ (by simp only [List.getElem?_toArray, List.getElem?_cons_succ, List.getElem?_cons_zero]; rfl) (by kernel_rfl) (by kernel_rfl) (by kernel_rfl) (by kernel_rfl) (by kernel_rfl) (by intro _ _ _ _ h; exact h) (Or.inl ⟨by rfl, ?_⟩) HS6.out ?_
      rotate_left 1; focus (intro wx hSw; (try dsimp only at hSw); obtain ⟨q0, q1, q2, q3, q4, q5, q6, q7, q8⟩ := hSw; go_simp; try with_reducible rfl)
      try simp only [Act.put, List.setIfInBounds_toArray, List.set_cons_zero, List.set_cons_succ]
      refine till_take 33 [] _ ?_ (by simp only [List.getElem?_toArray, List.getElem?_cons_succ, List.getElem?_cons_zero]; rfl) (by kernel_rfl) (by kernel_rfl) (by kernel_rfl) (by kernel_rfl) (by kernel_rfl) (by intro _ _ _ _ h; exact h) (Or.inl ⟨by rfl, ?_⟩) HS6.out ?_
      rotate_left 1; focus (intro wx hSw; (try dsimp only at hSw); obtain ⟨q0, q1, q2, q3, q4, q5, q6, q7, q8⟩ := hSw; go_simp; try with_reducible rfl)
      try simp only [Act.put, List.setIfInBounds_toArray, List.set_cons_zero, List.set_cons_succ]
      refine till_take 34 [] _ ?_ (by simp only [List.getElem?_toArray, List.getElem?_cons_succ, List.getElem?_cons_zero]; rfl) (by kernel_rfl) (by kernel_rfl) (by kernel_rfl) (by kernel_rfl) (by kernel_rfl) (by intro _ _ _ _ h; exact h) (Or.inl ⟨by rfl, ?_⟩) HS6.out ?_
      rotate_left 1; focus (intro wx hSw; (try dsimp only at hSw); obtain ⟨q0, q1, q2, q3, q4, q5, q6, q7, q8⟩ := hSw; go_simp; try with_reducible rfl)
      try simp only [Act.put, List.setIfInBounds_toArray, List.set_cons_zero, List.set_cons_succ]
      refine till_take 35 [] _ ?_ (by simp only [List.getElem?_toArray, List.getElem?_cons_succ, List.getElem?_cons_zero]; rfl) (by kernel_rfl) (by kernel_rfl) (by kernel_rfl) (by kernel_rfl) (by kernel_rfl) (by intro _ _ _ _ h; exact h) (Or.inl ⟨by rfl, ?_⟩) HS6.out ?_
      rotate_left 1; focus (intro wx hSw; (try dsimp only at hSw); obtain ⟨q0, q1, q2, q3, q4, q5, q6, q7, q8⟩ := hSw; go_simp; try with_reducible rfl)
      try simp only [Act.put, List.setIfInBounds_toArray, List.set_cons_zero, List.set_cons_succ]
      refine till_take 36 [] _ ?_ (by simp only [List.getElem?_toArray, List.getElem?_cons_succ, List.getElem?_cons_zero]; rfl) (by kernel_rfl) (by kernel_rfl) (by kernel_rfl) (by kernel_rfl) (by kernel_rfl) (by intro _ _ _ _ h; exact h) (Or.inl ⟨by rfl, ?_⟩) HS6.out ?_
      rotate_left 1; focus (intro wx hSw; (try dsimp only at hSw); obtain ⟨q0, q1, q2, q3, q4, q5, q6, q7, q8⟩ := hSw; go_simp; try with_reducible rfl)
      try simp only [Act.put, List.setIfInBounds_toArray, List.set_cons_zero, List.set_cons_succ]
      refine till_take 37 [] _ ?_ (by simp only [List.getElem?_toArray, List.getElem?_cons_succ, List.getElem?_cons_zero]; rfl) (by kernel_rfl) (by kernel_rfl) (by kernel_rfl) (by kernel_rfl) (by kernel_rfl) (by intro _ _ _ _ h; exact h) (Or.inl ⟨by rfl, ?_⟩) HS6.out ?_
      rotate_left 1; focus (intro wx hSw; (try dsimp only at hSw); obtain ⟨q0, q1, q2, q3, q4, q5, q6, q7, q8⟩ := hSw; go_simp; try with_reducible rfl)
      try simp only [Act.put, List.setIfInBounds_toArray, List.set_cons_zero, List.set_cons_succ]
      refine till_take 38 [] _ ?_ (by simp only [List.getElem?_toArray, List.getElem?_cons_succ, List.getElem?_cons_zero]; rfl) (by kernel_rfl) (by kernel_rfl) (by kernel_rfl) (by kernel_rfl) (by kernel_rfl) (by intro _ _ _ _ h; exact h) (Or.inl ⟨by rfl, ?_⟩) HS6.out ?_
      rotate_left 1; focus (intro wx hSw; (try dsimp only at hSw); obtain ⟨q0, q1, q2, q3, q4, q5, q6, q7, q8⟩ := hSw; go_simp; try with_reducible rfl)
      try simp only [Act.put, List.setIfInBounds_toArray, List.set_cons_zero, List.set_cons_succ]
      refine till_take 39 [] _ ?_ (by simp only [List.getElem?_toArray, List.getElem?_cons_succ, List.getElem?_cons_zero]; rfl) (by kernel_rfl) (by kernel_rfl) (by kernel_rfl) (by kernel_rfl) (by kernel_rfl) (by intro _ _ _ _ h; exact h) (Or.inl ⟨by rfl, ?_⟩) HS6.out ?_
      rotate_left 1; focus (intro wx hSw; (try dsimp only at hSw); obtain ⟨q0, q1, q2, q3, q4, q5, q6, q7, q8⟩ := hSw; go_simp; try with_reducible rfl)
      try simp only [Act.put, List.setIfInBounds_toArray, List.set_cons_zero, List.set_cons_succ]
      refine till_ready [40] (by kernel_rfl) (by simp) ?_
      refine alls_cons (by simp only [List.getElem?_toArray, List.getElem?_cons_succ, List.getElem?_cons_zero]; rfl) (fun K hK => ?_) alls_nil
      go_simp
      go_at_call 11; (with_reducible refine (HTK.out _).mono ?_); rintro e w7 ⟨rfl, hb7⟩
      have hs7 := HSB.out w6 w7 hb7 HS6.out; have HS7 := Lib.hid hs7; have HB7 := Lib.hid hb7; clear hs7 hb7
      refine hK.out _ _ (fun _ => HS7.out) ?_
      clear hK K
      try simp only [Act.put, List.setIfInBounds_toArray, List.set_cons_zero, List.set_cons_succ]
      refine till_take 41 [] _ ?_ (by simp only [List.getElem?_toArray, List.getElem?_cons_succ, List.getElem?_cons_zero]; rfl) (by kernel_rfl) (by kernel_rfl) (by kernel_rfl) (by kernel_rfl) (by kernel_rfl) (by intro _ _ _ _ h; exact h) (Or.inl ⟨by rfl, ?_⟩) HS7.out ?_
      rotate_left 1; focus (intro wx hSw; (try dsimp only at hSw); obtain ⟨q0, q1, q2, q3, q4, q5, q6, q7, q8⟩ := hSw; go_simp; try with_reducible rfl)
      try simp only [Act.put, List.setIfInBounds_toArray, List.set_cons_zero, List.set_cons_succ]
      refine till_take 42 [] _ ?_ (by simp only [List.getElem?_toArray, List.getElem?_cons_succ, List.getElem?_cons_zero]; rfl) (by kernel_rfl) (by kernel_rfl) (by kernel_rfl) (by kernel_rfl) (by kernel_rfl) (by intro _ _ _ _ h; exact h) (Or.inl ⟨by rfl, ?_⟩) HS7.out ?_
      rotate_left 1; focus (intro wx hSw; (try dsimp only at hSw); obtain ⟨q0, q1, q2, q3, q4, q5, q6, q7, q8⟩ := hSw; go_simp; try with_reducible rfl)
      try simp only [Act.put, List.setIfInBounds_toArray, List.set_cons_zero, List.set_cons_succ]
      refine till_take 43 [] _ ?_ (by simp only [List.getElem?_toArray, List.getElem?_cons_succ, List.getElem?_cons_zero]; rfl) (by kernel_rfl) (by kernel_rfl) (by kernel_rfl) (by kernel_rfl) (by kernel_rfl) (by intro _ _ _ _ h; exact h) (Or.inl ⟨by rfl, ?_⟩) HS7.out ?_
      rotate_left 1; focus (intro wx hSw; (try dsimp only at hSw); obtain ⟨q0, q1, q2, q3, q4, q5, q6, q7, q8⟩ := hSw; go_simp; try with_reducible rfl)
      try simp only [Act.put, List.setIfInBounds_toArray, List.set_cons_zero, List.set_cons_succ]
      refine till_done (by kernel_rfl) ?_ _
      have hks7 : KsR W w7 rb rt (some ⟨b, off, none⟩) n c l until_ w2.heap.size (w4.heap.size + 1) w4.heap.size (some ⟨bs2, os, none⟩) Al cs cl sent lost Q ms (K.take (i + 1)) := by
        rw [HTKE.out]
        exact (HKS2.out.chg H6.out.2 H6.out.1).below HB7.out
      have y2 := HS7.out.2.2.1
      have HKS7 := Lib.hid hks7
      clear hks7 z0 s0 s1 s2 s3 hget hkm
      go_wp2_with fail
      refine ⟨⟨i + 1, by go_num, by rw [HPV.out], by omega, Lib.hid HKS7.out⟩, by simp [intOf]; omega⟩
    · have e5 : sent.length = i := by omega
      subst e5
      have HKS2 := Lib.hid hks.out
      clear hks
      go_wp2_with fail
      go_loopw [16] (fun iv wr2 => ∃ j : Nat, iv = .int .i64 j ∧ j ≤ lost.length ∧ Hid (KsR W wr2 rb rt A n c l until_ w2.heap.size (w4.heap.size + 1) w4.heap.size As Al cs cl sent lost Q ms (K.take (sent.length + j)))) (fun iv _ => lost.length - (intOf iv).toNat)
      case atStart => exact ⟨0, rfl, Nat.zero_le _, HKS2.out⟩
      case round =>
        obtain ⟨j, rfl, hj, hks⟩ := hrel
        clear z0
        have z1 := hks.out.zk.cell 1
        simp at z1
        by_cases hlt2 : j < lost.length
        · have ii : (j : Int) < (lost.length : Int) := by omega
          obtain ⟨b2, o2, rfl, hb2⟩ := hks.out.lo.addr hlt2
          have hlo := hks.out.lo
          have s0 := (rdI_of_rdR hlo).all rfl j hlt2
          have hkm : K[sent.length + j]? = some (lost.getD j 0) := by rw [HKK.out]; exact kk_lost hlt2
          have hkn := HRG.out _ (List.mem_of_getElem? hkm)
          obtain ⟨hnm, htk⟩ := nd_at HND.out hkm
          obtain ⟨k, hk⟩ : ∃ k : Nat, lost.getD j 0 = k := ⟨(lost.getD j 0).toNat, by omega⟩
          rw [hk] at s0 hkn hnm htk
          simp only [Int.toNat_natCast] at hkn
          have HON : Hid (Calls Tryz.prog 16 #[.int .i64 k, .pointer (some ⟨W.heap.size + 1, 0, none⟩), .pointer (some ⟨w4.heap.size + 1, 0, none⟩), .pointer (some ⟨W.heap.size + 2, 0, none⟩)] wr (OnEnd wr w4.heap.size n (K.take (sent.length + j) ++ [(k : Int)]))) := Lib.hid (once_w _ _ _ _ A n c until_ (K.take (sent.length + j)) l k wr hks.out.on hks.out.it (by omega) (by omega) hnm hkn.2.2)
          have HTKE := Lib.hid htk; have HKS3 := Lib.hid hks.out
          clear hlo hkm hkn hnm htk hks
          go_wp2_with fail
          (with_reducible refine HON.out.mono ?_)
          rintro e w6 ⟨rfl, h6⟩
          have hks6 : KsR W w6 rb rt A n c l until_ w2.heap.size (w4.heap.size + 1) w4.heap.size As (some ⟨b2, o2, none⟩) cs cl sent lost Q ms (K.take (sent.length + (j + 1))) := by
            rw [show sent.length + (j + 1) = sent.length + j + 1 by omega, HTKE.out]
            exact HKS3.out.chg h6.out.2 h6.out.1
          have HKS6 := Lib.hid hks6
          clear hks6 h6 s0 z1
          go_wp2_with fail
          refine ⟨⟨j + 1, by go_num, by omega, Lib.hid HKS6.out⟩, by simp [intOf]; omega⟩
        · have e5 : lost.length = j := by omega
          subst e5
          have hks4 := hks.out
          rw [List.take_of_length_le (by rw [HKK.out]; simp : K.length ≤ sent.length + lost.length)] at hks4
          have HKS4 := Lib.hid hks4
          clear hks hks4
          go_wp2_with fail
          go_loopw [17, 18] (fun cv iv wr3 => ∃ i : Nat, iv = .int .i64 i ∧ cv = .int .i64 (Pl.restL l K until_ i) ∧ i ≤ n ∧ Hid (KsR W wr3 rb rt A n c l until_ w2.heap.size (w4.heap.size + 1) w4.heap.size As Al cs cl sent lost Q ms K)) (fun _ iv _ => n - (intOf iv).toNat)
          case atStart => exact ⟨0, rfl, rfl, Nat.zero_le _, HKS4.out⟩
          case round =>
            obtain ⟨i, rfl, rfl, hi, hks⟩ := hrel
            clear z1
            have rl := hks.out.on.cl.cell 0
            simp at rl
            have hrb := restL_bd l K until_ i
            have hrsu : Pl.restL l K until_ (i + 1) = Pl.restL l K until_ i + if (i : Int) ∉ K ∧ (ix l i).at_ ≤ until_ then 1 else 0 := rfl
            by_cases hin : i < n
            · have ii : (i : Int) < (n : Int) := by omega
              obtain ⟨b, off, rfl, hbb⟩ := HR.out.addr hin
              have x0 := (hks.out.it.cells hin).1
              have rs := hks.out.on.cs.cell 0; have ru := hks.out.on.cu.cell 0; have dv := hks.out.on.r.cell hin
              simp at rs ru
              have i3 : decide ((n : Int) ≤ (i : Int)) = false := decide_eq_false (by omega)
              have HKS5 := Lib.hid hks.out
              have ewr : IntKind.i64.wrap (Pl.restL l K until_ i + 1) = Pl.restL l K until_ i + 1 := IntWalk.i64_in _ (by omega)
              by_cases hm : (i : Int) ∈ K
              · rw [if_neg (fun h => h.1 hm)] at hrsu
                have HRS2 := Lib.hid hrsu
                rw [decide_eq_true hm] at dv
                clear hks hrsu
                go_upto_region 25 with fail
                go_quiet (fail)
                go_wp2_with fail
                refine ⟨⟨i + 1, by go_num, by rw [HRS2.out]; simp, by omega, Lib.hid (HKS5.out.below (below_drewN (Below.refl _ _) _))⟩, by simp [intOf]; omega⟩
              · rw [decide_eq_false hm] at dv
                by_cases hat : (ix l i).at_ ≤ until_
                · rw [if_pos ⟨hm, hat⟩] at hrsu
                  have HRS2 := Lib.hid hrsu
                  have i4 : decide ((ix l i).at_ ≤ until_) = true := decide_eq_true hat
                  clear hks hrsu
                  generalize (ix l i).at_ = at_ at *
                  go_upto_region 25 with fail
                  go_quiet (fail)
                  go_wp2_with fail
                  refine ⟨⟨i + 1, by go_num, by rw [HRS2.out], by omega, Lib.hid (HKS5.out.below (below_drewN (Below.refl _ _) _))⟩, by simp [intOf]; omega⟩
                · rw [if_neg (fun h => hat h.2)] at hrsu
                  have HRS2 := Lib.hid hrsu
                  have i4 : decide ((ix l i).at_ ≤ until_) = false := decide_eq_false hat
                  clear hks hrsu
                  generalize (ix l i).at_ = at_ at *
                  go_upto_region 25 with fail
                  go_quiet (fail)
                  go_wp2_with fail
                  refine ⟨⟨i + 1, by go_num, by rw [HRS2.out]; simp, by omega, Lib.hid (HKS5.out.below (below_drewN (Below.refl _ _) _))⟩, by simp [intOf]; omega⟩
            · have e5 : n = i := by omega
              subst e5
              have HKS5 := Lib.hid hks.out
              clear hks hrsu
              go_wp2_with fail
              go_loopw [19] (fun iv wr4 => ∃ i : Nat, iv = .int .i64 i ∧ i ≤ text.length ∧ (∀ j, j < i → j + 5 ≤ text.length → (text.drop j).take 5 ≠ shapeL) ∧ Hid (KsR W wr4 rb rt A n c l until_ w2.heap.size (w4.heap.size + 1) w4.heap.size As Al cs cl sent lost Q ms K)) (fun iv _ => text.length + 1 - (intOf iv).toNat)
              case atStart => exact ⟨0, rfl, Nat.zero_le _, fun j h => absurd h (by omega), HKS5.out⟩
              case round =>
                obtain ⟨i, rfl, hi4, hno, hks⟩ := hrel
                have HNO := Lib.hid hno
                clear rl hno
                have z2 := hks.out.zk.cell 2
                simp at z2
                have ew5 : IntKind.i64.wrap ((i : Int) + 5) = (i : Int) + 5 := IntWalk.i64_in _ (by omega)
                have HKS6 := Lib.hid hks.out
                clear hks
                by_cases hl5 : i + 5 ≤ text.length
                · have i6 : decide ((i : Int) + 5 ≤ (text.length : Int)) = true := decide_eq_true (by omega)
                  have ii : (i : Int) + 5 ≤ (text.length : Int) := by omega
                  have ext : (⟨text.toArray⟩ : ByteArray).extract i (i + 5) = ⟨((text.drop i).take 5).toArray⟩ := by rw [ba_ext]; simp
                  by_cases hq : (text.drop i).take 5 = shapeL
                  · rw [hq] at ext
                    have i7 : decide (Q ≤ Pl.restL l K until_ n) = true := decide_eq_true HREST.out.1
                    clear hq
                    go_wp2_with fail
                    go_ret
                    exact ⟨rfl, HKS6.out.b⟩
                  · go_wp2_with fail
                    · exfalso
                      rename_i hh
                      exact hq (by simpa [shapeL, ext] using hh)
                    refine ⟨⟨i + 1, by go_num, by omega, fun j hj h5 => ?_, Lib.hid HKS6.out⟩, by simp [intOf]; omega⟩
                    by_cases e : j = i
                    · rw [e]; exact hq
                    · exact HNO.out j (by omega) h5
                · have i6 : decide ((i : Int) + 5 ≤ (text.length : Int)) = false := decide_eq_false (by omega)
                  have hlate := not_late HP.out (fun j h5 => HNO.out j (by omega) h5)
                  have hq2 := HREST.out.2 hlate
                  have i7 : decide (Pl.restL l K until_ n = Q) = true := decide_eq_true hq2.symm
                  have HQ2 := Lib.hid hq2
                  clear hq2 hlate
                  go_wp2_with fail
                  go_ret
                  exact ⟨by simp [HQ2.out], HKS6.out.b⟩
theorem linkKeeps_core (text : List UInt8) (rb rt : Int) (A : Option Addr) (n c : Nat) (l : List It) (until_ : Int) (W : World) (hv : Pv W) (hr : RdIt W W.heap.size A n l) {p : Prop} (_ : p) :
    Calls Tryz.prog 5 #[.string ⟨text.toArray⟩, .agg #[.int .i64 rb, .int .i64 rt], .slice A n c, .int .i64 until_] W fun e w' => e = .returned (.bool true) ∧ Below W.heap.size W w' := by
  by_cases h1 : text.length ≤ 400
  · by_cases h2 : n ≤ 60
    · cases hp : parseW [] text with
      | none => exact linkKeeps_no text rb rt A n c until_ W hv h1 h2 (fun w1 hb => run_w_none text (by omega) rb rt until_ A n c w1 (hv.below hb hv.sz) hp)
      | some P =>
        have hno := fun (hbad : (¬ SpeedOk rb rt ∨ ¬ ListFine l) ∨ (SpeedOk rb rt ∧ ListFine l ∧ ¬ (0 ≤ until_ ∧ until_ ≤ 10000000))) =>
          linkKeeps_no text rb rt A n c until_ W hv h1 h2 (fun w1 hb => run_w_bad text (by omega) rb rt until_ A n c l w1 (hv.below hb hv.sz) (hr.over hb (Nat.le_refl _)) hp hbad)
        by_cases hs : SpeedOk rb rt
        · by_cases hf : ListFine l
          · by_cases hu : 0 ≤ until_ ∧ until_ ≤ 10000000
            · exact linkKeeps_yes text rb rt A n c l until_ W hv hr h1 h2 hp hs hf hu
            · exact hno (.inr ⟨hs, hf, hu⟩)
          · exact hno (.inl (.inr hf))
        · exact hno (.inl (.inl hs))
    · exact linkKeeps_many text rb rt A n c until_ W (.inr (by omega))
  · exact linkKeeps_many text rb rt A n c until_ W (.inl (by omega))
end Go.Proofs.YtgdijbaodfghjaaGreatDoor
