/-
  Texts of this claim, one behind the other: Pk, PkNew, BusyPk.
-/
import Derived.Test.YtgdijbaodfghjaaGreatDoorZ22
import Derived.Test.YtgdijbaodfghjaaGreatDoorZ23
import Derived.Test.YtgdijbaodfghjaaGreatDoorZ29
import Derived.Test.YtgdijbaodfghjaaGreatDoorZ28
import Derived.Test.YtgdijbaodfghjaaGreatDoorZ14
import Derived.Test.YtgdijbaodfghjaaGreatDoorZ24
import Derived.Test.YtgdijbaodfghjaaGreatDoorZ30
import Derived.Test.YtgdijbaodfghjaaGreatDoorZ19
/-
  A queue that was just made: which machine it is, how it lies in memory.
-/
namespace Go.Proofs.YtgdijbaodfghjaaGreatDoor
open Go.RowKit Bkt
set_option linter.unusedVariables false

structure Pk where
  M : Pl.QM
  late : Bool
  I : M.σ → Prop
  qb : Pl.QB M late I
  s0 : M.σ
  hI : I s0
  w0 : M.wait s0 = []
def exPk (M : Pl.QM) {I : M.σ → Prop} (G : M.Good false I) (s0 : M.σ) (hI : I s0) (w0 : M.wait s0 = []) : Pk :=
  ⟨M, false, Pl.PI M I, Pl.QB.exact G, s0, ⟨hI, by rw [w0]; intro p hp; cases hp⟩, w0⟩
def fifoPk (p : Pl.FP) : Pk := exPk (Pl.fifoM p) (Pl.fifo_good p false) [] trivial rfl
def redPk (U : Pl.SU) (p : Pl.FP) (zs : List Int) : Pk := exPk (Pl.redM U p) (Pl.red_good U p false) ⟨[], 0, 0, zs⟩ trivial rfl
def delPk (P : Pl.DP) : Pk := exPk (Pl.delM P) (Pl.del_good P false) ⟨[], -1, false, 0, 0⟩ trivial rfl
def hshPk (P : Pl.HP) (hP : Pl.HPOk P) : Pk := exPk (Pl.hashM P) (Pl.hash_good P hP) Pl.hs0 (Pl.hs0_ok hP) (Pl.wait_hs0 _)
def rndPk (Q : Nat → Int) (hQ : Pl.QOk Q) (room : Int) : Pk := exPk (Pl.fairM Q room) (Pl.fair_good Q hQ room) rs0 Pl.rs0_ok Pl.waitR_rs0
theorem shg_w0 (b : Bk) (P : Pk) : (Pl.shgM b P.M).wait ⟨P.s0, Bkt.start b, none, []⟩ = [] := by
  show ([] : List Hd).map Pl.key ++ ((none : Option Hd).toList.map Pl.key ++ P.M.wait P.s0) = []
  rw [P.w0]; rfl
def shpPk (b : Bk) (P : Pk) : Pk :=
  ⟨Pl.shgM b P.M, true, _, Pl.shg_qb P.qb b, ⟨P.s0, Bkt.start b, none, []⟩, ⟨⟨P.hI, by rw [shg_w0]; intro p hp; cases hp⟩, by rw [shg_w0]; intro p hp; cases hp⟩, shg_w0 b P⟩
instance : Inhabited Pk := ⟨fifoPk ⟨0, 0, false⟩⟩
theorem any_late {l : List Pk} {i : Nat} (hi : i < l.length) (h : (l.getD i default).late = true) : l.any (·.late) = true := by
  rw [List.any_eq_true]
  refine ⟨l.getD i default, ?_, h⟩
  rw [List.getD, List.getElem?_eq_getElem hi]
  exact List.getElem_mem hi
def mixPk (l : List Pk) (h : 0 < l.length) : Pk where
  M := Pl.bndM (fun i => (l.getD i default).M) l.length
  late := l.any (·.late)
  I := Pl.BndI l.length fun i => (l.getD i default).I
  qb := Pl.bnd_qb h fun i hi => (l.getD i default).qb.at_ (any_late hi)
  s0 := fun i => (l.getD i default).s0
  hI := fun i hi => (l.getD i default).hI
  w0 := Pl.bnd_start fun i hi => (l.getD i default).w0

theorem QImp.low {M : Pl.QM} {q : Value} {base : Nat} {inv : M.σ → Nat → (Nat → Prop) → World → Prop} (h : QImp M q base inv) {b : Nat} (hb : b ≤ base) : QImp M q b inv :=
  ⟨fun s k F w hi i hF => ⟨Nat.le_trans hb (h.lt s k F w hi i hF).1, (h.lt s k F w hi i hF).2⟩, fun s k F w hi => Nat.le_trans hb (h.base s k F w hi), h.chg, h.put, h.take, h.when_, h.len, h.bytes⟩
def NaV (v : Value) : Prop := ∀ W : World, match v with
  | .iface T x => (nilAhead (Tryz.prog.types.size + Made.depth) T x "Put").run Tryz.prog W = .ok (some false) W
  | _ => True
theorem na_of {T : TypeId} {x : Value} (h : ∀ W : World, (nilAhead (Tryz.prog.types.size + Made.depth) T x "Put").run Tryz.prog W = .ok (some false) W) : NaV (.iface T x) := h
structure PkM (P : Pk) (v : Value) (base : Nat) (F : Nat → Prop) (w : World) : Prop where
  ex : ∃ inv, QImp P.M v base inv ∧ inv P.s0 0 F w
  na : NaV v
  v : QV v
theorem PkM.low {P : Pk} {v : Value} {base b : Nat} {F : Nat → Prop} {w : World} (h : PkM P v base F w) (hb : b ≤ base) : PkM P v b F w := by
  obtain ⟨inv, h1, h2⟩ := h.ex
  exact ⟨⟨inv, h1.low hb, h2⟩, h.na, h.v⟩
theorem PkM.lt {P : Pk} {v : Value} {base : Nat} {F : Nat → Prop} {w : World} (h : PkM P v base F w) : ∀ i, F i → base ≤ i ∧ i < w.heap.size := by
  obtain ⟨inv, h1, h2⟩ := h.ex
  exact h1.lt _ _ _ _ h2
theorem PkM.chg {P : Pk} {v : Value} {base : Nat} {F : Nat → Prop} {w w' : World} {S : Nat → Prop} (h : PkM P v base F w) (hc : Chg w w' S) (hn : ∀ i, F i → ¬ S i) : PkM P v base F w' := by
  obtain ⟨inv, h1, h2⟩ := h.ex
  exact ⟨⟨inv, h1, h1.chg _ _ _ _ _ _ h2 hc hn⟩, h.na, h.v⟩
theorem PkM.below {P : Pk} {v : Value} {base : Nat} {F : Nat → Prop} {w w' : World} (h : PkM P v base F w) (hb : Below w.heap.size w w') : PkM P v base F w' :=
  h.chg (S := fun _ => False) (Chg.of_below hb) (fun _ _ e => e)

def mkFifo (a b : Int) (hd : Bool) : Option Pk := if (0 ≤ a ∧ a ≤ 1000000) ∧ 0 ≤ b ∧ b ≤ 1000000 then some (fifoPk ⟨a, b, hd⟩) else none
def mkRed (U : Pl.SU) (a b : Int) (zs : List Int) : Option Pk := if ((0 ≤ a ∧ a ≤ 1000000) ∧ 0 ≤ b ∧ b ≤ 1000000) ∧ (0 ≤ U.low ∧ U.low < U.high ∧ U.high ≤ 1000000) ∧ (1 ≤ U.often ∧ U.often ≤ 1000) ∧ 0 ≤ U.slow ∧ U.slow ≤ 10 then some (redPk U ⟨a, b, false⟩ zs) else none
def mkDel (tg sp pk : Int) : Option Pk := if (0 ≤ pk ∧ pk ≤ 1000000) ∧ (0 ≤ tg ∧ tg ≤ 1000000) ∧ 1 ≤ sp ∧ sp ≤ 1000000 then some (delPk ⟨⟨pk, 1000000, false⟩, tg, sp⟩) else none
theorem hp_ok {m salt room : Int} (h : (1 ≤ m ∧ m ≤ 64) ∧ (0 ≤ salt ∧ salt ≤ 1000000) ∧ 1 ≤ room ∧ room ≤ 1000000) : Pl.HPOk ⟨m.toNat, salt, room⟩ := ⟨by simp only []; omega, h.2.1, h.2.2⟩
def mkHsh (m salt room : Int) : Option Pk := if h : (1 ≤ m ∧ m ≤ 64) ∧ (0 ≤ salt ∧ salt ≤ 1000000) ∧ 1 ≤ room ∧ room ≤ 1000000 then some (hshPk ⟨m.toNat, salt, room⟩ (hp_ok h)) else none
def qsB (room : Int) (zs : List Int) : Bool := decide (1 ≤ zs.length ∧ zs.length ≤ 16) && decide (0 ≤ room ∧ room ≤ 1000000) && zs.all fun z => decide (1 ≤ z ∧ z ≤ 1000000)
theorem qsB_iff {room : Int} {zs : List Int} : qsB room zs = true ↔ QsOk room zs.length zs := by
  unfold qsB
  rw [Bool.and_eq_true, Bool.and_eq_true, decide_eq_true_iff, decide_eq_true_iff, List.all_eq_true]
  constructor
  · rintro ⟨⟨h1, h2⟩, h3⟩
    refine ⟨h1, h2, fun i hi => ?_⟩
    have := h3 _ (List.getElem_mem hi)
    rw [List.getD, List.getElem?_eq_getElem hi]
    simpa using this
  · rintro ⟨h1, h2, h3⟩
    refine ⟨⟨h1, h2⟩, fun z hz => ?_⟩
    obtain ⟨i, hi, rfl⟩ := List.getElem_of_mem hz
    have := h3 i hi
    rw [List.getD, List.getElem?_eq_getElem hi] at this
    simpa using this
theorem qTo_ok {room : Int} {n : Nat} {zs : List Int} (h : QsOk room n zs) : Pl.QOk (qTo zs n 16) := fun f hf => by
  unfold qTo
  rw [if_pos hf]
  exact h.q _ (by have := h.nn.1; omega)
def mkRnd (room : Int) (zs : List Int) : Option Pk := if h : qsB room zs = true then some (rndPk (qTo zs zs.length 16) (qTo_ok (qsB_iff.1 h)) room) else none
def mkShp (b : Bk) (P : Pk) : Option Pk := if (1 ≤ b.b ∧ b.b ≤ 1000000) ∧ (1 ≤ b.t ∧ b.t ≤ 1000000) ∧ 0 ≤ b.r ∧ b.r ≤ 1000000 then some (shpPk b P) else none
def mkMix (l : List Pk) : Option Pk := if h : 0 < l.length ∧ l.length ≤ 8 then some (mixPk l h.1) else none

def MadeEnd (mk : Option Pk) (T : TypeId) (w : World) (Fq : Nat → Prop) (e : Ending) (w' : World) : Prop :=
  (∃ P g F, mk = some P ∧ e = .returned (.tuple #[.pointer (some ⟨g, 0, none⟩), .nilIface]) ∧ Hid (PkM P (.iface T (.pointer (some ⟨g, 0, none⟩))) 6 F w' ∧ Below w.heap.size w w' ∧ ∀ i, F i → Fq i ∨ w.heap.size ≤ i)) ∨
  (mk = none ∧ ∃ k : Int, e = .returned (.tuple #[.pointer none, .iface 69 (.int .i64 k)]) ∧ Below w.heap.size w w')
theorem made_fifo (a b : Int) (hd : Bool) (w : World) (h6 : 6 ≤ w.heap.size) : Calls Tryz.prog 21 #[.int .i64 a, .int .i64 b, .bool hd] w (MadeEnd (mkFifo a b hd) 61 w (fun _ => False)) := by
  by_cases h : (0 ≤ a ∧ a ≤ 1000000) ∧ 0 ≤ b ∧ b ≤ 1000000
  · refine (newFifo_yes ⟨a, b, hd⟩ w ⟨h.1, h.2⟩).mono ?_
    rintro e w' ⟨g, rfl, hg, hb, hf⟩
    exact .inl ⟨_, g, fun i => i = g, if_pos h, rfl, Lib.hid ⟨⟨⟨_, (fifo_imp w.heap.size g ⟨a, b, hd⟩ ⟨h.1, h.2⟩).low h6, hf.inv hg⟩, na_of fun W => by kernel_rfl, ⟨_, _, rfl⟩⟩, hb, fun i hi => .inr (by omega)⟩⟩
  · refine (newFifo_no a b hd w (by omega)).mono ?_
    rintro e w' ⟨⟨k, rfl⟩, rfl⟩
    exact .inr ⟨if_neg h, k, rfl, Below.refl _ _⟩
theorem made_del (tg sp pk : Int) (w : World) (h6 : 6 ≤ w.heap.size) : Calls Tryz.prog 35 #[.int .i64 tg, .int .i64 sp, .int .i64 pk] w (MadeEnd (mkDel tg sp pk) 101 w (fun _ => False)) := by
  by_cases h : (0 ≤ pk ∧ pk ≤ 1000000) ∧ (0 ≤ tg ∧ tg ≤ 1000000) ∧ 1 ≤ sp ∧ sp ≤ 1000000
  · have hP : Pl.DPOk ⟨⟨pk, 1000000, false⟩, tg, sp⟩ := ⟨⟨h.1, by simp only []; omega⟩, h.2.1, h.2.2⟩
    refine (newDelay_yes ⟨⟨pk, 1000000, false⟩, tg, sp⟩ w hP rfl rfl).mono ?_
    rintro e w' ⟨g, v, cs, rfl, hg, hb, hd, rfl⟩
    have hi : DInv1 w.heap.size g ⟨⟨pk, 1000000, false⟩, tg, sp⟩ ⟨[], -1, false, 0, 0⟩ 0 (fun i => i = g) w' :=
      ⟨_, _, hd, ⟨by simp only []; omega, by simp only []; omega, by simp only []; omega, by simp⟩, ⟨⟨by simp, fun x hx => by simp at hx⟩, fun x hx => by simp at hx⟩, hb.size, by omega, hg, fun i => by simp [Value.ownBlock]⟩
    exact .inl ⟨_, g, fun i => i = g, if_pos h, rfl, Lib.hid ⟨⟨⟨_, (del_imp w.heap.size g _ hP).low h6, hi⟩, na_of fun W => by kernel_rfl, ⟨_, _, rfl⟩⟩, hb, fun i hi => .inr (by omega)⟩⟩
  · by_cases hp : 0 ≤ pk ∧ pk ≤ 1000000
    · refine (newDelay_no tg sp pk w hp (by omega)).mono ?_
      rintro e w' ⟨⟨k, rfl⟩, hb⟩
      exact .inr ⟨if_neg h, k, rfl, hb⟩
    · refine (newDelay_bad tg sp pk w (by omega)).mono ?_
      rintro e w' ⟨⟨k, rfl⟩, hb⟩
      exact .inr ⟨if_neg h, k, rfl, hb⟩
theorem made_hsh (m salt room : Int) (w : World) (h6 : 6 ≤ w.heap.size) : Calls Tryz.prog 36 #[.int .i64 m, .int .i64 salt, .int .i64 room] w (MadeEnd (mkHsh m salt room) 104 w (fun _ => False)) := by
  by_cases h : (1 ≤ m ∧ m ≤ 64) ∧ (0 ≤ salt ∧ salt ≤ 1000000) ∧ 1 ≤ room ∧ room ≤ 1000000
  · have hm : (m.toNat : Int) = m := by omega
    have hc := newHashed_yes ⟨m.toNat, salt, room⟩ w (hp_ok h)
    rw [show ((⟨m.toNat, salt, room⟩ : Pl.HP).m : Int) = m from hm] at hc
    refine hc.mono ?_
    rintro e w' ⟨g, gl, cs, ls, rfl, hg, hgl, hb, hh⟩
    exact .inl ⟨_, g, fun i => i = g ∨ i = gl, dif_pos h, rfl, Lib.hid ⟨⟨⟨_, (hsh_imp w.heap.size g gl _ (hp_ok h)).low h6, hh.inv0 (hp_ok h) hg hgl⟩, na_of fun W => by kernel_rfl, ⟨_, _, rfl⟩⟩, hb, fun i hi => .inr (by omega)⟩⟩
  · refine (newHashed_no m salt room w (by omega)).mono ?_
    rintro e w' ⟨⟨k, rfl⟩, rfl⟩
    exact .inr ⟨dif_neg h, k, rfl, Below.refl _ _⟩
theorem made_rnd (room : Int) (A : Option Addr) (n c : Nat) (zs : List Int) (w : World) (hr : RdI w w.heap.size A n zs) (hn : n ≤ 2000) (h6 : 6 ≤ w.heap.size) : Calls Tryz.prog 43 #[.int .i64 room, .slice A n c] w (MadeEnd (mkRnd room zs) 127 w (fun _ => False)) := by
  have hl : zs.length = n := by have := hr.len; simpa using this
  by_cases h : qsB room zs = true
  · have hq := qsB_iff.1 h
    refine (newRounds_yes room A n c zs w hr (by rw [← hl]; exact hq)).mono ?_
    rintro e w' ⟨g, cs, rfl, hg, hb, hd⟩
    rw [← hl] at hd
    have hi : RInv1 w.heap.size g (qTo zs zs.length 16) room rs0 0 (fun i => i = g) w' :=
      ⟨cs, _, _, by rw [Pl.waitR_rs0]; exact hd, Pl.rs0_ok, by rw [Pl.waitR_rs0]; exact Nat.le_refl _, hb.size, by omega, hg, fun i => by simp [RF, Value.ownBlock]⟩
    exact .inl ⟨_, g, fun i => i = g, dif_pos h, rfl, Lib.hid ⟨⟨⟨_, (rnd_imp w.heap.size g _ (qTo_ok hq) room).low h6, hi⟩, na_of fun W => by kernel_rfl, ⟨_, _, rfl⟩⟩, hb, fun i hi => .inr (by omega)⟩⟩
  · refine (newRounds_no room A n c zs w hr hn (fun hq => h (qsB_iff.2 (by rw [hl]; exact hq)))).mono ?_
    rintro e w' ⟨⟨k, rfl⟩, hb⟩
    exact .inr ⟨dif_neg h, k, rfl, hb⟩
end Go.Proofs.YtgdijbaodfghjaaGreatDoor

/-
  A queue that was just made: random early detection, shapers, bands.
-/
namespace Go.Proofs.YtgdijbaodfghjaaGreatDoor
open Go.RowKit Bkt
set_option linter.unusedVariables false
set_option maxHeartbeats 1000000 in
set_option maxRecDepth 100000 in
theorem newRed_bad (U : Pl.SU) (pk rm : Int) (A : Option Addr) (n c : Nat) (w : World) (hp : pk < 0 ∨ 1000000 < pk ∨ rm < 0 ∨ 1000000 < rm) :
    Calls Tryz.prog 34 #[suV U, .int .i64 pk, .int .i64 rm, .slice A n c] w (NewRedNo w) := by
  have hnf := newFifo_no pk rm false (w.alloc (.cells #[.int .i64 U.low, .int .i64 U.high, .int .i64 U.often, .int .i64 U.slow, .bool U.mark] 100)) hp
  have hb0 : Below w.heap.size w (w.alloc (.cells #[.int .i64 U.low, .int .i64 U.high, .int .i64 U.often, .int .i64 U.slow, .bool U.mark] 100)) := (Below.refl _ _).alloc (Nat.le_refl _) _
  obtain ⟨lo, hi, of_, sl, mk⟩ := U
  unfold suV
  dsimp only at hnf hb0 ⊢
  have HN := Lib.hid hnf; have HB0 := Lib.hid hb0
  clear hnf hb0 hp
  go_enter Tryz.func34, Tryz.ntmps34
  go_upto_region 1 with fail
  generalize w.alloc (.cells #[.int .i64 lo, .int .i64 hi, .int .i64 of_, .int .i64 sl, .bool mk] 100) = w0 at *
  go_wp2_with fail
  (with_reducible refine HN.out.mono ?_)
  rintro e w1 hno
  unfold NewFifoNo at hno
  obtain ⟨⟨k, rfl⟩, rfl⟩ := hno
  go_wp2_with fail
  go_ret2
  exact ⟨⟨_, rfl⟩, HB0.out⟩
theorem made_red (U : Pl.SU) (a b : Int) (A : Option Addr) (n c : Nat) (zs : List Int) (w : World) (hr : RdI w w.heap.size A n zs) (hn : n ≤ 1000) (h6 : 6 ≤ w.heap.size) :
    Calls Tryz.prog 34 #[suV U, .int .i64 a, .int .i64 b, .slice A n c] w (MadeEnd (mkRed U a b zs) 96 w (fun _ => False)) := by
  have hl : zs.length = n := by have := hr.len; simpa using this
  by_cases hp : (0 ≤ a ∧ a ≤ 1000000) ∧ 0 ≤ b ∧ b ≤ 1000000
  · by_cases hU : (0 ≤ U.low ∧ U.low < U.high ∧ U.high ≤ 1000000) ∧ (1 ≤ U.often ∧ U.often ≤ 1000) ∧ 0 ≤ U.slow ∧ U.slow ≤ 10
    · have hU' : Pl.SUOk U := ⟨hU.1, hU.2.1, hU.2.2⟩
      refine (newRed_yes U a b A n c zs w hr hp hU' hn).mono ?_
      rintro e w' ⟨g, v, cs, tv, rfl, hg, hb, hd, rfl⟩
      have hi : RdInv1 w.heap.size g U ⟨a, b, false⟩ ⟨[], 0, 0, zs⟩ 0 (fun i => i = g ∨ (Value.slice none 0 0).ownBlock = some i ∨ tv.ownBlock = some i) w' :=
        ⟨_, _, _, hd, by simp, fun x hx => by simp at hx, by simp only []; omega, hb.size, by omega, hg, fun i => Iff.rfl⟩
      exact .inl ⟨_, g, _, if_pos ⟨hp, hU⟩, rfl, Lib.hid ⟨⟨⟨_, (red_imp w.heap.size g U ⟨a, b, false⟩ hU' ⟨hp.1, hp.2⟩).low h6, hi⟩, na_of fun W => by kernel_rfl, ⟨_, _, rfl⟩⟩, hb, fun i hi2 => .inr (((red_imp w.heap.size g U ⟨a, b, false⟩ hU' ⟨hp.1, hp.2⟩).lt _ _ _ _ hi i hi2).1)⟩⟩
    · refine (newRed_no U a b A n c w hp (fun h => hU ⟨h.lo, h.of_, h.sl⟩)).mono ?_
      rintro e w' ⟨⟨k, rfl⟩, hb⟩
      exact .inr ⟨if_neg (fun h => hU h.2), k, rfl, hb⟩
  · refine (newRed_bad U a b A n c w (by omega)).mono ?_
    rintro e w' ⟨⟨k, rfl⟩, hb⟩
    exact .inr ⟨if_neg (fun h => hp h.1), k, rfl, hb⟩
theorem made_shp (b : Bk) (P : Pk) (v : Value) (Fq : Nat → Prop) (w : World) (h : PkM P v 6 Fq w) :
    Calls Tryz.prog 38 #[bkV b, v] w (MadeEnd (mkShp b P) 107 w Fq) := by
  obtain ⟨inv, qi, hi⟩ := h.ex
  obtain ⟨T, gv, rfl⟩ := h.v
  by_cases hk : (1 ≤ b.b ∧ b.b ≤ 1000000) ∧ (1 ≤ b.t ∧ b.t ≤ 1000000) ∧ 0 ≤ b.r ∧ b.r ≤ 1000000
  · have hk' : BkOk b := ⟨hk.1, hk.2.1, hk.2.2⟩
    refine (sgnew_yes T gv inv P.s0 6 b hk' qi P.hI P.w0 Fq w hi (qi.base _ _ _ _ hi)).mono ?_
    rintro e w' ⟨g, gt, F, rfl, h2⟩
    exact .inl ⟨_, g, F, if_pos hk, rfl, Lib.hid ⟨⟨⟨_, sg_imp _ inv 6 g gt b hk' qi P.qb, h2.out.1⟩, na_of fun W => by kernel_rfl, ⟨_, _, rfl⟩⟩, h2.out.2.1, h2.out.2.2⟩⟩
  · refine (sgnew_no b (fun h => hk ⟨h.b, h.t, h.r⟩) T gv w).mono ?_
    rintro e w' ⟨⟨k, rfl⟩, hb⟩
    exact .inr ⟨if_neg hk, k, rfl, hb⟩
structure PksM (l : List Pk) (vs : List Value) (FF : Nat → Nat → Prop) (w : World) : Prop where
  len : vs.length = l.length
  m : ∀ i, i < l.length → PkM (l.getD i default) (vs.getD i .nilIface) 6 (FF i) w
  ne : ∀ i j, i < l.length → j < l.length → i ≠ j → ∀ b, FF i b → ¬ FF j b
theorem getD_snoc_lt {α : Type _} {l : List α} {x d : α} {i : Nat} (h : i < l.length) : (l ++ [x]).getD i d = l.getD i d := by
  rw [List.getD, List.getD, List.getElem?_append_left h]
theorem getD_snoc_eq {α : Type _} {l : List α} {x d : α} : (l ++ [x]).getD l.length d = x := by
  simp [List.getD]
theorem PksM.nil (FF : Nat → Nat → Prop) (w : World) : PksM [] [] FF w := ⟨rfl, fun i h => by simp at h, fun i j h => by simp at h⟩
theorem PksM.chg {l : List Pk} {vs : List Value} {FF : Nat → Nat → Prop} {w w' : World} {S : Nat → Prop} (h : PksM l vs FF w) (hc : Chg w w' S) (hn : ∀ i, i < l.length → ∀ b, FF i b → ¬ S b) : PksM l vs FF w' :=
  ⟨h.len, fun i hi => (h.m i hi).chg hc (hn i hi), h.ne⟩
theorem PksM.push {l : List Pk} {vs : List Value} {FF : Nat → Nat → Prop} {w : World} {P : Pk} {v : Value} {F : Nat → Prop} (h : PksM l vs FF w) (hp : PkM P v 6 F w) (hd : ∀ i, i < l.length → ∀ b, FF i b → ¬ F b) : PksM (l ++ [P]) (vs ++ [v]) (Pl.updf FF l.length F) w := by
  have hl := h.len
  refine ⟨by simp [hl], fun i hi => ?_, fun i j hi hj hne b hb => ?_⟩
  · rw [List.length_append, List.length_singleton] at hi
    by_cases e : i = l.length
    · subst e
      rw [getD_snoc_eq, Pl.updf_same, ← hl, getD_snoc_eq]
      exact hp
    · rw [getD_snoc_lt (by omega), getD_snoc_lt (by omega), Pl.updf_ne _ _ e]
      exact h.m i (by omega)
  · rw [List.length_append, List.length_singleton] at hi hj
    by_cases e : i = l.length
    · subst e
      rw [Pl.updf_same] at hb
      rw [Pl.updf_ne _ _ (Ne.symm hne)]
      exact fun hb2 => hd j (by omega) b hb2 hb
    · rw [Pl.updf_ne _ _ e] at hb
      by_cases e2 : j = l.length
      · subst e2
        rw [Pl.updf_same]
        exact hd i (by omega) b hb
      · rw [Pl.updf_ne _ _ e2]
        exact h.ne i j (by omega) (by omega) hne b hb
theorem made_mix (l : List Pk) (vs : List Value) (FF : Nat → Nat → Prop) (A : Option Addr) (n c : Nat) (w : World) (h : PksM l vs FF w) (hr : RdV w w.heap.size A n vs) (h1 : 1 ≤ n) (hn : n ≤ 1000) (h6 : 6 ≤ w.heap.size) :
    Calls Tryz.prog 45 #[.slice A n c] w (MadeEnd (mkMix l) 137 w (fun i => ∃ j, j < l.length ∧ FF j i)) := by
  have hln : l.length = n := by rw [← h.len, hr.len]
  by_cases h8 : n ≤ 8
  · refine (mixNew_yes A n c vs w hr h1 h8).mono ?_
    rintro e w' ⟨gb, rfl, h2⟩
    obtain ⟨gi, c', ls, hgi, hgb, hne, hblk, hrow, hls, hb⟩ := h2.out
    have hm : 0 < l.length := by omega
    have hall : ∀ i, ∃ inv, i < l.length → QImp (l.getD i default).M (vs.getD i .nilIface) 6 inv ∧ inv (l.getD i default).s0 0 (FF i) w := fun i => by
      by_cases hi : i < l.length
      · obtain ⟨inv, h3⟩ := (h.m i hi).ex
        exact ⟨inv, fun _ => h3⟩
      · exact ⟨fun _ _ _ _ => False, fun e => absurd e hi⟩
    obtain ⟨Inv, hInv⟩ := Classical.axiomOfChoice hall
    have hlt : ∀ i, i < l.length → ∀ b, FF i b → 6 ≤ b ∧ b < w.heap.size := fun i hi b hb => (h.m i hi).lt b hb
    let MP : MixP := ⟨fun i => (l.getD i default).M, fun i => vs.getD i .nilIface, Inv, fun i => (l.getD i default).I, l.any (·.late)⟩
    have ok : MixOk MP 6 l.length := ⟨fun i hi => (hInv i hi).1, fun i hi => (l.getD i default).qb.at_ (any_late hi)⟩
    have hmm : Mx1 MP 6 gb l.length (mixPk l hm).s0 0 (fun i => i = gb ∨ i = gi ∨ ∃ j, j < l.length ∧ FF j i) w' := by
      refine ⟨gi, c', ls, FF, fun _ => 0, ⟨by rw [hln]; exact hblk, hrow, fun i hi => ?_, fun i hi => ?_, fun _ _ => Nat.le_refl _, h.ne, fun i hi => ⟨fun hb2 => ?_, fun hb2 => ?_⟩, hne, by omega, by omega, Nat.le_trans h6 hb.size, by omega, hm, by omega, (mixPk l hm).hI, ?_, fun i => Iff.rfl⟩⟩
      · rw [hls i (by omega)]
        show vs[i]? = some (vs.getD i .nilIface)
        rw [List.getD, List.getElem?_eq_getElem (by rw [h.len]; exact hi)]
        rfl
      · exact (hInv i hi).1.chg _ _ _ _ _ (fun _ => False) (hInv i hi).2 (Chg.of_below hb) (fun _ _ e => e)
      · have := (hlt i hi _ hb2).2; omega
      · have := (hlt i hi _ hb2).2; omega
      · have := (mixPk l hm).w0
        show (Pl.waitG (fun i => (l.getD i default).M) l.length _).length ≤ 0
        have e : Pl.waitG (fun i => (l.getD i default).M) l.length (mixPk l hm).s0 = [] := this
        rw [e]; exact Nat.le_refl _
    exact .inl ⟨mixPk l hm, gb, _, dif_pos ⟨hm, by omega⟩, rfl, Lib.hid ⟨⟨⟨_, mix_imp MP 6 gb l.length ok, hmm⟩, na_of fun W => by kernel_rfl, ⟨_, _, rfl⟩⟩, hb, fun i hi => by
      rcases hi with rfl | rfl | hi
      · exact .inr hgb
      · exact .inr hgi
      · exact .inl hi⟩⟩
  · refine (mixNew_no A n c w (by omega) hn).mono ?_
    rintro e w' ⟨⟨k, rfl⟩, rfl⟩
    exact .inr ⟨dif_neg (by omega), k, rfl, Below.refl _ _⟩
end Go.Proofs.YtgdijbaodfghjaaGreatDoor

/-
  LinkBusy: the five queues let go at once and lose nothing while few wait.
-/
namespace Go.Proofs.YtgdijbaodfghjaaGreatDoor
open Bkt
set_option linter.unusedVariables false
namespace Pl
theorem cutQ_none (P R : Int) : ∀ l, (l.length : Int) ≤ P → tot l ≤ R → (cutQ P R l).1 = []
  | [], _, _ => rfl
  | x :: r, h1, h2 => by
    unfold cutQ
    rw [if_neg (by omega)]
theorem fput_few (hd : Bool) {x : Hd} (l : List Hd) (hx : okB x.it = true) (hl : l.length < 60) (hw : ∀ p ∈ l.map key, (0 : Int) ≤ p.2 ∧ p.2 ≤ 10000) : (fputL ⟨1000, 1000000, hd⟩ x l).1 = [] := by
  have hb := sumLen_bd hw
  rw [List.length_map] at hb
  have ht : 0 ≤ tot l ∧ tot l ≤ 10000 * (l.length : Int) := hb
  have hx2 := okB_len hx
  unfold fputL
  cases hd
  · rw [if_pos rfl, if_neg (by show ¬ ((1000 : Int) ≤ _ ∨ (1000000 : Int) < _); omega)]
  · rw [if_neg (by simp)]
    refine cutQ_none _ _ _ ?_ ?_
    · rw [List.length_append]; show ((_ + 1 : Nat) : Int) ≤ 1000; omega
    · rw [tot_snoc]; show _ ≤ (1000000 : Int); omega
theorem ftake_few (l : List Hd) (h : l.map key ≠ []) : (ftakeL l).1 ≠ none := by
  cases l with
  | nil => exact absurd rfl h
  | cons x r => intro h; cases h
theorem ftake_lost (l : List Hd) : (ftakeL l).2.1 = [] := by cases l <;> rfl
section
variable {Ms : Nat → QM} {m : Nat} {I : (i : Nat) → (Ms i).σ → Prop}
theorem takeG_lost (W : ∀ i, i < m → WC (Ms i) (I i)) (now : Int) : ∀ (n i : Nat) (s : BSt Ms), i + n ≤ m → BndI m I s → (takeG Ms now n i s).2.1 = []
  | 0, i, s, _, h => rfl
  | n + 1, i, s, hi, h => by
    have h1 := (W i (by omega)).lost (s i) now (h i (by omega))
    obtain ⟨g1, _⟩ := (W i (by omega)).good.take (s i) now (h i (by omega))
    unfold takeG
    generalize (Ms i).take now (s i) = r at *
    obtain ⟨o, lo, v⟩ := r
    dsimp only at h1 g1 ⊢
    subst h1
    cases o with
    | some x => rfl
    | none =>
      dsimp only
      rw [takeG_lost W now n (i + 1) (updD s i v) (by omega) (bndI_upd h g1)]
      rfl
theorem takeG_gives (W : ∀ i, i < m → WC (Ms i) (I i)) (now : Int) : ∀ (n i : Nat) (s : BSt Ms), i + n ≤ m → BndI m I s → (∃ j, i ≤ j ∧ j < i + n ∧ (Ms j).wait (s j) ≠ []) → (takeG Ms now n i s).1 ≠ none
  | 0, i, s, _, h, ⟨j, h1, h2, _⟩ => absurd h2 (by omega)
  | n + 1, i, s, hi, h, ⟨j, h1, h2, h3⟩ => by
    have ht := (W i (by omega)).take (s i) now (h i (by omega))
    obtain ⟨g1, _⟩ := (W i (by omega)).good.take (s i) now (h i (by omega))
    unfold takeG
    generalize (Ms i).take now (s i) = r at *
    obtain ⟨o, lo, v⟩ := r
    dsimp only at ht g1 ⊢
    cases o with
    | some x => intro h; cases h
    | none =>
      dsimp only
      have hji : j ≠ i := fun e => by subst e; exact ht h3 rfl
      exact takeG_gives W now n (i + 1) (updD s i v) (by omega) (bndI_upd h g1) ⟨j, by omega, by omega, by rw [updD_ne _ _ hji]; exact h3⟩
theorem wc_bnd (hm : 0 < m) (W : ∀ i, i < m → WC (Ms i) (I i)) : WC (bndM Ms m) (BndI m I) where
  good := bnd_good hm fun i hi => (W i hi).good
  put := fun s now x hI hx hl hw => by
    have hk := bandOf_lt hm x.it
    obtain ⟨R, p1, _⟩ := waitG_upd hk s (s (bandOf m x.it))
    have hlen := p1.length_eq
    rw [List.length_append] at hlen
    refine (W _ hk).put (s (bandOf m x.it)) now x (hI _ hk) hx ?_ (fun p hp => hw p (p1.mem_iff.2 (List.mem_append_left _ hp)))
    have hl2 : (waitG Ms m s).length < 60 := hl
    omega
  take := fun s now hI hn => by
    refine takeG_gives W now m 0 s (by omega) hI ?_
    refine Classical.byContradiction fun hno => hn ?_
    show waitG Ms m s = []
    unfold waitG
    rw [List.flatMap_eq_nil_iff]
    intro j hj
    refine Classical.byContradiction fun h3 => hno ⟨j, Nat.zero_le _, by have := List.mem_range.1 hj; omega, h3⟩
  lost := fun s now hI => takeG_lost W now m 0 s (by omega) hI
end
theorem wc_hash {P : HP} (hP : HPOk P) (hr : 60 ≤ P.room) : WC (hashM P) (HI P) where
  good := hash_good P hP
  put := fun s now x hI hx hl hw => by
    have hp := (wait_add (whr_lt hP x.it.flow) x s).length_eq
    rw [List.length_append, List.length_singleton] at hp
    have hl2 : (waitH P.m s).length < 60 := hl
    show (putH P x s).1 = []
    unfold putH
    rw [if_pos (by omega)]
  take := fun s now hI hn => by
    have ht := takeH_ok hI
    show (takeH s).1 ≠ none
    cases hT : s.T with
    | nil =>
      refine absurd ?_ hn
      show waitH P.m s = []
      unfold waitH
      rw [List.flatMap_eq_nil_iff]
      intro k hk
      refine Classical.byContradiction fun h3 => ?_
      have := hI.h.im k (List.mem_range.1 hk) (fun e => h3 (by rw [e]; rfl))
      rw [hT] at this
      cases this
    | cons k T =>
      obtain ⟨x, q, _, _, e⟩ := ht.some_ k T hT
      rw [e]
      intro h; cases h
  lost := fun s now _ => rfl
theorem wc_fair {Q : Nat → Int} (hQ : QOk Q) {room : Int} (hr : 60 ≤ room) : WC (fairM Q room) RI where
  good := fair_good Q hQ room
  put := fun s now x hI hx hl hw => by
    have hf : x.it.flow.toNat < 16 := by have := (okB_fine.1 hx).f2; omega
    obtain ⟨R, h1, _⟩ := flat_upd x.it.flow.toNat (G := fun i => (s.L i).map key) (G' := fun i => (s.L i).map key) (fun i hi => rfl) (List.range 16) List.nodup_range (List.mem_range.2 hf)
    have hlen := h1.length_eq
    rw [List.length_append, List.length_map] at hlen
    have hl2 : ((List.range 16).flatMap fun f => (s.L f).map key).length < 60 := hl
    show (putR room x s).1 = []
    unfold putR
    rw [if_neg (by omega)]
  take := fun s now hI hn => by
    have ht := takeR_ok hQ (measR s + 1) s hI (by omega)
    show (takeR Q (measR s + 1) s).1 ≠ none
    have hT : s.T ≠ [] := fun hT => hn (by
      show waitR s = []
      unfold waitR
      rw [List.flatMap_eq_nil_iff]
      intro k hk
      refine Classical.byContradiction fun h3 => ?_
      have := hI.im k (List.mem_range.1 hk) (fun e => h3 (by rw [e]; rfl))
      rw [hT] at this
      cases this)
    obtain ⟨x, f, e, _⟩ := ht.some_ hT
    rw [e]
    intro h; cases h
  lost := fun s now _ => rfl
theorem WC.pi {M : QM} {I : M.σ → Prop} (W : WC M I) (G : M.Good false (PI M I)) : WC M (PI M I) :=
  ⟨G, fun s now x h => W.put s now x h.1, fun s now h => W.take s now h.1, fun s now h => W.lost s now h.1⟩
end Pl
theorem wc_fifo (hd : Bool) : Pl.WC (fifoPk ⟨1000, 1000000, hd⟩).M (fifoPk ⟨1000, 1000000, hd⟩).I where
  good := (fifoPk ⟨1000, 1000000, hd⟩).qb.good
  put := fun s now x _ hx hl hw => Pl.fput_few hd s hx (by have e : ((fifoPk ⟨1000, 1000000, hd⟩).M.wait s).length = List.length (α := Hd) s := List.length_map ..; rw [e] at hl; exact hl) hw
  take := fun s now _ hn => Pl.ftake_few s hn
  lost := fun s now _ => Pl.ftake_lost s
theorem wc_hsh {P : Pl.HP} (hP : Pl.HPOk P) (hr : 60 ≤ P.room) : Pl.WC (hshPk P hP).M (hshPk P hP).I := (Pl.wc_hash hP hr).pi (hshPk P hP).qb.good
theorem wc_rnd {Q : Nat → Int} (hQ : Pl.QOk Q) {room : Int} (hr : 60 ≤ room) : Pl.WC (rndPk Q hQ room).M (rndPk Q hQ room).I := (Pl.wc_fair hQ hr).pi (rndPk Q hQ room).qb.good
def fi3 : List Pk := [fifoPk ⟨1000, 1000000, false⟩, fifoPk ⟨1000, 1000000, false⟩, fifoPk ⟨1000, 1000000, false⟩]
theorem fi3_at (i : Nat) (hi : i < 3) : fi3.getD i default = fifoPk ⟨1000, 1000000, false⟩ := by
  match i, hi with
  | 0, _ => rfl
  | 1, _ => rfl
  | 2, _ => rfl
theorem wc_mix : Pl.WC (mixPk fi3 (by decide)).M (mixPk fi3 (by decide)).I :=
  Pl.wc_bnd (m := 3) (by decide) fun i hi => by rw [fi3_at i hi]; exact wc_fifo false
end Go.Proofs.YtgdijbaodfghjaaGreatDoor
