/-
  Bands in memory: When, Len, Bytes; they are their machine.
-/
import Derived.Test.YthhgbpbaihgogaaBdsTake
namespace Go.Proofs.Ythhgbpbaihgogaa
open Go.RowKit Bkt
set_option linter.unusedVariables false

def fndTo (s : Nat → List Hd) : Nat → Bool
  | 0 => false
  | u + 1 => fndTo s u || decide (0 < (s u).length)
theorem fndTo_iff (s : Nat → List Hd) : ∀ u, fndTo s u = true ↔ ∃ j, j < u ∧ s j ≠ []
  | 0 => by simp [fndTo]
  | u + 1 => by
    rw [fndTo, Bool.or_eq_true, fndTo_iff s u, decide_eq_true_iff]
    constructor
    · rintro (⟨j, h1, h2⟩ | h)
      · exact ⟨j, by omega, h2⟩
      · exact ⟨u, by omega, fun e => by rw [e] at h; simp at h⟩
    · rintro ⟨j, h1, h2⟩
      by_cases e : j = u
      · subst e; exact .inr (List.length_pos_iff.2 h2)
      · exact .inl ⟨j, by omega, h2⟩
theorem fndTo_is (m : Nat) (s : Nat → List Hd) : (Pl.firstB s 0 m).isSome = fndTo s m := by
  cases h : Pl.firstB s 0 m with
  | none =>
    cases h2 : fndTo s m with
    | false => rfl
    | true =>
      obtain ⟨j, h3, h4⟩ := (fndTo_iff s m).1 h2
      exact absurd (Pl.firstB_none h j (by omega) (by omega)) h4
  | some k =>
    obtain ⟨h1, h2, h3, h4⟩ := Pl.firstB_some h
    exact ((fndTo_iff s m).2 ⟨k, by omega, h3⟩).symm
def lnTo (s : Nat → List Hd) : Nat → Nat
  | 0 => 0
  | u + 1 => lnTo s u + (s u).length
theorem lnTo_is (s : Nat → List Hd) : ∀ m, (Pl.waitB m s).length = lnTo s m
  | 0 => rfl
  | m + 1 => by
    rw [lnTo, ← lnTo_is s m]
    unfold Pl.waitB
    rw [List.range_succ, List.flatMap_append, List.length_append]
    simp
/-- the bytes of so many lists -/
def totTo (L : Nat → List Hd) : Nat → Int
  | 0 => 0
  | i + 1 => totTo L i + Pl.tot (L i)
theorem totTo_b (s : Nat → List Hd) : ∀ m, totTo s m = Pl.sumLen (Pl.waitB m s)
  | 0 => rfl
  | m + 1 => by
    rw [totTo, totTo_b s m]
    unfold Pl.waitB
    rw [List.range_succ, List.flatMap_append, Pl.sumLen_append]
    simp [Pl.tot]
section
variable {w : World} {base g k : Nat} {p : Pl.FP} {s : List Hd} {F : Nat → Prop}
theorem FInv1.cells (h : FInv1 base g p s k F w) : (∃ A c, w.cell? ⟨g, 0, none⟩ = some (.slice A s.length c)) ∧ w.cell? ⟨g, 1, none⟩ = some (.int .i64 (Pl.tot s)) ∧ HdsOk s := by
  obtain ⟨v, cs, h⟩ := h
  refine ⟨?_, (h.f.lst.blk.cell 1).trans h.f.lst.c1, h.hds⟩
  obtain ⟨A, c, rfl, _, _, _⟩ := h.f.lst.own.reads
  exact ⟨A, c, (h.f.lst.blk.cell 0).trans h.f.lst.c0⟩
theorem fq_when (h : FInv1 base g p s k F w) (now : Int) : Calls Try.prog 64 #[.pointer (some ⟨g, 0, none⟩), .int .i64 now] w fun e w' => e = .returned (.tuple #[.int .i64 now, .bool (decide (0 < s.length))]) ∧ w' = w := by
  obtain ⟨v, cs, h⟩ := h
  exact (fwhen_any base g 0 61 cs v s p now w h.f h.hds.n).mono fun e w' ⟨a, b⟩ => ⟨a, b.symm⟩
end
def bstTo (now : Int) (s : Nat → List Hd) (u : Nat) : Int := if fndTo s u then now else 0
theorem bstTo_t {now : Int} {s : Nat → List Hd} {u : Nat} (h : fndTo s u = true) : bstTo now s u = now := by unfold bstTo; rw [h]; rfl
theorem bstTo_f {now : Int} {s : Nat → List Hd} {u : Nat} (h : fndTo s u = false) : bstTo now s u = 0 := by unfold bstTo; rw [h]; rfl
set_option maxHeartbeats 4000000 in
set_option maxRecDepth 100000 in
theorem bds_when (base gb gi c m : Nat) (G : Nat → Nat) (ls : Array Value) (FF : Nat → Nat → Prop) (s : Nat → List Hd) (k : Nat) (F : Nat → Prop) (now : Int) (w : World) (h : BdM base gb gi c m G ls FF s k F w) :
    Calls Try.prog 73 #[.pointer (some ⟨gb, 0, none⟩), .int .i64 now] w fun e w' => e = .returned (.tuple #[.int .i64 (bstTo now s m), .bool (fndTo s m)]) ∧ w' = w := by
  have hm8 := h.m8
  have y0 := h.cell
  have hcal := fun u (hu : u < m) => fq_when (h.f u hu) now
  have hrow := fun u (hu : u < m) => h.lcell hu
  have HC := Lib.hid hcal; have HROW := Lib.hid hrow
  clear h hcal hrow
  obtain ⟨R, hR⟩ : ∃ R, R = fndTo s m := ⟨_, rfl⟩
  obtain ⟨R2, hR2⟩ : ∃ R, R = bstTo now s m := ⟨_, rfl⟩
  rw [← hR, ← hR2]
  have HR := Lib.hid hR; have HR2 := Lib.hid hR2
  clear hR hR2
  go_enter Try.func73, Try.ntmps73
  go_wp2_with fail
  go_loopw [6, 7, 17] (fun bv fv i wr => ∃ (u : Nat), u ≤ m ∧ i = .int .i64 u ∧ bv = .int .i64 (bstTo now s u) ∧ fv = .bool (fndTo s u) ∧ wr = w) (fun _ _ i _ => m - (intOf i).toNat)
  case atStart => exact ⟨0, Nat.zero_le _, rfl, rfl, rfl, rfl⟩
  case round =>
    obtain ⟨u, hu, rfl, rfl, rfl, rfl⟩ := hrel
    by_cases hlt : u < m
    · have yi := HROW.out u hlt
      unfold fqV at yi
      have iu : (u : Int) < (m : Int) := by omega
      have ht := HC.out u hlt
      have hfn : fndTo s (u + 1) = (fndTo s u || decide (0 < (s u).length)) := rfl
      have HT := Lib.hid ht; have HFN := Lib.hid hfn
      clear ht hfn
      generalize (s u).length = n at *
      by_cases hn : 0 < n
      · have dn : decide (0 < n) = true := decide_eq_true hn
        rw [dn] at HT HFN
        have hf1 : fndTo s (u + 1) = true := by rw [HFN.out]; simp
        have hb1 := bstTo_t (now := now) hf1
        have HF1 := Lib.hid hf1; have HB1 := Lib.hid hb1
        clear hf1 hb1 dn
        cases hf : fndTo s u with
        | true =>
          have hb := bstTo_t (now := now) hf
          rw [hb]
          clear hf hb HFN
          go_wp2_with (refine wpList_invoke1 (vx := .int .i64 now) rfl (.tmp 22) (.tmp 23) #[3] rfl (fifo_when_meth (G u)) rfl rfl HT.out (fun e w' ⟨h, _⟩ => ⟨_, h⟩) ?_; rintro v3 w3 ⟨e3, rfl⟩; injection e3 with e3; subst e3)
          exact ⟨⟨u + 1, by omega, by go_num, by rw [HB1.out], by rw [HF1.out], by first | rfl | trivial⟩, by simp [intOf]; omega⟩
        | false =>
          have hb := bstTo_f (now := now) hf
          rw [hb]
          clear hf hb HFN
          go_wp2_with (refine wpList_invoke1 (vx := .int .i64 now) rfl (.tmp 22) (.tmp 23) #[3] rfl (fifo_when_meth (G u)) rfl rfl HT.out (fun e w' ⟨h, _⟩ => ⟨_, h⟩) ?_; rintro v3 w3 ⟨e3, rfl⟩; injection e3 with e3; subst e3)
          exact ⟨⟨u + 1, by omega, by go_num, by rw [HB1.out], by rw [HF1.out], by first | rfl | trivial⟩, by simp [intOf]; omega⟩
      · have dn : decide (0 < n) = false := decide_eq_false hn
        rw [dn] at HT HFN
        have hfe : fndTo s (u + 1) = fndTo s u := by rw [HFN.out]; simp
        have hbe : bstTo now s (u + 1) = bstTo now s u := by unfold bstTo; rw [hfe]
        have HFE := Lib.hid hfe; have HBE := Lib.hid hbe
        clear hfe hbe dn HFN
        go_wp2_with (refine wpList_invoke1 (vx := .int .i64 now) rfl (.tmp 22) (.tmp 23) #[3] rfl (fifo_when_meth (G u)) rfl rfl HT.out (fun e w' ⟨h, _⟩ => ⟨_, h⟩) ?_; rintro v3 w3 ⟨e3, rfl⟩; injection e3 with e3; subst e3)
        exact ⟨⟨u + 1, by omega, by go_num, by rw [HBE.out], by rw [HFE.out], by first | rfl | trivial⟩, by simp [intOf]; omega⟩
    · obtain rfl : u = m := by omega
      obtain rfl : R = _ := HR.out
      obtain rfl : R2 = _ := HR2.out
      go_wp2_with fail
      go_ret2
      exact ⟨rfl, rfl⟩
set_option maxHeartbeats 2000000 in
set_option maxRecDepth 100000 in
theorem bds_len (base gb gi c m : Nat) (G : Nat → Nat) (ls : Array Value) (FF : Nat → Nat → Prop) (s : Nat → List Hd) (k : Nat) (F : Nat → Prop) (w : World) (h : BdM base gb gi c m G ls FF s k F w) :
    Calls Try.prog 70 #[.pointer (some ⟨gb, 0, none⟩)] w fun e w' => e = .returned (.int .i64 (lnTo s m : Nat)) ∧ w' = w := by
  have hm8 := h.m8
  have y0 := h.cell
  have hcal := fun u (hu : u < m) => (h.f u hu).cells
  have hrow := fun u (hu : u < m) => h.lcell hu
  have hbd : ∀ u, u ≤ m → lnTo s u ≤ 1000 * u := fun u => by
    induction u with
    | zero => intro _; simp [lnTo]
    | succ u ih =>
      intro hu
      have h1 := ih (by omega)
      have h2 := (hcal u (by omega)).2.2.n
      rw [lnTo]; omega
  have HC := Lib.hid hcal; have HROW := Lib.hid hrow; have HBD := Lib.hid hbd
  clear h hcal hrow hbd
  obtain ⟨R, hR⟩ : ∃ R, R = lnTo s m := ⟨_, rfl⟩
  rw [← hR]
  have HR := Lib.hid hR
  clear hR
  go_enter Try.func70, Try.ntmps70
  go_wp2_with fail
  go_loopw [3, 11] (fun nv i wr => ∃ (u : Nat), u ≤ m ∧ i = .int .i64 u ∧ nv = .int .i64 (lnTo s u : Nat) ∧ wr = w) (fun _ i _ => m - (intOf i).toNat)
  case atStart => exact ⟨0, Nat.zero_le _, rfl, rfl, rfl⟩
  case round =>
    obtain ⟨u, hu, rfl, rfl, rfl⟩ := hrel
    by_cases hlt : u < m
    · have yi := HROW.out u hlt
      unfold fqV at yi
      have iu : (u : Int) < (m : Int) := by omega
      obtain ⟨⟨A, cc, hcc⟩, _, _⟩ := HC.out u hlt
      have ht := len_q (G u) 0 (s u).length cc A wr hcc
      have hb1 := HBD.out (u + 1) (by omega)
      have hnx : lnTo s (u + 1) = lnTo s u + (s u).length := rfl
      rw [hnx] at hb1
      have HT := Lib.hid ht; have HNX := Lib.hid hnx
      clear ht hnx hcc
      generalize (s u).length = n at *
      generalize lnTo s u = a at *
      have e1 : IntKind.i64.wrap ((a : Int) + (n : Int)) = (a : Int) + (n : Int) := IntWalk.i64_in _ (by omega)
      go_wp2_with (refine wpList_invoke0 rfl (.tmp 16) #[] rfl (fifo_len_meth (G u)) rfl HT.out (fun e w' ⟨h, _⟩ => ⟨_, h⟩) ?_; rintro v3 w3 ⟨e3, rfl⟩; injection e3 with e3; subst e3)
      exact ⟨⟨u + 1, by omega, by go_num, by rw [HNX.out]; simp, by first | rfl | trivial⟩, by simp [intOf]; omega⟩
    · obtain rfl : u = m := by omega
      obtain rfl : R = _ := HR.out
      go_wp2_with fail
      go_ret
      exact ⟨rfl, rfl⟩
set_option maxHeartbeats 2000000 in
set_option maxRecDepth 100000 in
theorem bds_bytes (base gb gi c m : Nat) (G : Nat → Nat) (ls : Array Value) (FF : Nat → Nat → Prop) (s : Nat → List Hd) (k : Nat) (F : Nat → Prop) (w : World) (h : BdM base gb gi c m G ls FF s k F w) :
    Calls Try.prog 69 #[.pointer (some ⟨gb, 0, none⟩)] w fun e w' => e = .returned (.int .i64 (totTo s m)) ∧ w' = w := by
  have hm8 := h.m8
  have y0 := h.cell
  have hcal := fun u (hu : u < m) => (h.f u hu).cells
  have hrow := fun u (hu : u < m) => h.lcell hu
  have hbd : ∀ u, u ≤ m → 0 ≤ totTo s u ∧ totTo s u ≤ 10000000 * u := fun u => by
    induction u with
    | zero => intro _; simp [totTo]
    | succ u ih =>
      intro hu
      have h1 := ih (by omega)
      have h2 := (hcal u (by omega)).2.2.tot
      rw [totTo]; omega
  have HC := Lib.hid hcal; have HROW := Lib.hid hrow; have HBD := Lib.hid hbd
  clear h hcal hrow hbd
  obtain ⟨R, hR⟩ : ∃ R, R = totTo s m := ⟨_, rfl⟩
  rw [← hR]
  have HR := Lib.hid hR
  clear hR
  go_enter Try.func69, Try.ntmps69
  go_wp2_with fail
  go_loopw [3, 11] (fun nv i wr => ∃ (u : Nat), u ≤ m ∧ i = .int .i64 u ∧ nv = .int .i64 (totTo s u) ∧ wr = w) (fun _ i _ => m - (intOf i).toNat)
  case atStart => exact ⟨0, Nat.zero_le _, rfl, rfl, rfl⟩
  case round =>
    obtain ⟨u, hu, rfl, rfl, rfl⟩ := hrel
    by_cases hlt : u < m
    · have yi := HROW.out u hlt
      unfold fqV at yi
      have iu : (u : Int) < (m : Int) := by omega
      obtain ⟨_, hcc, _⟩ := HC.out u hlt
      have ht := bytes_q (G u) 0 (Pl.tot (s u)) wr hcc
      have hb1 := HBD.out (u + 1) (by omega)
      have hnx : totTo s (u + 1) = totTo s u + Pl.tot (s u) := rfl
      rw [hnx] at hb1
      have HT := Lib.hid ht; have HNX := Lib.hid hnx
      clear ht hnx hcc
      generalize Pl.tot (s u) = n at *
      generalize totTo s u = a at *
      have e1 : IntKind.i64.wrap (a + n) = a + n := IntWalk.i64_in _ (by omega)
      go_wp2_with (refine wpList_invoke0 rfl (.tmp 16) #[] rfl (fifo_bytes_meth (G u)) rfl HT.out (fun e w' ⟨h, _⟩ => ⟨_, h⟩) ?_; rintro v3 w3 ⟨e3, rfl⟩; injection e3 with e3; subst e3)
      exact ⟨⟨u + 1, by omega, by go_num, by rw [HNX.out], by first | rfl | trivial⟩, by simp [intOf]; omega⟩
    · obtain rfl : u = m := by omega
      obtain rfl : R = _ := HR.out
      go_wp2_with fail
      go_ret
      exact ⟨rfl, rfl⟩
theorem bds_when_c (base g m : Nat) (s : Nat → List Hd) (k : Nat) (F : Nat → Prop) (w : World) (now : Int) (hh : Bd1 base g m s k F w) :
    Calls Try.prog 73 #[.pointer (some ⟨g, 0, none⟩), .int .i64 now] w (WhenOut (Bd1 base g m) w F k ((if (Pl.firstB s 0 m).isSome then some now else none), s)) := by
  obtain ⟨gi, c, G, ls, FF, h⟩ := hh
  refine (bds_when base g gi c m G ls FF s k F now w h).mono fun e w' ⟨e1, e2⟩ => ?_
  subst e2
  rw [fndTo_is]
  refine ⟨bstTo now s m, F, ?_, ?_, ⟨_, _, _, _, _, h⟩, Chg.refl _ _, fun i hi => .inl hi⟩
  · rw [e1]
    cases fndTo s m <;> rfl
  · intro x hx
    cases hf : fndTo s m with
    | true => rw [hf] at hx; rw [bstTo_t hf]; simpa using hx
    | false => rw [hf] at hx; simp at hx
theorem bds_len_c (base g m : Nat) (s : Nat → List Hd) (k : Nat) (F : Nat → Prop) (w : World) (hh : Bd1 base g m s k F w) :
    Calls Try.prog 70 #[.pointer (some ⟨g, 0, none⟩)] w fun e w' => e = .returned (.int .i64 ((Pl.waitB m s).length : Nat)) ∧ Below w.heap.size w w' := by
  obtain ⟨gi, c, G, ls, FF, h⟩ := hh
  rw [lnTo_is]
  exact (bds_len base g gi c m G ls FF s k F w h).mono fun e w' ⟨e1, e2⟩ => ⟨e1, by subst e2; exact Below.refl _ _⟩
theorem bds_bytes_c (base g m : Nat) (s : Nat → List Hd) (k : Nat) (F : Nat → Prop) (w : World) (hh : Bd1 base g m s k F w) :
    Calls Try.prog 69 #[.pointer (some ⟨g, 0, none⟩)] w fun e w' => e = .returned (.int .i64 (Pl.sumLen (Pl.waitB m s))) ∧ Below w.heap.size w w' := by
  obtain ⟨gi, c, G, ls, FF, h⟩ := hh
  rw [← totTo_b]
  exact (bds_bytes base g gi c m G ls FF s k F w h).mono fun e w' ⟨e1, e2⟩ => ⟨e1, by subst e2; exact Below.refl _ _⟩
theorem bds_put_meth (g : Nat) : Meth (.iface 66 (.pointer (some ⟨g, 0, none⟩))) "Put" 71 (.pointer (some ⟨g, 0, none⟩)) := by
  intro args w; kernel_rfl
theorem bds_take_meth (g : Nat) : Meth (.iface 66 (.pointer (some ⟨g, 0, none⟩))) "Take" 72 (.pointer (some ⟨g, 0, none⟩)) := by
  intro args w; kernel_rfl
theorem bds_when_meth (g : Nat) : Meth (.iface 66 (.pointer (some ⟨g, 0, none⟩))) "When" 73 (.pointer (some ⟨g, 0, none⟩)) := by
  intro args w; kernel_rfl
theorem bds_len_meth (g : Nat) : Meth (.iface 66 (.pointer (some ⟨g, 0, none⟩))) "Len" 70 (.pointer (some ⟨g, 0, none⟩)) := by
  intro args w; kernel_rfl
theorem bds_bytes_meth (g : Nat) : Meth (.iface 66 (.pointer (some ⟨g, 0, none⟩))) "Bytes" 69 (.pointer (some ⟨g, 0, none⟩)) := by
  intro args w; kernel_rfl
theorem bds_imp (base g m : Nat) : QImp (Pl.bandM m) (.iface 66 (.pointer (some ⟨g, 0, none⟩))) base (Bd1 base g m) where
  lt := fun s k F w ⟨_, _, _, _, _, h⟩ => h.lt
  base := fun s k F w ⟨_, _, _, _, _, h⟩ => h.bs
  chg := fun s k F w w' S ⟨_, _, _, _, _, h⟩ hc hn => ⟨_, _, _, _, _, h.chg hc hn⟩
  put := ⟨_, _, bds_put_meth g, fun s k F w now x h hk hx => bds_put_c base g m s k F w now x h hk hx⟩
  take := ⟨_, _, bds_take_meth g, fun s k F w now h h0 h1 => bds_take_c base g m s k F w now h⟩
  when_ := ⟨_, _, bds_when_meth g, fun s k F w now h h0 h1 => bds_when_c base g m s k F w now h⟩
  len := ⟨_, _, bds_len_meth g, fun s k F w h => bds_len_c base g m s k F w h⟩
  bytes := ⟨_, _, bds_bytes_meth g, fun s k F w h => bds_bytes_c base g m s k F w h⟩
end Go.Proofs.Ythhgbpbaihgogaa
