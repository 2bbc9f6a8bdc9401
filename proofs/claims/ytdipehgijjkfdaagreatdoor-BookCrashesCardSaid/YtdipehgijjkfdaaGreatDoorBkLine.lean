/-
  A line of the journal.
-/
import Derived.Test.YtdipehgijjkfdaaGreatDoorBkNum
namespace Go.Proofs.YtdipehgijjkfdaaGreatDoor
open Go.RowKit
set_option linter.unusedVariables false
def bS (l : List UInt8) : Value := .string ⟨l.toArray⟩
theorem app_is (a b : List UInt8) : (⟨a.toArray⟩ : ByteArray) ++ ⟨b.toArray⟩ = ⟨(a ++ b).toArray⟩ := by
  apply ByteArray.ext
  simp
theorem cat_run (a b c : List UInt8) (hc : a ++ b = c) (h : c.length ≤ 9223372036854775807) : ∀ w, (Op.stringOp .add ⟨a.toArray⟩ ⟨b.toArray⟩).run Tryz.prog w = .ok (.string ⟨c.toArray⟩) w := by
  intro w
  subst hc
  rw [run_string_add_sum w _ _ (by rw [List.length_append] at h; show a.toArray.size + b.toArray.size ≤ _; simp; omega), app_is]
theorem hash_take {l : List UInt8} {k : Nat} (h : k < l.length) : Bo.hash 11 (l.take (k + 1)) = (37 * Bo.hash 11 (l.take k) + l[k].toNat) % 9901 := by
  rw [List.take_succ_eq_append_getElem h, Bo.hash_app]; rfl
theorem nDigits_le (u : Nat) (h : u < 10 ^ 20) : Lib.nDigits u ≤ 20 := by
  rcases Nat.lt_or_ge (Lib.nDigits u) 21 with h1 | h1
  · omega
  · exfalso
    have : ∀ d v, Lib.nDigits v = d + 1 → 10 ^ d ≤ v ∨ v = 0 := by
      intro d
      induction d with
      | zero => intro v _; omega
      | succ d ih =>
        intro v hv
        by_cases h10 : v < 10
        · rw [Lib.nDigits_small h10] at hv; omega
        · rw [Lib.nDigits_big h10] at hv
          rcases ih (v / 10) (by omega) with h2 | h2
          · left; rw [Nat.pow_succ]; omega
          · omega
    have h0 : u ≠ 0 := fun e => by rw [e, Lib.nDigits_small (by decide)] at h1; omega
    obtain ⟨d, hd⟩ : ∃ d, Lib.nDigits u = d + 1 := ⟨Lib.nDigits u - 1, by omega⟩
    rcases this d u hd with h2 | h2
    · have h3 : 10 ^ 20 ≤ 10 ^ d := Nat.pow_le_pow_right (by decide) (by omega)
      omega
    · exact h0 h2
theorem itoa_long {n : Int} (h0 : -9223372036854775808 ≤ n) (h1 : n ≤ 9223372036854775807) : (Lib.itoa n).length ≤ 21 := by
  unfold Lib.itoa
  split
  · rw [List.length_cons, Lib.decDigits_length]
    have := nDigits_le n.natAbs (by omega)
    omega
  · rw [Lib.decDigits_length]
    have := nDigits_le n.toNat (by omega)
    omega
set_option maxHeartbeats 2000000 in
set_option maxRecDepth 100000 in
theorem line_any (k : Nat) (nm : List UInt8) (n : Int) (w : World) (hv : Pv w) (hk : k ≤ 100000) (hn0 : -9223372036854775808 ≤ n) (hn1 : n ≤ 9223372036854775807) (hl : nm.length ≤ 281474976710656) :
    Calls Tryz.prog 18 #[.int .i64 k, .string ⟨nm.toArray⟩, .int .i64 n] w fun e w' => Below w.heap.size w w' ∧ e = .returned (.string ⟨(Bo.lineF k ⟨nm, n⟩).toArray⟩) := by
  have h1 := itoa_any (k : Int) (by omega) (by omega) w hv
  have h2 := fun w' (hb : Below w.heap.size w w') => itoa_any n hn0 hn1 w' (hv.below hb hv.sz)
  have h3 := fun w' (hb : Below w.heap.size w w') => itoa_any (Bo.hash 11 (Bo.bodyF k ⟨nm, n⟩) : Nat) (by omega) (by have := Bo.hash_lt (Bo.bodyF k ⟨nm, n⟩) 11 (by decide); omega) w' (hv.below hb hv.sz)
  have l1 : (Lib.itoa (k : Int)).length ≤ 7 := Bo.itoa_len (by omega)
  have l2 := itoa_long hn0 hn1
  have l3 : (Lib.itoa (Bo.hash 11 (Bo.bodyF k ⟨nm, n⟩) : Nat)).length ≤ 7 := Bo.itoa_len (by have := Bo.hash_lt (Bo.bodyF k ⟨nm, n⟩) 11 (by decide); omega)
  have hbody : Bo.bodyF k ⟨nm, n⟩ = Lib.itoa (k : Int) ++ 32 :: (nm ++ 32 :: Lib.itoa n) := rfl
  have hline : Bo.lineF k ⟨nm, n⟩ = Bo.bodyF k ⟨nm, n⟩ ++ 32 :: (Lib.itoa (Bo.hash 11 (Bo.bodyF k ⟨nm, n⟩) : Nat) ++ [10]) := rfl
  generalize Bo.lineF k ⟨nm, n⟩ = L at *
  generalize Bo.bodyF k ⟨nm, n⟩ = b at *
  have hlt := Bo.hash_lt b 11 (by decide)
  generalize hc : Bo.hash 11 b = c at *
  generalize Lib.itoa (k : Int) = a1 at *
  generalize Lib.itoa n = a2 at *
  generalize Lib.itoa (c : Int) = a3 at *
  obtain ⟨p1, hp1⟩ : ∃ p, a1 ++ [32] = p := ⟨_, rfl⟩
  obtain ⟨p2, hp2⟩ : ∃ p, p1 ++ nm = p := ⟨_, rfl⟩
  obtain ⟨p3, hp3⟩ : ∃ p, p2 ++ [32] = p := ⟨_, rfl⟩
  have hp4 : p3 ++ a2 = b := by rw [hbody, ← hp3, ← hp2, ← hp1]; simp
  obtain ⟨q1, hq1⟩ : ∃ p, b ++ [32] = p := ⟨_, rfl⟩
  obtain ⟨q2, hq2⟩ : ∃ p, q1 ++ a3 = p := ⟨_, rfl⟩
  have hq3 : q2 ++ [10] = L := by rw [hline, ← hq2, ← hq1]; simp
  have z1 : p1.length = a1.length + 1 := by rw [← hp1]; simp
  have z2 : p2.length = p1.length + nm.length := by rw [← hp2]; simp
  have z3 : p3.length = p2.length + 1 := by rw [← hp3]; simp
  have z4 : b.length = p3.length + a2.length := by rw [← hp4]; simp
  have z5 : q1.length = b.length + 1 := by rw [← hq1]; simp
  have z6 : q2.length = q1.length + a3.length := by rw [← hq2]; simp
  have z7 : L.length = q2.length + 1 := by rw [← hq3]; simp
  have c1 := cat_run a1 [32] p1 hp1 (by omega)
  have c2 := cat_run p1 nm p2 hp2 (by omega)
  have c3 := cat_run p2 [32] p3 hp3 (by omega)
  have c4 := cat_run p3 a2 b hp4 (by omega)
  have c5 := cat_run b [32] q1 hq1 (by omega)
  have c6 := cat_run q1 a3 q2 hq2 (by omega)
  have c7 := cat_run q2 [10] L hq3 (by omega)
  have hbl : b.length ≤ 300000000000000 := by omega
  have H1 := Lib.hid h1; have H2 := Lib.hid h2; have H3 := Lib.hid h3; have HC := Lib.hid hc; have HBL := Lib.hid hbl; have HLT := Lib.hid hlt
  clear h1 h2 h3 hv hp1 hp2 hp3 hp4 hq1 hq2 hq3 z1 z2 z3 z4 z5 z6 z7 l1 l2 l3 hbody hline hc hbl hlt
  go_enter Tryz.func18, Tryz.ntmps18
  go_wp2_with fail
  (with_reducible refine H1.out.mono ?_)
  rintro e w1 ⟨hb1, rfl⟩
  have h2 := H2.out w1 hb1
  have H2' := Lib.hid h2; have HB1 := Lib.hid hb1
  clear h2 hb1
  go_wp2_with fail
  (with_reducible refine H2'.out.mono ?_)
  rintro e w2 ⟨hb2, rfl⟩
  have hb3 := bl_next HB1.out hb2
  have HB3 := Lib.hid hb3
  clear hb3 hb2 HB1 H2 H2' H1
  go_wp2_with fail
  go_loopw [8, 21] (fun cv i wr => ∃ (j : Nat), j ≤ b.length ∧ i = .int .i64 j ∧ cv = .int .i64 (Bo.hash 11 (b.take j) : Nat) ∧ wr = w2) (fun _ i _ => b.length - (intOf i).toNat)
  case atStart => exact ⟨0, Nat.zero_le _, rfl, by rw [List.take_zero]; rfl, rfl⟩
  case round =>
    obtain ⟨j, hj, rfl, rfl, rfl⟩ := hrel
    by_cases hlt : j < b.length
    · have ij : (j : Int) < (b.length : Int) := by omega
      have hbl := HBL.out
      have hh := Bo.hash_lt (b.take j) 11 (by decide)
      have hs := hash_take hlt
      have hb8 := b[j].toNat_lt
      have HS := Lib.hid hs
      clear hs
      generalize Bo.hash 11 (b.take j) = c0 at *
      go_wp2_with fail
      refine ⟨⟨j + 1, by omega, by go_num, ?_, trivial⟩, by simp [intOf]; omega⟩
      rw [HS.out]
      refine congrArg (Value.int .i64) ?_
      show (wrap64 (37 * (c0 : Int) + wrap64 ((b[j]).toNat : Int))).tmod 9901 = _
      generalize (b[j]).toNat = y at *
      rw [IntWalk.wrap64_in (y : Int) (by omega), IntWalk.wrap64_in _ (by omega), Int.tmod_eq_emod_of_nonneg (by omega)]
      omega
    · obtain rfl : j = b.length := by omega
      have hc := HC.out
      have h3 := H3.out _ HB3.out
      have hlt := HLT.out
      have H3' := Lib.hid h3
      rw [List.take_length, hc]
      clear h3 H3 hc HC
      go_wp2_with fail
      (with_reducible refine H3'.out.mono ?_)
      rintro e w3 ⟨hb4, rfl⟩
      have hb5 := bl_next HB3.out hb4
      have HB5 := Lib.hid hb5
      clear hb5 hb4
      go_wp2_with fail
      go_ret
      exact ⟨HB5.out, rfl⟩
end Go.Proofs.YtdipehgijjkfdaaGreatDoor
