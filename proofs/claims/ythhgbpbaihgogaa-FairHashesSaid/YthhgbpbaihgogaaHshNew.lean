/-
  Flows that are put together by a hash: their making; their bytes.
-/
import Derived.Test.YthhgbpbaihgogaaHshTake
namespace Go.Proofs.Ythhgbpbaihgogaa
open Go.RowKit Bkt
set_option linter.unusedVariables false

theorem Try.listInfo : (Try.prog.info? 59).map (fun i => (i.zero, i.size, i.bytes)) = some (some (.agg #[.slice none 0 0, .int .i64 0]), 2, 32) := by kernel_rfl
theorem made_l (m : Nat) (hm : m ≤ 1000) : ∀ wz, (Instr.makeSlice 105 (.int .i64 (m : Int)) (.int .i64 (m : Int))).run Try.prog wz = .ok (.slice (some ⟨wz.heap.size, 0, none⟩) m m) (wz.alloc (.cells (madeCells #[.slice none 0 0, .int .i64 0] (m * 2)) 59)) := fun wz => by
  obtain ⟨i0, hi, hz0, hz1, hz2⟩ := info_parts Try.listInfo
  have := run_make (P := Try.prog) wz 105 59 i0 (.agg #[.slice none 0 0, .int .i64 0]) Try.underlying105 hi hz0 .i64 .i64 m m (by omega) (Int.le_refl _) (by rw [hz2]; omega) (by omega)
  rw [this, hz1]
  simp [Value.cells]
theorem made_l0 (m f : Nat) (hf : f < m) : (madeCells #[.slice none 0 0, .int .i64 0] (m * 2))[f * 2]? = some (.slice none 0 0) ∧ (madeCells #[.slice none 0 0, .int .i64 0] (m * 2))[f * 2 + 1]? = some (.int .i64 0) := by
  have h1 : f * 2 < m * 2 := by omega
  have h2 : f * 2 + 1 < m * 2 := by omega
  constructor
  · simp [madeCells, h1]
  · simp [madeCells, h2]
/-- what the making hands out -/
def NewHshOut (w : World) (P : Pl.HP) (e : Ending) (w' : World) : Prop :=
  ∃ g gl cs ls, e = .returned (.tuple #[.pointer (some ⟨g, 0, none⟩), .nilIface]) ∧ w.heap.size ≤ g ∧ w.heap.size ≤ gl ∧ Below w.heap.size w w' ∧ Hsh w' w.heap.size g gl cs ls (fun _ => .slice none 0 0) (.slice none 0 0) P Pl.hs0 0
theorem Hsh.start (w : World) (P : Pl.HP) : Hsh ((w.alloc (.cells (madeCells #[.slice none 0 0, .int .i64 0] (P.m * 2)) 59)).alloc (.cells #[.slice (some ⟨w.heap.size, 0, none⟩) P.m P.m, .int .i64 P.salt, .int .i64 P.room, .slice none 0 0, .int .i64 0] 107)) w.heap.size (w.heap.size + 1) w.heap.size
    #[.slice (some ⟨w.heap.size, 0, none⟩) P.m P.m, .int .i64 P.salt, .int .i64 P.room, .slice none 0 0, .int .i64 0] (madeCells #[.slice none 0 0, .int .i64 0] (P.m * 2)) (fun _ => .slice none 0 0) (.slice none 0 0) P Pl.hs0 0 := by
  have hk := Blk.new (w.alloc (.cells (madeCells #[.slice none 0 0, .int .i64 0] (P.m * 2)) 59)) 107 #[.slice (some ⟨w.heap.size, 0, none⟩) P.m P.m, .int .i64 P.salt, .int .i64 P.room, .slice none 0 0, .int .i64 0]
  rw [show (w.alloc (.cells (madeCells #[.slice none 0 0, .int .i64 0] (P.m * 2)) 59)).heap.size = w.heap.size + 1 by simp] at hk
  exact ⟨hk, rfl, rfl, rfl, rfl, rfl, rfl, (Blk.new _ _ _).alloc _, size_madeCells _ _, fun f hf => (made_l0 P.m f hf).1, fun f hf => (made_l0 P.m f hf).2, fun f hf => OwnW.nil _ _ _ _, fun i j _ _ _ k hk => by simp [Value.ownBlock] at hk, OwnW.nil _ _ _ _⟩
set_option maxHeartbeats 1000000 in
set_option maxRecDepth 100000 in
theorem newHashed_yes (P : Pl.HP) (w : World) (hP : Pl.HPOk P) : Calls Try.prog 28 #[.int .i64 (P.m : Int), .int .i64 P.salt, .int .i64 P.room] w (NewHshOut w P) := by
  obtain ⟨h1, h2⟩ := hP.m
  obtain ⟨h3, h4⟩ := hP.salt
  obtain ⟨h5, h6⟩ := hP.room
  have hst := Hsh.start w P
  have hmd := made_l P.m (by omega)
  have HST := Lib.hid hst
  clear hst hP
  obtain ⟨m, salt, room⟩ := P
  dsimp only at h1 h2 h3 h4 h5 h6 hmd HST ⊢
  go_enter Try.func28, Try.ntmps28
  go_wp2_with fail
  go_ret2
  exact ⟨w.heap.size + 1, w.heap.size, _, _, rfl, by omega, Nat.le_refl _, ((Below.refl _ _).alloc (Nat.le_refl _) _).alloc (by simp) _, HST.out⟩

/-- the bytes of so many lists -/
def totTo (L : Nat → List Hd) : Nat → Int
  | 0 => 0
  | i + 1 => totTo L i + Pl.tot (L i)
theorem totTo_wait (s : Pl.HS) : ∀ m, totTo s.L m = Pl.sumLen (Pl.waitH m s)
  | 0 => rfl
  | m + 1 => by
    rw [totTo, totTo_wait s m]
    unfold Pl.waitH
    rw [List.range_succ, List.flatMap_append, Pl.sumLen_append]
    simp [Pl.tot]
theorem totTo_bd {P : Pl.HP} {s : Pl.HS} (hl : ∀ f, f < P.m → HdsOk (s.L f)) : ∀ i, i ≤ P.m → 0 ≤ totTo s.L i ∧ totTo s.L i ≤ 10000000 * i
  | 0, _ => by simp [totTo]
  | i + 1, h => by
    have h1 := totTo_bd hl i (by omega)
    have h2 := (hl i (by omega)).tot
    rw [totTo]
    omega
set_option maxHeartbeats 1000000 in
theorem hshBytes_any (base g gl : Nat) (cs ls : Array Value) (V : Nat → Value) (tv : Value) (P : Pl.HP) (s : Pl.HS) (n : Int) (w : World) (h : Hsh w base g gl cs ls V tv P s n) (hP : Pl.HPOk P) (hl : ∀ f, f < P.m → HdsOk (s.L f)) :
    Calls Try.prog 77 #[.pointer (some ⟨g, 0, none⟩)] w fun e w' => e = .returned (.int .i64 (Pl.sumLen (Pl.waitH P.m s))) ∧ w' = w := by
  have hm64 := hP.m.2
  have y0 := h.cell h.c0
  have hc := fun f (hf : f < P.m) => h.lcell (h.l1 f hf)
  have hbd := fun i hi => totTo_bd hl i hi
  have hnx : ∀ i, totTo s.L (i + 1) = totTo s.L i + Pl.tot (s.L i) := fun i => rfl
  rw [← totTo_wait]
  have HC := Lib.hid hc; have HBD := Lib.hid hbd; have HNX := Lib.hid hnx
  have h0 : Hid (totTo s.L 0 = 0) := Lib.hid rfl
  clear h hc hbd hnx hl hP
  go_enter Try.func77, Try.ntmps77
  go_wp2_with fail
  go_loopw [3, 10] (fun sv i wr => ∃ u : Nat, u ≤ P.m ∧ i = .int .i64 u ∧ sv = .int .i64 (totTo s.L u) ∧ wr = w) (fun _ i _ => P.m - (intOf i).toNat)
  case atStart => exact ⟨0, Nat.zero_le _, rfl, by rw [h0.out], rfl⟩
  case round =>
    obtain ⟨u, hu, rfl, rfl, rfl⟩ := hrel
    by_cases hlt : u < P.m
    · have iu : (u : Int) < (P.m : Int) := by omega
      have yc := HC.out u hlt
      have hb := bytes_q gl (u * 2) _ wr yc
      have hb1 := HBD.out u (by omega)
      have hb2 := HBD.out (u + 1) (by omega)
      have hn := HNX.out u
      rw [hn] at hb2
      have HB := Lib.hid hb; have HN := Lib.hid hn
      clear hb yc hn
      generalize Pl.tot (s.L u) = t at *
      generalize hy : totTo s.L u = y at *
      have HY := Lib.hid hy
      clear hy
      have e1 : IntKind.i64.wrap (y + t) = y + t := IntWalk.i64_in _ (by omega)
      go_wp2_with (go_at_call 22; (with_reducible refine HB.out.mono ?_); rintro e w' ⟨rfl, rfl⟩)
      exact ⟨⟨u + 1, by omega, by go_num, by rw [HN.out], by first | rfl | trivial⟩, by simp [intOf]; omega⟩
    · obtain rfl : u = P.m := by omega
      go_wp2_with fail
      go_ret
      exact ⟨rfl, rfl⟩
end Go.Proofs.Ythhgbpbaihgogaa
