/-
  strings.SplitSeq at one byte: its closure cuts.
-/
import Derived.Test.YtdipehgijjkfdaaDoorRgLaw
import Derived.Test.YtdipehgijjkfdaaDoorItShelf
import Derived.Test.YtdipehgijjkfdaaDoorBookLaw
import Derived.Test.YtdipehgijjkfdaaDoorMem
namespace Go.Proofs.YtdipehgijjkfdaaDoor
open Go.RowKit
set_option linter.unusedVariables false
attribute [local go_sem] Oper.semAt_some
def glue (c : UInt8) : List (List UInt8) → List UInt8
  | [] => []
  | [a] => a
  | a :: b :: r => a ++ c :: glue c (b :: r)
theorem glue_two (c : UInt8) (a : List UInt8) {r : List (List UInt8)} (h : r ≠ []) : glue c (a :: r) = a ++ c :: glue c r := by
  cases r with
  | nil => exact absurd rfl h
  | cons b r => rfl
theorem sq_len (l : List UInt8) : (⟨l.toArray⟩ : ByteArray).size = l.length := by show l.toArray.size = _; simp
theorem sq_ext (l : List UInt8) (i k : Nat) : (⟨l.toArray⟩ : ByteArray).extract i k = ⟨((l.drop i).take (k - i)).toArray⟩ := by
  apply ByteArray.ext
  simp
/-- the closure's own cells: the separator, the rest, what is kept of a separator -/
structure SqT (c : UInt8) (bp bs bv : Nat) (rest : List UInt8) (w : World) : Prop where
  p : Blk w bp 9 #[.string ⟨#[c]⟩]
  s : Blk w bs 9 #[.string ⟨rest.toArray⟩]
  v : Blk w bv 3 #[.int .i64 0]
theorem SqT.same {c : UInt8} {bp bs bv : Nat} {rest : List UInt8} {w w' : World} (h : SqT c bp bs bv rest w) (hs : SameAt (fun i => i = bp ∨ i = bs ∨ i = bv) w w') : SqT c bp bs bv rest w' :=
  ⟨(hs bp (.inl rfl)).trans h.p, (hs bs (.inr (.inl rfl))).trans h.s, (hs bv (.inr (.inr rfl))).trans h.v⟩
def boxLen (b : Nat) (w : World) : Nat := match w.cell? ⟨b, 0, none⟩ with
  | some (.string s) => s.size
  | _ => 0
theorem drop_cons_ne {ws : List (List UInt8)} {k : Nat} (h : k < ws.length) : ws.drop k = ws.getD k [] :: ws.drop (k + 1) := by
  rw [List.drop_eq_getElem_cons h]
  simp [List.getD, List.getElem?_eq_getElem h]
theorem glue_tail_le (c : UInt8) (ws : List (List UInt8)) : (glue c (ws.drop 1)).length ≤ (glue c ws).length := by
  cases ws with
  | nil => exact Nat.le_refl _
  | cons a r =>
    cases r with
    | nil => simp [glue]
    | cons b r => simp [glue]; omega
theorem glue_drop_le (c : UInt8) (ws : List (List UInt8)) : ∀ k, (glue c (ws.drop k)).length ≤ (glue c ws).length
  | 0 => Nat.le_refl _
  | k + 1 => by
    have h1 := glue_drop_le c ws k
    have h2 := glue_tail_le c (ws.drop k)
    rw [List.drop_drop] at h2
    exact Nat.le_trans h2 h1
set_option maxHeartbeats 4000000 in
set_option maxRecDepth 100000 in
theorem sq_cuts (c : UInt8) (ws : List (List UInt8)) (hws : ws ≠ []) (hno : ∀ s ∈ ws, c ∉ s) (hlen : (glue c ws).length ≤ 1000000) (bp bs bv : Nat) (h1 : bp ≠ bs) (h2 : bs ≠ bv) (h3 : bp ≠ bv) :
    Cuts Tryd.prog 36 #[.pointer (some ⟨bp, 0, none⟩), .pointer (some ⟨bs, 0, none⟩), .pointer (some ⟨bv, 0, none⟩)] ws.length (fun k => #[.string ⟨(ws.getD k []).toArray⟩]) (fun i => i = bp ∨ i = bs ∨ i = bv) (fun k w => SqT c bp bs bv (glue c (ws.drop k)) w) := by
  intro l J W hJ hY h0 hT0
  have hfn : ∀ f, Fence.wide.fn f := fun _ => trivial
  have hdp : Fence.wide.depth = none := rfl
  have hwl : 0 < ws.length := List.length_pos_iff.2 hws
  have HJ := Lib.hid hJ; have HY := Lib.hid hY
  have q1 := hT0.p.cell 0
  simp at q1
  have HT0 := Lib.hid hT0
  have hH0 := Lib.hid h0
  clear hJ hY h0 hT0
  refine callsIn_of_wp Tryd.func36 rfl trivial ?_ rfl
  simp only [Tryd.ntmps36, List.size_toArray, List.length_cons, List.length_nil, Nat.reduceAdd, Nat.reduceSub, Array.replicate_succ, Array.replicate_zero, List.push_toArray, List.append_toArray, List.nil_append, List.cons_append]
  gi_wp2
  gi_loopw [7] (fun y wr => ∃ k, k < ws.length ∧ Hid (J k wr ∧ SqT c bp bs bv (glue c (ws.drop k)) wr)) (fun _ wr => boxLen bs wr)
  case atStart => exact ⟨0, hwl, Lib.hid ⟨hH0.out, HT0.out⟩⟩
  case round =>
    obtain ⟨k, hk, hx⟩ := hrel
    obtain ⟨hJk, hT⟩ := hx.out
    have hdr := drop_cons_ne hk
    have hnk : c ∉ ws.getD k [] := hno _ (by rw [List.getD, List.getElem?_eq_getElem hk]; exact List.getElem_mem hk)
    obtain ⟨fn, tmps, assign, body, hy, hR⟩ := HY.out k wr hk hJk hT
    obtain ⟨rest, hrest⟩ : ∃ rest, glue c (ws.drop k) = rest := ⟨_, rfl⟩
    have hrl : rest.length ≤ 1000000 := by rw [← hrest]; exact Nat.le_trans (glue_drop_le c ws k) hlen
    have hix := fun W => Tryd.strings_Index_one ⟨rest.toArray⟩ c W
    rw [hrest] at hT
    have p0 := hT.p.cell 0; have s0 := hT.s.cell 0; have v0 := hT.v.cell 0; have f0 := hT.s.frozen 0
    simp at p0 s0 v0
    have hsz := sq_len rest
    by_cases hl : k + 1 < ws.length
    · have hdn : ws.drop (k + 1) ≠ [] := by intro e; have := congrArg List.length e; simp at this; omega
      have hg : rest = ws.getD k [] ++ c :: glue c (ws.drop (k + 1)) := by rw [← hrest, hdr, glue_two c _ hdn]
      have hi : Lib.indexByte rest c = (ws.getD k []).length := by rw [hg]; exact Bo.index_at hnk _
      have e1 : (⟨rest.toArray⟩ : ByteArray).extract 0 (ws.getD k []).length = ⟨(ws.getD k []).toArray⟩ := by
        rw [sq_ext, hg]; simp
      have e2 : (⟨rest.toArray⟩ : ByteArray).extract ((ws.getD k []).length + 1) rest.length = ⟨(glue c (ws.drop (k + 1))).toArray⟩ := by
        rw [sq_ext]
        congr 2
        have : (rest.drop ((ws.getD k []).length + 1)) = glue c (ws.drop (k + 1)) := by rw [hg]; simp
        rw [this, List.take_of_length_le]
        rw [← this, List.length_drop]
        exact Nat.le_refl _
      have hll : (ws.getD k []).length < rest.length := by rw [hg]; simp
      have HI : Hid (∀ W, Calls Tryd.prog 38 #[.string ⟨rest.toArray⟩, .string ⟨#[c]⟩] W fun e w' => e = .returned (.int .i64 (ws.getD k []).length) ∧ w' = W) := Lib.hid fun W => by
        have := hix W
        rw [show (⟨rest.toArray⟩ : ByteArray).data.toList = rest by simp, hi] at this
        exact this
      have HR := Lib.hid hR; have HT := Lib.hid hT; have HG := Lib.hid hg; have HJK := Lib.hid hJk
      clear hR hT hg hi hix hJk hx hno hrest hdr hdn hnk
      generalize ws.getD k [] = a at *
      gi_wp2_with (gi_at_call 38; refine (callsIn_wide.2 (HI.out _)).mono ?_; rintro e w' ⟨rfl, rfl⟩)
      refine HR.out.mono ?_
      rintro e W' ⟨rfl, hJ', hsame⟩
      have hT' := HT.out.same hsame
      have p1 := hT'.p.cell 0; have s1 := hT'.s.cell 0; have v1 := hT'.v.cell 0; have f1 := hT'.s.frozen 0
      simp at p1 s1 v1
      have hTn : SqT c bp bs bv (glue c (ws.drop (k + 1))) (W'.setCell ⟨bs, 0, none⟩ (.string ⟨(glue c (ws.drop (k + 1))).toArray⟩)) :=
        ⟨hT'.p.far (p := ⟨bs, 0, none⟩) h1 _, hT'.s.set_ 0 _, hT'.v.far (p := ⟨bs, 0, none⟩) (Ne.symm h2) _⟩
      have hJn := HJ.out (k + 1) W' (W'.setCell ⟨bs, 0, none⟩ (.string ⟨(glue c (ws.drop (k + 1))).toArray⟩)) hJ' (Chg.setCell (p := ⟨bs, 0, none⟩) (Chg.refl _ _) (fun _ => .inr (.inl rfl)) _)
      have hm1 : boxLen bs (W'.setCell ⟨bs, 0, none⟩ (.string ⟨(glue c (ws.drop (k + 1))).toArray⟩)) = (glue c (ws.drop (k + 1))).length := by
        have := hTn.s.cell 0
        simp only [List.getElem?_toArray, List.getElem?_cons_zero] at this
        unfold boxLen
        rw [this]
        exact sq_len _
      have hm0 : boxLen bs w' = rest.length := by
        unfold boxLen
        rw [s0]
        exact hsz
      have hgl : (glue c (ws.drop (k + 1))).length < rest.length := by rw [HG.out]; simp; omega
      have HTN := Lib.hid hTn; have HJN := Lib.hid hJn; have HM1 := Lib.hid hm1; have HM0 := Lib.hid hm0; have HGL := Lib.hid hgl
      clear hTn hJn hm1 hm0 hgl hJ' hsame hT' HG HR HT p0 s0 v0 f0
      gi_wp2
      go_roundw
      case rel => exact ⟨k + 1, hl, Lib.hid ⟨HJN.out, HTN.out⟩⟩
      case measure =>
        have := HM1.out; have := HM0.out; have := HGL.out
        omega
    · have hke : ws.drop (k + 1) = [] := List.drop_eq_nil_of_le (by omega)
      have hg : rest = ws.getD k [] := by rw [← hrest, hdr, hke]; rfl
      have hi : Lib.indexByte rest c = -1 := by rw [hg]; exact Bo.index_no hnk
      have HI : Hid (∀ W, Calls Tryd.prog 38 #[.string ⟨rest.toArray⟩, .string ⟨#[c]⟩] W fun e w' => e = .returned (.int .i64 (-1)) ∧ w' = W) := Lib.hid fun W => by
        have := hix W
        rw [show (⟨rest.toArray⟩ : ByteArray).data.toList = rest by simp, hi] at this
        exact this
      have hkw : k + 1 = ws.length := by omega
      rw [← hg] at hy
      have HR := Lib.hid hR; have HKW := Lib.hid hkw
      clear hR hT hi hix hJk hx hno hrest hdr hnk hg hkw hl
      gi_wp2_with (gi_at_call 38; refine (callsIn_wide.2 (HI.out _)).mono ?_; rintro e w' ⟨rfl, rfl⟩)
      refine HR.out.mono ?_
      rintro e W' ⟨rfl, hJ', hsame⟩
      rw [HKW.out] at hJ'
      have HJ2 := Lib.hid hJ'
      clear hJ'
      gi_wp2
      go_end0
      exact ⟨⟨_, rfl⟩, HJ2.out⟩
end Go.Proofs.YtdipehgijjkfdaaDoor
