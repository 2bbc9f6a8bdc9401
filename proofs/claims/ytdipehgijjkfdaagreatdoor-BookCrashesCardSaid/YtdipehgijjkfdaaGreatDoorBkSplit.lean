/-
  The book's reading: IndexByte and Split at lists of bytes, a row's cells.
-/
import Derived.Test.YtdipehgijjkfdaaGreatDoorBkCrash
import Derived.Laws.IdiomStrings
namespace Go.Proofs.YtdipehgijjkfdaaGreatDoor
open Go.RowKit Go.Maps Go.Shelf
set_option linter.unusedVariables false
def numsL (l : List UInt8) : List Int := l.map fun b => (b.toNat : Int)
theorem bytesOf_numsL (l : List UInt8) : Lib.bytesOf (numsL l) = l := by
  unfold Lib.bytesOf numsL
  rw [List.map_map]
  conv => rhs; rw [← List.map_id l]
  refine List.map_congr_left fun b _ => ?_
  simp
theorem index_any (b o n c : Nat) (l : List UInt8) (w : World) (hl : l.length = n) (hc : ∀ i (h : i < l.length), w.cell? ⟨b, o + i, none⟩ = some (.int .u8 l[i].toNat)) :
    Calls Tryz.prog 15 #[.slice (some ⟨b, o, none⟩) n c, .int .u8 10] w fun e w' => e = .returned (.int .i64 (Lib.indexByte l 10)) ∧ w' = w := by
  refine (Tryz.bytes_IndexByte_at ⟨b, o, none⟩ n c (numsL l) 10 w (by simpa [numsL] using hl) (fun i hi => ?_)).mono fun e w' ⟨h1, h2⟩ => ⟨?_, h2⟩
  · have hi' : i < l.length := by omega
    have := hc i hi'
    have e1 : (⟨b, o, none⟩ : Addr).add i = ⟨b, o + i, none⟩ := by unfold Addr.add; split <;> simp_all
    rw [e1, this]
    simp [numsL, List.getD, List.getElem?_eq_getElem hi']
  · rw [h1, bytesOf_numsL]; rfl
theorem split_any (l : List UInt8) (w : World) (hl : l.length ≤ 1000000) (hv : Pv w) :
    Calls Tryz.prog 16 #[.string ⟨l.toArray⟩, .string ⟨#[32]⟩] w fun e w' => e = .returned (.slice (some ⟨w.heap.size, 0, none⟩) (Lib.split l [32]).length (Lib.split l [32]).length) ∧ w' = w.alloc (.cells ((Lib.split l [32]).map fun s => Value.string ⟨s.toArray⟩).toArray 9) := by
  obtain ⟨m, hm⟩ := hv.mx
  refine (Tryz.strings_Split ⟨l.toArray⟩ ⟨#[32]⟩ m w (by show l.toArray.size < _; simp; omega) hm (by decide)).mono fun e w' ⟨h1, h2⟩ => ?_
  have h3 := Lib.splitB_data ⟨#[32]⟩ 0 (Lib.countB ⟨l.toArray⟩ ⟨#[32]⟩) ⟨l.toArray⟩
  have h4 : Lib.splitK ([32] : List UInt8) 0 (Lib.countB ⟨l.toArray⟩ ⟨#[32]⟩) l = Lib.split l [32] := rfl
  have h5 : (Lib.splitB ⟨#[32]⟩ 0 (Lib.countB ⟨l.toArray⟩ ⟨#[32]⟩) ⟨l.toArray⟩).map Value.string = (Lib.split l [32]).map fun s => Value.string ⟨s.toArray⟩ := by
    rw [← h4, ← show _ = Lib.splitK ([32] : List UInt8) 0 (Lib.countB ⟨l.toArray⟩ ⟨#[32]⟩) l from h3, List.map_map]
    exact List.map_congr_left fun s _ => rfl
  have h6 : Lib.countB ⟨l.toArray⟩ ⟨#[32]⟩ + 1 = (Lib.split l [32]).length := by
    have := Lib.splitB_all ⟨#[32]⟩ (by decide) 0 _ ⟨l.toArray⟩ rfl
    rw [← this, ← List.length_map (f := fun s : ByteArray => s.data.toList)]
    rw [show _ = Lib.splitK ([32] : List UInt8) 0 (Lib.countB ⟨l.toArray⟩ ⟨#[32]⟩) l from h3]
    rfl
  rw [h6] at h1
  rw [h5] at h2
  exact ⟨h1, h2⟩
theorem conv_any (b o k c : Nat) (l : List UInt8) (w : World) (hl : l.length = k) (hc : ∀ i (h : i < l.length), w.cell? ⟨b, o + i, none⟩ = some (.int .u8 l[i].toNat)) :
    (convert 28 9 (.slice (some ⟨b, o, none⟩) k c)).run Tryz.prog w = .ok (.string ⟨l.toArray⟩) w := by
  subst hl
  refine run_convert_bytes_back w _ _ 5 ⟨b, o, none⟩ c l Tryz.underlying28 Tryz.underlying5 Tryz.underlying9 (fun j hj => ?_)
  have e1 : (⟨b, o, none⟩ : Addr).add j = ⟨b, o + j, none⟩ := by unfold Addr.add; split <;> simp_all
  rw [e1]
  exact hc j hj
end Go.Proofs.YtdipehgijjkfdaaGreatDoor
