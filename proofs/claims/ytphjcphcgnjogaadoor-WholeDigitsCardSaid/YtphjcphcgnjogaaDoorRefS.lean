/-
  The reference's numbers: Shl, Shr.
-/
import Derived.Test.YtphjcphcgnjogaaDoorRefP
import Derived.Laws.MakeOwn
namespace Go.Proofs.YtphjcphcgnjogaaDoor
open Go.RowKit

/-- make([]T, l, c), of limbs. -/
theorem make_cap (T : TypeId) (hT : Tryd.prog.underlying T = some (.slice 64)) (w : World) (l c : Nat) (hl : l ≤ c) (hn : (c : Int) ≤ 16000000) : ∃ w', (Instr.makeSlice T (.int .i64 (l : Int)) (.int .i64 (c : Int))).run Tryd.prog w = .ok (.slice (some ⟨w.heap.size, 0, none⟩) l c) w' ∧
    LimbsAt w' (.slice (some ⟨w.heap.size, 0, none⟩) l c) (List.replicate l 0) ∧ Only [] w w' := by
  obtain ⟨i0, hi, hz0, hz1, hz2⟩ := u64_parts
  have hrun := run_make (P := Tryd.prog) w T 64 i0 _ hT hi hz0 .i64 .i64 (l : Int) (c : Int) (by omega) (by omega) (by rw [hz2]; omega) (by omega)
  rw [Int.toNat_natCast, Int.toNat_natCast] at hrun
  refine ⟨_, hrun, ?_, (Only.refl [] w).alloc _⟩
  have hcells : madeCells (Value.int IntKind.u64 0).cells (c * i0.size) = (limbV (List.replicate l 0) ++ limbV (List.replicate (c - l) 0)).toArray := by
    have e : (Value.int IntKind.u64 0).cells = #[.int .u64 0] := rfl
    rw [limbV_zeros, limbV_zeros, List.replicate_append_replicate, show l + (c - l) = c by omega]
    apply Array.ext'
    simp only [madeCells, e, hz1]
    simp [Nat.mod_one]
    apply List.ext_getElem <;> simp
  have hb := heap_alloc_new w (.cells (madeCells (Value.int IntKind.u64 0).cells (c * i0.size)) 64)
  rw [hcells] at hb
  have := LimbsAt.of_row (w := w.alloc (.cells (limbV (List.replicate l 0) ++ limbV (List.replicate (c - l) 0)).toArray 64)) (g := w.heap.size) (c := c) (xs := List.replicate l 0) (tl := limbV (List.replicate (c - l) 0)) hb (by rw [List.length_replicate, limbV_len, List.length_replicate]; omega) (by simp only [maxLen]; omega)
  rw [List.length_replicate] at this
  rw [hcells]
  exact this

end Go.Proofs.YtphjcphcgnjogaaDoor
