/-
  Slices of limbs, cut.
-/
import Derived.Test.YtphjcphcgnjogaaDoorNum
namespace Go.Proofs.YtphjcphcgnjogaaDoor
open Go.RowKit

set_option maxRecDepth 100000 in
theorem slice_head (A : Option Addr) (n c m : Nat) (h : m ≤ c) (w : World) : (Instr.slice 25 (.slice A n c) none (some (.int .i64 (m : Int))) none).run Tryd.prog w = .ok (.slice A m c) w := by
  have hs : (sizeOf (Tryd.prog.elem 25)).run Tryd.prog w = .ok 1 w := by kernel_rfl
  rw [run_slice_h (P := Tryd.prog) (w := w) 25 A n c (by kernel_rfl) .i64 (m : Int) (by omega) (by omega), hs]
  simp only [Result.andThen, sliced, Int.toNat_natCast]
  cases A <;> simp [Addr.add]
set_option maxRecDepth 100000 in
theorem slice_tail (b o n c m : Nat) (h : m ≤ n) (hc : m ≠ c) (w : World) : (Instr.slice 25 (.slice (some ⟨b, o, none⟩) n c) (some (.int .i64 (m : Int))) none none).run Tryd.prog w = .ok (.slice (some ⟨b, o + m, none⟩) (n - m) (c - m)) w := by
  have hs : (sizeOf (Tryd.prog.elem 25)).run Tryd.prog w = .ok 1 w := by kernel_rfl
  rw [run_slice_l (P := Tryd.prog) (w := w) 25 (some ⟨b, o, none⟩) n c (by kernel_rfl) .i64 (m : Int) (by omega) (by omega), hs]
  simp only [Result.andThen, sliced, Int.toNat_natCast]
  simp [addr_plus, Ne.symm hc]
end Go.Proofs.YtphjcphcgnjogaaDoor
