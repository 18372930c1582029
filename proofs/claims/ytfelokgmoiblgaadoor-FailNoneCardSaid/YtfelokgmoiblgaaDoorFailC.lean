/-
  fail.Code and fail.Where at errors that dag and code make.
-/
import Derived.Test.YtfelokgmoiblgaaDoorFailB
import Derived.Defers
import Derived.Recover
namespace Go.Proofs.YtfelokgmoiblgaaDoor
open Go.RowKit Go.Extern.Stop Go.Stop Go.Extern

theorem code1_deferred (g : Nat) (w : World) : CallsD Tryd.prog 32 #[.pointer (some ⟨g, 0, none⟩)] .returning w fun e u' w' => u' = .returning ∧ e = .returned (.tuple #[]) ∧ w' = w := by
  refine callsD_of_wpS Tryd.func32 rfl fun c₀ cs hu => ?_
  apply wpS_seq
  apply wpS_region
  simp [wpOpsS, go_sem, recoverD, hu, Tryd.ntmps32, Exit.thenS]
  refine wpS_cond (t := false) (by simp [Act.eval, Array.replicate]) ?_
  simp only [Bool.false_eq_true, if_false]
  refine wpS_of_wp (wp_skip ?_)
  cases c₀
  simp_all [bodyPostS, results, Tryd.results32]

set_option maxHeartbeats 400000 in
theorem code_kind (k : Int) (hk : 1 ≤ k ∧ k ≤ 7) (w : World) : Calls Tryd.prog 15 #[.iface 60 (.int .i64 k)] w fun e w' => e = .returned (.int .i64 k) ∧ Only [] w w' := by
  have hmf : ∀ (fn : Fn) (first cap : Array Value) (w : World), (Instr.makeFunc fn first cap).run Tryd.prog w = .ok (.func fn first cap) w := fun _ _ _ _ => rfl
  go_enter_defers Tryd.func15, Tryd.ntmps15
  go_wp2_with (go_at_call 30; (with_reducible refine (endless_kind k _).mono ?_); rintro e w1 ⟨rfl, ho1⟩)
  have hB := (Blk.new w 3 [.int .i64 0]).only ho1 (by simp)
  have HO := Lib.hid (((Only.refl [] w).alloc (.cells #[.int .i64 0] 3)).nil_trans ho1)
  have c0 := hB.cell 0
  have f0 := hB.frozen 0
  simp only [List.getElem?_cons_zero] at c0
  have HB := Lib.hid hB
  clear ho1 hB
  go_loopw [3] (fun i wr => ∃ j : Int, i = .int .i64 j ∧ 1 ≤ j ∧ j ≤ k ∧ wr = w1) (fun i _ => (k - intOf i).toNat)
  case atStart => exact ⟨1, rfl, by omega, by omega, rfl⟩
  case round =>
    obtain ⟨j, rfl, hj1, hj2, rfl⟩ := hrel
    have hj7 : j ≤ 7 := by omega
    go_wp2_with (go_at_call 17; (with_reducible refine (Is_kind k j _).mono ?_); rintro e w' ⟨rfl, rfl⟩)
    · rename_i h
      have hkj : k = j := by simpa using h
      refine leaves_cons (f := 32) (args := #[.pointer (some ⟨w.heap.size, 0, none⟩)]) (by simp) (by simp [go_sem]) ?_
      refine (code1_deferred _ _).mono ?_
      rintro e u' w'' ⟨rfl, rfl, rfl⟩
      have hs := (HB.out.set_ 0 (.int .i64 j)).cell 0
      simp only [List.set_cons_zero, List.getElem?_cons_zero] at hs
      have hO := HO.out.setCell (p := ⟨w.heap.size, 0, none⟩) (.inr (Nat.le_refl _)) (.int .i64 j)
      simp [Leaves, settle, results, Tryd.results15, go_sem, hs, hkj, hO]
    · rename_i h
      have hkj : k ≠ j := by simpa using h
      go_roundw
      case rel => exact ⟨j + 1, by go_num, by omega, by omega, by simp⟩
      case measure => simp [intOf]; omega

set_option maxHeartbeats 400000 in
theorem code_at (k : Int) (hk : 1 ≤ k ∧ k ≤ 7) (a : Nat) (i : Value) (w : World) (ha : Blk w a 27 [i, .iface 60 (.int .i64 k)]) :
    Calls Tryd.prog 15 #[.iface 23 (.pointer (some ⟨a, 0, none⟩))] w fun e w' => e = .returned (.int .i64 k) ∧ Only [] w w' := by
  have hmf : ∀ (fn : Fn) (first cap : Array Value) (w : World), (Instr.makeFunc fn first cap).run Tryd.prog w = .ok (.func fn first cap) w := fun _ _ _ _ => rfl
  go_enter_defers Tryd.func15, Tryd.ntmps15
  go_wp2_with (go_at_call 30; (with_reducible refine (endless_at k a i _ (ha.alloc _)).mono ?_); rintro e w1 ⟨rfl, ho1⟩)
  have hB := (Blk.new w 3 [.int .i64 0]).only ho1 (by simp)
  have HO := Lib.hid (((Only.refl [] w).alloc (.cells #[.int .i64 0] 3)).nil_trans ho1)
  have c0 := hB.cell 0
  have f0 := hB.frozen 0
  simp only [List.getElem?_cons_zero] at c0
  have HB := Lib.hid hB
  have HA := Lib.hid ((ha.alloc (.cells #[.int .i64 0] 3)).only ho1 (by simp))
  clear ho1 hB
  go_loopw [3] (fun i wr => ∃ j : Int, i = .int .i64 j ∧ 1 ≤ j ∧ j ≤ k ∧ wr = w1) (fun i _ => (k - intOf i).toNat)
  case atStart => exact ⟨1, rfl, by omega, by omega, rfl⟩
  case round =>
    obtain ⟨j, rfl, hj1, hj2, rfl⟩ := hrel
    have hj7 : j ≤ 7 := by omega
    go_wp2_with (go_at_call 17; (with_reducible refine (Is_at k j a i _ HA.out).mono ?_); rintro e w' ⟨rfl, rfl⟩)
    · rename_i h
      have hkj : k = j := by simpa using h
      refine leaves_cons (f := 32) (args := #[.pointer (some ⟨w.heap.size, 0, none⟩)]) (by simp) (by simp [go_sem]) ?_
      refine (code1_deferred _ _).mono ?_
      rintro e u' w'' ⟨rfl, rfl, rfl⟩
      have hs := (HB.out.set_ 0 (.int .i64 j)).cell 0
      simp only [List.set_cons_zero, List.getElem?_cons_zero] at hs
      have hO := HO.out.setCell (p := ⟨w.heap.size, 0, none⟩) (.inr (Nat.le_refl _)) (.int .i64 j)
      simp [Leaves, settle, results, Tryd.results15, go_sem, hs, hkj, hO]
    · rename_i h
      have hkj : k ≠ j := by simpa using h
      go_roundw
      case rel => exact ⟨j + 1, by go_num, by omega, by omega, by simp⟩
      case measure => simp [intOf]; omega
end Go.Proofs.YtfelokgmoiblgaaDoor
