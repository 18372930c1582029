/-
  GuessShared: the first call; the chain of doublings; the law's walk.
-/
import Derived.Test.YtmjnifjohfljaaaTaGsD
namespace Go.Proofs.Ytmjnifjohfljaaa
set_option linter.unusedSimpArgs false
open Go.RowKit
attribute [local go_sem] run_store_float
open Fl in
theorem around_c (s1 s2 : Bool) (r1 r2 lo hi : Nat) (h1 : decide (r1 < 9223372036854775808) = true) (h2 : decide (r2 < 9223372036854775808) = true) (e1 : stepW false s1 r1 = lo) (e2 : stepW true s2 r2 = hi) (hl : decide (lo < 18446744073709551616) = true) (hh : decide (hi < 18446744073709551616) = true) (hk : kn lo hi = true) (w : World) :
    Calls Try.prog 42 #[.float .f64 (wordB s1 r1), .float .f64 (wordB s2 r2)] w fun e w' => e = .returned (gpv lo hi) ∧ Only [] w w' := by
  have h := around_any s1 s2 (of_decide_eq_true h1) (of_decide_eq_true h2) e1 e2 (of_decide_eq_true hl) (of_decide_eq_true hh) w
  rw [show arW lo hi = (lo, hi) by unfold arW; rw [hk]; rfl] at h
  exact h

/-- The dag of the first call. -/
def ns4 : List Nd := [⟨0, 4611686018427387904, 0, 0⟩, ⟨5, 0, 0, 0⟩, ⟨3, 0, 1, 1⟩, ⟨2, 0, 2, 0⟩]
def g4 (x : Int) : Nat × Nat := if x = 0 then (4611686018427387904, 4611686018427387904) else if x = 1 then (4609047870845172684, 4609047870845172686) else if x = 2 then (4611686018427387901, 4611686018427387907) else (13603122674472583169, 4384254237245177857)
theorem ok4 : AllOk ns4 := by
  intro j hj
  have : j = 0 ∨ j = 1 ∨ j = 2 ∨ j = 3 := by simp [ns4] at hj; omega
  rcases this with rfl | rfl | rfl | rfl <;> decide +kernel
theorem sm4 : Hid (∀ x : Nat, x < ns4.length → Small (nodeAt ns4 (x : Int)).a ∧ Small (nodeAt ns4 (x : Int)).b) := by
  intro x hx
  have : x = 0 ∨ x = 1 ∨ x = 2 ∨ x = 3 := by simp [ns4] at hx; omega
  unfold Small
  rcases this with rfl | rfl | rfl | rfl <;> decide
theorem below4 {r : Nat} (h : r = 0 ∨ r = 1 ∨ r = 3) : belowOf ns4 (r : Int) = idsN (r + 1) := by
  refine below_all (ok_dag ok4) (by rcases h with rfl | rfl | rfl <;> decide) fun i hi => ?_
  have k1 : kids (nodeAt ns4 1) = [0] := by decide
  have k2 : kids (nodeAt ns4 2) = [1, 1] := by decide
  have k3 : kids (nodeAt ns4 3) = [2, 0] := by decide
  rcases h with rfl | rfl | rfl
  · obtain rfl : i = 0 := by omega
    exact .root _ (by simp) (by omega) (by decide)
  · have r1 : Reach ns4 (· ∈ [((1 : Nat) : Int)]) 1 := .root _ (by simp) (by omega) (by decide)
    have : i = 0 ∨ i = 1 := by omega
    rcases this with rfl | rfl
    · exact .kid 1 _ r1 (by rw [k1]; simp)
    · exact r1
  · have r3 : Reach ns4 (· ∈ [((3 : Nat) : Int)]) 3 := .root _ (by simp) (by omega) (by decide)
    have r2 : Reach ns4 (· ∈ [((3 : Nat) : Int)]) 2 := .kid 3 _ r3 (by rw [k3]; simp)
    have r1 : Reach ns4 (· ∈ [((3 : Nat) : Int)]) 1 := .kid 2 _ r2 (by rw [k2]; simp)
    have : i = 0 ∨ i = 1 ∨ i = 2 ∨ i = 3 := by omega
    rcases this with rfl | rfl | rfl | rfl
    · exact .kid 3 _ r3 (by rw [k3]; simp)
    · exact r1
    · exact r2
    · exact r3
theorem bel0 : belowOf ns4 0 = idsN 1 := below4 (r := 0) (by omega)
theorem bel1 : belowOf ns4 1 = idsN 2 := below4 (r := 1) (by omega)
theorem bel3 : belowOf ns4 3 = idsN 4 := below4 (r := 3) (by omega)
/-- combine over the first r + 1 nodes. -/
theorem comb_ids {ns : List Nd} {g : Int → Nat × Nat} {r : Nat} (h : ∀ k : Nat, k ≤ r → ∀ W : World, Calls Try.prog 18 #[(nodeAt ns (k : Int)).val, gpv (atG g (idsN k) (nodeAt ns (k : Int)).a).1 (atG g (idsN k) (nodeAt ns (k : Int)).a).2, gpv (atG g (idsN k) (nodeAt ns (k : Int)).b).1 (atG g (idsN k) (nodeAt ns (k : Int)).b).2] W
    fun e w' => e = .returned (gpv (g (k : Int)).1 (g (k : Int)).2) ∧ Only [] W w') : CombOk ns (idsN (r + 1)) g := by
  intro k hk W
  have hk' : k ≤ r := by simp [idsN] at hk; omega
  rw [idsN_get _ _ (by omega), show (idsN (r + 1)).take k = idsN k by unfold idsN; rw [← List.map_take, List.take_range]; congr 2; omega]
  exact h k hk' W
theorem sqrt_2 (w : World) : Calls Try.prog 31 #[gpv 4611686018427387904 4611686018427387904] w fun e w' => e = .returned (gpv 4609047870845172684 4609047870845172686) ∧ Only [] w w' :=
  Fl.gsqrt_core _ _ 4609047870845172685 4609047870845172685 _ _ (Fl.lt64 _ rfl) (Fl.lt64 _ rfl) (by kernel_rfl) (by kernel_rfl) (by kernel_rfl) (by kernel_rfl) (around_c false false 4609047870845172685 4609047870845172685 _ _ rfl rfl (by kernel_rfl) (by kernel_rfl) rfl rfl (by kernel_rfl)) w
theorem mul_2 (w : World) : Calls Try.prog 29 #[gpv 4609047870845172684 4609047870845172686, gpv 4609047870845172684 4609047870845172686] w fun e w' => e = .returned (gpv 4611686018427387901 4611686018427387907) ∧ Only [] w w' :=
  Fl.mul_core _ _ _ _ 4611686018427387902 4611686018427387905 4611686018427387905 4611686018427387906 4611686018427387902 4611686018427387906 _ _ (Fl.lt64 _ rfl) (Fl.lt64 _ rfl) (Fl.lt64 _ rfl) (Fl.lt64 _ rfl) (by kernel_rfl) (by kernel_rfl) (by kernel_rfl) (by kernel_rfl) (by kernel_rfl) (fun w => by kernel_rfl) (fun w => by kernel_rfl)
    (around_c false false 4611686018427387902 4611686018427387906 _ _ rfl rfl (by kernel_rfl) (by kernel_rfl) rfl rfl (by kernel_rfl)) w
theorem sub_2 (w : World) : Calls Try.prog 28 #[gpv 4611686018427387901 4611686018427387907, gpv 13835058055282163712 13835058055282163712] w fun e w' => e = .returned (gpv 13603122674472583169 4384254237245177857) ∧ Only [] w w' :=
  Fl.add_core _ _ _ _ 13603122674472583168 4384254237245177856 _ _ (Fl.lt64 _ rfl) (Fl.lt64 _ rfl) (Fl.lt64 _ rfl) (Fl.lt64 _ rfl) (by kernel_rfl) (by kernel_rfl) (by kernel_rfl)
    (around_c true false 4379750637617807360 4384254237245177856 _ _ rfl rfl (by kernel_rfl) (by kernel_rfl) rfl rfl (by kernel_rfl)) w
theorem comb4 (r : Nat) (hr : r ≤ 3) : CombOk ns4 (idsN (r + 1)) g4 := by
  refine comb_ids fun k hk W => ?_
  have : k = 0 ∨ k = 1 ∨ k = 2 ∨ k = 3 := by omega
  rcases this with rfl | rfl | rfl | rfl
  · exact comb_leaf 4611686018427387904 0 0 _ _ _ _ _ _ (fun w => Fl.at_yes _ (Fl.lt64 _ rfl) (by kernel_rfl) w) W
  · exact comb_root 0 0 0 _ _ _ _ _ _ (fun w => sqrt_2 w) W
  · exact comb_mul 0 1 1 _ _ _ _ _ _ (fun w => mul_2 w) W
  · exact comb_sub 0 2 0 _ _ _ _ 13835058055282163712 13835058055282163712 _ _ (by kernel_rfl) (by kernel_rfl) (fun w => sub_2 w) W

set_option maxHeartbeats 1600000 in
set_option maxRecDepth 100000 in
theorem alive12_any (w : World) : Calls Try.prog 4 #[] w fun e w' => e = .returned (.bool true) ∧ Only [] w w' := by
  go_enter Try.func4, Try.ntmps4
  go_wp2_with fail
  have HB := Lib.hid (Blk.new w 26 [.int .i64 0, .float .f64 4611686018427387904, .int .i64 0, .int .i64 0, .int .i64 5, .float .f64 0, .int .i64 0, .int .i64 0, .int .i64 3, .float .f64 0, .int .i64 1, .int .i64 1, .int .i64 2, .float .f64 0, .int .i64 2, .int .i64 0])
  have HA : Hid (NRead (w.alloc (.cells #[.int .i64 0, .float .f64 4611686018427387904, .int .i64 0, .int .i64 0, .int .i64 5, .float .f64 0, .int .i64 0, .int .i64 0, .int .i64 3, .float .f64 0, .int .i64 1, .int .i64 1, .int .i64 2, .float .f64 0, .int .i64 2, .int .i64 0] 26)) (some ⟨w.heap.size, 0, none⟩) ns4) := fun k hk => by
    refine ⟨w.heap.size, 0, rfl, ?_⟩
    have : k = 0 ∨ k = 1 ∨ k = 2 ∨ k = 3 := by simp [ns4] at hk; omega
    rcases this with rfl | rfl | rfl | rfl
    · exact ⟨HB.out.cell 0, HB.out.cell 1, HB.out.cell 2, HB.out.cell 3⟩
    · exact ⟨HB.out.cell 4, HB.out.cell 5, HB.out.cell 6, HB.out.cell 7⟩
    · exact ⟨HB.out.cell 8, HB.out.cell 9, HB.out.cell 10, HB.out.cell 11⟩
    · exact ⟨HB.out.cell 12, HB.out.cell 13, HB.out.cell 14, HB.out.cell 15⟩
  have HF : Hid (∀ k, k < ns4.length → (ns4[k]?.getD nd0).f < 2 ^ 64) := fun k hk => by
    have : k = 0 ∨ k = 1 ∨ k = 2 ∨ k = 3 := by simp [ns4] at hk; omega
    rcases this with rfl | rfl | rfl | rfl <;> decide
  refine (load10_any (some ⟨w.heap.size, 0, none⟩) 4 ns4 _ HA HF (by decide) (Lib.hid ok4)).mono ?_
  rintro e w1 ⟨d, v, rfl, hown⟩
  have HD := Lib.hid hown.is
  have HO1 : Hid (Only [] w w1) := ((Only.refl [] w).alloc _).nil_trans hown.only
  have HOk := Lib.hid (ok_dag ok4)
  clear hown HA HF HB
  go_wp2_with fail
  refine (gsign_any d v ns4 1 w1 HD.out HOk.out (by decide) g4 sm4 (by show CombOk _ _ _; rw [bel1]; exact comb4 1 (by omega)) (by rw [bel1]; decide) (by unfold Small; omega) 1 true (by decide) (by decide) (by kernel_rfl) (by kernel_rfl) (by kernel_rfl)).mono ?_
  rintro e w2 ⟨rfl, ho⟩
  have HO2 := Lib.hid ho
  clear ho
  go_wp2_with fail
  refine (gsign_any d v ns4 3 w2 (HD.out.only HO2.out (by simp)) HOk.out (by decide) g4 sm4 (by show CombOk _ _ _; rw [bel3]; exact comb4 3 (by omega)) (by rw [bel3]; decide) (by unfold Small; omega) 0 false (by decide) (by decide) (by kernel_rfl) (by kernel_rfl) (by kernel_rfl)).mono ?_
  rintro e w3 ⟨rfl, ho⟩
  have HO3 := Lib.hid (HO2.out.nil_trans ho)
  clear ho
  go_wp2_with fail
  refine (gof_any d v ns4 0 w3 (HD.out.only HO3.out (by simp)) HOk.out (by decide) g4 sm4 (by show CombOk _ _ _; rw [bel0]; exact comb4 0 (by omega)) (by rw [bel0]; decide) (by unfold Small; omega)).mono ?_
  rw [show g4 0 = (4611686018427387904, 4611686018427387904) by decide]
  rintro e w4 ⟨rfl, ho⟩
  have HO4 := Lib.hid (HO3.out.nil_trans ho)
  clear ho
  go_wp2_with fail
  refine (Fl.at_yes 4611686018427387904 (Fl.lt64 _ rfl) (by kernel_rfl) w4).mono ?_
  rintro e w5 ⟨rfl, ho⟩
  have HO5 := Lib.hid (HO4.out.nil_trans ho)
  clear ho
  have heq : ∀ w : World, (binOp .eql 30 (gpv 4611686018427387904 4611686018427387904) (gpv 4611686018427387904 4611686018427387904)).run Try.prog w = .ok (.bool true) w := fun w => by kernel_rfl
  go_wp2_with fail
  go_ret
  exact ⟨rfl, HO1.out.nil_trans HO5.out⟩
end Go.Proofs.Ytmjnifjohfljaaa
