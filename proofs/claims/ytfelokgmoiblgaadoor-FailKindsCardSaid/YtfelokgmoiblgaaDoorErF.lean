/-
  FailKinds: the walk.
-/
import Derived.Test.YtfelokgmoiblgaaDoorErE
import Derived.BigQuiet
namespace Go.Proofs.YtfelokgmoiblgaaDoor
open Go.RowKit Go.Extern.Stop Go.Stop Go.Extern Go.ChangeMaps
set_option linter.unusedSimpArgs false

theorem kf1 (w : World) : Calls Tryd.prog 23 #[] w fun e w' => e = .returned (.iface 60 (.int .i64 1)) ∧ w = w' := by
  go_enter Tryd.func23, Tryd.ntmps23
  go_wp2
  go_ret
  exact ⟨rfl, rfl⟩
theorem kf2 (w : World) : Calls Tryd.prog 24 #[] w fun e w' => e = .returned (.iface 60 (.int .i64 2)) ∧ w = w' := by
  go_enter Tryd.func24, Tryd.ntmps24
  go_wp2
  go_ret
  exact ⟨rfl, rfl⟩
theorem kf3 (w : World) : Calls Tryd.prog 19 #[] w fun e w' => e = .returned (.iface 60 (.int .i64 3)) ∧ w = w' := by
  go_enter Tryd.func19, Tryd.ntmps19
  go_wp2
  go_ret
  exact ⟨rfl, rfl⟩
theorem kf4 (w : World) : Calls Tryd.prog 25 #[] w fun e w' => e = .returned (.iface 60 (.int .i64 4)) ∧ w = w' := by
  go_enter Tryd.func25, Tryd.ntmps25
  go_wp2
  go_ret
  exact ⟨rfl, rfl⟩
theorem kf5 (w : World) : Calls Tryd.prog 26 #[] w fun e w' => e = .returned (.iface 60 (.int .i64 5)) ∧ w = w' := by
  go_enter Tryd.func26, Tryd.ntmps26
  go_wp2
  go_ret
  exact ⟨rfl, rfl⟩
theorem kf6 (w : World) : Calls Tryd.prog 27 #[] w fun e w' => e = .returned (.iface 60 (.int .i64 6)) ∧ w = w' := by
  go_enter Tryd.func27, Tryd.ntmps27
  go_wp2
  go_ret
  exact ⟨rfl, rfl⟩
theorem kf7 (w : World) : Calls Tryd.prog 28 #[] w fun e w' => e = .returned (.iface 60 (.int .i64 7)) ∧ w = w' := by
  go_enter Tryd.func28, Tryd.ntmps28
  go_wp2
  go_ret
  exact ⟨rfl, rfl⟩

def kindCells : List Value := [.iface 60 (.int .i64 1), .iface 60 (.int .i64 2), .iface 60 (.int .i64 3), .iface 60 (.int .i64 4), .iface 60 (.int .i64 5), .iface 60 (.int .i64 6), .iface 60 (.int .i64 7)]
def textCells : List Value := [.string (kindText 1), .string (kindText 2), .string (kindText 3), .string (kindText 4), .string (kindText 5), .string (kindText 6), .string (kindText 7)]
set_option maxHeartbeats 400000 in
theorem kinds_any (w : World) : Calls Tryd.prog 10 #[] w fun e w' => e = .returned (.slice (some ⟨w.heap.size, 0, none⟩) 7 7) ∧ w' = w.alloc (.cells kindCells.toArray 25) := by
  go_enter Tryd.func10, Tryd.ntmps10
  go_wp2_with fail
  refine (kf1 _).mono ?_
  rintro e w' ⟨rfl, rfl⟩
  go_wp2_with fail
  refine (kf2 _).mono ?_
  rintro e w' ⟨rfl, rfl⟩
  go_wp2_with fail
  refine (kf3 _).mono ?_
  rintro e w' ⟨rfl, rfl⟩
  go_wp2_with fail
  refine (kf4 _).mono ?_
  rintro e w' ⟨rfl, rfl⟩
  go_wp2_with fail
  refine (kf5 _).mono ?_
  rintro e w' ⟨rfl, rfl⟩
  go_wp2_with fail
  refine (kf6 _).mono ?_
  rintro e w' ⟨rfl, rfl⟩
  go_wp2_with fail
  refine (kf7 _).mono ?_
  rintro e w' ⟨rfl, rfl⟩
  go_wp2_with fail
  go_ret
  exact ⟨rfl, rfl⟩
set_option maxHeartbeats 400000 in
theorem texts_any (w : World) : Calls Tryd.prog 11 #[] w fun e w' => e = .returned (.slice (some ⟨w.heap.size, 0, none⟩) 7 7) ∧ w' = w.alloc (.cells textCells.toArray 9) := by
  go_enter Tryd.func11, Tryd.ntmps11
  go_wp2
  go_ret
  exact ⟨rfl, rfl⟩
theorem kind_cell {w : World} {g n : Nat} (h : Blk w g 25 kindCells) (hn : n < 7) : w.cell? ⟨g, n, none⟩ = some (.iface 60 (.int .i64 ((n : Int) + 1))) := by
  have := h.cell n
  rw [this]
  obtain rfl | rfl | rfl | rfl | rfl | rfl | rfl : n = 0 ∨ n = 1 ∨ n = 2 ∨ n = 3 ∨ n = 4 ∨ n = 5 ∨ n = 6 := by omega
  all_goals rfl
theorem text_cell {w : World} {g n : Nat} (h : Blk w g 9 textCells) (hn : n < 7) : w.cell? ⟨g, n, none⟩ = some (.string (kindText ((n : Int) + 1))) := by
  have := h.cell n
  rw [this]
  obtain rfl | rfl | rfl | rfl | rfl | rfl | rfl : n = 0 ∨ n = 1 ∨ n = 2 ∨ n = 3 ∨ n = 4 ∨ n = 5 ∨ n = 6 := by omega
  all_goals rfl
set_option maxHeartbeats 400000 in
theorem new_any (s : ByteArray) (w : World) : Calls Tryd.prog 18 #[.string s] w fun e w' => e = .returned (.iface 75 (.pointer (some ⟨w.heap.size, 0, none⟩))) ∧ w' = w.alloc (.cells #[.string s] 77) := by
  go_enter Tryd.func18, Tryd.ntmps18
  go_wp2
  go_ret
  exact ⟨rfl, rfl⟩

set_option maxHeartbeats 3200000 in
set_option maxRecDepth 100000 in
theorem failKinds_any (n : Int) (w : World) (hg : w.cell? ⟨0, 0, none⟩ = some (.iface 93 (.agg #[.pointer (some ⟨4, 25, none⟩)]))) :
    Calls Tryd.prog 5 #[.int .i64 n] w fun e w' => e = .returned (.bool true) ∧ Only [] w w' := by
  have HG := Lib.hid hg
  clear hg
  go_enter Tryd.func5, Tryd.ntmps5
  go_wp2_with fail
  refine (alive6_any _ HG.out).mono ?_
  rintro e w1 ⟨rfl, ho⟩
  have HO := Lib.hid ho
  clear ho
  go_wp2_with fail
  refine (kinds_any _).mono ?_
  rintro e w2 ⟨rfl, hw⟩
  have HA := Lib.hid (show Blk w2 w1.heap.size 25 kindCells by rw [hw]; exact Blk.new w1 25 kindCells)
  have hO : Only [] w1 w2 := by rw [hw]; exact (Only.refl [] w1).alloc _
  replace HO := Lib.hid (HO.out.nil_trans hO)
  clear hw hO
  generalize w1.heap.size = ga at *
  clear w1
  go_wp2_with fail
  refine (kinds_any _).mono ?_
  rintro e w3 ⟨rfl, hw⟩
  have HB := Lib.hid (show Blk w3 w2.heap.size 25 kindCells by rw [hw]; exact Blk.new w2 25 kindCells)
  have hO : Only [] w2 w3 := by rw [hw]; exact (Only.refl [] w2).alloc _
  replace HO := Lib.hid (HO.out.nil_trans hO)
  replace HA := Lib.hid (HA.out.only hO (by simp))
  clear hw hO
  generalize w2.heap.size = gb at *
  clear w2
  go_wp2_with fail
  refine (texts_any _).mono ?_
  rintro e w4 ⟨rfl, hw⟩
  have HT := Lib.hid (show Blk w4 w3.heap.size 9 textCells by rw [hw]; exact Blk.new w3 9 textCells)
  have hO : Only [] w3 w4 := by rw [hw]; exact (Only.refl [] w3).alloc _
  replace HO := Lib.hid (HO.out.nil_trans hO)
  replace HA := Lib.hid (HA.out.only hO (by simp))
  replace HB := Lib.hid (HB.out.only hO (by simp))
  clear hw hO
  generalize w3.heap.size = gt at *
  clear w3
  go_wp2_with fail
  go_loopw [6] (fun i wr => ∃ m : Nat, i = .int .i64 (m : Int) ∧ m ≤ 7 ∧ Hid (Blk wr ga 25 kindCells) ∧ Hid (Blk wr gb 25 kindCells) ∧ Hid (Blk wr gt 9 textCells) ∧ Hid (Only [] w wr)) (fun i _ => (7 - intOf i).toNat)
  case atStart => exact ⟨0, rfl, by omega, HA, HB, HT, HO⟩
  case round =>
    obtain ⟨m, rfl, hm, hA, hB, hT, hO⟩ := hrel
    clear HA HB HT HO
    have HA := hA
    have HB := hB
    have HT := hT
    have HO := hO
    clear hA hB hT hO
    by_cases hm7 : m < 7
    · have hmi : (m : Int) < 7 := by omega
      obtain ⟨tx, htx⟩ : ∃ tx, kindText ((m : Int) + 1) = tx := ⟨_, rfl⟩
      have HTX := Lib.hid htx
      have a0 := kind_cell HA.out hm7
      have b0 := kind_cell HB.out hm7
      have t0 := text_cell HT.out hm7
      rw [htx] at t0
      have hw1 : IntKind.i64.wrap ((m : Int) + 1) = (m : Int) + 1 := by rw [IntKind.wrap_i64]; omega
      clear htx
      have hm1 : 1 ≤ (m : Int) + 1 ∧ (m : Int) + 1 ≤ 7 := by omega
      have HM1 := Lib.hid hm1
      have km := kindErrM
      clear hm1
      go_upto_region 7 with fail
      have a1 := ((Only.refl [] wr).drew).cell a0 (by simp)
      have b1 := ((Only.refl [] wr).drew).cell b0 (by simp)
      have t1 := ((Only.refl [] wr).drew).cell t0 (by simp)
      clear a0 b0 t0
      go_region_held3 (fun w' => w'.cell? ⟨ga, m, none⟩ = some (.iface 60 (.int .i64 ((m : Int) + 1))) ∧ w'.cell? ⟨gb, m, none⟩ = some (.iface 60 (.int .i64 ((m : Int) + 1))) ∧ w'.cell? ⟨gt, m, none⟩ = some (.string tx)) (go_keep) (first
        | (go_at_call 15; (with_reducible refine (code_kind ((m : Int) + 1) HM1.out _).mono ?_); rintro e x1 ⟨rfl, ho1⟩; have a2 := ho1.cell a1 (by simp); have b2 := ho1.cell b1 (by simp); have t2 := ho1.cell t1 (by simp); have HO1 := Lib.hid ho1; clear ho1)
        | (go_at_call 88; (with_reducible refine (kind_error ((m : Int) + 1) HM1.out _).mono ?_); rintro e x2 ⟨rfl, hx2⟩; obtain rfl := hx2.symm; rw [HTX.out]))
      clear a1 b1 t1 hx2 a2 b2 t2
      have hO1 := (Only.refl [] wr).drew.nil_trans HO1.out
      have A1 := Lib.hid (HA.out.only hO1 (by simp))
      have B1 := Lib.hid (HB.out.only hO1 (by simp))
      have T1 := Lib.hid (HT.out.only hO1 (by simp))
      have O1 := Lib.hid (HO.out.nil_trans hO1)
      clear hO1 HO1 HA HB HT HO HTX
      go_wp2_with fail
      go_loopw [7] (fun i wq => ∃ k : Nat, i = .int .i64 (k : Int) ∧ k ≤ 7 ∧ Hid (Blk wq ga 25 kindCells) ∧ Hid (Blk wq gb 25 kindCells) ∧ Hid (Blk wq gt 9 textCells) ∧ Hid (Only [] w wq)) (fun i _ => (7 - intOf i).toNat)
      case atStart => exact ⟨0, rfl, by omega, A1, B1, T1, O1⟩
      case round =>
        obtain ⟨k, rfl, hk, hA, hB, hT, hO⟩ := hrel
        clear A1 B1 T1 O1
        have HA := hA
        have HB := hB
        have HT := hT
        have HO := hO
        clear hA hB hT hO
        by_cases hk7 : k < 7
        · have hki : (k : Int) < 7 := by omega
          obtain ⟨r, hr⟩ : ∃ r, ((m : Int) == (k : Int)) = r := ⟨_, rfl⟩
          have hr2 : (((m : Int) + 1) == ((k : Int) + 1)) = r := by
            rw [← hr]
            by_cases h : (m : Int) = (k : Int)
            · rw [h]; simp
            · rw [beq_eq_false_iff_ne.2 h, beq_eq_false_iff_ne.2 (by omega)]
          have HR2 := Lib.hid hr2
          have a0 := kind_cell HA.out hm7
          have b0 := kind_cell HB.out hk7
          have hw2 : IntKind.i64.wrap ((k : Int) + 1) = (k : Int) + 1 := by rw [IntKind.wrap_i64]; omega
          clear hr2
          go_upto_region 12 with fail
          go_quiet ((go_at_call 17; refine Calls.quiet_of_same ((Is_kind ((m : Int) + 1) ((k : Int) + 1) _).mono fun _ _ h => ⟨by rw [h.1, HR2.out], h.2⟩)))
          go_wp2_with fail
          go_roundw
          case rel => exact ⟨k + 1, by go_num, by omega, Lib.hid (HA.out.drewN nq), Lib.hid (HB.out.drewN nq), Lib.hid (HT.out.drewN nq), Lib.hid (HO.out.drewN nq)⟩
          case measure => simp [intOf]; omega
        · have hk8 : k = 7 := by omega
          subst hk8
          have a0 := kind_cell HA.out hm7
          go_wp2_with fail
          refine (where_kind ((m : Int) + 1) _ (HO.out.cell HG.out (by simp))).mono ?_
          rintro e x2 ⟨rfl, ho⟩
          replace HA := Lib.hid (HA.out.only ho (by simp))
          replace HB := Lib.hid (HB.out.only ho (by simp))
          replace HT := Lib.hid (HT.out.only ho (by simp))
          replace HO := Lib.hid (HO.out.nil_trans ho)
          clear ho a0
          go_wp2_with fail
          go_roundw
          case rel => exact ⟨m + 1, by go_num, by omega, HA, HB, HT, HO⟩
          case measure => simp [intOf]; omega
    · have hm8 : m = 7 := by omega
      subst hm8
      go_wp2_with fail
      refine (where_nil _ (HO.out.cell HG.out (by simp))).mono ?_
      rintro e x1 ⟨rfl, ho⟩
      replace HO := Lib.hid (HO.out.nil_trans ho)
      clear ho HA HB HT HG
      go_wp2_with fail
      refine (code_nil _).mono ?_
      rintro e x2 ⟨rfl, ho⟩
      replace HO := Lib.hid (HO.out.nil_trans ho)
      clear ho
      go_wp2_with fail
      refine (new_any _ _).mono ?_
      rintro e x3 ⟨rfl, hw⟩
      have ho : Only [] x2 x3 := by rw [hw]; exact (Only.refl [] x2).alloc _
      replace HO := Lib.hid (HO.out.nil_trans ho)
      clear ho hw
      go_wp2_with fail
      refine (code_es _ _).mono ?_
      rintro e x4 ⟨rfl, ho⟩
      replace HO := Lib.hid (HO.out.nil_trans ho)
      clear ho
      go_wp2_with fail
      refine (in_nil _ _).mono ?_
      rintro e x5 ⟨rfl, hw⟩
      obtain rfl := hw.symm
      go_wp2_with fail
      refine (node_nil n _).mono ?_
      rintro e x6 ⟨rfl, hw⟩
      have ho : Only [] x4 x6 := by rw [hw]; exact (Only.refl [] x4).alloc _
      replace HO := Lib.hid (HO.out.nil_trans ho)
      clear ho hw
      go_wp2_with fail
      refine (node_nil n _).mono ?_
      rintro e x7 ⟨rfl, hw⟩
      have ho : Only [] x6 x7 := by rw [hw]; exact (Only.refl [] x6).alloc _
      have HN := Lib.hid (show Blk x7 x6.heap.size 27 _ by rw [hw]; exact Blk.new x6 27 [.int .i64 n, .nilIface])
      replace HO := Lib.hid (HO.out.nil_trans ho)
      clear ho hw
      go_wp2_with fail
      refine (code_atnil _ _ _ HN.out).mono ?_
      rintro e x8 ⟨rfl, ho⟩
      replace HO := Lib.hid (HO.out.nil_trans ho)
      clear ho
      go_wp2_with fail
      go_ret
      exact ⟨rfl, HO.out⟩
end Go.Proofs.YtfelokgmoiblgaaDoor
