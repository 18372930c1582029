/-
  FailNone: the walk.
-/
import Derived.Test.YtfelokgmoiblgaaDoorErG
import Derived.Test.YtfelokgmoiblgaaDoorRefT
namespace Go.Proofs.YtfelokgmoiblgaaDoor
open Go.RowKit Go.Extern.Stop Go.Stop Go.Extern Go.ChangeMaps
set_option linter.unusedSimpArgs false

set_option maxHeartbeats 2000000 in
set_option maxRecDepth 100000 in
theorem failNone_any (n : Int) (hn : (Lit.int .i64 n).wf = true) (w : World) (hg : w.cell? ⟨0, 0, none⟩ = some (.iface 93 (.agg #[.pointer (some ⟨4, 25, none⟩)]))) (htab : Tab w) :
    Calls Tryd.prog 3 #[.int .i64 n] w fun e w' => e = .returned (.bool true) ∧ Only [] w w' := by
  have HN : Hid (-9223372036854775808 ≤ n ∧ n ≤ 9223372036854775807) := by
    have k1 : IntKind.i64.min = -9223372036854775808 := by kernel_rfl
    have k2 : IntKind.i64.max = 9223372036854775807 := by kernel_rfl
    simp only [Lit.wf, k1, k2, Bool.and_eq_true, decide_eq_true_eq] at hn
    exact hn
  have HG := Lib.hid hg
  have HT := Lib.hid htab
  obtain ⟨D, hD⟩ : ∃ D : ByteArray, (⟨((if n < 0 then [45] else []) ++ Lib.decDigits n.natAbs).toArray⟩ : ByteArray) = D := ⟨_, rfl⟩
  have hDl : D.size ≤ 21 := by rw [← hD, size_of, ← itoa_is]; exact itoa_len n HN.out
  have hD1 : (⟨#[110, 111, 100, 101, 32]⟩ ++ D ++ ⟨#[58, 32, 110, 111, 110, 101]⟩ : ByteArray) = noneText n := by
    rw [← hD, ← itoa_is]
    unfold noneText
    apply ByteArray.ext
    simp
  have HD := Lib.hid hD
  have HD1 := Lib.hid hD1
  have hc1 : ¬ (9223372036854775807 : Int) < 5 + (D.size : Int) := by omega
  have hc2 : ¬ (9223372036854775807 : Int) < 5 + (D.size : Int) + 6 := by omega
  have hc3 : ¬ 9223372036854775807 < 5 + D.size := by omega
  have hc4 : ¬ 9223372036854775807 < 5 + D.size + 6 := by omega
  clear hg htab hn hD hD1 hDl
  go_enter Tryd.func3, Tryd.ntmps3
  go_wp2_with fail
  refine (alive6_any _ HG.out).mono ?_
  rintro e w1 ⟨rfl, ho⟩
  have HO := Lib.hid ho
  have HB := Lib.hid (Blk.new w1 27 [.int .i64 n, .nilIface])
  have HO2 := Lib.hid (HO.out.alloc (.cells #[.int .i64 n, .nilIface] 27))
  clear ho HG
  go_upto_region 5 with fail
  generalize w1.heap.size = b at *
  generalize w1.alloc _ = w2 at *
  go_wp2_with fail
  refine (atErr_nil _).mono ?_
  rintro e w' ⟨rfl, rfl⟩
  go_wp2_with fail
  refine (atUnwrap_nil _).mono ?_
  rintro e w' ⟨rfl, rfl⟩
  go_wp2_with fail
  refine (at_unwrap b _ _ _ HB.out).mono ?_
  rintro e w' ⟨rfl, hw⟩
  obtain rfl := hw.symm
  go_wp2_with fail
  refine (atErr_at b n HN.out _ HB.out (HT.out.only HO2.out)).mono ?_
  rintro e w3 ⟨rfl, ho⟩
  replace HO2 := Lib.hid (HO2.out.nil_trans ho)
  clear ho HB HO
  go_wp2_with fail
  refine (rdigits_any n _ HN).mono ?_
  rintro e w4 ⟨rfl, ho⟩
  replace HO2 := Lib.hid (HO2.out.nil_trans ho)
  clear ho
  rw [HD.out]
  have hD1 := HD1.out
  go_wp2_with fail
  go_ret
  exact ⟨rfl, HO2.out⟩
end Go.Proofs.YtfelokgmoiblgaaDoor
