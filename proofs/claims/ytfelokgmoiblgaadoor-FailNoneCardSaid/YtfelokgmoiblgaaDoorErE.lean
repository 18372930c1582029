/-
  compasslaw6: alive, kinds, texts.
-/
import Derived.Test.YtfelokgmoiblgaaDoorErD
namespace Go.Proofs.YtfelokgmoiblgaaDoor
open Go.RowKit Go.Extern.Stop Go.Stop Go.Extern Go.ChangeMaps
set_option linter.unusedSimpArgs false

set_option maxHeartbeats 400000 in
theorem node_any (n : Int) (t : TypeId) (x : Value) (w : World) : Calls Tryd.prog 12 #[.int .i64 n, .iface t x] w fun e w' => e = .returned (.iface 23 (.pointer (some ⟨w.heap.size, 0, none⟩))) ∧ w' = w.alloc (.cells #[.int .i64 n, .iface t x] 27) := by
  go_enter Tryd.func12, Tryd.ntmps12
  go_wp2
  go_ret
  exact ⟨rfl, rfl⟩
set_option maxHeartbeats 400000 in
theorem node_nil (n : Int) (w : World) : Calls Tryd.prog 12 #[.int .i64 n, .nilIface] w fun e w' => e = .returned (.iface 23 (.pointer (some ⟨w.heap.size, 0, none⟩))) ∧ w' = w.alloc (.cells #[.int .i64 n, .nilIface] 27) := by
  go_enter Tryd.func12, Tryd.ntmps12
  go_wp2
  go_ret
  exact ⟨rfl, rfl⟩
set_option maxHeartbeats 400000 in
theorem in_any (s : ByteArray) (t : TypeId) (x : Value) (w : World) : Calls Tryd.prog 13 #[.string s, .iface t x] w fun e w' => e = .returned (.iface 55 (.pointer (some ⟨w.heap.size, 0, none⟩))) ∧ w' = w.alloc (.cells #[.string s, .iface t x] 57) := by
  go_enter Tryd.func13, Tryd.ntmps13
  go_wp2
  go_ret
  exact ⟨rfl, rfl⟩
set_option maxHeartbeats 400000 in
theorem in_nil (s : ByteArray) (w : World) : Calls Tryd.prog 13 #[.string s, .nilIface] w fun e w' => e = .returned .nilIface ∧ w' = w := by
  go_enter Tryd.func13, Tryd.ntmps13
  go_wp2
  go_ret
  exact ⟨rfl, rfl⟩
set_option maxHeartbeats 400000 in
theorem negRoot_any (w : World) : Calls Tryd.prog 19 #[] w fun e w' => e = .returned (.iface 60 (.int .i64 3)) ∧ w = w' := by
  go_enter Tryd.func19, Tryd.ntmps19
  go_wp2
  go_ret
  exact ⟨rfl, rfl⟩
set_option maxHeartbeats 400000 in
theorem inErr_in3 (b a : Nat) (w : World) (hb : Blk w b 57 [.string ⟨#[115, 105, 103, 110]⟩, .iface 23 (.pointer (some ⟨a, 0, none⟩))]) (ha : Blk w a 27 [.int .i64 3, .iface 60 (.int .i64 3)]) :
    Calls Tryd.prog 86 #[.pointer (some ⟨b, 0, none⟩)] w fun e w' => e = .returned (.string ⟨#[115, 105, 103, 110, 58, 32, 110, 111, 100, 101, 32, 51, 58, 32, 114, 111, 111, 116, 32, 111, 102, 32, 97, 32, 110, 101, 103, 97, 116, 105, 118, 101, 32, 110, 117, 109, 98, 101, 114]⟩) ∧ Only [] w w' := by
  have Hb := Lib.hid hb
  have Ha := Lib.hid ha
  clear hb ha
  go_enter Tryd.func86, Tryd.ntmps86
  go_wp2_with fail
  refine (text_in3 b a _ Hb.out Ha.out).mono ?_
  rintro e w' ⟨rfl, ho⟩
  have HO := Lib.hid ho
  clear ho
  go_wp2
  go_ret
  exact ⟨rfl, HO.out⟩

set_option maxHeartbeats 800000 in
set_option maxRecDepth 100000 in
theorem alive6_any (w : World) (hg : w.cell? ⟨0, 0, none⟩ = some (.iface 93 (.agg #[.pointer (some ⟨4, 25, none⟩)]))) :
    Calls Tryd.prog 6 #[] w fun e w' => e = .returned (.bool true) ∧ Only [] w w' := by
  have h1 := inErrM
  have HG := Lib.hid hg
  clear hg
  go_enter Tryd.func6, Tryd.ntmps6
  go_wp2_with fail
  refine (negRoot_any _).mono ?_
  rintro e w' ⟨rfl, rfl⟩
  go_wp2_with fail
  refine (node_any 3 _ _ _).mono ?_
  rintro e w' ⟨rfl, hw1⟩
  have HA := Lib.hid (show Blk w' w.heap.size 27 _ by rw [hw1]; exact Blk.new w 27 [.int .i64 3, .iface 60 (.int .i64 3)])
  have HO := Lib.hid (show Only [] w w' by rw [hw1]; exact (Only.refl [] w).alloc _)
  clear hw1
  go_wp2_with fail
  refine (in_any _ _ _ _).mono ?_
  rintro e w2 ⟨rfl, hw2⟩
  have HB := Lib.hid (show Blk w2 w'.heap.size 57 _ by rw [hw2]; exact Blk.new w' 57 [.string ⟨#[115, 105, 103, 110]⟩, .iface 23 (.pointer (some ⟨w.heap.size, 0, none⟩))])
  have hO2 : Only [] w' w2 := by rw [hw2]; exact (Only.refl [] w').alloc _
  replace HA := Lib.hid (HA.out.only hO2 (by simp))
  replace HO := Lib.hid (HO.out.nil_trans hO2)
  clear hw2 hO2
  generalize w.heap.size = a at *
  generalize w'.heap.size = b at *
  clear w'
  replace HG := Lib.hid (HO.out.cell HG.out (by simp))
  go_wp2_with fail
  refine (negRoot_any _).mono ?_
  rintro e w' ⟨rfl, rfl⟩
  go_wp2_with fail
  refine (where_in3 3 b a _ 3 _ HB.out HA.out HG.out).mono ?_
  rintro e w3 ⟨rfl, ho⟩
  replace HA := Lib.hid (HA.out.only ho (by simp))
  replace HB := Lib.hid (HB.out.only ho (by simp))
  replace HO := Lib.hid (HO.out.nil_trans ho)
  clear ho HG
  go_wp2_with fail
  refine (code_in3 3 (by omega) b a _ _ _ HB.out HA.out).mono ?_
  rintro e w4 ⟨rfl, ho⟩
  replace HA := Lib.hid (HA.out.only ho (by simp))
  replace HB := Lib.hid (HB.out.only ho (by simp))
  replace HO := Lib.hid (HO.out.nil_trans ho)
  clear ho
  go_wp2_with fail
  refine (inErr_in3 b a _ HB.out HA.out).mono ?_
  rintro e w5 ⟨rfl, ho⟩
  replace HO := Lib.hid (HO.out.nil_trans ho)
  clear ho HA HB
  go_wp2_with fail
  go_ret
  exact ⟨rfl, HO.out⟩
end Go.Proofs.YtfelokgmoiblgaaDoor
