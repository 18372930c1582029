/-
  fail: the text of a node without an error; (*At).Error, Unwrap at none.
-/
import Derived.Test.YtfelokgmoiblgaaDoorErE
namespace Go.Proofs.YtfelokgmoiblgaaDoor
open Go.RowKit Go.Extern.Stop Go.Stop Go.Extern Go.ChangeMaps
set_option linter.unusedSimpArgs false

theorem itoa_is (n : Int) : Lib.itoa n = (if n < 0 then [45] else []) ++ Lib.decDigits n.natAbs := by
  unfold Lib.itoa
  by_cases h : n < 0
  · rw [if_pos h, if_pos h]; rfl
  · rw [if_neg h, if_neg h, show n.toNat = n.natAbs by omega]; rfl
theorem itoa_len (n : Int) (h : -9223372036854775808 ≤ n ∧ n ≤ 9223372036854775807) : (Lib.itoa n).length ≤ 21 := by
  rw [itoa_is]
  have := Lib.nDigits_le20 n.natAbs (by omega)
  rw [List.length_append, Lib.decDigits_length]
  split <;> simp <;> omega
theorem size_of (l : List UInt8) : (⟨l.toArray⟩ : ByteArray).size = l.length := by simp [ByteArray.size]

/-- What the text of a node without an error is. -/
def noneText (n : Int) : ByteArray := ⟨([110, 111, 100, 101, 32] ++ Lib.itoa n ++ [58, 32, 110, 111, 110, 101]).toArray⟩

set_option maxHeartbeats 2000000 in
set_option maxRecDepth 100000 in
theorem text_atnil (a : Nat) (n : Int) (hn : -9223372036854775808 ≤ n ∧ n ≤ 9223372036854775807) (w : World) (ha : Blk w a 27 [.int .i64 n, .nilIface]) (htab : Tab w) :
    Calls Tryd.prog 20 #[.iface 23 (.pointer (some ⟨a, 0, none⟩))] w fun e w' => e = .returned (.string (noneText n)) ∧ Only [] w w' := by
  have hal := ha.lt
  have HB := Lib.hid (bld_new w (.map #[] 0))
  have HM := Lib.hid (map_new w (.cells #[.pointer none, .slice none 0 0] 81))
  have HW := Lib.hid (((Below.refl w.heap.size w).alloc (Nat.le_refl _) (.cells #[.pointer none, .slice none 0 0] 81)).alloc (by rw [World.size_alloc]; omega) (.map #[] 0))
  have hmm : ∀ w : World, (Instr.makeMap 82 none).run Tryd.prog w = .ok (.map (some w.heap.size)) (w.alloc (.map #[] 0)) := fun _ => by kernel_rfl
  have Ha := Lib.hid ((ha.alloc (.cells #[.pointer none, .slice none 0 0] 81)).alloc (.map #[] 0))
  have HTab := Lib.hid htab
  obtain ⟨d, hd⟩ : ∃ d : ByteArray, (⟨(Lib.itoa n).toArray⟩ : ByteArray) = d := ⟨_, rfl⟩
  have hdl : (d.size : Int) ≤ 21 := by rw [← hd, size_of]; have := itoa_len n hn; omega
  have HD := Lib.hid hd
  have HN := Lib.hid hn
  have hc1 : ¬ (9223372036854775807 : Int) < 5 + (d.size : Int) := by omega
  have hc2 : ¬ (9223372036854775807 : Int) < 5 + (d.size : Int) + 2 := by omega
  have hc3 : ¬ 9223372036854775807 < 5 + d.size := by omega
  have hc4 : ¬ 9223372036854775807 < 5 + d.size + 2 := by omega
  clear ha htab hd hn
  have k3 := atAt
  go_enter Tryd.func20, Tryd.ntmps20
  go_wp2_with fail
  generalize (w.alloc _).alloc _ = w1 at *
  refine wp_loop_rounds 2 ?_
  rw [rounds_succ]
  have hlk := seen_look HM.out
  obtain ⟨w2, hp, ho2⟩ := seen_put HM.out (some ⟨a, 0, none⟩) (.int .i64 1)
  have HO2 := Lib.hid ho2
  have HP := Lib.hid hp
  clear ho2 hp
  go_upto_region 16 with fail
  have hp := HP.out
  go_upto_region 17 with fail
  clear hlk hp HP
  have Ha2 := Lib.hid (HO2.out.heap Ha.out (by simp; omega))
  have HB2 := Lib.hid (builder_far HB.out HM.out HO2.out)
  have HW2 := Lib.hid (below_far HW.out HO2.out (by omega) (Nat.le_refl _))
  clear Ha HB HW HM HO2
  have c0 := (show Blk w2 a 27 _ from Ha2.out).cell 0
  simp only [List.getElem?_cons_zero] at c0
  go_wp2_with fail
  clear c0
  refine (Tryd.strconv_Itoa n HN.out.1 HN.out.2 _ (HTab.out.only (Only.of_below HW2.out []))).mono ?_
  rintro e w3 ⟨rfl, kk, os, hw3⟩
  have ho3 : Only [] w2 w3 := by rw [hw3]; exact Only.grow [] kk os
  have HB3 := Lib.hid (builder_only HB2.out ho3)
  have HW3 := Lib.hid (below_only HW2.out ho3 (Nat.le_refl _))
  have Ha3 := Lib.hid (ho3.heap Ha2.out (by simp))
  clear hw3 ho3 Ha2 HB2 HW2
  rw [HD.out]
  go_wp2_with fail
  obtain ⟨s1, hs1⟩ : ∃ s1 : ByteArray, (⟨#[110, 111, 100, 101, 32]⟩ ++ d ++ ⟨#[58, 32]⟩ : ByteArray) = s1 := ⟨_, rfl⟩
  have hsl : s1.size ≤ 28 := by
    rw [← hs1, ByteArray.size_append, ByteArray.size_append]
    have e1 : (⟨#[110, 111, 100, 101, 32]⟩ : ByteArray).size = 5 := rfl
    have e2 : (⟨#[58, 32]⟩ : ByteArray).size = 2 := rfl
    omega
  rw [hs1]
  have HS := Lib.hid hs1
  clear hs1 hdl hc1 hc2 hc3 hc4
  refine (writeString_any w.heap.size w.heap.size [] s1 _ HB3 (by simp; omega) HW3.out.size).mono ?_
  rintro e w4 ⟨rfl, hB4, hW4⟩
  have HB4 := Lib.hid hB4
  have HW4 := Lib.hid (HW3.out.trans hW4)
  have Ha4 := Lib.hid (Eq.trans (hW4.block a hal) Ha3.out)
  clear hB4 hW4 HB3 HW3 Ha3
  have c1 := (show Blk w4 a 27 _ from Ha4.out).cell 1
  simp only [List.getElem?_cons_zero, List.getElem?_cons_succ] at c1
  go_wp2_with fail
  clear c1 Ha4
  rw [rounds_succ]
  go_wp2_with fail
  refine (writeString_any w.heap.size w.heap.size _ _ _ HB4 (by
    have e3 : (⟨#[110, 111, 110, 101]⟩ : ByteArray).size = 4 := rfl
    rw [e3, List.nil_append, Array.length_toList]
    have : s1.data.size = s1.size := rfl
    omega) HW4.out.size).mono ?_
  rintro e w5 ⟨rfl, hB5, hW5⟩
  have HB5 := Lib.hid hB5
  have HW5 := Lib.hid (HW4.out.trans hW5)
  clear hB5 hW5 HB4 HW4
  go_wp2_with fail
  refine (string_any w.heap.size w.heap.size _ _ HB5 HW5.out.size).mono ?_
  rintro e w6 ⟨rfl, hW6⟩
  have HW6 := Lib.hid (HW5.out.trans hW6)
  clear hW6 HB5 HW5
  go_wp2_with fail
  go_ret
  have hfin : (⟨(s1.data.toList ++ [110, 111, 110, 101]).toArray⟩ : ByteArray) = noneText n := by
    rw [← HS.out, ← HD.out]
    unfold noneText
    apply ByteArray.ext
    simp
  exact ⟨congrArg (fun s => Ending.returned (.string s)) hfin, Only.of_below HW6.out []⟩

set_option maxHeartbeats 400000 in
theorem atErr_nil (w : World) : Calls Tryd.prog 7 #[.pointer none] w fun e w' => e = .returned (.string ⟨#[110, 111, 110, 101]⟩) ∧ w = w' := by
  go_enter Tryd.func7, Tryd.ntmps7
  go_wp2
  go_ret
  exact ⟨rfl, rfl⟩
set_option maxHeartbeats 400000 in
theorem atUnwrap_nil (w : World) : Calls Tryd.prog 8 #[.pointer none] w fun e w' => e = .returned .nilIface ∧ w = w' := by
  go_enter Tryd.func8, Tryd.ntmps8
  go_wp2
  go_ret
  exact ⟨rfl, rfl⟩
set_option maxHeartbeats 400000 in
theorem atErr_at (a : Nat) (n : Int) (hn : -9223372036854775808 ≤ n ∧ n ≤ 9223372036854775807) (w : World) (ha : Blk w a 27 [.int .i64 n, .nilIface]) (htab : Tab w) :
    Calls Tryd.prog 7 #[.pointer (some ⟨a, 0, none⟩)] w fun e w' => e = .returned (.string (noneText n)) ∧ Only [] w w' := by
  have Ha := Lib.hid ha
  have HT := Lib.hid htab
  have HN := Lib.hid hn
  clear ha htab hn
  go_enter Tryd.func7, Tryd.ntmps7
  go_wp2_with fail
  refine (text_atnil a n HN.out _ Ha.out HT.out).mono ?_
  rintro e w' ⟨rfl, ho⟩
  have HO := Lib.hid ho
  clear ho
  go_wp2
  go_ret
  exact ⟨rfl, HO.out⟩
end Go.Proofs.YtfelokgmoiblgaaDoor
