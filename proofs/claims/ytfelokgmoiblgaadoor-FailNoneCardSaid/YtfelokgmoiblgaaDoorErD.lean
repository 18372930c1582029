/-
  fail: the text of an error in another at a node, and of a node without an error.
-/
import Derived.Test.YtfelokgmoiblgaaDoorErC
namespace Go.Proofs.YtfelokgmoiblgaaDoor
open Go.RowKit Go.Extern.Stop Go.Stop Go.Extern Go.ChangeMaps
set_option linter.unusedSimpArgs false

theorem builder_far {w w' : World} {T e : TypeId} {B b m c : Nat} {bs : List Value} (h : Lib.IsBuilderF T e B b bs w) (hm : w.heap[m]? = some (.map #[] c)) (ho : Only [m] w w') : Lib.IsBuilderF T e B b bs w' := by
  have key : ∀ p, Lib.BuilderAtF T e B b p bs w → Lib.BuilderAtF T e B b p bs w' := by
    rintro p ⟨hB, v, hb, ⟨h0, h1⟩, hne⟩
    have hmb : b ∉ [m] := by
      rw [List.mem_singleton]
      rintro rfl
      rw [hb] at hm
      simp at hm
    refine ⟨hB, v, ho.heap hb hmb, ⟨h0, ?_⟩, hne⟩
    rcases h1 with h1 | ⟨g, cap, cur, fz, rfl, hbg, hg, h2⟩
    · exact .inl h1
    · refine .inr ⟨g, cap, cur, fz, rfl, hbg, ho.heap hg ?_, h2⟩
      rw [List.mem_singleton]
      rintro rfl
      rw [hg] at hm
      simp at hm
  rcases h with h | h
  · exact .inl (key _ h)
  · exact .inr (key _ h)
theorem below_far {w w1 w2 : World} {B m : Nat} (h : Below B w w1) (ho : Only [m] w1 w2) (hm : B ≤ m) (hB : B ≤ w.heap.size) : Below B w w2 :=
  ⟨ho.os.trans h.os, ho.tape.trans h.tape, ho.output.trans h.output, Nat.le_trans h.size ho.size, fun k hk => (ho.block k (Nat.lt_of_lt_of_le hk (Nat.le_trans hB h.size)) (by rw [List.mem_singleton]; omega)).trans (h.block k hk)⟩
theorem map_new (w : World) (o : Obj) : ((w.alloc o).alloc (.map #[] 0)).heap[w.heap.size + 1]? = some (.map #[] 0) := by
  have := heap_alloc_new (w.alloc o) (.map #[] 0)
  rwa [World.size_alloc] at this
theorem bld_new (w : World) (o : Obj) : Lib.IsBuilderF 81 5 w.heap.size w.heap.size (Lib.byteCells []) ((w.alloc (.cells #[.pointer none, .slice none 0 0] 81)).alloc o) :=
  builder_only (w := w.alloc (.cells #[.pointer none, .slice none 0 0] 81)) (.inl ⟨Nat.le_refl _, .slice none 0 0, heap_alloc_new w _, World.ownsRowF_nil _ _ _ _, by simp [Value.ownBlock]⟩) ((Only.refl [] _).alloc _)


theorem inAt (v : Value) (xT : TypeId) (w : World) : (Instr.typeAssert (.iface 55 v) xT 23 true).run Tryd.prog w = .ok (.tuple #[.pointer none, .bool false]) w := by kernel_rfl
theorem inIn (v : Value) (xT : TypeId) (w : World) : (Instr.typeAssert (.iface 55 v) xT 55 true).run Tryd.prog w = .ok (.tuple #[v, .bool true]) w := by kernel_rfl
theorem atAt (v : Value) (xT : TypeId) (w : World) : (Instr.typeAssert (.iface 23 v) xT 23 true).run Tryd.prog w = .ok (.tuple #[v, .bool true]) w := by kernel_rfl
theorem kindAt (v : Value) (xT : TypeId) (w : World) : (Instr.typeAssert (.iface 60 v) xT 23 true).run Tryd.prog w = .ok (.tuple #[.pointer none, .bool false]) w := by kernel_rfl
theorem kindIn (v : Value) (xT : TypeId) (w : World) : (Instr.typeAssert (.iface 60 v) xT 55 true).run Tryd.prog w = .ok (.tuple #[.pointer none, .bool false]) w := by kernel_rfl

set_option maxHeartbeats 2000000 in
set_option maxRecDepth 100000 in
theorem text_in3 (b a : Nat) (w : World) (hb : Blk w b 57 [.string ⟨#[115, 105, 103, 110]⟩, .iface 23 (.pointer (some ⟨a, 0, none⟩))]) (ha : Blk w a 27 [.int .i64 3, .iface 60 (.int .i64 3)]) :
    Calls Tryd.prog 20 #[.iface 55 (.pointer (some ⟨b, 0, none⟩))] w fun e w' => e = .returned (.string ⟨#[115, 105, 103, 110, 58, 32, 110, 111, 100, 101, 32, 51, 58, 32, 114, 111, 111, 116, 32, 111, 102, 32, 97, 32, 110, 101, 103, 97, 116, 105, 118, 101, 32, 110, 117, 109, 98, 101, 114]⟩) ∧ Only [] w w' := by
  have hal := ha.lt
  have hbl := hb.lt
  have HB := Lib.hid (bld_new w (.map #[] 0))
  have HM := Lib.hid (map_new w (.cells #[.pointer none, .slice none 0 0] 81))
  have HW := Lib.hid (((Below.refl w.heap.size w).alloc (Nat.le_refl _) (.cells #[.pointer none, .slice none 0 0] 81)).alloc (by rw [World.size_alloc]; omega) (.map #[] 0))
  have hmm : ∀ w : World, (Instr.makeMap 82 none).run Tryd.prog w = .ok (.map (some w.heap.size)) (w.alloc (.map #[] 0)) := fun _ => by kernel_rfl
  have Ha := Lib.hid ((ha.alloc (.cells #[.pointer none, .slice none 0 0] 81)).alloc (.map #[] 0))
  have Hb := Lib.hid ((hb.alloc (.cells #[.pointer none, .slice none 0 0] 81)).alloc (.map #[] 0))
  clear ha hb
  have k1 := inAt
  have k2 := inIn
  have k3 := atAt
  have k4 := kindAt
  have k5 := kindIn
  obtain ⟨tx, htx⟩ : ∃ tx, kindText 3 = tx := ⟨_, rfl⟩
  have HT := Lib.hid htx
  clear htx
  go_enter Tryd.func20, Tryd.ntmps20
  go_wp2_with fail
  generalize (w.alloc _).alloc _ = w0 at *
  refine wp_loop_rounds 3 ?_
  rw [rounds_succ]
  have c0 := Hb.out.cell 0
  have c1 := Hb.out.cell 1
  simp only [List.getElem?_cons_zero, List.getElem?_cons_succ] at c0 c1
  go_wp2_with fail
  clear c0 c1
  refine (writeString_map w.heap.size w.heap.size (w.heap.size + 1) 0 [] _ _ HB (by decide) HW.out.size HM).mono ?_
  rintro e w1 ⟨rfl, hB1, hW1, hM1⟩
  have HB1 := Lib.hid hB1
  have HW1 := Lib.hid (HW.out.trans hW1)
  have HM1 := Lib.hid hM1
  have Ha1 := Lib.hid (Eq.trans (hW1.block a hal) Ha.out)
  have Hb1 := Lib.hid (Eq.trans (hW1.block b hbl) Hb.out)
  clear hB1 hW1 hM1 HB HM HW Ha Hb
  have c1 := (show Blk w1 b 57 _ from Hb1.out).cell 1
  simp only [List.getElem?_cons_zero, List.getElem?_cons_succ] at c1
  go_wp2_with fail
  clear c1
  rw [rounds_succ]
  have hlk := seen_look HM1.out
  obtain ⟨w2, hp, ho2⟩ := seen_put HM1.out (some ⟨a, 0, none⟩) (.int .i64 1)
  have HO2 := Lib.hid ho2
  have HP := Lib.hid hp
  clear ho2 hp
  go_upto_region 16 with fail
  have hp := HP.out
  have hms : ∀ ty, (Instr.mapUpdate 82 (.map (some (w.heap.size + 1))) (.pointer (some ⟨a, 0, none⟩)) (.int .i64 1)).run Tryd.prog w1 = .ok ty w2 → True := fun _ _ => trivial
  clear hms
  go_upto_region 17 with fail
  clear hlk hp HP
  have Ha2 := Lib.hid (HO2.out.heap Ha1.out (by simp; omega))
  have HB2 := Lib.hid (builder_far HB1.out HM1.out HO2.out)
  have HW2 := Lib.hid (below_far HW1.out HO2.out (by omega) (Nat.le_refl _))
  clear Ha1 Hb1 HB1 HW1 HM1 HO2
  have c0 := (show Blk w2 a 27 _ from Ha2.out).cell 0
  simp only [List.getElem?_cons_zero] at c0
  go_wp2_with fail
  clear c0
  refine (Tryd.strconv_Itoa_small 3 (by omega) _).mono ?_
  rintro e w' ⟨rfl, rfl⟩
  rw [show (⟨(Lib.decDigits 3).toArray⟩ : ByteArray) = ⟨#[51]⟩ by decide +kernel]
  go_wp2_with fail
  refine (writeString_any w.heap.size w.heap.size _ _ _ HB2 (by decide) HW2.out.size).mono ?_
  rintro e w3 ⟨rfl, hB3, hW3⟩
  have HB3 := Lib.hid hB3
  have HW3 := Lib.hid (HW2.out.trans hW3)
  have Ha3 := Lib.hid (Eq.trans (hW3.block a hal) Ha2.out)
  clear hB3 hW3 HB2 HW2 Ha2
  have c1 := (show Blk w3 a 27 _ from Ha3.out).cell 1
  simp only [List.getElem?_cons_zero, List.getElem?_cons_succ] at c1
  go_wp2_with fail
  clear c1 Ha3
  rw [rounds_succ]
  go_wp2_with fail
  refine (foreign_kind 3 (by omega) _).mono ?_
  rintro e w4 ⟨rfl, ho4⟩
  rw [HT.out]
  have HB4 := Lib.hid (builder_only HB3.out ho4)
  have HW4 := Lib.hid (below_only HW3.out ho4 (Nat.le_refl _))
  clear ho4 HB3 HW3
  go_wp2_with fail
  refine (writeString_any w.heap.size w.heap.size _ _ _ HB4 (by rw [← HT.out]; decide) HW4.out.size).mono ?_
  rintro e w5 ⟨rfl, hB5, hW5⟩
  have HB5 := Lib.hid hB5
  have HW5 := Lib.hid (HW4.out.trans hW5)
  clear hB5 hW5 HB4 HW4
  go_wp2_with fail
  refine (string_any w.heap.size w.heap.size _ _ HB5 HW5.out.size).mono ?_
  rintro e w6 ⟨rfl, hW6⟩
  have HW6 := Lib.hid (HW5.out.trans hW6)
  clear hW6 HB5 HW5
  go_wp2_with fail
  go_ret
  refine ⟨?_, Only.of_below HW6.out []⟩
  rw [← HT.out]
  rfl
end Go.Proofs.YtfelokgmoiblgaaDoor
