/-
  fail: an error in another at a node; a node without an error; another maker's error: endless, errors.Is.
-/
import Derived.Test.YtfelokgmoiblgaaDoorFailC
namespace Go.Proofs.YtfelokgmoiblgaaDoor
open Go.RowKit Go.Extern.Stop Go.Stop Go.Extern

theorem inUw (v : Value) (xT : TypeId) (w : World) : (Instr.typeAssert (.iface 55 v) xT 100 true).run Tryd.prog w = .ok (.tuple #[.iface 55 v, .bool true]) w := run_typeAssert_hasB Tryd.underlying100 (by kernel_rfl) v xT w
theorem inMethod (h : Value) (w : World) : (Go.method 100 55 h "Unwrap").run Tryd.prog w = .ok (87, h) w := by kernel_rfl
theorem inNoIs (v : Value) (xT : TypeId) (w : World) : (Instr.typeAssert (.iface 55 v) xT 102 true).run Tryd.prog w = .ok (.tuple #[.nilIface, .bool false]) w := run_typeAssert_lacksB Tryd.underlying102 (by kernel_rfl) (by kernel_rfl) v xT w
theorem esNoUw (v : Value) (xT : TypeId) (w : World) : (Instr.typeAssert (.iface 75 v) xT 100 true).run Tryd.prog w = .ok (.tuple #[.nilIface, .bool false]) w := run_typeAssert_lacksB Tryd.underlying100 (by kernel_rfl) (by kernel_rfl) v xT w
theorem esNoUws (v : Value) (xT : TypeId) (w : World) : (Instr.typeAssert (.iface 75 v) xT 101 true).run Tryd.prog w = .ok (.tuple #[.nilIface, .bool false]) w := run_typeAssert_lacksB Tryd.underlying101 (by kernel_rfl) (by kernel_rfl) v xT w
theorem esNoIs (v : Value) (xT : TypeId) (w : World) : (Instr.typeAssert (.iface 75 v) xT 102 true).run Tryd.prog w = .ok (.tuple #[.nilIface, .bool false]) w := run_typeAssert_lacksB Tryd.underlying102 (by kernel_rfl) (by kernel_rfl) v xT w
theorem eq_in_kind (u v : Value) (w : World) : (binOp .eql 25 (.iface 55 u) (.iface 60 v)).run Tryd.prog w = .ok (.bool false) w := run_eql_iface_types 55 60 u v Tryd.underlying25 (by decide) w
theorem eq_es_kind (u v : Value) (w : World) : (binOp .eql 25 (.iface 75 u) (.iface 60 v)).run Tryd.prog w = .ok (.bool false) w := run_eql_iface_types 75 60 u v Tryd.underlying25 (by decide) w

set_option maxHeartbeats 400000 in
theorem in_unwrap (g : Nat) (i : Value) (x : Value) (w : World) (hc : Blk w g 57 [i, x]) :
    Calls Tryd.prog 87 #[.pointer (some ⟨g, 0, none⟩)] w fun e w' => e = .returned x ∧ w' = w := by
  have c0 := hc.cell 0
  have c1 := hc.cell 1
  simp only [List.getElem?_cons_zero, List.getElem?_cons_succ] at c0 c1
  go_enter Tryd.func87, Tryd.ntmps87
  go_wp2
  go_ret
  exact ⟨rfl, rfl⟩

theorem Blk.ne {w : World} {g a : Nat} {t t' : TypeId} {c c' : List Value} (h : Blk w g t c) (h' : Blk w a t' c') (ht : t ≠ t') : g ≠ a := by
  intro e
  subst e
  have := h.symm.trans h'
  simp only [Option.some.injEq, Obj.cells.injEq] at this
  exact ht this.2.1

set_option maxHeartbeats 800000 in
set_option maxRecDepth 100000 in
theorem loops_in3 (k : Int) (b a : Nat) (s i : Value) (g : Nat) (w : World) (hc : Blk w g 3 [.int .i64 0]) (hb : Blk w b 57 [s, .iface 23 (.pointer (some ⟨a, 0, none⟩))]) (ha : Blk w a 27 [i, .iface 60 (.int .i64 k)]) :
    Calls Tryd.prog 45 #[.iface 55 (.pointer (some ⟨b, 0, none⟩)), .int .i64 0, .pointer (some ⟨g, 0, none⟩)] w fun e w' => e = .returned (.bool false) ∧ Only [g] w w' := by
  have h1 := kindNoUw
  have h2 := kindNoUws
  have h3 := atUw
  have h4 := atMethod
  have h5 := inUw
  have h6 := inMethod
  have hga : g ≠ a := hc.ne ha (by decide)
  have hgb : g ≠ b := hc.ne hb (by decide)
  have c0 := hc.cell 0
  have f0 := hc.frozen 0
  simp only [List.getElem?_cons_zero] at c0
  have Hc := Lib.hid hc
  have Ha := Lib.hid ha
  have Hb := Lib.hid hb
  have Hga := Lib.hid hga
  have Hgb := Lib.hid hgb
  clear hc ha hb hga hgb
  go_enter Tryd.func45, Tryd.ntmps45
  go_wp2
  refine wp_loop_rounds 3 ?_
  rw [rounds_succ]
  go_wp2_with fail
  have Hc1 := Lib.hid (Hc.out.set_ 0 (.int .i64 1))
  have Hb1 := Lib.hid (Hb.out.far (p := ⟨g, 0, none⟩) (by first | exact Hgb.out.symm | exact fun h => Hgb.out h.symm | exact Hgb.out) (.int .i64 1))
  have Ha1 := Lib.hid (Ha.out.far (p := ⟨g, 0, none⟩) (by first | exact Hga.out.symm | exact fun h => Hga.out h.symm | exact Hga.out) (.int .i64 1))
  have HO1 := Lib.hid ((Only.refl [g] w).setCell (p := ⟨g, 0, none⟩) (.inl (by simp)) (.int .i64 1))
  refine (in_unwrap b s _ _ Hb1.out).mono ?_
  rintro e w' ⟨rfl, rfl⟩
  clear Hc Ha Hb c0 f0
  generalize w.setCell ⟨g, 0, none⟩ (.int .i64 1) = w1 at *
  have c0 := Hc1.out.cell 0
  have f0 := Hc1.out.frozen 0
  simp only [List.set_cons_zero, List.getElem?_cons_zero] at c0
  go_wp2_with fail
  rw [rounds_succ]
  go_wp2_with fail
  have Hc2 := Lib.hid (Hc1.out.set_ 0 (.int .i64 2))
  have Ha2 := Lib.hid (Ha1.out.far (p := ⟨g, 0, none⟩) (by first | exact Hga.out.symm | exact fun h => Hga.out h.symm | exact Hga.out) (.int .i64 2))
  have HO2 := Lib.hid (HO1.out.setCell (p := ⟨g, 0, none⟩) (.inl (by simp)) (.int .i64 2))
  refine (at_unwrap a i _ _ Ha2.out).mono ?_
  rintro e w' ⟨rfl, rfl⟩
  clear Hc1 Ha1 Hb1 HO1 c0 f0
  generalize w1.setCell ⟨g, 0, none⟩ (.int .i64 2) = w2 at *
  have c0 := Hc2.out.cell 0
  have f0 := Hc2.out.frozen 0
  simp only [List.set_cons_zero, List.getElem?_cons_zero] at c0
  go_wp2_with fail
  rw [rounds_succ]
  go_wp2
  go_ret
  exact ⟨rfl, HO2.out.setCell (p := ⟨g, 0, none⟩) (.inl (by simp)) _⟩

set_option maxHeartbeats 800000 in
set_option maxRecDepth 100000 in
theorem loops_atnil (a : Nat) (i : Value) (g : Nat) (w : World) (hc : Blk w g 3 [.int .i64 0]) (ha : Blk w a 27 [i, .nilIface]) :
    Calls Tryd.prog 45 #[.iface 23 (.pointer (some ⟨a, 0, none⟩)), .int .i64 0, .pointer (some ⟨g, 0, none⟩)] w fun e w' => e = .returned (.bool false) ∧ Only [g] w w' := by
  have h3 := atUw
  have h4 := atMethod
  have c0 := hc.cell 0
  have f0 := hc.frozen 0
  simp only [List.getElem?_cons_zero] at c0
  have hga : g ≠ a := hc.ne ha (by decide)
  have Ha := Lib.hid ha
  have Hga := Lib.hid hga
  clear hc ha hga
  go_enter Tryd.func45, Tryd.ntmps45
  go_wp2
  refine wp_loop_rounds 2 ?_
  rw [rounds_succ]
  go_wp2_with (go_at_call 8; (with_reducible refine (at_unwrap a i _ _ (Ha.out.far (by first | exact Hga.out.symm | exact fun h => Hga.out h.symm) _)).mono ?_); rintro e w' ⟨rfl, rfl⟩)
  rw [rounds_succ]
  go_wp2
  go_ret
  exact ⟨rfl, (Only.refl [g] w).setCell (.inl (by simp)) _⟩

set_option maxHeartbeats 400000 in
set_option maxRecDepth 100000 in
theorem loops_es (p : Value) (g : Nat) (w : World) (hc : Blk w g 3 [.int .i64 0]) :
    Calls Tryd.prog 45 #[.iface 75 p, .int .i64 0, .pointer (some ⟨g, 0, none⟩)] w fun e w' => e = .returned (.bool false) ∧ Only [g] w w' := by
  have h1 := esNoUw
  have h2 := esNoUws
  have c0 := hc.cell 0
  have f0 := hc.frozen 0
  simp only [List.getElem?_cons_zero] at c0
  clear hc
  go_enter Tryd.func45, Tryd.ntmps45
  go_wp2
  refine wp_loop_rounds 1 ?_
  rw [rounds_succ]
  go_wp2
  go_ret
  exact ⟨rfl, (Only.refl [g] w).setCell (.inl (by simp)) _⟩

set_option maxHeartbeats 400000 in
set_option maxRecDepth 100000 in
theorem loops_nil (g : Nat) (w : World) :
    Calls Tryd.prog 45 #[.nilIface, .int .i64 0, .pointer (some ⟨g, 0, none⟩)] w fun e w' => e = .returned (.bool false) ∧ Only [g] w w' := by
  go_enter Tryd.func45, Tryd.ntmps45
  go_wp2
  refine wp_loop_rounds 1 ?_
  rw [rounds_succ]
  go_wp2
  go_ret
  exact ⟨rfl, Only.refl _ _⟩

set_option maxHeartbeats 400000 in
theorem endless_in3 (k : Int) (b a : Nat) (s i : Value) (w : World) (hb : Blk w b 57 [s, .iface 23 (.pointer (some ⟨a, 0, none⟩))]) (ha : Blk w a 27 [i, .iface 60 (.int .i64 k)]) : Calls Tryd.prog 30 #[.iface 55 (.pointer (some ⟨b, 0, none⟩))] w fun e w' => e = .returned (.bool false) ∧ Only [] w w' := by
  have ha' := ha.alloc (.cells #[.int .i64 0] 3)
  have hb' := hb.alloc (.cells #[.int .i64 0] 3)
  clear ha hb
  have hB := Blk.new w 3 [.int .i64 0]
  have ho := (Only.refl [] w).alloc (.cells #[.int .i64 0] 3)
  go_enter Tryd.func30, Tryd.ntmps30
  go_wp2_with (go_at_call 45; (with_reducible refine (loops_in3 k b a s i _ _ hB hb' ha').mono ?_); rintro e w' ⟨rfl, ho1⟩)
  go_ret
  refine ⟨rfl, ho.trans ho1 (fun b hb => .inr ?_)⟩
  have : b = w.heap.size := by simpa using hb
  omega
set_option maxHeartbeats 400000 in
theorem endless_atnil (a : Nat) (i : Value) (w : World) (ha : Blk w a 27 [i, .nilIface]) : Calls Tryd.prog 30 #[.iface 23 (.pointer (some ⟨a, 0, none⟩))] w fun e w' => e = .returned (.bool false) ∧ Only [] w w' := by
  have ha' := ha.alloc (.cells #[.int .i64 0] 3)
  clear ha
  have hB := Blk.new w 3 [.int .i64 0]
  have ho := (Only.refl [] w).alloc (.cells #[.int .i64 0] 3)
  go_enter Tryd.func30, Tryd.ntmps30
  go_wp2_with (go_at_call 45; (with_reducible refine (loops_atnil a i _ _ hB ha').mono ?_); rintro e w' ⟨rfl, ho1⟩)
  go_ret
  refine ⟨rfl, ho.trans ho1 (fun b hb => .inr ?_)⟩
  have : b = w.heap.size := by simpa using hb
  omega
set_option maxHeartbeats 400000 in
theorem endless_es (p : Value) (w : World) : Calls Tryd.prog 30 #[.iface 75 p] w fun e w' => e = .returned (.bool false) ∧ Only [] w w' := by
  have hB := Blk.new w 3 [.int .i64 0]
  have ho := (Only.refl [] w).alloc (.cells #[.int .i64 0] 3)
  go_enter Tryd.func30, Tryd.ntmps30
  go_wp2_with (go_at_call 45; (with_reducible refine (loops_es p _ _ hB).mono ?_); rintro e w' ⟨rfl, ho1⟩)
  go_ret
  refine ⟨rfl, ho.trans ho1 (fun b hb => .inr ?_)⟩
  have : b = w.heap.size := by simpa using hb
  omega
set_option maxHeartbeats 400000 in
theorem endless_nil (w : World) : Calls Tryd.prog 30 #[.nilIface] w fun e w' => e = .returned (.bool false) ∧ Only [] w w' := by
  have hB := Blk.new w 3 [.int .i64 0]
  have ho := (Only.refl [] w).alloc (.cells #[.int .i64 0] 3)
  go_enter Tryd.func30, Tryd.ntmps30
  go_wp2_with (go_at_call 45; (with_reducible refine (loops_nil _ _).mono ?_); rintro e w' ⟨rfl, ho1⟩)
  go_ret
  refine ⟨rfl, ho.trans ho1 (fun b hb => .inr ?_)⟩
  have : b = w.heap.size := by simpa using hb
  omega

set_option maxHeartbeats 800000 in
set_option maxRecDepth 100000 in
theorem is_in3 (k j : Int) (b a : Nat) (s i : Value) (w : World) (hb : Blk w b 57 [s, .iface 23 (.pointer (some ⟨a, 0, none⟩))]) (ha : Blk w a 27 [i, .iface 60 (.int .i64 k)]) :
    Calls Tryd.prog 38 #[.iface 55 (.pointer (some ⟨b, 0, none⟩)), .iface 60 (.int .i64 j), .bool true] w fun e w' => e = .returned (.bool (k == j)) ∧ w' = w := by
  have h1 := kindNoUw
  have h2 := kindNoUws
  have h3 := kindNoIs
  have h4 := eq_kind
  have h5 := atNoIs
  have h6 := atUw
  have h7 := atMethod
  have h8 := eq_at_kind
  have h9 := inNoIs
  have h10 := inUw
  have h11 := inMethod
  have h12 := eq_in_kind
  go_enter Tryd.func38, Tryd.ntmps38
  go_wp2
  refine wp_loop_rounds 3 ?_
  rw [rounds_succ]
  go_wp2_with (go_at_call 87; (with_reducible refine (in_unwrap b s _ _ hb).mono ?_); rintro e w' ⟨rfl, rfl⟩)
  rw [rounds_succ]
  go_wp2_with (go_at_call 8; (with_reducible refine (at_unwrap a i _ _ ha).mono ?_); rintro e w' ⟨rfl, rfl⟩)
  rw [rounds_succ]
  go_wp2
  all_goals go_ret
  all_goals rename_i h
  all_goals exact ⟨by simp [h], rfl⟩

set_option maxHeartbeats 800000 in
set_option maxRecDepth 100000 in
theorem is_atnil (j : Int) (a : Nat) (i : Value) (w : World) (ha : Blk w a 27 [i, .nilIface]) :
    Calls Tryd.prog 38 #[.iface 23 (.pointer (some ⟨a, 0, none⟩)), .iface 60 (.int .i64 j), .bool true] w fun e w' => e = .returned (.bool false) ∧ w' = w := by
  have h5 := atNoIs
  have h6 := atUw
  have h7 := atMethod
  have h8 := eq_at_kind
  go_enter Tryd.func38, Tryd.ntmps38
  go_wp2
  refine wp_loop_rounds 1 ?_
  rw [rounds_succ]
  go_wp2_with (go_at_call 8; (with_reducible refine (at_unwrap a i _ _ ha).mono ?_); rintro e w' ⟨rfl, rfl⟩)
  go_ret
  exact ⟨rfl, rfl⟩

set_option maxHeartbeats 800000 in
set_option maxRecDepth 100000 in
theorem is_es (j : Int) (p : Value) (w : World) :
    Calls Tryd.prog 38 #[.iface 75 p, .iface 60 (.int .i64 j), .bool true] w fun e w' => e = .returned (.bool false) ∧ w' = w := by
  have h5 := esNoIs
  have h6 := esNoUw
  have h7 := esNoUws
  have h8 := eq_es_kind
  go_enter Tryd.func38, Tryd.ntmps38
  go_wp2
  refine wp_loop_rounds 1 ?_
  rw [rounds_succ]
  go_wp2
  go_ret
  exact ⟨rfl, rfl⟩

set_option maxHeartbeats 400000 in
set_option maxRecDepth 100000 in
theorem Is_in3 (k j : Int) (b a : Nat) (s i : Value) (w : World) (hb : Blk w b 57 [s, .iface 23 (.pointer (some ⟨a, 0, none⟩))]) (ha : Blk w a 27 [i, .iface 60 (.int .i64 k)]) :
    Calls Tryd.prog 17 #[.iface 55 (.pointer (some ⟨b, 0, none⟩)), .iface 60 (.int .i64 j)] w fun e w' => e = .returned (.bool (k == j)) ∧ w' = w := by
  have h1 := @run_callFunc_extern Tryd.prog 37 _ ReflectliteType.typeOf Tryd.func37 (by kernel_rfl) (by kernel_rfl) (by kernel_rfl) (by kernel_rfl)
  have h2 := kindType
  have h3 := kindComp
  go_enter Tryd.func17, Tryd.ntmps17
  go_wp2_with (go_at_call 38; (with_reducible refine (is_in3 k j b a s i _ hb ha).mono ?_); rintro e w' ⟨rfl, rfl⟩)
  go_ret
  exact ⟨rfl, rfl⟩
set_option maxHeartbeats 400000 in
set_option maxRecDepth 100000 in
theorem Is_atnil (j : Int) (a : Nat) (i : Value) (w : World) (ha : Blk w a 27 [i, .nilIface]) :
    Calls Tryd.prog 17 #[.iface 23 (.pointer (some ⟨a, 0, none⟩)), .iface 60 (.int .i64 j)] w fun e w' => e = .returned (.bool false) ∧ w' = w := by
  have h1 := @run_callFunc_extern Tryd.prog 37 _ ReflectliteType.typeOf Tryd.func37 (by kernel_rfl) (by kernel_rfl) (by kernel_rfl) (by kernel_rfl)
  have h2 := kindType
  have h3 := kindComp
  go_enter Tryd.func17, Tryd.ntmps17
  go_wp2_with (go_at_call 38; (with_reducible refine (is_atnil j a i _ ha).mono ?_); rintro e w' ⟨rfl, rfl⟩)
  go_ret
  exact ⟨rfl, rfl⟩
set_option maxHeartbeats 400000 in
set_option maxRecDepth 100000 in
theorem Is_es (j : Int) (p : Value) (w : World) :
    Calls Tryd.prog 17 #[.iface 75 p, .iface 60 (.int .i64 j)] w fun e w' => e = .returned (.bool false) ∧ w' = w := by
  have h1 := @run_callFunc_extern Tryd.prog 37 _ ReflectliteType.typeOf Tryd.func37 (by kernel_rfl) (by kernel_rfl) (by kernel_rfl) (by kernel_rfl)
  have h2 := kindType
  have h3 := kindComp
  go_enter Tryd.func17, Tryd.ntmps17
  go_wp2_with (go_at_call 38; (with_reducible refine (is_es j p _).mono ?_); rintro e w' ⟨rfl, rfl⟩)
  go_ret
  exact ⟨rfl, rfl⟩
end Go.Proofs.YtfelokgmoiblgaaDoor
