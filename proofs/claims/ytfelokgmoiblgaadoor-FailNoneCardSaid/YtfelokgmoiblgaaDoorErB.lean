/-
  fail: errors.As, Where and Code at an error in another at a node, at a node without an error, at another maker's error, at none.
-/
import Derived.Test.YtfelokgmoiblgaaDoorErA
import Derived.Test.YtfelokgmoiblgaaDoorFailD
namespace Go.Proofs.YtfelokgmoiblgaaDoor
open Go.RowKit Go.Extern.Stop Go.Stop Go.Extern

theorem as_typeOfIn (v : Value) (w : World) : (ReflectliteType.typeOf #[.iface 55 v]).run Tryd.prog w = .ok (.iface 93 (.agg #[.pointer (some ⟨4, 55, none⟩)])) w := by kernel_rfl
theorem as_assignIn (w : World) : (ReflectliteType.relation "AssignableTo" ReflectliteType.assignableTo #[.agg #[.pointer (some ⟨4, 55, none⟩)], .iface 93 (.agg #[.pointer (some ⟨4, 23, none⟩)])]).run Tryd.prog w = .ok (.bool false) w := by kernel_rfl
theorem as_assignKind (w : World) : (ReflectliteType.relation "AssignableTo" ReflectliteType.assignableTo #[.agg #[.pointer (some ⟨4, 60, none⟩)], .iface 93 (.agg #[.pointer (some ⟨4, 23, none⟩)])]).run Tryd.prog w = .ok (.bool false) w := by kernel_rfl
theorem inNoAs (v : Value) (xT : TypeId) (w : World) : (Instr.typeAssert (.iface 55 v) xT 97 true).run Tryd.prog w = .ok (.tuple #[.nilIface, .bool false]) w := run_typeAssert_lacksB Tryd.underlying97 (by kernel_rfl) (by kernel_rfl) v xT w
theorem kindNoAs (v : Value) (xT : TypeId) (w : World) : (Instr.typeAssert (.iface 60 v) xT 97 true).run Tryd.prog w = .ok (.tuple #[.nilIface, .bool false]) w := run_typeAssert_lacksB Tryd.underlying97 (by kernel_rfl) (by kernel_rfl) v xT w

set_option maxHeartbeats 4000000 in
theorem as_kind (k : Int) (t : Addr) (old : Value) (w : World) (hg : w.cell? ⟨0, 0, none⟩ = some (.iface 93 (.agg #[.pointer (some ⟨4, 25, none⟩)]))) (ht0 : w.cell? t = some old) :
    Calls Tryd.prog 16 #[.iface 60 (.int .i64 k), .iface 45 (.pointer (some t))] w fun ev w' => ev = .returned (.bool false) ∧ Only [] w w' := by
  have h6 := @run_callFunc_extern Tryd.prog 33 _ (fun args => ReflectliteValue.unpack (args.getD 0 (.tuple #[]))) Tryd.func33 (by kernel_rfl) (by kernel_rfl) (by kernel_rfl) (by kernel_rfl)
  have h7 := @run_callFunc_extern Tryd.prog 34 _ (ReflectliteValue.methodAny (ReflectliteValue.valueError "reflectlite.Value.Type" 0) (fun t _ _ _ => ReflectliteType.toType t)) Tryd.func34 (by kernel_rfl) (by kernel_rfl) (by kernel_rfl) (by kernel_rfl)
  have h8 := @run_callFunc_extern Tryd.prog 35 _ (ReflectliteValue.method (ReflectliteValue.valueError "reflectlite.Value.IsNil" 0) ReflectliteValue.isNil) Tryd.func35 (by kernel_rfl) (by kernel_rfl) (by kernel_rfl) (by kernel_rfl)
  have h27 := @run_callFunc_extern Tryd.prog 83 _ (ReflectliteType.abiMethod fun t => do pure (.int .u8 (← Rtype.kind t))) Tryd.func83 (by kernel_rfl) (by kernel_rfl) (by kernel_rfl) (by kernel_rfl)
  have h37 := @run_callFunc_extern Tryd.prog 97 _ (ReflectliteType.method ReflectliteType.elem) Tryd.func97 (by kernel_rfl) (by kernel_rfl) (by kernel_rfl) (by kernel_rfl)
  have h38 := @run_callFunc_extern Tryd.prog 98 _ (ReflectliteType.relation "Implements" ReflectliteType.implements_) Tryd.func98 (by kernel_rfl) (by kernel_rfl) (by kernel_rfl) (by kernel_rfl)
  have h10 := @run_callFunc_extern Tryd.prog 37 _ ReflectliteType.typeOf Tryd.func37 (by kernel_rfl) (by kernel_rfl) (by kernel_rfl) (by kernel_rfl)
  have h35 := @run_callFunc_extern Tryd.prog 95 _ (ReflectliteType.relation "AssignableTo" ReflectliteType.assignableTo) Tryd.func95 (by kernel_rfl) (by kernel_rfl) (by kernel_rfl) (by kernel_rfl)
  have h11 := @run_callFunc_extern Tryd.prog 47 _ (ReflectliteValue.method (ReflectliteValue.valueError "reflectlite.Value.Elem" 0) ReflectliteValue.elem) Tryd.func47 (by kernel_rfl) (by kernel_rfl) (by kernel_rfl) (by kernel_rfl)
  have h12 := @run_callFunc_extern Tryd.prog 48 _ ReflectliteValue.set Tryd.func48 (by kernel_rfl) (by kernel_rfl) (by kernel_rfl) (by kernel_rfl)
  have tO := as_typeOf25
  have mA := as_methodAssignableTo
  have a25 := as_assignable25
  have v25 := as_valueOf25
  have f6 := as_valueOf27
  have f7 := as_type27
  have mK := as_methodKind
  have mE := as_methodElem
  have mI := as_methodImplements
  have k27 := as_kind27
  have k25 := as_kind25
  have e27 := as_elem27
  have i25 := as_implements25
  have n8 := as_isNil27 ⟨w.heap.size, 0, none⟩ t ((w.alloc (.cells #[.pointer (some t)] 45)).alloc (.cells #[.pointer (some ⟨4, 45, none⟩), .pointer (some ⟨w.heap.size, 0, none⟩), .int .u64 150] 64)) (by simp)
  have hlt : 0 < w.heap.size := by
    rcases Nat.eq_zero_or_pos w.heap.size with h0 | h
    · simp [World.cell?, h0] at hg
    · exact h
  have hg2 : ((w.alloc (.cells #[.pointer (some t)] 45)).alloc (.cells #[.pointer (some ⟨4, 45, none⟩), .pointer (some ⟨w.heap.size, 0, none⟩), .int .u64 150] 64)).cell? ⟨0, 0, none⟩ = some (.iface 93 (.agg #[.pointer (some ⟨4, 25, none⟩)])) := by
    rw [World.cell?_alloc_lt _ _ ⟨0, 0, none⟩ (by simp), World.cell?_alloc_lt _ _ ⟨0, 0, none⟩ hlt]; exact hg
  have htl : t.block < w.heap.size := by
    rcases Nat.lt_or_ge t.block w.heap.size with h | h
    · exact h
    · simp [World.cell?, Array.getElem?_eq_none h] at ht0
  have el := as_elemV27 ⟨w.heap.size, 0, none⟩ t (((w.alloc (.cells #[.pointer (some t)] 45)).alloc (.cells #[.pointer (some ⟨4, 45, none⟩), .pointer (some ⟨w.heap.size, 0, none⟩), .int .u64 150] 64)).alloc (.cells #[.pointer (some ⟨4, 45, none⟩), .pointer (some ⟨w.heap.size, 0, none⟩), .int .u64 150] 64)) (by rw [World.cell?_alloc_lt _ _ ⟨w.heap.size, 0, none⟩ (by simp; omega)]; simp)
  have q1 := kindType
  have q2 := as_assignKind
  have q3 := kindNoAs
  have q4 := kindNoUw
  have q5 := kindNoUws
  go_enter Tryd.func16, Tryd.ntmps16
  go_wp2
  refine wp_loop_rounds 1 ?_
  rw [rounds_succ]
  go_wp2
  go_ret
  exact ⟨rfl, (((Only.refl [] w).alloc _).alloc _).alloc _⟩

set_option maxHeartbeats 4000000 in
theorem as_in3 (b : Nat) (s : Value) (e t : Addr) (old : Value) (w : World) (hb : Blk w b 57 [s, .iface 23 (.pointer (some e))]) (hg : w.cell? ⟨0, 0, none⟩ = some (.iface 93 (.agg #[.pointer (some ⟨4, 25, none⟩)]))) (ht0 : w.cell? t = some old) (hf0 : w.frozen? t = false) :
    Calls Tryd.prog 16 #[.iface 55 (.pointer (some ⟨b, 0, none⟩)), .iface 45 (.pointer (some t))] w fun ev w' => ev = .returned (.bool true) ∧ w' = ((((w.alloc (.cells #[.pointer (some t)] 45)).alloc (.cells #[.pointer (some ⟨4, 45, none⟩), .pointer (some ⟨w.heap.size, 0, none⟩), .int .u64 150] 64)).alloc (.cells #[.pointer (some ⟨4, 45, none⟩), .pointer (some ⟨w.heap.size, 0, none⟩), .int .u64 150] 64)).alloc (.cells #[.pointer (some e)] 23)).setCell t (.pointer (some e)) := by
  have h6 := @run_callFunc_extern Tryd.prog 33 _ (fun args => ReflectliteValue.unpack (args.getD 0 (.tuple #[]))) Tryd.func33 (by kernel_rfl) (by kernel_rfl) (by kernel_rfl) (by kernel_rfl)
  have h7 := @run_callFunc_extern Tryd.prog 34 _ (ReflectliteValue.methodAny (ReflectliteValue.valueError "reflectlite.Value.Type" 0) (fun t _ _ _ => ReflectliteType.toType t)) Tryd.func34 (by kernel_rfl) (by kernel_rfl) (by kernel_rfl) (by kernel_rfl)
  have h8 := @run_callFunc_extern Tryd.prog 35 _ (ReflectliteValue.method (ReflectliteValue.valueError "reflectlite.Value.IsNil" 0) ReflectliteValue.isNil) Tryd.func35 (by kernel_rfl) (by kernel_rfl) (by kernel_rfl) (by kernel_rfl)
  have h27 := @run_callFunc_extern Tryd.prog 83 _ (ReflectliteType.abiMethod fun t => do pure (.int .u8 (← Rtype.kind t))) Tryd.func83 (by kernel_rfl) (by kernel_rfl) (by kernel_rfl) (by kernel_rfl)
  have h37 := @run_callFunc_extern Tryd.prog 97 _ (ReflectliteType.method ReflectliteType.elem) Tryd.func97 (by kernel_rfl) (by kernel_rfl) (by kernel_rfl) (by kernel_rfl)
  have h38 := @run_callFunc_extern Tryd.prog 98 _ (ReflectliteType.relation "Implements" ReflectliteType.implements_) Tryd.func98 (by kernel_rfl) (by kernel_rfl) (by kernel_rfl) (by kernel_rfl)
  have h10 := @run_callFunc_extern Tryd.prog 37 _ ReflectliteType.typeOf Tryd.func37 (by kernel_rfl) (by kernel_rfl) (by kernel_rfl) (by kernel_rfl)
  have h35 := @run_callFunc_extern Tryd.prog 95 _ (ReflectliteType.relation "AssignableTo" ReflectliteType.assignableTo) Tryd.func95 (by kernel_rfl) (by kernel_rfl) (by kernel_rfl) (by kernel_rfl)
  have h11 := @run_callFunc_extern Tryd.prog 47 _ (ReflectliteValue.method (ReflectliteValue.valueError "reflectlite.Value.Elem" 0) ReflectliteValue.elem) Tryd.func47 (by kernel_rfl) (by kernel_rfl) (by kernel_rfl) (by kernel_rfl)
  have h12 := @run_callFunc_extern Tryd.prog 48 _ ReflectliteValue.set Tryd.func48 (by kernel_rfl) (by kernel_rfl) (by kernel_rfl) (by kernel_rfl)
  have tO := as_typeOf25
  have mA := as_methodAssignableTo
  have a25 := as_assignable25
  have v25 := as_valueOf25
  have f6 := as_valueOf27
  have f7 := as_type27
  have mK := as_methodKind
  have mE := as_methodElem
  have mI := as_methodImplements
  have k27 := as_kind27
  have k25 := as_kind25
  have e27 := as_elem27
  have i25 := as_implements25
  have n8 := as_isNil27 ⟨w.heap.size, 0, none⟩ t ((w.alloc (.cells #[.pointer (some t)] 45)).alloc (.cells #[.pointer (some ⟨4, 45, none⟩), .pointer (some ⟨w.heap.size, 0, none⟩), .int .u64 150] 64)) (by simp)
  have hlt : 0 < w.heap.size := by
    rcases Nat.eq_zero_or_pos w.heap.size with h0 | h
    · simp [World.cell?, h0] at hg
    · exact h
  have hg2 : ((w.alloc (.cells #[.pointer (some t)] 45)).alloc (.cells #[.pointer (some ⟨4, 45, none⟩), .pointer (some ⟨w.heap.size, 0, none⟩), .int .u64 150] 64)).cell? ⟨0, 0, none⟩ = some (.iface 93 (.agg #[.pointer (some ⟨4, 25, none⟩)])) := by
    rw [World.cell?_alloc_lt _ _ ⟨0, 0, none⟩ (by simp), World.cell?_alloc_lt _ _ ⟨0, 0, none⟩ hlt]; exact hg
  have htl : t.block < w.heap.size := by
    rcases Nat.lt_or_ge t.block w.heap.size with h | h
    · exact h
    · simp [World.cell?, Array.getElem?_eq_none h] at ht0
  have el := as_elemV27 ⟨w.heap.size, 0, none⟩ t (((w.alloc (.cells #[.pointer (some t)] 45)).alloc (.cells #[.pointer (some ⟨4, 45, none⟩), .pointer (some ⟨w.heap.size, 0, none⟩), .int .u64 150] 64)).alloc (.cells #[.pointer (some ⟨4, 45, none⟩), .pointer (some ⟨w.heap.size, 0, none⟩), .int .u64 150] 64)) (by rw [World.cell?_alloc_lt _ _ ⟨w.heap.size, 0, none⟩ (by simp; omega)]; simp)
  have st := as_set25 t ⟨w.heap.size + 1 + 1 + 1, 0, none⟩ (e) old ((((w.alloc (.cells #[.pointer (some t)] 45)).alloc (.cells #[.pointer (some ⟨4, 45, none⟩), .pointer (some ⟨w.heap.size, 0, none⟩), .int .u64 150] 64)).alloc (.cells #[.pointer (some ⟨4, 45, none⟩), .pointer (some ⟨w.heap.size, 0, none⟩), .int .u64 150] 64)).alloc (.cells #[.pointer (some (e))] 23))
    (by rw [World.cell?_alloc_at _ _ _ _ (by simp)]; rfl)
    (by rw [World.cell?_alloc_lt _ _ t (by simp; omega), World.cell?_alloc_lt _ _ t (by simp; omega), World.cell?_alloc_lt _ _ t (by simp; omega), World.cell?_alloc_lt _ _ t htl]; exact ht0)
    (by rw [World.frozen?_alloc_old _ _ t (by simp; omega), World.frozen?_alloc_old _ _ t (by simp; omega), World.frozen?_alloc_old _ _ t (by simp; omega), World.frozen?_alloc_old _ _ t (Nat.ne_of_lt htl)]; exact hf0)
  have q1 := as_typeOfIn
  have q2 := as_assignIn
  have q3 := inNoAs
  have q4 := inUw
  have q5 := inMethod
  have Hb := Lib.hid (((hb.alloc (.cells #[.pointer (some t)] 45)).alloc (.cells #[.pointer (some ⟨4, 45, none⟩), .pointer (some ⟨w.heap.size, 0, none⟩), .int .u64 150] 64)).alloc (.cells #[.pointer (some ⟨4, 45, none⟩), .pointer (some ⟨w.heap.size, 0, none⟩), .int .u64 150] 64))
  clear hb
  go_enter Tryd.func16, Tryd.ntmps16
  go_wp2
  refine wp_loop_rounds 2 ?_
  rw [rounds_succ]
  go_wp2_with (go_at_call 87; (with_reducible refine (in_unwrap b s _ _ Hb.out).mono ?_); rintro e w' ⟨rfl, rfl⟩)
  rw [rounds_succ]
  go_wp2
  go_ret
  exact ⟨rfl, rfl⟩

/-! ### Code -/
set_option maxHeartbeats 800000 in
theorem code_es (p : Value) (w : World) :
    Calls Tryd.prog 15 #[.iface 75 p] w fun e w' => e = .returned (.int .i64 8) ∧ Only [] w w' := by
  have hmf : ∀ (fn : Fn) (first cap : Array Value) (w : World), (Instr.makeFunc fn first cap).run Tryd.prog w = .ok (.func fn first cap) w := fun _ _ _ _ => rfl
  go_enter_defers Tryd.func15, Tryd.ntmps15
  go_wp2_with (go_at_call 30; (with_reducible refine (endless_es p _).mono ?_); rintro e w1 ⟨rfl, ho1⟩)
  have hB := (Blk.new w 3 [.int .i64 0]).only ho1 (by simp)
  have HO := Lib.hid (((Only.refl [] w).alloc (.cells #[.int .i64 0] 3)).nil_trans ho1)
  have c0 := hB.cell 0
  have f0 := hB.frozen 0
  simp only [List.getElem?_cons_zero] at c0
  have HB := Lib.hid hB
  have HJ := Lib.hid ho1
  clear ho1 hB
  go_loopw [3] (fun i wr => ∃ j : Int, i = .int .i64 j ∧ 1 ≤ j ∧ j ≤ 8 ∧ wr = w1) (fun i _ => (8 - intOf i).toNat)
  case atStart => exact ⟨1, rfl, by omega, by omega, rfl⟩
  case round =>
    obtain ⟨j, rfl, hj1, hj2, rfl⟩ := hrel
    by_cases hj7 : j ≤ 7
    · go_wp2_with (go_at_call 17; (with_reducible refine (Is_es j p _).mono ?_); rintro e w' ⟨rfl, rfl⟩)
      go_roundw
      case rel => exact ⟨j + 1, by go_num, by omega, by omega, by simp⟩
      case measure => simp [intOf]; omega
    · have hj8 : j = 8 := by omega
      subst hj8
      clear hj1 hj2 hj7
      go_wp2_with fail
      refine leaves_cons (f := 32) (args := #[.pointer (some ⟨w.heap.size, 0, none⟩)]) (by simp) (by simp [go_sem]) ?_
      refine (code1_deferred _ _).mono ?_
      rintro e u' w'' ⟨rfl, rfl, rfl⟩
      have hs := (HB.out.set_ 0 (.int .i64 8)).cell 0
      simp only [List.set_cons_zero, List.getElem?_cons_zero] at hs
      have hO := HO.out.setCell (p := ⟨w.heap.size, 0, none⟩) (.inr (Nat.le_refl _)) (.int .i64 8)
      simp [Leaves, settle, results, Tryd.results15, go_sem, hs, hO]
set_option maxHeartbeats 800000 in
theorem code_atnil (a : Nat) (i : Value) (w : World) (ha : Blk w a 27 [i, .nilIface]) :
    Calls Tryd.prog 15 #[.iface 23 (.pointer (some ⟨a, 0, none⟩))] w fun e w' => e = .returned (.int .i64 8) ∧ Only [] w w' := by
  have HA := Lib.hid (ha.alloc (.cells #[.int .i64 0] 3))
  clear ha
  have hmf : ∀ (fn : Fn) (first cap : Array Value) (w : World), (Instr.makeFunc fn first cap).run Tryd.prog w = .ok (.func fn first cap) w := fun _ _ _ _ => rfl
  go_enter_defers Tryd.func15, Tryd.ntmps15
  go_wp2_with (go_at_call 30; (with_reducible refine (endless_atnil a i _ HA.out).mono ?_); rintro e w1 ⟨rfl, ho1⟩)
  have hB := (Blk.new w 3 [.int .i64 0]).only ho1 (by simp)
  have HO := Lib.hid (((Only.refl [] w).alloc (.cells #[.int .i64 0] 3)).nil_trans ho1)
  have c0 := hB.cell 0
  have f0 := hB.frozen 0
  simp only [List.getElem?_cons_zero] at c0
  have HB := Lib.hid hB
  have HJ := Lib.hid ho1
  clear ho1 hB
  go_loopw [3] (fun i wr => ∃ j : Int, i = .int .i64 j ∧ 1 ≤ j ∧ j ≤ 8 ∧ wr = w1) (fun i _ => (8 - intOf i).toNat)
  case atStart => exact ⟨1, rfl, by omega, by omega, rfl⟩
  case round =>
    obtain ⟨j, rfl, hj1, hj2, rfl⟩ := hrel
    by_cases hj7 : j ≤ 7
    · go_wp2_with (go_at_call 17; (with_reducible refine (Is_atnil j a i _ (HA.out.only HJ.out (by simp))).mono ?_); rintro e w' ⟨rfl, rfl⟩)
      go_roundw
      case rel => exact ⟨j + 1, by go_num, by omega, by omega, by simp⟩
      case measure => simp [intOf]; omega
    · have hj8 : j = 8 := by omega
      subst hj8
      clear hj1 hj2 hj7
      go_wp2_with fail
      refine leaves_cons (f := 32) (args := #[.pointer (some ⟨w.heap.size, 0, none⟩)]) (by simp) (by simp [go_sem]) ?_
      refine (code1_deferred _ _).mono ?_
      rintro e u' w'' ⟨rfl, rfl, rfl⟩
      have hs := (HB.out.set_ 0 (.int .i64 8)).cell 0
      simp only [List.set_cons_zero, List.getElem?_cons_zero] at hs
      have hO := HO.out.setCell (p := ⟨w.heap.size, 0, none⟩) (.inr (Nat.le_refl _)) (.int .i64 8)
      simp [Leaves, settle, results, Tryd.results15, go_sem, hs, hO]
set_option maxHeartbeats 800000 in
theorem code_nil (w : World) : Calls Tryd.prog 15 #[.nilIface] w fun e w' => e = .returned (.int .i64 0) ∧ Only [] w w' := by
  have hmf : ∀ (fn : Fn) (first cap : Array Value) (w : World), (Instr.makeFunc fn first cap).run Tryd.prog w = .ok (.func fn first cap) w := fun _ _ _ _ => rfl
  go_enter_defers Tryd.func15, Tryd.ntmps15
  go_wp2_with fail
  refine leaves_cons (f := 32) (args := #[.pointer (some ⟨w.heap.size, 0, none⟩)]) (by simp) (by simp [go_sem]) ?_
  refine (code1_deferred _ _).mono ?_
  rintro e u' w'' ⟨rfl, rfl, rfl⟩
  simp [Leaves, settle, results, Tryd.results15, go_sem]
  exact (Only.refl [] w).alloc _
set_option maxHeartbeats 800000 in
theorem code_in3 (k : Int) (hk : 1 ≤ k ∧ k ≤ 7) (b a : Nat) (s i : Value) (w : World) (hb : Blk w b 57 [s, .iface 23 (.pointer (some ⟨a, 0, none⟩))]) (ha : Blk w a 27 [i, .iface 60 (.int .i64 k)]) :
    Calls Tryd.prog 15 #[.iface 55 (.pointer (some ⟨b, 0, none⟩))] w fun e w' => e = .returned (.int .i64 k) ∧ Only [] w w' := by
  have hmf : ∀ (fn : Fn) (first cap : Array Value) (w : World), (Instr.makeFunc fn first cap).run Tryd.prog w = .ok (.func fn first cap) w := fun _ _ _ _ => rfl
  go_enter_defers Tryd.func15, Tryd.ntmps15
  go_wp2_with (go_at_call 30; (with_reducible refine (endless_in3 k b a s i _ (hb.alloc _) (ha.alloc _)).mono ?_); rintro e w1 ⟨rfl, ho1⟩)
  have hB := (Blk.new w 3 [.int .i64 0]).only ho1 (by simp)
  have HO := Lib.hid (((Only.refl [] w).alloc (.cells #[.int .i64 0] 3)).nil_trans ho1)
  have c0 := hB.cell 0
  have f0 := hB.frozen 0
  simp only [List.getElem?_cons_zero] at c0
  have HB := Lib.hid hB
  have HA := Lib.hid ((ha.alloc (.cells #[.int .i64 0] 3)).only ho1 (by simp))
  have HI := Lib.hid ((hb.alloc (.cells #[.int .i64 0] 3)).only ho1 (by simp))
  clear ho1 hB
  go_loopw [3] (fun i wr => ∃ j : Int, i = .int .i64 j ∧ 1 ≤ j ∧ j ≤ k ∧ wr = w1) (fun i _ => (k - intOf i).toNat)
  case atStart => exact ⟨1, rfl, by omega, by omega, rfl⟩
  case round =>
    obtain ⟨j, rfl, hj1, hj2, rfl⟩ := hrel
    have hj7 : j ≤ 7 := by omega
    go_wp2_with (go_at_call 17; (with_reducible refine (Is_in3 k j b a s i _ HI.out HA.out).mono ?_); rintro e w' ⟨rfl, rfl⟩)
    · rename_i h
      have hkj : k = j := by simpa using h
      refine leaves_cons (f := 32) (args := #[.pointer (some ⟨w.heap.size, 0, none⟩)]) (by simp) (by simp [go_sem]) ?_
      refine (code1_deferred _ _).mono ?_
      rintro e u' w'' ⟨rfl, rfl, rfl⟩
      have hs := (HB.out.set_ 0 (.int .i64 j)).cell 0
      simp only [List.set_cons_zero, List.getElem?_cons_zero] at hs
      have hO := HO.out.setCell (p := ⟨w.heap.size, 0, none⟩) (.inr (Nat.le_refl _)) (.int .i64 j)
      simp [Leaves, settle, results, Tryd.results15, go_sem, hs, hkj, hO]
    · rename_i h
      have hkj : k ≠ j := by simpa using h
      go_roundw
      case rel => exact ⟨j + 1, by go_num, by omega, by omega, by simp⟩
      case measure => simp [intOf]; omega

/-! ### Where -/
set_option maxHeartbeats 800000 in
theorem where_kind (k : Int) (w : World) (hg : w.cell? ⟨0, 0, none⟩ = some (.iface 93 (.agg #[.pointer (some ⟨4, 25, none⟩)]))) :
    Calls Tryd.prog 14 #[.iface 60 (.int .i64 k)] w fun e w' => e = .returned (.tuple #[.int .i64 0, .bool false]) ∧ Only [] w w' := by
  have hmf : ∀ (fn : Fn) (first cap : Array Value) (w : World), (Instr.makeFunc fn first cap).run Tryd.prog w = .ok (.func fn first cap) w := fun _ _ _ _ => rfl
  obtain ⟨hB0, hB1, hB2, hO⟩ := three_new' w [.int .i64 0] [.bool false] [.pointer none] 3 4 23
  have HG := Lib.hid (hO.cell hg (by simp))
  have H0 := Lib.hid hB0
  have H1 := Lib.hid hB1
  have H2 := Lib.hid hB2
  have HO := Lib.hid hO
  clear hg hO hB0 hB1 hB2
  go_enter_defers Tryd.func14, Tryd.ntmps14
  go_wp2_with fail
  refine (endless_kind k _).mono ?_
  rintro e w1 ⟨rfl, ho1⟩
  have JG := Lib.hid (ho1.cell HG.out (by simp))
  have J0 := Lib.hid (H0.out.only ho1 (by simp))
  have J1 := Lib.hid (H1.out.only ho1 (by simp))
  have J2 := Lib.hid (H2.out.only ho1 (by simp))
  have JO := Lib.hid (HO.out.nil_trans ho1)
  clear ho1 HG H0 H1 H2 HO
  go_wp2_with fail
  refine (as_kind k _ _ _ JG.out (J2.out.cell 0)).mono ?_
  rintro e w2 ⟨rfl, ho2⟩
  have KO := Lib.hid (JO.out.nil_trans ho2)
  have K0 := Lib.hid (J0.out.only ho2 (by simp))
  have K1 := Lib.hid (J1.out.only ho2 (by simp))
  have c0 := K0.out.cell 0
  have f0 := K0.out.frozen 0
  have c1 := K1.out.cell 0
  have f1 := K1.out.frozen 0
  simp only [List.getElem?_cons_zero] at c0 c1
  clear JG J0 J1 J2 JO ho2
  have hs0 := ((K0.out.set_ 0 (.int .i64 0)).far (p := ⟨w.heap.size + 1, 0, none⟩) (by simp) (.bool false)).cell 0
  have hs1 := ((K1.out.far (p := ⟨w.heap.size, 0, none⟩) (by simp) (.int .i64 0)).set_ 0 (.bool false)).cell 0
  simp only [List.set_cons_zero, List.getElem?_cons_zero] at hs0 hs1
  have hO := (KO.out.setCell (p := ⟨w.heap.size, 0, none⟩) (.inr (Nat.le_refl _)) (.int .i64 0)).setCell (p := ⟨w.heap.size + 1, 0, none⟩) (.inr (Nat.le_succ _)) (.bool false)
  have Hs := Lib.hid (And.intro hs0 (And.intro hs1 hO))
  clear hs0 hs1 hO
  go_wp2_with fail
  refine leaves_cons (f := 29) (args := #[.pointer (some ⟨w.heap.size, 0, none⟩), .pointer (some ⟨w.heap.size + 1, 0, none⟩)]) (by simp) (by simp [go_sem]) ?_
  refine (where1_deferred _ _ _).mono ?_
  rintro e u' w'' ⟨rfl, rfl, rfl⟩
  obtain ⟨hs0, hs1, hO⟩ := Hs.out
  simp [Leaves, settle, results, Tryd.results14, go_sem, hs0, hs1, hO]
set_option maxHeartbeats 800000 in
theorem where_nil (w : World) (hg : w.cell? ⟨0, 0, none⟩ = some (.iface 93 (.agg #[.pointer (some ⟨4, 25, none⟩)]))) :
    Calls Tryd.prog 14 #[.nilIface] w fun e w' => e = .returned (.tuple #[.int .i64 0, .bool false]) ∧ Only [] w w' := by
  have hmf : ∀ (fn : Fn) (first cap : Array Value) (w : World), (Instr.makeFunc fn first cap).run Tryd.prog w = .ok (.func fn first cap) w := fun _ _ _ _ => rfl
  obtain ⟨hB0, hB1, hB2, hO⟩ := three_new' w [.int .i64 0] [.bool false] [.pointer none] 3 4 23
  have HG := Lib.hid (hO.cell hg (by simp))
  have H0 := Lib.hid hB0
  have H1 := Lib.hid hB1
  have H2 := Lib.hid hB2
  have HO := Lib.hid hO
  clear hg hO hB0 hB1 hB2
  go_enter_defers Tryd.func14, Tryd.ntmps14
  go_wp2_with fail
  refine (endless_nil _).mono ?_
  rintro e w1 ⟨rfl, ho1⟩
  have JG := Lib.hid (ho1.cell HG.out (by simp))
  have J0 := Lib.hid (H0.out.only ho1 (by simp))
  have J1 := Lib.hid (H1.out.only ho1 (by simp))
  have J2 := Lib.hid (H2.out.only ho1 (by simp))
  have JO := Lib.hid (HO.out.nil_trans ho1)
  clear ho1 HG H0 H1 H2 HO
  go_wp2_with fail
  refine (as_nil _ _).mono ?_
  rintro e w2 ⟨rfl, rfl⟩
  have ho2 := Only.refl [] w2
  have KO := Lib.hid (JO.out.nil_trans ho2)
  have K0 := Lib.hid (J0.out.only ho2 (by simp))
  have K1 := Lib.hid (J1.out.only ho2 (by simp))
  have c0 := K0.out.cell 0
  have f0 := K0.out.frozen 0
  have c1 := K1.out.cell 0
  have f1 := K1.out.frozen 0
  simp only [List.getElem?_cons_zero] at c0 c1
  clear JG J0 J1 J2 JO ho2
  have hs0 := ((K0.out.set_ 0 (.int .i64 0)).far (p := ⟨w.heap.size + 1, 0, none⟩) (by simp) (.bool false)).cell 0
  have hs1 := ((K1.out.far (p := ⟨w.heap.size, 0, none⟩) (by simp) (.int .i64 0)).set_ 0 (.bool false)).cell 0
  simp only [List.set_cons_zero, List.getElem?_cons_zero] at hs0 hs1
  have hO := (KO.out.setCell (p := ⟨w.heap.size, 0, none⟩) (.inr (Nat.le_refl _)) (.int .i64 0)).setCell (p := ⟨w.heap.size + 1, 0, none⟩) (.inr (Nat.le_succ _)) (.bool false)
  have Hs := Lib.hid (And.intro hs0 (And.intro hs1 hO))
  clear hs0 hs1 hO
  go_wp2_with fail
  refine leaves_cons (f := 29) (args := #[.pointer (some ⟨w.heap.size, 0, none⟩), .pointer (some ⟨w.heap.size + 1, 0, none⟩)]) (by simp) (by simp [go_sem]) ?_
  refine (where1_deferred _ _ _).mono ?_
  rintro e u' w'' ⟨rfl, rfl, rfl⟩
  obtain ⟨hs0, hs1, hO⟩ := Hs.out
  simp [Leaves, settle, results, Tryd.results14, go_sem, hs0, hs1, hO]
set_option maxHeartbeats 800000 in
theorem where_in3 (k : Int) (b a : Nat) (s : Value) (i : Int) (w : World) (hb : Blk w b 57 [s, .iface 23 (.pointer (some ⟨a, 0, none⟩))]) (ha : Blk w a 27 [.int .i64 i, .iface 60 (.int .i64 k)]) (hg : w.cell? ⟨0, 0, none⟩ = some (.iface 93 (.agg #[.pointer (some ⟨4, 25, none⟩)]))) :
    Calls Tryd.prog 14 #[.iface 55 (.pointer (some ⟨b, 0, none⟩))] w fun e w' => e = .returned (.tuple #[.int .i64 i, .bool true]) ∧ Only [] w w' := by
  have hal := ha.lt
  obtain ⟨-, -, -, hO'⟩ := three_new' w [.int .i64 0] [.bool false] [.pointer none] 3 4 23
  have HA := Lib.hid (ha.only hO' (by simp))
  have HI := Lib.hid (hb.only hO' (by simp))
  clear ha hb hO'
  have hmf : ∀ (fn : Fn) (first cap : Array Value) (w : World), (Instr.makeFunc fn first cap).run Tryd.prog w = .ok (.func fn first cap) w := fun _ _ _ _ => rfl
  obtain ⟨hB0, hB1, hB2, hO⟩ := three_new' w [.int .i64 0] [.bool false] [.pointer none] 3 4 23
  have HG := Lib.hid (hO.cell hg (by simp))
  have H0 := Lib.hid hB0
  have H1 := Lib.hid hB1
  have H2 := Lib.hid hB2
  have HO := Lib.hid hO
  clear hg hO hB0 hB1 hB2
  go_enter_defers Tryd.func14, Tryd.ntmps14
  go_wp2_with fail
  refine (endless_in3 k b a s _ _ HI.out HA.out).mono ?_
  rintro e w1 ⟨rfl, ho1⟩
  have JG := Lib.hid (ho1.cell HG.out (by simp))
  have J0 := Lib.hid (H0.out.only ho1 (by simp))
  have J1 := Lib.hid (H1.out.only ho1 (by simp))
  have J2 := Lib.hid (H2.out.only ho1 (by simp))
  have JO := Lib.hid (HO.out.nil_trans ho1)
  have JA := Lib.hid (HA.out.only ho1 (by simp))
  have JI := Lib.hid (HI.out.only ho1 (by simp))
  clear ho1 HG H0 H1 H2 HO HA HI
  go_wp2_with fail
  refine (as_in3 b s ⟨a, 0, none⟩ ⟨w.heap.size + 1 + 1, 0, none⟩ (.pointer none) _ JI.out JG.out (J2.out.cell 0) (J2.out.frozen 0)).mono ?_
  rintro e w2 ⟨rfl, hw2⟩
  have hT : Blk w2 (w.heap.size + 1 + 1) 23 [.pointer (some ⟨a, 0, none⟩)] := by rw [hw2]; exact ((((J2.out.alloc _).alloc _).alloc _).alloc _).set_ 0 _
  have ho2 : Only [w.heap.size + 1 + 1] w1 w2 := by rw [hw2]; exact (((((Only.refl [w.heap.size + 1 + 1] w1).alloc _).alloc _).alloc _).alloc _).setCell (.inl (by simp)) _
  clear hw2
  have KA := Lib.hid (JA.out.only ho2 (by simp; omega))
  have K0 := Lib.hid (J0.out.only ho2 (by simp; omega))
  have K1 := Lib.hid (J1.out.only ho2 (by simp))
  have KO := Lib.hid (JO.out.trans ho2 (fun b hb => .inr (new2 hb)))
  have t0 := hT.cell 0
  have a0 := KA.out.cell 0
  have c0 := K0.out.cell 0
  have f0 := K0.out.frozen 0
  have c1 := K1.out.cell 0
  have f1 := K1.out.frozen 0
  simp only [List.getElem?_cons_zero] at t0 a0 c0 c1
  clear JA JI JG J0 J1 J2 JO ho2 hT
  have hs0 := ((K0.out.set_ 0 (.int .i64 i)).far (p := ⟨w.heap.size + 1, 0, none⟩) (by simp) (.bool true)).cell 0
  have hs1 := ((K1.out.far (p := ⟨w.heap.size, 0, none⟩) (by simp) (.int .i64 i)).set_ 0 (.bool true)).cell 0
  simp only [List.set_cons_zero, List.getElem?_cons_zero] at hs0 hs1
  have hO := (KO.out.setCell (p := ⟨w.heap.size, 0, none⟩) (.inr (Nat.le_refl _)) (.int .i64 i)).setCell (p := ⟨w.heap.size + 1, 0, none⟩) (.inr (Nat.le_succ _)) (.bool true)
  have Hs := Lib.hid (And.intro hs0 (And.intro hs1 hO))
  clear hs0 hs1 hO
  go_wp2_with fail
  refine leaves_cons (f := 29) (args := #[.pointer (some ⟨w.heap.size, 0, none⟩), .pointer (some ⟨w.heap.size + 1, 0, none⟩)]) (by simp) (by simp [go_sem]) ?_
  refine (where1_deferred _ _ _).mono ?_
  rintro e u' w'' ⟨rfl, rfl, rfl⟩
  obtain ⟨hs0, hs1, hO⟩ := Hs.out
  simp [Leaves, settle, results, Tryd.results14, go_sem, hs0, hs1, hO]
end Go.Proofs.YtfelokgmoiblgaaDoor
