/-
  Whole numbers: the sum of two, the difference.
-/
import Derived.Test.YtphjcphcgnjogaaDoorWhA
namespace Go.Proofs.YtphjcphcgnjogaaDoor
open Go.RowKit
set_option linter.unusedSimpArgs false

/-- Two boxed structs and the result's cells, at the blocks b, b + 1, b + 2. -/
structure P3 (w : World) (b : Nat) (s : Bool) (u : Value) (t : Bool) (v : Value) (w' : World) : Prop where
  only : Only [] w w'
  lt : w.heap.size = b
  size : b + 3 ≤ w'.heap.size
  b1 : Blk w' b 27 [.bool s, u]
  b2 : Blk w' (b + 1) 27 [.bool t, v]
  b3 : Blk w' (b + 2) 27 [.bool false, .slice none 0 0]
theorem P3.step {w w' w'' : World} {b : Nat} {s t : Bool} {u v : Value} (h : P3 w b s u t v w') (ho : Only [] w' w'') : P3 w b s u t v w'' :=
  ⟨h.only.nil_trans ho, h.lt, Nat.le_trans h.size ho.size, h.b1.only ho (by simp), h.b2.only ho (by simp), h.b3.only ho (by simp)⟩
theorem P3.start (w : World) (s t : Bool) (u v : Value) : P3 w w.heap.size s u t v (((w.alloc (.cells #[.bool s, u] 27)).alloc (.cells #[.bool t, v] 27)).alloc (.cells #[.bool false, .slice none 0 0] 27)) := by
  have hB1 := ((Blk.new w 27 [.bool s, u]).alloc (.cells #[.bool t, v] 27)).alloc (.cells #[.bool false, .slice none 0 0] 27)
  have hB2 := (Blk.new (w.alloc (.cells #[.bool s, u] 27)) 27 [.bool t, v]).alloc (.cells #[.bool false, .slice none 0 0] 27)
  have hB3 := Blk.new ((w.alloc (.cells #[.bool s, u] 27)).alloc (.cells #[.bool t, v] 27)) 27 [.bool false, .slice none 0 0]
  simp only [World.size_alloc] at hB2 hB3
  exact ⟨(((Only.refl [] w).alloc _).alloc _).alloc _, rfl, by simp, hB1, hB2, hB3⟩
/-- The cells, as the walk wants them. -/
theorem P3.cells {w w' : World} {b : Nat} {s t : Bool} {u v : Value} (h : P3 w b s u t v w') :
    w'.cell? ⟨b, 0, none⟩ = some (.bool s) ∧ w'.cell? ⟨b, 1, none⟩ = some u ∧ w'.cell? ⟨b + 1, 0, none⟩ = some (.bool t) ∧ w'.cell? ⟨b + 1, 1, none⟩ = some v ∧
    w'.cell? ⟨b + 2, 0, none⟩ = some (.bool false) ∧ w'.cell? ⟨b + 2, 1, none⟩ = some (.slice none 0 0) ∧ w'.frozen? ⟨b + 2, 0, none⟩ = false ∧ w'.frozen? ⟨b + 2, 1, none⟩ = false :=
  ⟨h.b1.cell 0, h.b1.cell 1, h.b2.cell 0, h.b2.cell 1, h.b3.cell 0, h.b3.cell 1, h.b3.frozen 0, h.b3.frozen 1⟩
theorem P3.fin {w w1 w2 wb : World} {b : Nat} {s t r : Bool} {u v : Value} {A : Option Addr} {k c : Nat} {z : Int} (h : P3 w b s u t v w1) (hr : r = decide (z < 0) ∧ Res wb w1 (.slice A k c) z.natAbs) (hf : Few z.natAbs) (hb : b + 3 ≤ wb.heap.size) (ho : Only [b + 2] w1 w2) :
    WPost z w w (.returned (.agg #[.bool r, .slice A k c])) w2 := WPost.fwd hr hf (by rw [h.lt]; omega) (by omega) h.only ho
set_option maxHeartbeats 1600000 in
set_option maxRecDepth 100000 in
theorem plus_w {w : World} {a b : Value} {x y : Int} (ha : Hid (IV w a x)) (hb : Hid (IV w b y)) (hf : Hid (Few (x + y).natAbs)) : Calls Tryd.prog 37 #[a, b] w (WPost (x + y) w w) := by
  obtain ⟨s, A, k, c, rfl, hs⟩ := ha.out.form
  obtain ⟨t, B, l, d, rfl, ht⟩ := hb.out.form
  have hp := P3.start w s t (.slice A k c) (.slice B l d)
  have HX := Lib.hid (ha.out.mag.only hp.only)
  have HY := Lib.hid (hb.out.mag.only hp.only)
  have hc := hp.cells
  have HP := Lib.hid hp
  have HZ : Hid (x + y = sg s x.natAbs + sg t y.natAbs) := by show _ = _; rw [hs, ht]
  rw [HZ.out] at hf ⊢
  clear hs ht ha hb hp
  generalize x.natAbs = n at *
  generalize y.natAbs = m at *
  by_cases hst : s = t
  · subst hst
    have HS : Hid (sg s (n + m) = sg s n + sg s m) := sg_add s n m
    have HF2 : Hid (Few (n + m)) := by
      have := hf.out
      rw [← HS.out, sg_abs] at this
      exact this
    go_enter Tryd.func37, Tryd.ntmps37
    go_wp2_with fail
    generalize ((w.alloc (.cells #[.bool s, .slice A k c] 27)).alloc (.cells #[.bool s, .slice B l d] 27)).alloc (.cells #[.bool false, .slice none 0 0] 27) = w1 at *
    apply wp_region_typed_tail 9 (by kernel_rfl) [isV _, isV _, isV _, isV _, isV _, isV _, isRow 25 2 [.slice A k c, .slice B l d], isNR w1 (n + m), isWR w1 (sg s n + sg s m)] (by kernel_rfl) (by kernel_rfl)
    case ho =>
      simp only [List.take_succ_cons, List.take_zero]
      refine owes_cons (fun wx hox => ?_) ?_
      · simp only [waits, withs, Region.binds, List.filter, List.map, List.getElem?_cons_zero, List.getElem?_cons_succ, Option.bind, Option.getD, List.range, List.range.loop, List.length]
        repeat (first | refine all_isV ?_ | (intro vx hx'; replace hx' := Lib.hid hx'))
        have hp := HP.out.step hox
        obtain ⟨c0, c1', c2, c3, c4, c5, f4, f5⟩ := hp.cells
        clear hp
        go_simp
        first | exact ⟨Only.refl _ _, isV.self _ _⟩ | (fail)
      refine owes_cons (fun wx hox => ?_) ?_
      · simp only [waits, withs, Region.binds, List.filter, List.map, List.getElem?_cons_zero, List.getElem?_cons_succ, Option.bind, Option.getD, List.range, List.range.loop, List.length]
        repeat (first | refine all_isV ?_ | (intro vx hx'; replace hx' := Lib.hid hx'))
        have hp := HP.out.step hox
        obtain ⟨c0, c1', c2, c3, c4, c5, f4, f5⟩ := hp.cells
        clear hp
        go_simp
        first | exact ⟨Only.refl _ _, isV.self _ _⟩ | (fail)
      refine owes_cons (fun wx hox => ?_) ?_
      · simp only [waits, withs, Region.binds, List.filter, List.map, List.getElem?_cons_zero, List.getElem?_cons_succ, Option.bind, Option.getD, List.range, List.range.loop, List.length]
        repeat (first | refine all_isV ?_ | (intro vx hx'; replace hx' := Lib.hid hx'))
        have hp := HP.out.step hox
        obtain ⟨c0, c1', c2, c3, c4, c5, f4, f5⟩ := hp.cells
        clear hp
        go_simp
        first | exact ⟨Only.refl _ _, isV.self _ _⟩ | (fail)
      refine owes_cons (fun wx hox => ?_) ?_
      · simp only [waits, withs, Region.binds, List.filter, List.map, List.getElem?_cons_zero, List.getElem?_cons_succ, Option.bind, Option.getD, List.range, List.range.loop, List.length]
        repeat (first | refine all_isV ?_ | (intro vx hx'; replace hx' := Lib.hid hx'))
        have hp := HP.out.step hox
        obtain ⟨c0, c1', c2, c3, c4, c5, f4, f5⟩ := hp.cells
        clear hp
        go_simp
        first | exact ⟨Only.refl _ _, isV.self _ _⟩ | (fail)
      refine owes_cons (fun wx hox => ?_) ?_
      · simp only [waits, withs, Region.binds, List.filter, List.map, List.getElem?_cons_zero, List.getElem?_cons_succ, Option.bind, Option.getD, List.range, List.range.loop, List.length]
        repeat (first | refine all_isV ?_ | (intro vx hx'; replace hx' := Lib.hid hx'))
        have hp := HP.out.step hox
        obtain ⟨c0, c1', c2, c3, c4, c5, f4, f5⟩ := hp.cells
        clear hp
        go_simp
        first | exact ⟨Only.refl _ _, isV.self _ _⟩ | (fail)
      refine owes_cons (fun wx hox => ?_) ?_
      · simp only [waits, withs, Region.binds, List.filter, List.map, List.getElem?_cons_zero, List.getElem?_cons_succ, Option.bind, Option.getD, List.range, List.range.loop, List.length]
        repeat (first | refine all_isV ?_ | (intro vx hx'; replace hx' := Lib.hid hx'))
        have hp := HP.out.step hox
        obtain ⟨c0, c1', c2, c3, c4, c5, f4, f5⟩ := hp.cells
        clear hp
        go_simp
        first | exact ⟨Only.refl _ _, isV.self _ _⟩ | (fail)
      refine owes_cons (fun wx hox => ?_) ?_
      · simp only [waits, withs, Region.binds, List.filter, List.map, List.getElem?_cons_zero, List.getElem?_cons_succ, Option.bind, Option.getD, List.range, List.range.loop, List.length]
        repeat (first | refine all_isV ?_ | (intro vx hx'; replace hx' := Lib.hid hx'))
        skip
        go_simp
        first | exact ⟨Only.refl _ _, isV.self _ _⟩ | (exact isRow.new _ _ _ _)
      refine owes_cons (fun wx hox => ?_) ?_
      · simp only [waits, withs, Region.binds, List.filter, List.map, List.getElem?_cons_zero, List.getElem?_cons_succ, Option.bind, Option.getD, List.range, List.range.loop, List.length]
        (rintro v ⟨g, rfl, hb⟩; replace hb := Lib.hid hb)
        go_simp
        exact grow_n (addB_v hb (Lib.hid (HX.out.only hox)) (Lib.hid (HY.out.only hox)) HF2) hox
      refine owes_cons (fun wx hox => ?_) ?_
      · simp only [waits, withs, Region.binds, List.filter, List.map, List.getElem?_cons_zero, List.getElem?_cons_succ, Option.bind, Option.getD, List.range, List.range.loop, List.length]
        (refine all_isV ?_; rintro _ _ v ⟨A1, k1, c1, rfl, _, hv⟩; replace hv := Lib.hid hv)
        go_simp
        (rw [← HS.out]; exact grow_w (make_w _ hv) hox)
      exact owes_nil
    case he =>
      simp only [List.drop_succ_cons, List.drop_zero]
      intro wx hox
      simp only [waits, withs, Region.binds, List.filter, List.map, List.getElem?_cons_zero, List.getElem?_cons_succ, Option.bind, Option.getD, List.range, List.range.loop, List.length]
      repeat (first | refine all_isV ?_ | (intro vx hx'; replace hx' := Lib.hid hx'))
      obtain ⟨s1, A1, k1, c1, rfl, hs1, hr1, -⟩ := hx'.out
      have hp := HP.out.step hox
      obtain ⟨c0, c1', c2, c3, c4, c5, f4, f5⟩ := hp.cells
      replace hp := Lib.hid hp
      have HR := Lib.hid (⟨hs1, hr1⟩ : _ ∧ _)
      clear hs1 hr1 hc
      go_simp
      go_wp2_with fail
      refine bodyPost_ret (v := .agg #[.bool s1, .slice A1 k1 c1]) (by simp [results, Tryd.results37, go_sem, c4, c5]) rfl ?_
      exact P3.fin hp.out HR.out hf.out HP.out.size (only_set2 _ _ _ _)
    case hl =>
      repeat (refine List.forall_mem_cons.2 ⟨?_, ?_⟩; first | exact isV.lasts _ | exact isNR.lasts _ _ | exact isWR.lasts _ _ | exact isRow.lasts _ _ _ | exact isPtr.lasts _ _ _)
      exact fun _ h => (by cases h)
  · have hts : t = !s := by cases s <;> cases t <;> simp_all
    subst hts
    clear hst
    cases s
    · skip
      have HLe : m ≤ n → Hid (sg false (n - m) = sg false n + sg true m) := fun h => sg_sub false n m h
      have HGt : ¬ m ≤ n → Hid (sg true (m - n) = sg false n + sg true m) := fun h => by
        show _ = _
        rw [sg_sub true m n (by omega), Int.add_comm]
        rfl
      simp only [Bool.not_false, Bool.not_true] at *
      by_cases hmn : m ≤ n
      · have HS := HLe hmn
        have HD := Lib.hid (decide_eq_true hmn)
        clear HLe HGt hmn
        go_enter Tryd.func37, Tryd.ntmps37
        go_wp2_with fail
        (with_reducible refine (sub_v HX HY).mono ?_)
        rintro e w2 ⟨A1, k1, c1, _, rfl, rfl, -, hv, ho⟩
        rw [HD.out]
        have hp := HP.out.step ho
        obtain ⟨c0, c1', c2, c3, c4, c5, f4, f5⟩ := hp.cells
        replace hp := Lib.hid hp
        replace hv := Lib.hid hv
        clear ho hc
        go_wp2_with fail
        (with_reducible refine (make_w _ hv).mono ?_)
        rintro e w3 ⟨s1, A2, k2, c2', rfl, hs1, hr1, -, ho⟩
        rw [HS.out] at hs1 hr1
        have hp3 := hp.out.step ho
        obtain ⟨e0, e1, e2, e3, e4, e5, g4, g5⟩ := hp3.cells
        replace hp3 := Lib.hid hp3
        have HR := Lib.hid (⟨hs1, hr1⟩ : _ ∧ _)
        clear ho hs1 hr1 c0 c1' c2 c3 c4 c5 f4 f5
        go_wp2_with fail
        refine bodyPost_ret (v := .agg #[.bool s1, .slice A2 k2 c2']) (by simp [results, Tryd.results37, go_sem, e4, e5]) rfl ?_
        exact P3.fin hp3.out HR.out hf.out hp.out.size (only_set2 _ _ _ _)
      · have HS := HGt hmn
        have HD := Lib.hid (decide_eq_false hmn)
        clear HLe HGt hmn
        go_enter Tryd.func37, Tryd.ntmps37
        go_wp2_with fail
        (with_reducible refine (sub_v HX HY).mono ?_)
        rintro e w2 ⟨A1, k1, c1, _, rfl, rfl, -, -, ho⟩
        rw [HD.out]
        have hp := HP.out.step ho
        obtain ⟨c0, c1', c2, c3, c4, c5, f4, f5⟩ := hp.cells
        replace hp := Lib.hid hp
        have HX2 := Lib.hid (HX.out.only ho)
        have HY2 := Lib.hid (HY.out.only ho)
        clear ho hc
        go_wp2_with fail
        (with_reducible refine (sub_v HY2 HX2).mono ?_)
        rintro e w3 ⟨A2, k2, c2', _, rfl, rfl, -, hv, ho⟩
        have hp3 := hp.out.step ho
        obtain ⟨e0, e1, e2, e3, e4, e5, g4, g5⟩ := hp3.cells
        replace hp3 := Lib.hid hp3
        replace hv := Lib.hid hv
        clear ho c0 c1' c2 c3 c4 c5 f4 f5
        go_wp2_with fail
        (with_reducible refine (make_w _ hv).mono ?_)
        rintro e w4 ⟨s1, A3, k3, c3', rfl, hs1, hr1, -, ho⟩
        rw [HS.out] at hs1 hr1
        have hp4 := hp3.out.step ho
        obtain ⟨i0, i1, i2, i3, i4, i5, j4, j5⟩ := hp4.cells
        replace hp4 := Lib.hid hp4
        have HR := Lib.hid (⟨hs1, hr1⟩ : _ ∧ _)
        clear ho hs1 hr1 e0 e1 e2 e3 e4 e5 g4 g5
        go_wp2_with fail
        refine bodyPost_ret (v := .agg #[.bool s1, .slice A3 k3 c3']) (by simp [results, Tryd.results37, go_sem, i4, i5]) rfl ?_
        exact P3.fin hp4.out HR.out hf.out hp3.out.size (only_set2 _ _ _ _)
    · skip
      have HLe : m ≤ n → Hid (sg true (n - m) = sg true n + sg false m) := fun h => sg_sub true n m h
      have HGt : ¬ m ≤ n → Hid (sg false (m - n) = sg true n + sg false m) := fun h => by
        show _ = _
        rw [sg_sub false m n (by omega), Int.add_comm]
        rfl
      simp only [Bool.not_false, Bool.not_true] at *
      by_cases hmn : m ≤ n
      · have HS := HLe hmn
        have HD := Lib.hid (decide_eq_true hmn)
        clear HLe HGt hmn
        go_enter Tryd.func37, Tryd.ntmps37
        go_wp2_with fail
        (with_reducible refine (sub_v HX HY).mono ?_)
        rintro e w2 ⟨A1, k1, c1, _, rfl, rfl, -, hv, ho⟩
        rw [HD.out]
        have hp := HP.out.step ho
        obtain ⟨c0, c1', c2, c3, c4, c5, f4, f5⟩ := hp.cells
        replace hp := Lib.hid hp
        replace hv := Lib.hid hv
        clear ho hc
        go_wp2_with fail
        (with_reducible refine (make_w _ hv).mono ?_)
        rintro e w3 ⟨s1, A2, k2, c2', rfl, hs1, hr1, -, ho⟩
        rw [HS.out] at hs1 hr1
        have hp3 := hp.out.step ho
        obtain ⟨e0, e1, e2, e3, e4, e5, g4, g5⟩ := hp3.cells
        replace hp3 := Lib.hid hp3
        have HR := Lib.hid (⟨hs1, hr1⟩ : _ ∧ _)
        clear ho hs1 hr1 c0 c1' c2 c3 c4 c5 f4 f5
        go_wp2_with fail
        refine bodyPost_ret (v := .agg #[.bool s1, .slice A2 k2 c2']) (by simp [results, Tryd.results37, go_sem, e4, e5]) rfl ?_
        exact P3.fin hp3.out HR.out hf.out hp.out.size (only_set2 _ _ _ _)
      · have HS := HGt hmn
        have HD := Lib.hid (decide_eq_false hmn)
        clear HLe HGt hmn
        go_enter Tryd.func37, Tryd.ntmps37
        go_wp2_with fail
        (with_reducible refine (sub_v HX HY).mono ?_)
        rintro e w2 ⟨A1, k1, c1, _, rfl, rfl, -, -, ho⟩
        rw [HD.out]
        have hp := HP.out.step ho
        obtain ⟨c0, c1', c2, c3, c4, c5, f4, f5⟩ := hp.cells
        replace hp := Lib.hid hp
        have HX2 := Lib.hid (HX.out.only ho)
        have HY2 := Lib.hid (HY.out.only ho)
        clear ho hc
        go_wp2_with fail
        (with_reducible refine (sub_v HY2 HX2).mono ?_)
        rintro e w3 ⟨A2, k2, c2', _, rfl, rfl, -, hv, ho⟩
        have hp3 := hp.out.step ho
        obtain ⟨e0, e1, e2, e3, e4, e5, g4, g5⟩ := hp3.cells
        replace hp3 := Lib.hid hp3
        replace hv := Lib.hid hv
        clear ho c0 c1' c2 c3 c4 c5 f4 f5
        go_wp2_with fail
        (with_reducible refine (make_w _ hv).mono ?_)
        rintro e w4 ⟨s1, A3, k3, c3', rfl, hs1, hr1, -, ho⟩
        rw [HS.out] at hs1 hr1
        have hp4 := hp3.out.step ho
        obtain ⟨i0, i1, i2, i3, i4, i5, j4, j5⟩ := hp4.cells
        replace hp4 := Lib.hid hp4
        have HR := Lib.hid (⟨hs1, hr1⟩ : _ ∧ _)
        clear ho hs1 hr1 e0 e1 e2 e3 e4 e5 g4 g5
        go_wp2_with fail
        refine bodyPost_ret (v := .agg #[.bool s1, .slice A3 k3 c3']) (by simp [results, Tryd.results37, go_sem, i4, i5]) rfl ?_
        exact P3.fin hp4.out HR.out hf.out hp3.out.size (only_set2 _ _ _ _)
end Go.Proofs.YtphjcphcgnjogaaDoor
