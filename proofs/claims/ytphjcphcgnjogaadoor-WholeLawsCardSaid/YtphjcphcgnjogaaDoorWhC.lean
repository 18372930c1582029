/-
  Whole numbers: the difference, the order, an int's number.
-/
import Derived.Test.YtphjcphcgnjogaaDoorWhB
namespace Go.Proofs.YtphjcphcgnjogaaDoor
open Go.RowKit
set_option linter.unusedSimpArgs false

set_option maxHeartbeats 1600000 in
set_option maxRecDepth 100000 in
theorem sub_w {w : World} {a b : Value} {x y : Int} (ha : Hid (IV w a x)) (hb : Hid (IV w b y)) (hf : Hid (Few (x - y).natAbs)) : Calls Tryd.prog 14 #[a, b] w (WPost (x - y) w w) := by
  obtain ⟨s, A, k, c, rfl, hs⟩ := ha.out.form
  obtain ⟨t, B, l, d, rfl, ht⟩ := hb.out.form
  have hp := P3.start w s t (.slice A k c) (.slice B l d)
  have HX := Lib.hid (ha.out.only hp.only)
  have HY := Lib.hid (hb.out.only hp.only)
  have hc := hp.cells
  have HP := Lib.hid hp
  have HZ : Hid (x - y = x + -y) := Int.sub_eq_add_neg
  rw [HZ.out] at hf ⊢
  clear hs ht ha hb hp
  go_enter Tryd.func14, Tryd.ntmps14
  go_wp2_with fail
  generalize ((w.alloc (.cells #[.bool s, .slice A k c] 27)).alloc (.cells #[.bool t, .slice B l d] 27)).alloc (.cells #[.bool false, .slice none 0 0] 27) = w1 at *
  clear hc
  apply wp_region_typed_tail 4 (by kernel_rfl) [isV _, isV _, isWR w1 (-y), isWR w1 (x + -y)] (by kernel_rfl) (by kernel_rfl)
  case ho =>
    simp only [List.take_succ_cons, List.take_zero]
    refine owes_cons (fun wx hox => ?_) ?_
    · simp only [waits, withs, Region.binds, List.filter, List.map, List.getElem?_cons_zero, List.getElem?_cons_succ, Option.bind, Option.getD, List.range, List.range.loop, List.length]
      repeat (first | refine all_isV ?_ | (intro vx hx'; replace hx' := Lib.hid hx'))
      have hp := HP.out.step hox
      obtain ⟨c0, c1', c2, c3, c4, c5, f4, f5⟩ := hp.cells
      clear hp
      go_simp
      first | exact ⟨Only.refl _ _, isV.self _ _⟩ | (fail)
    refine owes_cons (fun wx hox => ?_) ?_
    · simp only [waits, withs, Region.binds, List.filter, List.map, List.getElem?_cons_zero, List.getElem?_cons_succ, Option.bind, Option.getD, List.range, List.range.loop, List.length]
      repeat (first | refine all_isV ?_ | (intro vx hx'; replace hx' := Lib.hid hx'))
      have hp := HP.out.step hox
      obtain ⟨c0, c1', c2, c3, c4, c5, f4, f5⟩ := hp.cells
      clear hp
      go_simp
      first | exact ⟨Only.refl _ _, isV.self _ _⟩ | (fail)
    refine owes_cons (fun wx hox => ?_) ?_
    · simp only [waits, withs, Region.binds, List.filter, List.map, List.getElem?_cons_zero, List.getElem?_cons_succ, Option.bind, Option.getD, List.range, List.range.loop, List.length]
      (refine all_isV ?_)
      go_simp
      exact grow_w (not_w (Lib.hid (HY.out.only hox))) hox
    refine owes_cons (fun wx hox => ?_) ?_
    · simp only [waits, withs, Region.binds, List.filter, List.map, List.getElem?_cons_zero, List.getElem?_cons_succ, Option.bind, Option.getD, List.range, List.range.loop, List.length]
      (refine all_isV ?_; rintro _ _ v ⟨s1, A1, k1, c1, rfl, -, -, hv⟩; replace hv := Lib.hid hv)
      go_simp
      exact grow_w (plus_w (Lib.hid (HX.out.only hox)) hv hf) hox
    exact owes_nil
  case he =>
    simp only [List.drop_succ_cons, List.drop_zero]
    intro wx hox
    simp only [waits, withs, Region.binds, List.filter, List.map, List.getElem?_cons_zero, List.getElem?_cons_succ, Option.bind, Option.getD, List.range, List.range.loop, List.length]
    repeat (first | refine all_isV ?_ | (intro vx hx'; replace hx' := Lib.hid hx'))
    obtain ⟨s1, A1, k1, c1, rfl, hs1, hr1, -⟩ := hx'.out
    have hp := HP.out.step hox
    obtain ⟨c0, c1', c2, c3, c4, c5, f4, f5⟩ := hp.cells
    replace hp := Lib.hid hp
    have HR := Lib.hid (⟨hs1, hr1⟩ : _ ∧ _)
    clear hs1 hr1
    go_simp
    go_wp2_with fail
    refine bodyPost_ret (v := .agg #[.bool s1, .slice A1 k1 c1]) (by simp [results, Tryd.results14, go_sem, c4, c5]) rfl ?_
    exact P3.fin hp.out HR.out hf.out HP.out.size (only_set2 _ _ _ _)
  case hl =>
    repeat (refine List.forall_mem_cons.2 ⟨?_, ?_⟩; first | exact isV.lasts _ | exact isNR.lasts _ _ | exact isWR.lasts _ _ | exact isRow.lasts _ _ _ | exact isPtr.lasts _ _ _)
    exact fun _ h => (by cases h)

/-- Two boxed structs, at the blocks b and b + 1. -/
structure P2 (w : World) (b : Nat) (s : Bool) (u : Value) (t : Bool) (v : Value) (w' : World) : Prop where
  only : Only [] w w'
  lt : w.heap.size = b
  b1 : Blk w' b 27 [.bool s, u]
  b2 : Blk w' (b + 1) 27 [.bool t, v]
theorem P2.step {w w' w'' : World} {b : Nat} {s t : Bool} {u v : Value} (h : P2 w b s u t v w') (ho : Only [] w' w'') : P2 w b s u t v w'' :=
  ⟨h.only.nil_trans ho, h.lt, h.b1.only ho (by simp), h.b2.only ho (by simp)⟩
theorem P2.start (w : World) (s t : Bool) (u v : Value) : P2 w w.heap.size s u t v ((w.alloc (.cells #[.bool s, u] 27)).alloc (.cells #[.bool t, v] 27)) := by
  have hB1 := ((Blk.new w 27 [.bool s, u]).alloc (.cells #[.bool t, v] 27))
  have hB2 := (Blk.new (w.alloc (.cells #[.bool s, u] 27)) 27 [.bool t, v])
  simp only [World.size_alloc] at hB2
  exact ⟨((Only.refl [] w).alloc _).alloc _, rfl, hB1, hB2⟩
theorem P2.cells {w w' : World} {b : Nat} {s t : Bool} {u v : Value} (h : P2 w b s u t v w') :
    w'.cell? ⟨b, 0, none⟩ = some (.bool s) ∧ w'.cell? ⟨b, 1, none⟩ = some u ∧ w'.cell? ⟨b + 1, 0, none⟩ = some (.bool t) ∧ w'.cell? ⟨b + 1, 1, none⟩ = some v :=
  ⟨h.b1.cell 0, h.b1.cell 1, h.b2.cell 0, h.b2.cell 1⟩
theorem cmpZ_range (a b : Nat) : -1 ≤ cmpZ a b ∧ cmpZ a b ≤ 1 := by unfold cmpZ; split <;> (try split) <;> omega
theorem sign_range (z : Int) : -1 ≤ z.sign ∧ z.sign ≤ 1 := by rcases sign_of z with h | h | h <;> omega
theorem cmpI_range (x y : Int) : -1 ≤ cmpI x y ∧ cmpI x y ≤ 1 := by unfold cmpI; split <;> (try split) <;> omega
theorem wrap_i64 {z : Int} (h : -9223372036854775808 ≤ z ∧ z ≤ 9223372036854775807) : IntKind.i64.wrap z = z := by rw [IntKind.wrap_i64]; omega
set_option maxHeartbeats 1600000 in
set_option maxRecDepth 100000 in
theorem cmp_w {w : World} {a b : Value} {x y : Int} (ha : Hid (IV w a x)) (hb : Hid (IV w b y)) : Calls Tryd.prog 13 #[a, b] w fun e w' => e = .returned (.int .i64 (cmpI x y)) ∧ Only [] w w' := by
  obtain ⟨s, A, k, c, rfl, hs⟩ := ha.out.form
  obtain ⟨t, B, l, d, rfl, ht⟩ := hb.out.form
  have hp := P2.start w s t (.slice A k c) (.slice B l d)
  have HX := Lib.hid (ha.out.only hp.only)
  have HY := Lib.hid (hb.out.only hp.only)
  have HP := Lib.hid hp
  have hpq := sign_of x
  have hqr := sign_of y
  clear hs ht ha hb hp
  by_cases h1 : x.sign < y.sign
  · have HR : Hid (cmpI x y = -1) := cmpI_lt (by omega)
    clear hpq hqr
    go_enter Tryd.func13, Tryd.ntmps13
    go_wp2_with fail
    generalize (w.alloc (.cells #[.bool s, .slice A k c] 27)).alloc (.cells #[.bool t, .slice B l d] 27) = w1 at *
    apply wp_region_typed (by kernel_rfl) [isV _, isV _, isV _, isV _, isV _, isV _] (by kernel_rfl)
    case ho =>
      refine owes_cons (fun wx hox => ?_) ?_
      · simp only [waits, withs, Region.binds, List.filter, List.map, List.getElem?_cons_zero, List.getElem?_cons_succ, Option.bind, Option.getD, List.range, List.range.loop, List.length]
        repeat (first | refine all_isV ?_ | (intro vx hx'; replace hx' := Lib.hid hx'))
        have hp := HP.out.step hox
        obtain ⟨c0, c1', c2, c3⟩ := hp.cells
        clear hp
        go_simp
        first | exact ⟨Only.refl _ _, isV.self _ _⟩ | (fail)
      refine owes_cons (fun wx hox => ?_) ?_
      · simp only [waits, withs, Region.binds, List.filter, List.map, List.getElem?_cons_zero, List.getElem?_cons_succ, Option.bind, Option.getD, List.range, List.range.loop, List.length]
        repeat (first | refine all_isV ?_ | (intro vx hx'; replace hx' := Lib.hid hx'))
        skip
        go_simp
        first | exact ⟨Only.refl _ _, isV.self _ _⟩ | ((with_reducible exact grow_of (sign_w (Lib.hid (HX.out.only hox)))))
      refine owes_cons (fun wx hox => ?_) ?_
      · simp only [waits, withs, Region.binds, List.filter, List.map, List.getElem?_cons_zero, List.getElem?_cons_succ, Option.bind, Option.getD, List.range, List.range.loop, List.length]
        repeat (first | refine all_isV ?_ | (intro vx hx'; replace hx' := Lib.hid hx'))
        have hp := HP.out.step hox
        obtain ⟨c0, c1', c2, c3⟩ := hp.cells
        clear hp
        go_simp
        first | exact ⟨Only.refl _ _, isV.self _ _⟩ | (fail)
      refine owes_cons (fun wx hox => ?_) ?_
      · simp only [waits, withs, Region.binds, List.filter, List.map, List.getElem?_cons_zero, List.getElem?_cons_succ, Option.bind, Option.getD, List.range, List.range.loop, List.length]
        repeat (first | refine all_isV ?_ | (intro vx hx'; replace hx' := Lib.hid hx'))
        skip
        go_simp
        first | exact ⟨Only.refl _ _, isV.self _ _⟩ | ((with_reducible exact grow_of (sign_w (Lib.hid (HY.out.only hox)))))
      refine owes_cons (fun wx hox => ?_) ?_
      · simp only [waits, withs, Region.binds, List.filter, List.map, List.getElem?_cons_zero, List.getElem?_cons_succ, Option.bind, Option.getD, List.range, List.range.loop, List.length]
        repeat (first | refine all_isV ?_ | (intro vx hx'; replace hx' := Lib.hid hx'))
        skip
        go_simp
        first | exact ⟨Only.refl _ _, isV.self _ _⟩ | (fail)
      refine owes_cons (fun wx hox => ?_) ?_
      · simp only [waits, withs, Region.binds, List.filter, List.map, List.getElem?_cons_zero, List.getElem?_cons_succ, Option.bind, Option.getD, List.range, List.range.loop, List.length]
        repeat (first | refine all_isV ?_ | (intro vx hx'; replace hx' := Lib.hid hx'))
        skip
        go_simp
        first | exact ⟨Only.refl _ _, isV.self _ _⟩ | (fail)
      exact owes_nil
    case hl =>
      repeat (refine List.forall_mem_cons.2 ⟨?_, ?_⟩; first | exact isV.lasts _ | exact isNR.lasts _ _ | exact isWR.lasts _ _ | exact isRow.lasts _ _ _ | exact isPtr.lasts _ _ _)
      exact fun _ h => (by cases h)
    case he =>
      intro wx hox
      simp only [waits, withs, Region.binds, List.filter, List.map, List.getElem?_cons_zero, List.getElem?_cons_succ, Option.bind, Option.getD, List.range, List.range.loop, List.length]
      repeat (first | refine all_isV ?_ | (intro vx hx'; replace hx' := Lib.hid hx'))
      have hp := HP.out.step hox
      obtain ⟨c0, c1', c2, c3⟩ := hp.cells
      clear hp
      go_simp
      go_wp2_with fail
      go_ret
      exact ⟨by rw [HR.out]; rfl, HP.out.only.nil_trans hox⟩
  · by_cases h2 : y.sign < x.sign
    · have HR : Hid (cmpI x y = 1) := cmpI_gt (by omega)
      clear hpq hqr
      go_enter Tryd.func13, Tryd.ntmps13
      go_wp2_with fail
      generalize (w.alloc (.cells #[.bool s, .slice A k c] 27)).alloc (.cells #[.bool t, .slice B l d] 27) = w1 at *
      apply wp_region_typed (by kernel_rfl) [isV _, isV _, isV _, isV _, isV _, isV _] (by kernel_rfl)
      case ho =>
        refine owes_cons (fun wx hox => ?_) ?_
        · simp only [waits, withs, Region.binds, List.filter, List.map, List.getElem?_cons_zero, List.getElem?_cons_succ, Option.bind, Option.getD, List.range, List.range.loop, List.length]
          repeat (first | refine all_isV ?_ | (intro vx hx'; replace hx' := Lib.hid hx'))
          have hp := HP.out.step hox
          obtain ⟨c0, c1', c2, c3⟩ := hp.cells
          clear hp
          go_simp
          first | exact ⟨Only.refl _ _, isV.self _ _⟩ | (fail)
        refine owes_cons (fun wx hox => ?_) ?_
        · simp only [waits, withs, Region.binds, List.filter, List.map, List.getElem?_cons_zero, List.getElem?_cons_succ, Option.bind, Option.getD, List.range, List.range.loop, List.length]
          repeat (first | refine all_isV ?_ | (intro vx hx'; replace hx' := Lib.hid hx'))
          skip
          go_simp
          first | exact ⟨Only.refl _ _, isV.self _ _⟩ | ((with_reducible exact grow_of (sign_w (Lib.hid (HX.out.only hox)))))
        refine owes_cons (fun wx hox => ?_) ?_
        · simp only [waits, withs, Region.binds, List.filter, List.map, List.getElem?_cons_zero, List.getElem?_cons_succ, Option.bind, Option.getD, List.range, List.range.loop, List.length]
          repeat (first | refine all_isV ?_ | (intro vx hx'; replace hx' := Lib.hid hx'))
          have hp := HP.out.step hox
          obtain ⟨c0, c1', c2, c3⟩ := hp.cells
          clear hp
          go_simp
          first | exact ⟨Only.refl _ _, isV.self _ _⟩ | (fail)
        refine owes_cons (fun wx hox => ?_) ?_
        · simp only [waits, withs, Region.binds, List.filter, List.map, List.getElem?_cons_zero, List.getElem?_cons_succ, Option.bind, Option.getD, List.range, List.range.loop, List.length]
          repeat (first | refine all_isV ?_ | (intro vx hx'; replace hx' := Lib.hid hx'))
          skip
          go_simp
          first | exact ⟨Only.refl _ _, isV.self _ _⟩ | ((with_reducible exact grow_of (sign_w (Lib.hid (HY.out.only hox)))))
        refine owes_cons (fun wx hox => ?_) ?_
        · simp only [waits, withs, Region.binds, List.filter, List.map, List.getElem?_cons_zero, List.getElem?_cons_succ, Option.bind, Option.getD, List.range, List.range.loop, List.length]
          repeat (first | refine all_isV ?_ | (intro vx hx'; replace hx' := Lib.hid hx'))
          skip
          go_simp
          first | exact ⟨Only.refl _ _, isV.self _ _⟩ | (fail)
        refine owes_cons (fun wx hox => ?_) ?_
        · simp only [waits, withs, Region.binds, List.filter, List.map, List.getElem?_cons_zero, List.getElem?_cons_succ, Option.bind, Option.getD, List.range, List.range.loop, List.length]
          repeat (first | refine all_isV ?_ | (intro vx hx'; replace hx' := Lib.hid hx'))
          skip
          go_simp
          first | exact ⟨Only.refl _ _, isV.self _ _⟩ | (fail)
        exact owes_nil
      case hl =>
        repeat (refine List.forall_mem_cons.2 ⟨?_, ?_⟩; first | exact isV.lasts _ | exact isNR.lasts _ _ | exact isWR.lasts _ _ | exact isRow.lasts _ _ _ | exact isPtr.lasts _ _ _)
        exact fun _ h => (by cases h)
      case he =>
        intro wx hox
        simp only [waits, withs, Region.binds, List.filter, List.map, List.getElem?_cons_zero, List.getElem?_cons_succ, Option.bind, Option.getD, List.range, List.range.loop, List.length]
        repeat (first | refine all_isV ?_ | (intro vx hx'; replace hx' := Lib.hid hx'))
        have hp := HP.out.step hox
        obtain ⟨c0, c1', c2, c3⟩ := hp.cells
        clear hp
        go_simp
        go_wp2_with fail
        go_ret
        exact ⟨by rw [HR.out]; rfl, HP.out.only.nil_trans hox⟩
    · have he : x.sign = y.sign := by omega
      have hr := cmpI_same he
      have hcr := cmpI_range x y
      have HW : Hid (IntKind.i64.wrap (y.sign * cmpZ x.natAbs y.natAbs) = cmpI x y) := by
        show _ = _
        rw [← he, hr]
        exact wrap_i64 (by omega)
      rw [he] at h1 h2
      clear hpq hqr hr hcr h1 h2
      go_enter Tryd.func13, Tryd.ntmps13
      go_wp2_with fail
      generalize (w.alloc (.cells #[.bool s, .slice A k c] 27)).alloc (.cells #[.bool t, .slice B l d] 27) = w1 at *
      apply wp_region_typed (by kernel_rfl) [isV _, isV _, isV _, isV _, isV _, isV _] (by kernel_rfl)
      case ho =>
        refine owes_cons (fun wx hox => ?_) ?_
        · simp only [waits, withs, Region.binds, List.filter, List.map, List.getElem?_cons_zero, List.getElem?_cons_succ, Option.bind, Option.getD, List.range, List.range.loop, List.length]
          repeat (first | refine all_isV ?_ | (intro vx hx'; replace hx' := Lib.hid hx'))
          have hp := HP.out.step hox
          obtain ⟨c0, c1', c2, c3⟩ := hp.cells
          clear hp
          go_simp
          first | exact ⟨Only.refl _ _, isV.self _ _⟩ | (fail)
        refine owes_cons (fun wx hox => ?_) ?_
        · simp only [waits, withs, Region.binds, List.filter, List.map, List.getElem?_cons_zero, List.getElem?_cons_succ, Option.bind, Option.getD, List.range, List.range.loop, List.length]
          repeat (first | refine all_isV ?_ | (intro vx hx'; replace hx' := Lib.hid hx'))
          skip
          go_simp
          first | exact ⟨Only.refl _ _, isV.self _ _⟩ | ((with_reducible exact grow_of (sign_w (Lib.hid (HX.out.only hox)))))
        refine owes_cons (fun wx hox => ?_) ?_
        · simp only [waits, withs, Region.binds, List.filter, List.map, List.getElem?_cons_zero, List.getElem?_cons_succ, Option.bind, Option.getD, List.range, List.range.loop, List.length]
          repeat (first | refine all_isV ?_ | (intro vx hx'; replace hx' := Lib.hid hx'))
          have hp := HP.out.step hox
          obtain ⟨c0, c1', c2, c3⟩ := hp.cells
          clear hp
          go_simp
          first | exact ⟨Only.refl _ _, isV.self _ _⟩ | (fail)
        refine owes_cons (fun wx hox => ?_) ?_
        · simp only [waits, withs, Region.binds, List.filter, List.map, List.getElem?_cons_zero, List.getElem?_cons_succ, Option.bind, Option.getD, List.range, List.range.loop, List.length]
          repeat (first | refine all_isV ?_ | (intro vx hx'; replace hx' := Lib.hid hx'))
          skip
          go_simp
          first | exact ⟨Only.refl _ _, isV.self _ _⟩ | ((with_reducible exact grow_of (sign_w (Lib.hid (HY.out.only hox)))))
        refine owes_cons (fun wx hox => ?_) ?_
        · simp only [waits, withs, Region.binds, List.filter, List.map, List.getElem?_cons_zero, List.getElem?_cons_succ, Option.bind, Option.getD, List.range, List.range.loop, List.length]
          repeat (first | refine all_isV ?_ | (intro vx hx'; replace hx' := Lib.hid hx'))
          skip
          go_simp
          first | exact ⟨Only.refl _ _, isV.self _ _⟩ | (fail)
        refine owes_cons (fun wx hox => ?_) ?_
        · simp only [waits, withs, Region.binds, List.filter, List.map, List.getElem?_cons_zero, List.getElem?_cons_succ, Option.bind, Option.getD, List.range, List.range.loop, List.length]
          repeat (first | refine all_isV ?_ | (intro vx hx'; replace hx' := Lib.hid hx'))
          skip
          go_simp
          first | exact ⟨Only.refl _ _, isV.self _ _⟩ | (fail)
        exact owes_nil
      case hl =>
        repeat (refine List.forall_mem_cons.2 ⟨?_, ?_⟩; first | exact isV.lasts _ | exact isNR.lasts _ _ | exact isWR.lasts _ _ | exact isRow.lasts _ _ _ | exact isPtr.lasts _ _ _)
        exact fun _ h => (by cases h)
      case he =>
        intro wx hox
        simp only [waits, withs, Region.binds, List.filter, List.map, List.getElem?_cons_zero, List.getElem?_cons_succ, Option.bind, Option.getD, List.range, List.range.loop, List.length]
        repeat (first | refine all_isV ?_ | (intro vx hx'; replace hx' := Lib.hid hx'))
        have hp := HP.out.step hox
        obtain ⟨c0, c1', c2, c3⟩ := hp.cells
        clear hp
        go_simp
        go_wp2_with fail
        (with_reducible refine (cmp_v (Lib.hid (HX.out.mag.only hox)) (Lib.hid (HY.out.mag.only hox))).mono ?_)
        rintro e w2 ⟨rfl, ho⟩
        have HO := Lib.hid ((HP.out.only.nil_trans hox).nil_trans ho)
        obtain ⟨r, hr⟩ : ∃ r, cmpI x y = r := ⟨_, rfl⟩
        have hw := HW.out
        rw [hr] at hw
        replace hr := Lib.hid hr
        clear c0 c1' c2 c3 ho
        generalize cmpZ x.natAbs y.natAbs = q at *
        generalize y.sign = p at *
        go_wp2_with fail
        go_ret
        exact ⟨by rw [hr.out]; rfl, HO.out⟩

set_option maxHeartbeats 800000 in
/-- An int's number. -/
theorem of_w (v : Int) (w : World) (hv : Hid (-9223372036854775808 ≤ v ∧ v ≤ 9223372036854775807)) : Calls Tryd.prog 10 #[.int .i64 v] w (WPost v w w) := by
  have hB := Blk.new w 27 [.bool false, .slice none 0 0]
  have HO0 : Hid (Only [] w (w.alloc (.cells #[.bool false, .slice none 0 0] 27))) := (Only.refl [] w).alloc _
  have HF : Hid (Few v.natAbs) := few_small (by rw [BB_val]; have := hv.out; omega)
  have HS := Lib.hid (sg_self v)
  have HR : Hid (v.natAbs < BB) := by show _ < _; rw [BB_val]; have := hv.out; omega
  by_cases h0 : v < 0
  · have e1 : IntKind.u64.wrap v = v + 18446744073709551616 := by rw [IntKind.wrap_u64]; have := hv.out; omega
    have e2 : IntKind.u64.wrap (-(v + 18446744073709551616)) = -v := by rw [IntKind.wrap_u64]; have := hv.out; omega
    have HZ : Hid ((v.natAbs : Int) = -v) := by show _ = _; omega
    have HS2 : Hid (sg true v.natAbs = v) := by show _ = _; rw [sg_true]; omega
    clear hv
    go_enter Tryd.func10, Tryd.ntmps10
    go_wp2_with fail
    clear e1 e2
    have hl := of_lit v.natAbs _ (w.alloc (.cells #[.bool false, .slice none 0 0] 27)) HR HZ
    simp only [World.size_alloc] at hl
    (with_reducible refine hl.mono ?_)
    clear hl
    rintro e w2 ⟨A1, k1, c1, rfl, -, hv1, ho⟩
    have hB2 := hB.only ho (by simp)
    have HO2 := Lib.hid (HO0.out.nil_trans ho)
    replace hv1 := Lib.hid hv1
    have HSz := Lib.hid ho.size
    clear ho
    go_wp2_with fail
    (with_reducible refine (make_w true hv1).mono ?_)
    rintro e w3 ⟨s1, A2, k2, c2, rfl, hs1, hr1, -, ho⟩
    rw [HS2.out] at hs1 hr1
    have hB3 := hB2.only ho (by simp)
    have c0 := hB3.cell 0
    have c1' := hB3.cell 1
    have f0 := hB3.frozen 0
    have f1 := hB3.frozen 1
    simp only [List.getElem?_cons_zero, List.getElem?_cons_succ] at c0 c1'
    have HR1 := Lib.hid (⟨hs1, hr1⟩ : _ ∧ _)
    have HO3 := Lib.hid (HO2.out.nil_trans ho)
    clear ho hs1 hr1
    go_wp2_with fail
    refine bodyPost_ret (v := .agg #[.bool s1, .slice A2 k2 c2]) (by simp [results, Tryd.results10, go_sem, c0, c1']) rfl ?_
    exact WPost.fwd HR1.out HF.out (Nat.le_refl _) (by have := HSz.out; simp at this; omega) HO3.out (only_set2 _ _ _ _)
  · have e1 : IntKind.u64.wrap v = v := by rw [IntKind.wrap_u64]; have := hv.out; omega
    have HZ : Hid ((v.natAbs : Int) = v) := by show _ = _; omega
    have HS2 : Hid (sg false v.natAbs = v) := by show _ = _; rw [sg_false]; omega
    clear hv
    go_enter Tryd.func10, Tryd.ntmps10
    go_wp2_with fail
    clear e1
    have hl := of_lit v.natAbs _ (w.alloc (.cells #[.bool false, .slice none 0 0] 27)) HR HZ
    simp only [World.size_alloc] at hl
    (with_reducible refine hl.mono ?_)
    clear hl
    rintro e w2 ⟨A1, k1, c1, rfl, -, hv1, ho⟩
    have hB2 := hB.only ho (by simp)
    have HO2 := Lib.hid (HO0.out.nil_trans ho)
    replace hv1 := Lib.hid hv1
    have HSz := Lib.hid ho.size
    clear ho
    go_wp2_with fail
    (with_reducible refine (make_w false hv1).mono ?_)
    rintro e w3 ⟨s1, A2, k2, c2, rfl, hs1, hr1, -, ho⟩
    rw [HS2.out] at hs1 hr1
    have hB3 := hB2.only ho (by simp)
    have c0 := hB3.cell 0
    have c1' := hB3.cell 1
    have f0 := hB3.frozen 0
    have f1 := hB3.frozen 1
    simp only [List.getElem?_cons_zero, List.getElem?_cons_succ] at c0 c1'
    have HR1 := Lib.hid (⟨hs1, hr1⟩ : _ ∧ _)
    have HO3 := Lib.hid (HO2.out.nil_trans ho)
    clear ho hs1 hr1
    go_wp2_with fail
    refine bodyPost_ret (v := .agg #[.bool s1, .slice A2 k2 c2]) (by simp [results, Tryd.results10, go_sem, c0, c1']) rfl ?_
    exact WPost.fwd HR1.out HF.out (Nat.le_refl _) (by have := HSz.out; simp at this; omega) HO3.out (only_set2 _ _ _ _)
end Go.Proofs.YtphjcphcgnjogaaDoor
