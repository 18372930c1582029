/-
  Whole numbers, plain: signs, order, quotients rounded down and up.
-/
import Derived.Test.YtigpnopeacicpaaDoorTaGVal
import Derived.Test.YtigpnopeacicpaaDoorTaGNV
import Derived.Test.YtigpnopeacicpaaDoorTaGTyp
namespace Go.Proofs.YtigpnopeacicpaaDoor
set_option linter.unusedSimpArgs false
set_option linter.unusedVariables false

/-- A sign and an amount. -/
def sg (s : Bool) (n : Nat) : Int := if s then -(n : Int) else (n : Int)
theorem sg_true (n : Nat) : sg true n = -(n : Int) := rfl
theorem sg_false (n : Nat) : sg false n = (n : Int) := rfl
theorem sg_abs (s : Bool) (n : Nat) : (sg s n).natAbs = n := by cases s <;> simp [sg]
theorem sg_self (z : Int) : sg (decide (z < 0)) z.natAbs = z := by
  by_cases h : z < 0
  · rw [decide_eq_true h, sg_true]; omega
  · rw [decide_eq_false h, sg_false]; omega
theorem sg_zero (s : Bool) : sg s 0 = 0 := by cases s <;> rfl
theorem sign_of (z : Int) : (z.sign = -1 ∧ z < 0) ∨ (z.sign = 0 ∧ z = 0) ∨ (z.sign = 1 ∧ 0 < z) := by
  rcases Int.lt_trichotomy z 0 with h | h | h
  · exact .inl ⟨Int.sign_eq_neg_one_of_neg h, h⟩
  · exact .inr (.inl ⟨by rw [h]; rfl, h⟩)
  · exact .inr (.inr ⟨Int.sign_eq_one_of_pos h, h⟩)
end Go.Proofs.YtigpnopeacicpaaDoor
/-
  Whole numbers: what a sign and limbs read as; Make, Of, Sign, Not.
-/
namespace Go.Proofs.YtigpnopeacicpaaDoor
set_option linter.unusedSimpArgs false
open Go.RowKit

/-- A value that reads as a whole number. -/
def IV (w : World) (v : Value) (z : Int) : Prop := ∃ s A k c n, v = .agg #[.bool s, .slice A k c] ∧ NV w (.slice A k c) n ∧ sg s n = z
theorem IV.only {w w' : World} {v : Value} {z : Int} (h : IV w v z) (ho : Only [] w w') : IV w' v z := by
  obtain ⟨s, A, k, c, n, h1, h2, h3⟩ := h
  exact ⟨s, A, k, c, n, h1, h2.only ho, h3⟩
theorem IV.mag {w : World} {s : Bool} {v : Value} {z : Int} (h : IV w (.agg #[.bool s, v]) z) : NV w v z.natAbs := by
  obtain ⟨s', A, k, c, n, h1, h2, h3⟩ := h
  simp only [Value.agg.injEq, Array.mk.injEq, List.cons.injEq, Value.bool.injEq, and_true] at h1
  obtain ⟨rfl, rfl⟩ := h1
  rw [← h3, sg_abs]
  exact h2
theorem IV.sign {w : World} {s : Bool} {v : Value} {z : Int} (h : IV w (.agg #[.bool s, v]) z) : sg s z.natAbs = z := by
  obtain ⟨s', A, k, c, n, h1, h2, h3⟩ := h
  simp only [Value.agg.injEq, Array.mk.injEq, List.cons.injEq, Value.bool.injEq, and_true] at h1
  obtain ⟨rfl, rfl⟩ := h1
  rw [← h3, sg_abs]
/-- What a function leaves that tells a whole number. -/
def WPost (z : Int) (w0 w : World) (e : Ending) (w' : World) : Prop := ∃ s A k c, e = .returned (.agg #[.bool s, .slice A k c]) ∧ s = decide (z < 0) ∧ Res w0 w' (.slice A k c) z.natAbs ∧ IV w' (.agg #[.bool s, .slice A k c]) z ∧ Only [] w w'
theorem wpost {z : Int} {w0 w w' : World} {s : Bool} {A : Option Addr} {k c : Nat} (hs : s = decide (z < 0)) (hr : Res w0 w' (.slice A k c) z.natAbs) (hv : NV w' (.slice A k c) z.natAbs) (ho : Only [] w w') : WPost z w0 w (.returned (.agg #[.bool s, .slice A k c])) w' :=
  ⟨s, A, k, c, rfl, hs, hr, ⟨s, A, k, c, _, rfl, hv, by rw [hs, sg_self]⟩, ho⟩

theorem bits_zero_iff {n : Nat} : bitsN n = 0 ↔ n = 0 := by
  unfold bitsN
  constructor
  · intro h
    apply Decidable.byContradiction
    intro h0
    rw [if_neg h0] at h
    omega
  · rintro rfl
    rfl
theorem res_len0 {n k : Nat} (h : k = (limbsOf n).length) : (n = 0 ∧ k = 0) ∨ (n ≠ 0 ∧ 0 < k) := by
  by_cases h0 : n = 0
  · subst h0
    exact .inl ⟨rfl, by rw [h, limbsOf_zero]; rfl⟩
  · refine .inr ⟨h0, ?_⟩
    rw [h, limbsOf_pos (by omega)]
    simp
/-- A struct's two cells, written behind a result. -/
theorem wfin {z : Int} {w wb w1 w2 : World} {b : Nat} {s : Bool} {A : Option Addr} {k c : Nat} (hs : s = decide (z < 0)) (hb : w.heap.size ≤ b) (hr : Res wb w1 (.slice A k c) z.natAbs) (hwb : b < wb.heap.size) (hf : Few z.natAbs) (ho : Only [] w w1) (ho2 : Only [b] w1 w2) :
    WPost z w w (.returned (.agg #[.bool s, .slice A k c])) w2 := by
  have hr2 : Res w w2 (.slice A k c) z.natAbs := (hr.only ho2 (fun g hg hc => by
    have := hr.fresh g hg
    simp at hc
    omega)).pre (by omega)
  exact wpost hs hr2 (NV.of_res hr2 hf) (ho.trans ho2 (fun k hk => .inr (by simp at hk; omega)))
theorem only_set2 (w : World) (b : Nat) (x y : Value) : Only [b] w ((w.setCell ⟨b, 0, none⟩ x).setCell ⟨b, 1, none⟩ y) := ((Only.refl [b] w).setCell (.inl (by simp)) x).setCell (.inl (by simp)) y
set_option maxHeartbeats 800000 in
theorem make_w {w : World} {a : Value} {n : Nat} (s : Bool) (ha : Hid (NV w a n)) : Calls Tryd.prog 33 #[.bool s, a] w (WPost (sg s n) w w) := by
  have HF := Lib.hid ha.out.few
  obtain ⟨A, c, xs, rfl, -⟩ := id ha.out
  have ho0 : Only [] w (w.alloc (.cells #[.bool false, .slice none 0 0] 44)) := (Only.refl [] w).alloc _
  have HA := Lib.hid (ha.out.only ho0)
  have hB := Blk.new w 44 [.bool false, .slice none 0 0]
  have HO0 := Lib.hid ho0
  cases s
  · skip
    go_enter Tryd.func33, Tryd.ntmps33
    go_wp2_with fail
    refine (of_v HA).mono ?_
    rintro e w1 ⟨A1, k1, c1, rfl, hr, hv, ho⟩
    have hB1 := hB.only ho (by simp)
    have c0 := hB1.cell 0
    have c1' := hB1.cell 1
    have f0 := hB1.frozen 0
    have f1 := hB1.frozen 1
    simp only [List.getElem?_cons_zero, List.getElem?_cons_succ] at c0 c1'
    have HR := Lib.hid hr
    have HO := Lib.hid (HO0.out.nil_trans ho)
    have HK := Lib.hid (res_len0 hr.len)
    clear hr hv ho
    rcases HK.out with ⟨h0, h1⟩ | ⟨h0, h1⟩
    · subst h0 h1
      go_wp2_with fail
      refine bodyPost_ret (v := .agg #[.bool false, .slice A1 0 c1]) (by simp [results, Tryd.results33, go_sem, c0, c1']) rfl ?_
      rw [sg_zero]
      exact wfin rfl (Nat.le_refl _) HR.out (by simp) HF.out HO.out (only_set2 _ _ _ _)
    · have h2 : (0 : Int) < (k1 : Int) := by omega
      clear h1
      go_wp2_with fail
      refine bodyPost_ret (v := .agg #[.bool false, .slice A1 k1 c1]) (by simp [results, Tryd.results33, go_sem, c0, c1', Int.natCast_pos.1 h2]) rfl ?_
      refine wfin ?_ (Nat.le_refl _) (by rw [sg_abs]; exact HR.out) (by simp) (by rw [sg_abs]; exact HF.out) HO.out (only_set2 _ _ _ _)
      simp only [sg_true, sg_false]
      symm
      exact decide_eq_false (by omega)
  · skip
    go_enter Tryd.func33, Tryd.ntmps33
    go_wp2_with fail
    refine (of_v HA).mono ?_
    rintro e w1 ⟨A1, k1, c1, rfl, hr, hv, ho⟩
    have hB1 := hB.only ho (by simp)
    have c0 := hB1.cell 0
    have c1' := hB1.cell 1
    have f0 := hB1.frozen 0
    have f1 := hB1.frozen 1
    simp only [List.getElem?_cons_zero, List.getElem?_cons_succ] at c0 c1'
    have HR := Lib.hid hr
    have HO := Lib.hid (HO0.out.nil_trans ho)
    have HK := Lib.hid (res_len0 hr.len)
    clear hr hv ho
    rcases HK.out with ⟨h0, h1⟩ | ⟨h0, h1⟩
    · subst h0 h1
      go_wp2_with fail
      refine bodyPost_ret (v := .agg #[.bool false, .slice A1 0 c1]) (by simp [results, Tryd.results33, go_sem, c0, c1']) rfl ?_
      rw [sg_zero]
      exact wfin rfl (Nat.le_refl _) HR.out (by simp) HF.out HO.out (only_set2 _ _ _ _)
    · have h2 : (0 : Int) < (k1 : Int) := by omega
      clear h1
      go_wp2_with fail
      refine bodyPost_ret (v := .agg #[.bool true, .slice A1 k1 c1]) (by simp [results, Tryd.results33, go_sem, c0, c1', Int.natCast_pos.1 h2]) rfl ?_
      refine wfin ?_ (Nat.le_refl _) (by rw [sg_abs]; exact HR.out) (by simp) (by rw [sg_abs]; exact HF.out) HO.out (only_set2 _ _ _ _)
      simp only [sg_true, sg_false]
      symm
      exact decide_eq_true (by omega)
/-- A value's form. -/
theorem IV.form {w : World} {v : Value} {z : Int} (h : IV w v z) : ∃ s A k c, v = .agg #[.bool s, .slice A k c] ∧ sg s z.natAbs = z := by
  obtain ⟨s, A, k, c, n, h1, h2, h3⟩ := h
  exact ⟨s, A, k, c, h1, by rw [← h3, sg_abs]⟩
set_option maxHeartbeats 800000 in
theorem sign_w {w : World} {a : Value} {z : Int} (ha : Hid (IV w a z)) : Calls Tryd.prog 21 #[a] w fun e w' => e = .returned (.int .i64 z.sign) ∧ Only [] w w' := by
  obtain ⟨s, A, k, c, rfl, hs⟩ := ha.out.form
  have HM := Lib.hid ha.out.mag
  have ho0 : Only [] w (w.alloc (.cells #[.bool s, .slice A k c] 44)) := (Only.refl [] w).alloc _
  have HM1 := Lib.hid (HM.out.only ho0)
  have HO0 := Lib.hid ho0
  have HB := Lib.hid (bits_zero_iff (n := z.natAbs))
  clear ho0 ha
  generalize z.natAbs = n at *
  rcases sign_of z with ⟨h1, h2⟩ | ⟨h1, h2⟩ | ⟨h1, h2⟩
  · obtain rfl : s = true := by cases s; (simp only [sg_false] at hs; omega); rfl
    have hn : ((bitsN n : Int) == 0) = false := by
      rw [beq_eq_false_iff_ne]
      intro hc
      have := HB.out.1 (by omega)
      simp only [sg_true] at hs
      omega
    rw [h1]
    clear h1
    go_enter Tryd.func21, Tryd.ntmps21
    go_wp2_with fail
    refine (bits_v HM1).mono ?_
    rintro e w1 ⟨rfl, rfl⟩
    go_wp2_with fail
    go_ret
    exact ⟨rfl, HO0.out⟩
  · have hn : (bitsN n : Int) = 0 := by
      have : n = 0 := by cases s <;> simp only [sg_false, sg_true] at hs <;> omega
      have := HB.out.2 this
      omega
    rw [h1]
    clear h1
    go_enter Tryd.func21, Tryd.ntmps21
    go_wp2_with fail
    refine (bits_v HM1).mono ?_
    rintro e w1 ⟨rfl, rfl⟩
    rw [hn]
    go_wp2_with fail
    go_ret
    exact ⟨rfl, HO0.out⟩
  · obtain rfl : s = false := by cases s; rfl; (simp only [sg_true] at hs; omega)
    have hn : ((bitsN n : Int) == 0) = false := by
      rw [beq_eq_false_iff_ne]
      intro hc
      have := HB.out.1 (by omega)
      simp only [sg_false] at hs
      omega
    rw [h1]
    clear h1
    go_enter Tryd.func21, Tryd.ntmps21
    go_wp2_with fail
    refine (bits_v HM1).mono ?_
    rintro e w1 ⟨rfl, rfl⟩
    go_wp2_with fail
    go_ret
    exact ⟨rfl, HO0.out⟩

/-! ### Properties for drawn regions -/
/-- A number of the region's own. -/
def isNR (w0 : World) (n : Nat) : VP := fun u w => ∃ A k c, u = .slice A k c ∧ Res w0 w u n ∧ NV w u n
theorem isNR.lasts (w0 : World) (n : Nat) : Lasts (isNR w0 n) := fun _ _ _ ⟨A, k, c, h1, h2, h3⟩ ho => ⟨A, k, c, h1, h2.nil ho, h3.only ho⟩
/-- A whole number of the region's own. -/
def isWR (w0 : World) (z : Int) : VP := fun u w => ∃ s A k c, u = .agg #[.bool s, .slice A k c] ∧ s = decide (z < 0) ∧ Res w0 w (.slice A k c) z.natAbs ∧ IV w u z
theorem isWR.lasts (w0 : World) (z : Int) : Lasts (isWR w0 z) := fun _ _ _ ⟨s, A, k, c, h1, h2, h3, h4⟩ ho => ⟨s, A, k, c, h1, h2, h3.nil ho, h4.only ho⟩
/-- A new row. -/
def isRow (t : TypeId) (n : Nat) (cs : List Value) : VP := fun u w => ∃ g, u = .slice (some ⟨g, 0, none⟩) n n ∧ Blk w g t cs
theorem isRow.lasts (t : TypeId) (n : Nat) (cs : List Value) : Lasts (isRow t n cs) := fun _ _ _ ⟨g, h1, h2⟩ ho => ⟨g, h1, h2.only ho (by simp)⟩
theorem isRow.new (w : World) (t : TypeId) (n : Nat) (cs : List Value) : Only [] w (w.alloc (.cells cs.toArray t)) ∧ isRow t n cs (.slice (some ⟨w.heap.size, 0, none⟩) n n) (w.alloc (.cells cs.toArray t)) := ⟨(Only.refl [] w).alloc _, _, rfl, Blk.new w t cs⟩
theorem grow_n {f : FuncId} {args : Array Value} {w0 w : World} {n : Nat} (h : Calls Tryd.prog f args w (NPostV n w w)) (ho : Only [] w0 w) :
    Calls Tryd.prog f args w fun e w'' => ∃ u, e = .returned u ∧ Only [] w w'' ∧ isNR w0 n u w'' :=
  h.mono fun _ _ ⟨A, k, c, he, hr, hv, ho2⟩ => ⟨_, he, ho2, A, k, c, rfl, hr.pre ho.size, hv⟩
end Go.Proofs.YtigpnopeacicpaaDoor
/-
  Whole numbers: the sum of two, the difference.
-/
namespace Go.Proofs.YtigpnopeacicpaaDoor
open Go.RowKit
set_option linter.unusedSimpArgs false

/-- Two boxed structs and the result's cells, at the blocks b, b + 1, b + 2. -/
structure P3 (w : World) (b : Nat) (s : Bool) (u : Value) (t : Bool) (v : Value) (w' : World) : Prop where
  only : Only [] w w'
  lt : w.heap.size = b
  size : b + 3 ≤ w'.heap.size
  b1 : Blk w' b 44 [.bool s, u]
  b2 : Blk w' (b + 1) 44 [.bool t, v]
  b3 : Blk w' (b + 2) 44 [.bool false, .slice none 0 0]
/-- The cells, as the walk wants them. -/
theorem P3.cells {w w' : World} {b : Nat} {s t : Bool} {u v : Value} (h : P3 w b s u t v w') :
    w'.cell? ⟨b, 0, none⟩ = some (.bool s) ∧ w'.cell? ⟨b, 1, none⟩ = some u ∧ w'.cell? ⟨b + 1, 0, none⟩ = some (.bool t) ∧ w'.cell? ⟨b + 1, 1, none⟩ = some v ∧
    w'.cell? ⟨b + 2, 0, none⟩ = some (.bool false) ∧ w'.cell? ⟨b + 2, 1, none⟩ = some (.slice none 0 0) ∧ w'.frozen? ⟨b + 2, 0, none⟩ = false ∧ w'.frozen? ⟨b + 2, 1, none⟩ = false :=
  ⟨h.b1.cell 0, h.b1.cell 1, h.b2.cell 0, h.b2.cell 1, h.b3.cell 0, h.b3.cell 1, h.b3.frozen 0, h.b3.frozen 1⟩
end Go.Proofs.YtigpnopeacicpaaDoor
/-
  Whole numbers: the difference, the order, an int's number.
-/
namespace Go.Proofs.YtigpnopeacicpaaDoor
open Go.RowKit
set_option linter.unusedSimpArgs false

/-- Two boxed structs, at the blocks b and b + 1. -/
structure P2 (w : World) (b : Nat) (s : Bool) (u : Value) (t : Bool) (v : Value) (w' : World) : Prop where
  only : Only [] w w'
  lt : w.heap.size = b
  b1 : Blk w' b 44 [.bool s, u]
  b2 : Blk w' (b + 1) 44 [.bool t, v]
theorem P2.cells {w w' : World} {b : Nat} {s t : Bool} {u v : Value} (h : P2 w b s u t v w') :
    w'.cell? ⟨b, 0, none⟩ = some (.bool s) ∧ w'.cell? ⟨b, 1, none⟩ = some u ∧ w'.cell? ⟨b + 1, 0, none⟩ = some (.bool t) ∧ w'.cell? ⟨b + 1, 1, none⟩ = some v :=
  ⟨h.b1.cell 0, h.b1.cell 1, h.b2.cell 0, h.b2.cell 1⟩
theorem wrap_i64 {z : Int} (h : -9223372036854775808 ≤ z ∧ z ≤ 9223372036854775807) : IntKind.i64.wrap z = z := by rw [IntKind.wrap_i64]; omega
end Go.Proofs.YtigpnopeacicpaaDoor
