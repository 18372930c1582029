/-
  Joined texts.
-/
import Derived.Test.YtigpnopeacicpaaDoorTbJ0
import Derived.Test.YtigpnopeacicpaaDoorTbJ3
import Derived.Test.YtigpnopeacicpaaDoorTbGTyp
import Derived.Test.YtigpnopeacicpaaDoorTbJ2
import Derived.ProofKit
import Derived.OpenShut
import Derived.ShutString
import Derived.ChangeOld
import Derived.Below
import Derived.Deep.Slices
import Derived.Deep.Fields
import Derived.ChangeSame
import Derived.Test.YtigpnopeacicpaaDoorProg
/-
  Whole numbers, plain: signs, order, quotients rounded down and up.
-/
namespace Go.Proofs.YtigpnopeacicpaaDoor
set_option linter.unusedSimpArgs false
set_option linter.unusedVariables false

/-- A sign and an amount. -/
def sg (s : Bool) (n : Nat) : Int := if s then -(n : Int) else (n : Int)
theorem sg_true (n : Nat) : sg true n = -(n : Int) := rfl
theorem sg_false (n : Nat) : sg false n = (n : Int) := rfl
theorem sg_abs (s : Bool) (n : Nat) : (sg s n).natAbs = n := by cases s <;> simp [sg]
theorem sg_self (z : Int) : sg (decide (z < 0)) z.natAbs = z := by
  by_cases h : z < 0
  · rw [decide_eq_true h, sg_true]; omega
  · rw [decide_eq_false h, sg_false]; omega
theorem sg_zero (s : Bool) : sg s 0 = 0 := by cases s <;> rfl
theorem sign_of (z : Int) : (z.sign = -1 ∧ z < 0) ∨ (z.sign = 0 ∧ z = 0) ∨ (z.sign = 1 ∧ 0 < z) := by
  rcases Int.lt_trichotomy z 0 with h | h | h
  · exact .inl ⟨Int.sign_eq_neg_one_of_neg h, h⟩
  · exact .inr (.inl ⟨by rw [h]; rfl, h⟩)
  · exact .inr (.inr ⟨Int.sign_eq_one_of_pos h, h⟩)
end Go.Proofs.YtigpnopeacicpaaDoor
/-
  Whole numbers: what a sign and limbs read as; Make, Of, Sign, Not.
-/
namespace Go.Proofs.YtigpnopeacicpaaDoor
set_option linter.unusedSimpArgs false
open Go.RowKit

/-- A value that reads as a whole number. -/
def IV (w : World) (v : Value) (z : Int) : Prop := ∃ s A k c n, v = .agg #[.bool s, .slice A k c] ∧ NV w (.slice A k c) n ∧ sg s n = z
theorem IV.only {w w' : World} {v : Value} {z : Int} (h : IV w v z) (ho : Only [] w w') : IV w' v z := by
  obtain ⟨s, A, k, c, n, h1, h2, h3⟩ := h
  exact ⟨s, A, k, c, n, h1, h2.only ho, h3⟩
theorem IV.mag {w : World} {s : Bool} {v : Value} {z : Int} (h : IV w (.agg #[.bool s, v]) z) : NV w v z.natAbs := by
  obtain ⟨s', A, k, c, n, h1, h2, h3⟩ := h
  simp only [Value.agg.injEq, Array.mk.injEq, List.cons.injEq, Value.bool.injEq, and_true] at h1
  obtain ⟨rfl, rfl⟩ := h1
  rw [← h3, sg_abs]
  exact h2
theorem IV.sign {w : World} {s : Bool} {v : Value} {z : Int} (h : IV w (.agg #[.bool s, v]) z) : sg s z.natAbs = z := by
  obtain ⟨s', A, k, c, n, h1, h2, h3⟩ := h
  simp only [Value.agg.injEq, Array.mk.injEq, List.cons.injEq, Value.bool.injEq, and_true] at h1
  obtain ⟨rfl, rfl⟩ := h1
  rw [← h3, sg_abs]
/-- What a function leaves that tells a whole number. -/
def WPost (z : Int) (w0 w : World) (e : Ending) (w' : World) : Prop := ∃ s A k c, e = .returned (.agg #[.bool s, .slice A k c]) ∧ s = decide (z < 0) ∧ Res w0 w' (.slice A k c) z.natAbs ∧ IV w' (.agg #[.bool s, .slice A k c]) z ∧ Only [] w w'
theorem wpost {z : Int} {w0 w w' : World} {s : Bool} {A : Option Addr} {k c : Nat} (hs : s = decide (z < 0)) (hr : Res w0 w' (.slice A k c) z.natAbs) (hv : NV w' (.slice A k c) z.natAbs) (ho : Only [] w w') : WPost z w0 w (.returned (.agg #[.bool s, .slice A k c])) w' :=
  ⟨s, A, k, c, rfl, hs, hr, ⟨s, A, k, c, _, rfl, hv, by rw [hs, sg_self]⟩, ho⟩

theorem bits_zero_iff {n : Nat} : bitsN n = 0 ↔ n = 0 := by
  unfold bitsN
  constructor
  · intro h
    apply Decidable.byContradiction
    intro h0
    rw [if_neg h0] at h
    omega
  · rintro rfl
    rfl
theorem res_len0 {n k : Nat} (h : k = (limbsOf n).length) : (n = 0 ∧ k = 0) ∨ (n ≠ 0 ∧ 0 < k) := by
  by_cases h0 : n = 0
  · subst h0
    exact .inl ⟨rfl, by rw [h, limbsOf_zero]; rfl⟩
  · refine .inr ⟨h0, ?_⟩
    rw [h, limbsOf_pos (by omega)]
    simp
/-- A struct's two cells, written behind a result. -/
theorem wfin {z : Int} {w wb w1 w2 : World} {b : Nat} {s : Bool} {A : Option Addr} {k c : Nat} (hs : s = decide (z < 0)) (hb : w.heap.size ≤ b) (hr : Res wb w1 (.slice A k c) z.natAbs) (hwb : b < wb.heap.size) (hf : Few z.natAbs) (ho : Only [] w w1) (ho2 : Only [b] w1 w2) :
    WPost z w w (.returned (.agg #[.bool s, .slice A k c])) w2 := by
  have hr2 : Res w w2 (.slice A k c) z.natAbs := (hr.only ho2 (fun g hg hc => by
    have := hr.fresh g hg
    simp at hc
    omega)).pre (by omega)
  exact wpost hs hr2 (NV.of_res hr2 hf) (ho.trans ho2 (fun k hk => .inr (by simp at hk; omega)))
theorem only_set2 (w : World) (b : Nat) (x y : Value) : Only [b] w ((w.setCell ⟨b, 0, none⟩ x).setCell ⟨b, 1, none⟩ y) := ((Only.refl [b] w).setCell (.inl (by simp)) x).setCell (.inl (by simp)) y
set_option maxHeartbeats 800000 in
theorem make_w {w : World} {a : Value} {n : Nat} (s : Bool) (ha : Hid (NV w a n)) : Calls Tryd.prog 33 #[.bool s, a] w (WPost (sg s n) w w) := by
  have HF := Lib.hid ha.out.few
  obtain ⟨A, c, xs, rfl, -⟩ := id ha.out
  have ho0 : Only [] w (w.alloc (.cells #[.bool false, .slice none 0 0] 44)) := (Only.refl [] w).alloc _
  have HA := Lib.hid (ha.out.only ho0)
  have hB := Blk.new w 44 [.bool false, .slice none 0 0]
  have HO0 := Lib.hid ho0
  cases s
  · skip
    go_enter Tryd.func33, Tryd.ntmps33
    go_wp2_with fail
    refine (of_v HA).mono ?_
    rintro e w1 ⟨A1, k1, c1, rfl, hr, hv, ho⟩
    have hB1 := hB.only ho (by simp)
    have c0 := hB1.cell 0
    have c1' := hB1.cell 1
    have f0 := hB1.frozen 0
    have f1 := hB1.frozen 1
    simp only [List.getElem?_cons_zero, List.getElem?_cons_succ] at c0 c1'
    have HR := Lib.hid hr
    have HO := Lib.hid (HO0.out.nil_trans ho)
    have HK := Lib.hid (res_len0 hr.len)
    clear hr hv ho
    rcases HK.out with ⟨h0, h1⟩ | ⟨h0, h1⟩
    · subst h0 h1
      go_wp2_with fail
      refine bodyPost_ret (v := .agg #[.bool false, .slice A1 0 c1]) (by simp [results, Tryd.results33, go_sem, c0, c1']) rfl ?_
      rw [sg_zero]
      exact wfin rfl (Nat.le_refl _) HR.out (by simp) HF.out HO.out (only_set2 _ _ _ _)
    · have h2 : (0 : Int) < (k1 : Int) := by omega
      clear h1
      go_wp2_with fail
      refine bodyPost_ret (v := .agg #[.bool false, .slice A1 k1 c1]) (by simp [results, Tryd.results33, go_sem, c0, c1', Int.natCast_pos.1 h2]) rfl ?_
      refine wfin ?_ (Nat.le_refl _) (by rw [sg_abs]; exact HR.out) (by simp) (by rw [sg_abs]; exact HF.out) HO.out (only_set2 _ _ _ _)
      simp only [sg_true, sg_false]
      symm
      exact decide_eq_false (by omega)
  · skip
    go_enter Tryd.func33, Tryd.ntmps33
    go_wp2_with fail
    refine (of_v HA).mono ?_
    rintro e w1 ⟨A1, k1, c1, rfl, hr, hv, ho⟩
    have hB1 := hB.only ho (by simp)
    have c0 := hB1.cell 0
    have c1' := hB1.cell 1
    have f0 := hB1.frozen 0
    have f1 := hB1.frozen 1
    simp only [List.getElem?_cons_zero, List.getElem?_cons_succ] at c0 c1'
    have HR := Lib.hid hr
    have HO := Lib.hid (HO0.out.nil_trans ho)
    have HK := Lib.hid (res_len0 hr.len)
    clear hr hv ho
    rcases HK.out with ⟨h0, h1⟩ | ⟨h0, h1⟩
    · subst h0 h1
      go_wp2_with fail
      refine bodyPost_ret (v := .agg #[.bool false, .slice A1 0 c1]) (by simp [results, Tryd.results33, go_sem, c0, c1']) rfl ?_
      rw [sg_zero]
      exact wfin rfl (Nat.le_refl _) HR.out (by simp) HF.out HO.out (only_set2 _ _ _ _)
    · have h2 : (0 : Int) < (k1 : Int) := by omega
      clear h1
      go_wp2_with fail
      refine bodyPost_ret (v := .agg #[.bool true, .slice A1 k1 c1]) (by simp [results, Tryd.results33, go_sem, c0, c1', Int.natCast_pos.1 h2]) rfl ?_
      refine wfin ?_ (Nat.le_refl _) (by rw [sg_abs]; exact HR.out) (by simp) (by rw [sg_abs]; exact HF.out) HO.out (only_set2 _ _ _ _)
      simp only [sg_true, sg_false]
      symm
      exact decide_eq_true (by omega)
/-- A value's form. -/
theorem IV.form {w : World} {v : Value} {z : Int} (h : IV w v z) : ∃ s A k c, v = .agg #[.bool s, .slice A k c] ∧ sg s z.natAbs = z := by
  obtain ⟨s, A, k, c, n, h1, h2, h3⟩ := h
  exact ⟨s, A, k, c, h1, by rw [← h3, sg_abs]⟩
set_option maxHeartbeats 800000 in
theorem sign_w {w : World} {a : Value} {z : Int} (ha : Hid (IV w a z)) : Calls Tryd.prog 21 #[a] w fun e w' => e = .returned (.int .i64 z.sign) ∧ Only [] w w' := by
  obtain ⟨s, A, k, c, rfl, hs⟩ := ha.out.form
  have HM := Lib.hid ha.out.mag
  have ho0 : Only [] w (w.alloc (.cells #[.bool s, .slice A k c] 44)) := (Only.refl [] w).alloc _
  have HM1 := Lib.hid (HM.out.only ho0)
  have HO0 := Lib.hid ho0
  have HB := Lib.hid (bits_zero_iff (n := z.natAbs))
  clear ho0 ha
  generalize z.natAbs = n at *
  rcases sign_of z with ⟨h1, h2⟩ | ⟨h1, h2⟩ | ⟨h1, h2⟩
  · obtain rfl : s = true := by cases s; (simp only [sg_false] at hs; omega); rfl
    have hn : ((bitsN n : Int) == 0) = false := by
      rw [beq_eq_false_iff_ne]
      intro hc
      have := HB.out.1 (by omega)
      simp only [sg_true] at hs
      omega
    rw [h1]
    clear h1
    go_enter Tryd.func21, Tryd.ntmps21
    go_wp2_with fail
    refine (bits_v HM1).mono ?_
    rintro e w1 ⟨rfl, rfl⟩
    go_wp2_with fail
    go_ret
    exact ⟨rfl, HO0.out⟩
  · have hn : (bitsN n : Int) = 0 := by
      have : n = 0 := by cases s <;> simp only [sg_false, sg_true] at hs <;> omega
      have := HB.out.2 this
      omega
    rw [h1]
    clear h1
    go_enter Tryd.func21, Tryd.ntmps21
    go_wp2_with fail
    refine (bits_v HM1).mono ?_
    rintro e w1 ⟨rfl, rfl⟩
    rw [hn]
    go_wp2_with fail
    go_ret
    exact ⟨rfl, HO0.out⟩
  · obtain rfl : s = false := by cases s; rfl; (simp only [sg_true] at hs; omega)
    have hn : ((bitsN n : Int) == 0) = false := by
      rw [beq_eq_false_iff_ne]
      intro hc
      have := HB.out.1 (by omega)
      simp only [sg_false] at hs
      omega
    rw [h1]
    clear h1
    go_enter Tryd.func21, Tryd.ntmps21
    go_wp2_with fail
    refine (bits_v HM1).mono ?_
    rintro e w1 ⟨rfl, rfl⟩
    go_wp2_with fail
    go_ret
    exact ⟨rfl, HO0.out⟩

/-! ### Properties for drawn regions -/
/-- A number of the region's own. -/
def isNR (w0 : World) (n : Nat) : VP := fun u w => ∃ A k c, u = .slice A k c ∧ Res w0 w u n ∧ NV w u n
theorem isNR.lasts (w0 : World) (n : Nat) : Lasts (isNR w0 n) := fun _ _ _ ⟨A, k, c, h1, h2, h3⟩ ho => ⟨A, k, c, h1, h2.nil ho, h3.only ho⟩
/-- A whole number of the region's own. -/
def isWR (w0 : World) (z : Int) : VP := fun u w => ∃ s A k c, u = .agg #[.bool s, .slice A k c] ∧ s = decide (z < 0) ∧ Res w0 w (.slice A k c) z.natAbs ∧ IV w u z
theorem isWR.lasts (w0 : World) (z : Int) : Lasts (isWR w0 z) := fun _ _ _ ⟨s, A, k, c, h1, h2, h3, h4⟩ ho => ⟨s, A, k, c, h1, h2, h3.nil ho, h4.only ho⟩
/-- A new row. -/
def isRow (t : TypeId) (n : Nat) (cs : List Value) : VP := fun u w => ∃ g, u = .slice (some ⟨g, 0, none⟩) n n ∧ Blk w g t cs
theorem isRow.lasts (t : TypeId) (n : Nat) (cs : List Value) : Lasts (isRow t n cs) := fun _ _ _ ⟨g, h1, h2⟩ ho => ⟨g, h1, h2.only ho (by simp)⟩
theorem isRow.new (w : World) (t : TypeId) (n : Nat) (cs : List Value) : Only [] w (w.alloc (.cells cs.toArray t)) ∧ isRow t n cs (.slice (some ⟨w.heap.size, 0, none⟩) n n) (w.alloc (.cells cs.toArray t)) := ⟨(Only.refl [] w).alloc _, _, rfl, Blk.new w t cs⟩
theorem grow_n {f : FuncId} {args : Array Value} {w0 w : World} {n : Nat} (h : Calls Tryd.prog f args w (NPostV n w w)) (ho : Only [] w0 w) :
    Calls Tryd.prog f args w fun e w'' => ∃ u, e = .returned u ∧ Only [] w w'' ∧ isNR w0 n u w'' :=
  h.mono fun _ _ ⟨A, k, c, he, hr, hv, ho2⟩ => ⟨_, he, ho2, A, k, c, rfl, hr.pre ho.size, hv⟩
end Go.Proofs.YtigpnopeacicpaaDoor
/-
  Whole numbers: the sum of two, the difference.
-/
namespace Go.Proofs.YtigpnopeacicpaaDoor
open Go.RowKit
set_option linter.unusedSimpArgs false

/-- Two boxed structs and the result's cells, at the blocks b, b + 1, b + 2. -/
structure P3 (w : World) (b : Nat) (s : Bool) (u : Value) (t : Bool) (v : Value) (w' : World) : Prop where
  only : Only [] w w'
  lt : w.heap.size = b
  size : b + 3 ≤ w'.heap.size
  b1 : Blk w' b 44 [.bool s, u]
  b2 : Blk w' (b + 1) 44 [.bool t, v]
  b3 : Blk w' (b + 2) 44 [.bool false, .slice none 0 0]
/-- The cells, as the walk wants them. -/
theorem P3.cells {w w' : World} {b : Nat} {s t : Bool} {u v : Value} (h : P3 w b s u t v w') :
    w'.cell? ⟨b, 0, none⟩ = some (.bool s) ∧ w'.cell? ⟨b, 1, none⟩ = some u ∧ w'.cell? ⟨b + 1, 0, none⟩ = some (.bool t) ∧ w'.cell? ⟨b + 1, 1, none⟩ = some v ∧
    w'.cell? ⟨b + 2, 0, none⟩ = some (.bool false) ∧ w'.cell? ⟨b + 2, 1, none⟩ = some (.slice none 0 0) ∧ w'.frozen? ⟨b + 2, 0, none⟩ = false ∧ w'.frozen? ⟨b + 2, 1, none⟩ = false :=
  ⟨h.b1.cell 0, h.b1.cell 1, h.b2.cell 0, h.b2.cell 1, h.b3.cell 0, h.b3.cell 1, h.b3.frozen 0, h.b3.frozen 1⟩
end Go.Proofs.YtigpnopeacicpaaDoor
/-
  Whole numbers: the difference, the order, an int's number.
-/
namespace Go.Proofs.YtigpnopeacicpaaDoor
open Go.RowKit
set_option linter.unusedSimpArgs false

/-- Two boxed structs, at the blocks b and b + 1. -/
structure P2 (w : World) (b : Nat) (s : Bool) (u : Value) (t : Bool) (v : Value) (w' : World) : Prop where
  only : Only [] w w'
  lt : w.heap.size = b
  b1 : Blk w' b 44 [.bool s, u]
  b2 : Blk w' (b + 1) 44 [.bool t, v]
theorem P2.cells {w w' : World} {b : Nat} {s t : Bool} {u v : Value} (h : P2 w b s u t v w') :
    w'.cell? ⟨b, 0, none⟩ = some (.bool s) ∧ w'.cell? ⟨b, 1, none⟩ = some u ∧ w'.cell? ⟨b + 1, 0, none⟩ = some (.bool t) ∧ w'.cell? ⟨b + 1, 1, none⟩ = some v :=
  ⟨h.b1.cell 0, h.b1.cell 1, h.b2.cell 0, h.b2.cell 1⟩
theorem wrap_i64 {z : Int} (h : -9223372036854775808 ≤ z ∧ z ≤ 9223372036854775807) : IntKind.i64.wrap z = z := by rw [IntKind.wrap_i64]; omega
end Go.Proofs.YtigpnopeacicpaaDoor

/-
  Whole numbers: sums and products of several.
-/
namespace Go.Proofs.YtigpnopeacicpaaDoor
open Go.RowKit
set_option linter.unusedSimpArgs false

/-- A whole number's value in a row. -/
structure WI where
  s : Bool
  a : Option Addr
  n : Nat
  c : Nat
  z : Int
def WI.v (x : WI) : Value := .agg #[.bool x.s, .slice x.a x.n x.c]
def WsRead (w : World) (A : Option Addr) (L : List WI) : Prop :=
  ∀ (k : Nat) (hk : k < L.length), ∃ b o, A = some ⟨b, o, none⟩ ∧ w.cell? ⟨b, o + k * 2, none⟩ = some (.bool L[k].s) ∧ w.cell? ⟨b, o + k * 2 + 1, none⟩ = some (.slice L[k].a L[k].n L[k].c) ∧ IV w L[k].v L[k].z
theorem WsRead.only {w w' : World} {A : Option Addr} {L : List WI} (h : WsRead w A L) (ho : Only [] w w') : WsRead w' A L := fun k hk => by
  obtain ⟨b, o, h1, h2, h3, h4⟩ := h k hk
  exact ⟨b, o, h1, ho.cell h2 (by simp), ho.cell h3 (by simp), h4.only ho⟩
/-- The loop over a row: the number so far. -/
structure WLoop (w w1 wr : World) (b g : Nat) (s : Bool) (A : Option Addr) (k c : Nat) (z : Int) : Prop where
  only : Only [] w wr
  lt : w.heap.size = b
  sz : w1.heap.size = b + 2
  gt : b + 1 < g
  b0 : Blk wr (b + 1) 44 [.bool false, .slice none 0 0]
  b1 : Blk wr g 44 [.bool s, .slice A k c]
  sign : s = decide (z < 0)
  res : Res w1 wr (.slice A k c) z.natAbs
  iv : IV wr (.agg #[.bool s, .slice A k c]) z
theorem WLoop.cells {w w1 wr : World} {b g : Nat} {s : Bool} {A : Option Addr} {k c : Nat} {z : Int} (h : WLoop w w1 wr b g s A k c z) :
    wr.cell? ⟨g, 0, none⟩ = some (.bool s) ∧ wr.cell? ⟨g, 1, none⟩ = some (.slice A k c) ∧ wr.frozen? ⟨g, 0, none⟩ = false ∧ wr.frozen? ⟨g, 1, none⟩ = false ∧
    wr.cell? ⟨b + 1, 0, none⟩ = some (.bool false) ∧ wr.cell? ⟨b + 1, 1, none⟩ = some (.slice none 0 0) ∧ wr.frozen? ⟨b + 1, 0, none⟩ = false ∧ wr.frozen? ⟨b + 1, 1, none⟩ = false :=
  ⟨h.b1.cell 0, h.b1.cell 1, h.b1.frozen 0, h.b1.frozen 1, h.b0.cell 0, h.b0.cell 1, h.b0.frozen 0, h.b0.frozen 1⟩
/-- A new number, written over the old one. -/
theorem WLoop.set_ {w w1 wr wx : World} {b g : Nat} {s s' : Bool} {A A' : Option Addr} {k c k' c' : Nat} {z z' : Int} (h : WLoop w w1 wr b g s A k c z) (h2 : s' = decide (z' < 0) ∧ Res wx wr (.slice A' k' c') z'.natAbs) (hw : b + 2 ≤ wx.heap.size) (hg : g < wx.heap.size) (hf : Few z'.natAbs) :
    WLoop w w1 ((wr.setCell ⟨g, 0, none⟩ (.bool s')).setCell ⟨g, 1, none⟩ (.slice A' k' c')) b g s' A' k' c' z' := by
  have ho := only_set2 wr g (.bool s') (.slice A' k' c')
  have hr : Res w1 ((wr.setCell ⟨g, 0, none⟩ (.bool s')).setCell ⟨g, 1, none⟩ (.slice A' k' c')) (.slice A' k' c') z'.natAbs := (h2.2.only ho (fun x hx hc => by
    have := h2.2.fresh x hx
    simp at hc
    omega)).pre (by rw [h.sz]; exact hw)
  have hb1 := (h.b1.set_ 0 (.bool s')).set_ 1 (.slice A' k' c')
  have hgw := h.gt
  have hlt := h.lt
  refine ⟨h.only.trans ho (fun x hx => .inr (by simp at hx; omega)), h.lt, h.sz, h.gt, h.b0.only ho (by simp; omega), hb1, h2.1, hr, ?_⟩
  exact ⟨s', A', k', c', _, rfl, NV.of_res hr hf, by rw [h2.1, sg_self]⟩
end Go.Proofs.YtigpnopeacicpaaDoor
/-
  Whole numbers: quotients.
-/
namespace Go.Proofs.YtigpnopeacicpaaDoor
open Go.RowKit
set_option linter.unusedSimpArgs false

end Go.Proofs.YtigpnopeacicpaaDoor
/-
  Whole numbers: digits.
-/
namespace Go.Proofs.YtigpnopeacicpaaDoor
open Go.RowKit
set_option linter.unusedSimpArgs false

end Go.Proofs.YtigpnopeacicpaaDoor
/-
  Whole numbers: boxes at hand, rows of one, alive.
-/
namespace Go.Proofs.YtigpnopeacicpaaDoor
open Go.RowKit
set_option linter.unusedSimpArgs false

/-- A whole number in a block of its own. -/
structure BX where
  g : Nat
  s : Bool
  a : Option Addr
  k : Nat
  c : Nat
  z : Int
def BX.v (x : BX) : Value := .agg #[.bool x.s, .slice x.a x.k x.c]
def BX.ok (w : World) (x : BX) : Prop := Blk w x.g 44 [.bool x.s, .slice x.a x.k x.c] ∧ IV w x.v x.z
/-- The boxes at hand. -/
structure WB (w0 w : World) (L : List BX) : Prop where
  only : Only [] w0 w
  all : ∀ (i : Nat) (x : BX), L[i]? = some x → BX.ok w x
theorem WB.step {w0 w w' : World} {L : List BX} (h : WB w0 w L) (ho : Only [] w w') : WB w0 w' L := ⟨h.only.nil_trans ho, fun i x hx => ⟨(h.all i x hx).1.only ho (by simp), (h.all i x hx).2.only ho⟩⟩
theorem WB.push {w0 w : World} {L : List BX} (h : WB w0 w L) {x : BX} (hx : BX.ok w x) : WB w0 w (x :: L) := ⟨h.only, fun i y hy => by
  cases i with
  | zero => simp at hy; subst hy; exact hx
  | succ i => exact h.all i y (by simpa using hy)⟩
/-- A new box. -/
theorem WB.new {w0 w : World} {L : List BX} (h : WB w0 w L) {s : Bool} {A : Option Addr} {k c : Nat} {z : Int} (hv : IV w (.agg #[.bool s, .slice A k c]) z) : WB w0 (w.alloc (.cells #[.bool s, .slice A k c] 44)) (⟨w.heap.size, s, A, k, c, z⟩ :: L) := by
  have ho : Only [] w (w.alloc (.cells #[.bool s, .slice A k c] 44)) := (Only.refl [] w).alloc _
  exact (h.step ho).push ⟨Blk.new w 44 [.bool s, .slice A k c], hv.only ho⟩
theorem WB.iv {w0 w : World} {L : List BX} (h : Hid (WB w0 w L)) (i : Nat) {g : Nat} {s : Bool} {A : Option Addr} {k c : Nat} {z : Int} (hi : L[i]? = some ⟨g, s, A, k, c, z⟩) : Hid (IV w (.agg #[.bool s, .slice A k c]) z) := (h.out.all i _ hi).2
theorem WB.blk {w0 w : World} {L : List BX} (h : Hid (WB w0 w L)) (i : Nat) {g : Nat} {s : Bool} {A : Option Addr} {k c : Nat} {z : Int} (hi : L[i]? = some ⟨g, s, A, k, c, z⟩) : Blk w g 44 [.bool s, .slice A k c] := (h.out.all i _ hi).1
theorem WB.cells {w0 w : World} {L : List BX} (h : Hid (WB w0 w L)) (i : Nat) {g : Nat} {s : Bool} {A : Option Addr} {k c : Nat} {z : Int} (hi : L[i]? = some ⟨g, s, A, k, c, z⟩) :
    w.cell? ⟨g, 0, none⟩ = some (.bool s) ∧ w.cell? ⟨g, 1, none⟩ = some (.slice A k c) ∧ w.frozen? ⟨g, 0, none⟩ = false ∧ w.frozen? ⟨g, 1, none⟩ = false :=
  ⟨(WB.blk h i hi).cell 0, (WB.blk h i hi).cell 1, (WB.blk h i hi).frozen 0, (WB.blk h i hi).frozen 1⟩

theorem all_isRow {t : TypeId} {n : Nat} {cs : List Value} {w : World} {K : Value → Prop} (h : ∀ g, Hid (Blk w g t cs) → K (.slice (some ⟨g, 0, none⟩) n n)) : ∀ v, isRow t n cs v w → K v := fun v ⟨g, h1, h2⟩ => by
  subst h1
  exact h g h2
/-- A new struct's block. -/
def isPtr (w0 : World) (t : TypeId) (cs : List Value) : VP := fun u w => ∃ g, u = .pointer (some ⟨g, 0, none⟩) ∧ Blk w g t cs ∧ w0.heap.size ≤ g
theorem isPtr.lasts (w0 : World) (t : TypeId) (cs : List Value) : Lasts (isPtr w0 t cs) := fun _ _ _ ⟨g, h1, h2, h3⟩ ho => ⟨g, h1, h2.only ho (by simp), h3⟩
theorem isPtr.new {w0 w : World} (ho : Only [] w0 w) (t : TypeId) (cs : List Value) : Only [] w (w.alloc (.cells cs.toArray t)) ∧ isPtr w0 t cs (.pointer (some ⟨w.heap.size, 0, none⟩)) (w.alloc (.cells cs.toArray t)) := ⟨(Only.refl [] w).alloc _, _, rfl, Blk.new w t cs, ho.size⟩
theorem all_isPtr {w0 : World} {t : TypeId} {cs : List Value} {w : World} {K : Value → Prop} (h : ∀ g, Hid (Blk w g t cs) → Hid (w0.heap.size ≤ g) → K (.pointer (some ⟨g, 0, none⟩))) : ∀ v, isPtr w0 t cs v w → K v := fun v ⟨g, h1, h2, h3⟩ => by
  subst h1
  exact h g h2 h3
section
variable {l : List Oper} {Ps : List VP} {w : World} {K : Act → Prop} {a : Act} {i : Nat} {is : List Nat}
end
end Go.Proofs.YtigpnopeacicpaaDoor
/-
  Whole numbers: rows of whole numbers that grow.
-/
namespace Go.Proofs.YtigpnopeacicpaaDoor
open Go.RowKit
set_option linter.unusedSimpArgs false

theorem lt_of_cell {w : World} {p : Addr} {v : Value} (h : w.cell? p = some v) : p.block < w.heap.size := by
  unfold World.cell? at h
  split at h
  · exact lt_of_heap (by assumption)
  · cases h
/-- A number's limbs lie elsewhere than in the block g. -/
def Far (g : Nat) (a : Option Addr) (k : Nat) : Prop := 0 < k → ∀ p, a = some p → p.block ≠ g
theorem NV.addr_lt {w : World} {A : Option Addr} {k c n : Nat} (h : NV w (.slice A k c) n) (hk : 0 < k) {p : Addr} (hp : A = some p) : p.block < w.heap.size := by
  obtain ⟨A', c', xs, e, h2, h3, h4, h5⟩ := h
  injection e with e1 e2 e3
  subst e1 e2
  obtain ⟨b, o, e2, hc⟩ := h2.read 0 hk
  rw [hp] at e2
  injection e2 with e2
  subst e2
  exact lt_of_cell hc
theorem NV.farS {w w' : World} {S : List Nat} {A : Option Addr} {k c n : Nat} (h : NV w (.slice A k c) n) (ho : Only S w w') (hf : ∀ g ∈ S, Far g A k) : NV w' (.slice A k c) n := by
  obtain ⟨A', c', xs, e, h2, h3, h4, h5⟩ := h
  injection e with e1 e2 e3
  subst e1 e3
  refine ⟨A, c, xs, by rw [e2], ⟨fun j hj => ?_, h2.limb, h2.len⟩, h3, h4, h5⟩
  obtain ⟨b, o, e3, hc⟩ := h2.read j hj
  exact ⟨b, o, e3, ho.cell hc (fun hm => hf b hm (by omega) _ e3 rfl)⟩
theorem IV.farS {w w' : World} {S : List Nat} {s : Bool} {A : Option Addr} {k c : Nat} {z : Int} (h : IV w (.agg #[.bool s, .slice A k c]) z) (ho : Only S w w') (hf : ∀ g ∈ S, Far g A k) : IV w' (.agg #[.bool s, .slice A k c]) z :=
  ⟨s, A, k, c, _, rfl, h.mag.farS ho hf, h.sign⟩
theorem IV.far_new {w : World} {s : Bool} {A : Option Addr} {k c g : Nat} {z : Int} (h : IV w (.agg #[.bool s, .slice A k c]) z) (hg : w.heap.size ≤ g) : Far g A k := fun hk p hp hc => by
  have := h.mag.addr_lt hk hp
  omega
theorem Res.far {w0 w : World} {A : Option Addr} {k c n g : Nat} (h : Res w0 w (.slice A k c) n) (hg : g < w0.heap.size) : Far g A k := fun hk p hp hc => by
  subst hp
  have hb := h.fresh p.block
  rcases h.at_.2 with ⟨e, h0⟩ | ⟨g', cap, cur, e, _⟩
  · cases e
  · injection e with e1 _ _
    injection e1 with e1
    subst e1
    have h1 : w0.heap.size ≤ g' := hb rfl
    have h2 : g' = g := hc
    omega

def flatW (I : List WI) : List Value := I.flatMap fun i => [.bool i.s, .slice i.a i.n i.c]
theorem flatW_snoc (I : List WI) (i : WI) : flatW (I ++ [i]) = flatW I ++ [.bool i.s, .slice i.a i.n i.c] := by simp [flatW]
theorem flatW_get (I : List WI) (k : Nat) (h : k < I.length) : (flatW I)[k * 2]? = some (.bool I[k].s) ∧ (flatW I)[k * 2 + 1]? = some (.slice I[k].a I[k].n I[k].c) := by
  induction I generalizing k with
  | nil => simp at h
  | cons i I ih =>
    cases k with
    | zero => exact ⟨rfl, rfl⟩
    | succ k =>
      have := ih k (by simpa using h)
      have e : flatW (i :: I) = [.bool i.s, .slice i.a i.n i.c] ++ flatW I := rfl
      rw [e, List.getElem?_append_right (by simp; omega), List.getElem?_append_right (by simp; omega)]
      rw [show (k + 1) * 2 - [Value.bool i.s, Value.slice i.a i.n i.c].length = k * 2 by simp; omega, show (k + 1) * 2 + 1 - [Value.bool i.s, Value.slice i.a i.n i.c].length = k * 2 + 1 by simp; omega]
      simpa using this
/-- A row of whole numbers of the call's own. -/
structure WRow (w : World) (u : Value) (I : List WI) : Prop where
  own : w.ownsRow 0 44 2 u I.length (flatW I)
  its : ∀ i ∈ I, IV w i.v i.z
  far : ∀ g, u.ownBlock = some g → ∀ i ∈ I, Far g i.a i.n
theorem WRow.nil (w : World) : WRow w (.slice none 0 0) [] := ⟨World.ownsRow_nil _ _ _ _, fun i h => by simp at h, fun _ h => by cases h⟩
theorem WRow.only {w w' : World} {S : List Nat} {u : Value} {I : List WI} (h : WRow w u I) (ho : Only S w w') (hS : ∀ g ∈ S, (∀ i ∈ I, Far g i.a i.n) ∧ u.ownBlock ≠ some g) : WRow w' u I :=
  ⟨owns_only h.own ho (fun g hg hc => (hS g hc).2 hg), fun i hi => (h.its i hi).farS ho (fun g hg => (hS g hg).1 i hi), h.far⟩
theorem WRow.read {w : World} {u : Value} {I : List WI} (h : WRow w u I) : ∃ A c, u = .slice A I.length c ∧ WsRead w A I ∧ I.length ≤ c := by
  rcases id h.own.2 with ⟨rfl, h0⟩ | ⟨g, cap, cur, rfl, _, hg, hn, hm, _⟩
  · exact ⟨none, 0, by rw [h0], fun k hk => by omega, by omega⟩
  · refine ⟨_, cap, rfl, fun k hk => ⟨g, 0, rfl, ?_⟩, hn⟩
    have hc := World.ownsRow.cells h.own (g := g) rfl
    have h1 := hc (k * 2) _ (flatW_get I k hk).1
    have h2 := hc (k * 2 + 1) _ (flatW_get I k hk).2
    rw [addr_plus] at h1 h2
    exact ⟨h1, h2, h.its _ (List.getElem_mem hk)⟩
theorem WRow.lt {w : World} {u : Value} {I : List WI} (h : WRow w u I) : ∀ g, u.ownBlock = some g → g < w.heap.size := fun g hg => (World.ownsRow.lt h.own g hg).2
/-- One more. -/
theorem WRow.grow {w w' : World} {u : Value} {I : List WI} {i : WI} {g cap : Nat} (h : WRow w u I) (hi : IV w i.v i.z) (hfi : ∀ g, u.ownBlock = some g → Far g i.a i.n) (hown : w'.ownsRow 0 44 2 (.slice (some ⟨g, 0, none⟩) (I.length + 1) cap) (I.length + 1) (flatW I ++ [.bool i.s, .slice i.a i.n i.c])) (ho : Only u.ownBlock.toList w w') (hg : u.ownBlock = some g ∨ w.heap.size ≤ g) :
    WRow w' (.slice (some ⟨g, 0, none⟩) (I.length + 1) cap) (I ++ [i]) := by
  have hS : ∀ x ∈ u.ownBlock.toList, (∀ i ∈ I, Far x i.a i.n) ∧ Far x i.a i.n := fun x hx => by
    have hx' : u.ownBlock = some x := by simpa using hx
    exact ⟨h.far x hx', hfi x hx'⟩
  refine ⟨?_, fun j hj => ?_, fun x hx j hj => ?_⟩
  · rw [flatW_snoc, List.length_append]; exact hown
  · rcases List.mem_append.1 hj with hj | hj
    · exact (h.its j hj).farS ho (fun x hx => (hS x hx).1 j hj)
    · rw [List.mem_singleton] at hj
      subst hj
      exact hi.farS ho (fun x hx => (hS x hx).2)
  · have hxg : g = x := by simpa [Value.ownBlock] using hx
    subst hxg
    rcases hg with hg | hg
    · rcases List.mem_append.1 hj with hj | hj
      · exact h.far g hg j hj
      · rw [List.mem_singleton] at hj; subst hj; exact hfi g hg
    · rcases List.mem_append.1 hj with hj | hj
      · exact (h.its j hj).far_new hg
      · rw [List.mem_singleton] at hj; subst hj; exact hi.far_new hg
end Go.Proofs.YtigpnopeacicpaaDoor
/-
  An argument that is a slice of ints, opened: it reads as L.
-/
namespace Go.Proofs.YtigpnopeacicpaaDoor
open Go.ChangeShapes Go.WideShapes Go.ChangeAt Go.RowKit Go.Deep

def IntsIn (w : World) (A : Option Addr) (L : List Int) : Prop := (∀ j, j < L.length → ∃ b o, A = some ⟨b, o, none⟩ ∧ ∀ i, i < L.length → w.cell? ⟨b, o + i, none⟩ = some (.int .i64 (L[i]?.getD 0))) ∧ ∀ v ∈ L, -9223372036854775808 ≤ v ∧ v ≤ 9223372036854775807
theorem wf_i64 {v : Int} (h : (Lit.int .i64 v).wf = true) : -9223372036854775808 ≤ v ∧ v ≤ 9223372036854775807 := by
  have e1 : IntKind.i64.min = -9223372036854775808 := by kernel_rfl
  have e2 : IntKind.i64.max = 9223372036854775807 := by kernel_rfl
  simp only [Lit.wf, e1, e2, Bool.and_eq_true, decide_eq_true_eq] at h
  omega

theorem ints_in {H : Type} {enc : TypeId × Value → H} {w : World} {base : Nat} {spare : Nat → Bool} {held : Bool} {fuel : Nat} {cs : List Value} {x : DataW H × List MemPlace} {t : TypeId} (ht : Tryd.prog.underlying t = some (.slice 3))
    (h : DataW.trod enc Tryd.prog w base spare held fuel t cs = some x) :
    ∃ A c L, cs = [.slice A (List.length L) c] ∧ List.length L ≤ c ∧ c ≤ maxLen ∧ IntsIn w A L := by
  rcases open_slice ht h with ⟨rfl, _⟩ | ⟨a, len, cap, m, n, D, Pl, rfl, _, hl, hcm, hm, _, hi⟩
  · exact ⟨none, 0, [], rfl, Nat.le_refl _, Nat.zero_le _, fun k hk => by simp at hk, fun v hv => by simp at hv⟩
  · have hC : Tryd.prog.cellsOf 3 = 1 := by kernel_rfl
    have hlm : len ≤ m := by rw [hm]; split <;> omega
    have key : ∀ i, i < len → ∃ z : Int, w.cell? (a.add i) = some (.int .i64 z) ∧ (-9223372036854775808 ≤ z ∧ z ≤ 9223372036854775807) := by
      intro i hil
      obtain ⟨cs', hc, ht⟩ := hi i (by omega)
      rw [hC] at hc
      obtain ⟨_, _, hat⟩ := World.cells?_some hc
      obtain ⟨z, rfl, _, hwf⟩ := DataW.trod_int Tryd.underlying3 ht
      have h0 := hat 0 (by omega)
      refine ⟨z, ?_, wf_i64 hwf⟩
      simpa [Addr.add] using h0
    have choose : ∀ len : Nat, (∀ i, i < len → ∃ z : Int, w.cell? (a.add i) = some (.int .i64 z) ∧ (-9223372036854775808 ≤ z ∧ z ≤ 9223372036854775807)) → ∃ L : List Int, L.length = len ∧ ∀ i, i < len → w.cell? (a.add i) = some (.int .i64 (L[i]?.getD 0)) ∧ (-9223372036854775808 ≤ L[i]?.getD 0 ∧ L[i]?.getD 0 ≤ 9223372036854775807) := by
      intro len
      induction len with
      | zero => exact fun _ => ⟨[], rfl, fun i hi => by omega⟩
      | succ len ih =>
        intro key
        obtain ⟨L, hL, hall⟩ := ih (fun i hi => key i (by omega))
        obtain ⟨z, hz⟩ := key len (by omega)
        refine ⟨L ++ [z], by simp [hL], fun i hi => ?_⟩
        by_cases e : i = len
        · subst e
          rw [List.getElem?_append_right (by omega), hL]
          simpa using hz
        · rw [List.getElem?_append_left (by omega)]
          exact hall i (by omega)
    obtain ⟨L, hL, hall⟩ := choose len key
    refine ⟨some a, cap, L, by rw [hL], by omega, hcm, fun k hk => ?_, fun v hv => ?_⟩
    · have h0 := (hall 0 (by omega)).1
      obtain ⟨b, o, sp⟩ := a
      obtain rfl : sp = none := by simpa [Addr.add] using World.cell?_spot h0
      refine ⟨b, o, rfl, fun i hi => ?_⟩
      have := (hall i (by omega)).1
      have ha : (⟨b, o, none⟩ : Addr).add i = ⟨b, o + i, none⟩ := by
        unfold Addr.add
        by_cases h1 : i = 0 <;> simp [h1]
      rwa [ha] at this
    · obtain ⟨i, hi, rfl⟩ := List.getElem_of_mem hv
      have := (hall i (by omega)).2
      rwa [List.getElem?_eq_getElem hi] at this
end Go.Proofs.YtigpnopeacicpaaDoor

/-
  THE SMALL FUNCTIONS OF dag, code, flo, fail: what each computes.
-/
namespace Go.Proofs.YtigpnopeacicpaaDoor
open Go.RowKit

/-- A node as plain data: kind, the float64's bits, the operands. -/
structure Nd where
  k : Int
  f : Nat
  a : Int
  b : Int
  deriving DecidableEq
def Nd.val (n : Nd) : Value := .agg #[.int .i64 n.k, .float .f64 n.f, .int .i64 n.a, .int .i64 n.b]
def Nd.cells (n : Nd) : List Value := [.int .i64 n.k, .float .f64 n.f, .int .i64 n.a, .int .i64 n.b]
def Nd.keyVal (n : Nd) : Value := .agg #[.int .i64 n.k, .int .i64 n.a, .int .i64 n.b, .int .u64 (n.f : Int)]
def flat (ns : List Nd) : List Value := ns.flatMap Nd.cells

def finB (f : Nat) : Bool := decide (f / 4503599627370496 % 2048 ≠ 2047)
def fitsB (v : Int) : Bool := decide (0 ≤ v ∧ v ≤ 65535)
def validB (k : Int) (f : Nat) (a b : Int) : Bool :=
  decide ((k = 0 ∧ a = 0 ∧ b = 0) ∨ (1 ≤ k ∧ k ≤ 5 ∧ (k = 5 → b = 0) ∧ f = 0 ∧ 0 ≤ a ∧ a ≤ 65535 ∧ 0 ≤ b ∧ b ≤ 65535))
def hasB (n : Nat) (id : Int) : Bool := decide (0 ≤ id ∧ id < n)
def takesB (n : Nat) (k : Int) (f : Nat) (a b : Int) : Bool :=
  validB k f a b && (if k = 0 then finB f else if k = 5 then hasB n a else hasB n a && hasB n b)

theorem bits_run (b : Nat) (w : World) : (callFunc 125 #[.float .f64 b]).run Tryd.prog w = .ok (.value (.int .u64 (b : Int))) w := by
  kernel_rfl

theorem fin_arith (b : Nat) (hb : b < 18446744073709551616) : (bits BinOp.and IntKind.u64 ((b : Int) / 4503599627370496) 2047 != 2047) = finB b := by
  have h1 : ((b : Int) / 4503599627370496) = ((b / 4503599627370496 : Nat) : Int) := by omega
  rw [h1, show (2047 : Int) = ((2047 : Nat) : Int) from rfl, u64_and_nat _ _ (by omega) (by omega)]
  have h2 : (b / 4503599627370496) &&& 2047 = (b / 4503599627370496) % 2048 := Nat.and_two_pow_sub_one_eq_mod _ 11
  rw [h2]
  unfold finB
  rw [Bool.eq_iff_iff]
  simp
  omega

set_option maxHeartbeats 400000 in
theorem finite_any (b : Nat) (hb : b < 2 ^ 64) (w : World) :
    Calls Tryd.prog 127 #[.float .f64 b] w fun e w' => e = .returned (.bool (finB b)) ∧ w = w' := by
  have h := bits_run
  have hf := Lib.hid (fin_arith b hb)
  clear hb
  go_enter Tryd.func127, Tryd.ntmps127
  go_wp2
  go_ret
  exact ⟨by simp [hf.out], rfl⟩

set_option maxHeartbeats 400000 in
theorem fits_any (v : Int) (w : World) :
    Calls Tryd.prog 126 #[.int .i64 v] w fun e w' => e = .returned (.bool (fitsB v)) ∧ w = w' := by
  go_enter Tryd.func126, Tryd.ntmps126
  go_wp2
  all_goals (go_ret; refine ⟨?_, rfl⟩; simp [fitsB]; try omega)

set_option maxHeartbeats 800000 in
theorem cvalid_any (k : Int) (f : Nat) (a b : Int) (w : World) :
    Calls Tryd.prog 97 #[.agg #[.int .i64 k, .float .f64 f, .int .i64 a, .int .i64 b]] w fun e w' => e = .returned (.bool (validB k f a b)) ∧ Only [] w w' := by
  have h := bits_run
  go_enter Tryd.func97, Tryd.ntmps97
  go_wp2_with (go_at_call 126; (with_reducible refine (fits_any _ _).mono ?_); rintro e w' ⟨rfl, rfl⟩)
  all_goals go_ret
  all_goals (refine ⟨?_, ((Only.refl [] w).alloc _)⟩)
  all_goals clear h
  all_goals (simp_all [validB, fitsB]; try (first | omega | (rw [Bool.eq_iff_iff]; simp; done)))
end Go.Proofs.YtigpnopeacicpaaDoor

/-
  has, keyOf, Same, the errors: what each computes.
-/
namespace Go.Proofs.YtigpnopeacicpaaDoor
open Go.RowKit

set_option maxHeartbeats 400000 in
theorem has_any (b : Nat) (A : Option Addr) (n c : Nat) (id : Int) (w : World) (h0 : w.cell? ⟨b, 0, none⟩ = some (.slice A n c)) :
    Calls Tryd.prog 103 #[.pointer (some ⟨b, 0, none⟩), .int .i64 id] w fun e w' => e = .returned (.bool (hasB n id)) ∧ w = w' := by
  go_enter Tryd.func103, Tryd.ntmps103
  go_wp2
  all_goals (go_ret; refine ⟨?_, rfl⟩; simp [hasB]; try omega)

set_option maxHeartbeats 400000 in
theorem keyOf_any (k a b : Int) (f : Nat) (w : World) :
    Calls Tryd.prog 102 #[.agg #[.int .i64 k, .float .f64 f, .int .i64 a, .int .i64 b]] w fun e w' =>
      e = .returned (.agg #[.int .i64 k, .int .i64 a, .int .i64 b, .int .u64 (f : Int)]) ∧ Only [] w w' := by
  have hb := bits_run
  go_enter Tryd.func102, Tryd.ntmps102
  go_wp2
  go_region
  go_wp2
  go_returns
  exact ⟨rfl, (((Only.refl [] w).alloc _).alloc _).drew⟩

set_option maxHeartbeats 400000 in
theorem malformed_any (w : World) :
    Calls Tryd.prog 100 #[] w fun e w' => e = .returned (.iface 175 (.int .i64 1)) ∧ w = w' := by
  go_enter Tryd.func100, Tryd.ntmps100
  go_wp2
  go_ret
  exact ⟨rfl, rfl⟩

/-- An error At: a new block with the place and what it wraps. -/
def IsAt (w w' : World) (i : Int) (err v : Value) : Prop :=
  ∃ g, w.heap.size ≤ g ∧ v = .iface 177 (.pointer (some ⟨g, 0, none⟩)) ∧ Blk w' g 179 [.int .i64 i, err]

set_option maxHeartbeats 400000 in
theorem node_any (i : Int) (t : TypeId) (x : Int) (w : World) :
    Calls Tryd.prog 99 #[.int .i64 i, .iface t (.int .i64 x)] w fun e w' => ∃ v, e = .returned v ∧ IsAt w w' i (.iface t (.int .i64 x)) v ∧ Only [] w w' := by
  go_enter Tryd.func99, Tryd.ntmps99
  go_wp2
  go_ret
  refine ⟨_, rfl, ⟨w.heap.size, Nat.le_refl _, rfl, ?_⟩, ?_⟩
  · exact Blk.new w 179 [.int .i64 i, .iface t (.int .i64 x)]
  · exact (Only.refl [] w).alloc _

end Go.Proofs.YtigpnopeacicpaaDoor
