/-
  Whole numbers: what a sign and limbs read as; Make, Of, Sign, Not.
-/
import Derived.Test.YtphjcphcgnjogaaDoorEnv
import Derived.Test.YtphjcphcgnjogaaDoorAlive1
import Derived.Test.YtphjcphcgnjogaaDoorTyp
import Derived.Test.YtphjcphcgnjogaaDoorShift
import Derived.Test.YtphjcphcgnjogaaDoorWhV
namespace Go.Proofs.YtphjcphcgnjogaaDoor
set_option linter.unusedSimpArgs false
open Go.RowKit

/-- A value that reads as a whole number. -/
def IV (w : World) (v : Value) (z : Int) : Prop := ∃ s A k c n, v = .agg #[.bool s, .slice A k c] ∧ NV w (.slice A k c) n ∧ sg s n = z
theorem IV.only {w w' : World} {v : Value} {z : Int} (h : IV w v z) (ho : Only [] w w') : IV w' v z := by
  obtain ⟨s, A, k, c, n, h1, h2, h3⟩ := h
  exact ⟨s, A, k, c, n, h1, h2.only ho, h3⟩
theorem IV.mag {w : World} {s : Bool} {v : Value} {z : Int} (h : IV w (.agg #[.bool s, v]) z) : NV w v z.natAbs := by
  obtain ⟨s', A, k, c, n, h1, h2, h3⟩ := h
  simp only [Value.agg.injEq, Array.mk.injEq, List.cons.injEq, Value.bool.injEq, and_true] at h1
  obtain ⟨rfl, rfl⟩ := h1
  rw [← h3, sg_abs]
  exact h2
theorem IV.sign {w : World} {s : Bool} {v : Value} {z : Int} (h : IV w (.agg #[.bool s, v]) z) : sg s z.natAbs = z := by
  obtain ⟨s', A, k, c, n, h1, h2, h3⟩ := h
  simp only [Value.agg.injEq, Array.mk.injEq, List.cons.injEq, Value.bool.injEq, and_true] at h1
  obtain ⟨rfl, rfl⟩ := h1
  rw [← h3, sg_abs]
theorem IV.mk {w : World} {s : Bool} {A : Option Addr} {k c n : Nat} (h : NV w (.slice A k c) n) : IV w (.agg #[.bool s, .slice A k c]) (sg s n) := ⟨s, A, k, c, n, rfl, h, rfl⟩
theorem IV.few {w : World} {v : Value} {z : Int} (h : IV w v z) : Few z.natAbs := by
  obtain ⟨s, A, k, c, n, h1, h2, h3⟩ := h
  rw [← h3, sg_abs]
  exact h2.few
/-- What a function leaves that tells a whole number. -/
def WPost (z : Int) (w0 w : World) (e : Ending) (w' : World) : Prop := ∃ s A k c, e = .returned (.agg #[.bool s, .slice A k c]) ∧ s = decide (z < 0) ∧ Res w0 w' (.slice A k c) z.natAbs ∧ IV w' (.agg #[.bool s, .slice A k c]) z ∧ Only [] w w'
theorem wpost {z : Int} {w0 w w' : World} {s : Bool} {A : Option Addr} {k c : Nat} (hs : s = decide (z < 0)) (hr : Res w0 w' (.slice A k c) z.natAbs) (hv : NV w' (.slice A k c) z.natAbs) (ho : Only [] w w') : WPost z w0 w (.returned (.agg #[.bool s, .slice A k c])) w' :=
  ⟨s, A, k, c, rfl, hs, hr, ⟨s, A, k, c, _, rfl, hv, by rw [hs, sg_self]⟩, ho⟩

theorem bits_zero_iff {n : Nat} : bitsN n = 0 ↔ n = 0 := by
  unfold bitsN
  constructor
  · intro h
    apply Decidable.byContradiction
    intro h0
    rw [if_neg h0] at h
    omega
  · rintro rfl
    rfl
theorem res_len0 {n k : Nat} (h : k = (limbsOf n).length) : (n = 0 ∧ k = 0) ∨ (n ≠ 0 ∧ 0 < k) := by
  by_cases h0 : n = 0
  · subst h0
    exact .inl ⟨rfl, by rw [h, limbsOf_zero]; rfl⟩
  · refine .inr ⟨h0, ?_⟩
    rw [h, limbsOf_pos (by omega)]
    simp
/-- A struct's two cells, written behind a result. -/
theorem wfin {z : Int} {w wb w1 w2 : World} {b : Nat} {s : Bool} {A : Option Addr} {k c : Nat} (hs : s = decide (z < 0)) (hb : w.heap.size ≤ b) (hr : Res wb w1 (.slice A k c) z.natAbs) (hwb : b < wb.heap.size) (hf : Few z.natAbs) (ho : Only [] w w1) (ho2 : Only [b] w1 w2) :
    WPost z w w (.returned (.agg #[.bool s, .slice A k c])) w2 := by
  have hr2 : Res w w2 (.slice A k c) z.natAbs := (hr.only ho2 (fun g hg hc => by
    have := hr.fresh g hg
    simp at hc
    omega)).pre (by omega)
  exact wpost hs hr2 (NV.of_res hr2 hf) (ho.trans ho2 (fun k hk => .inr (by simp at hk; omega)))
theorem only_set2 (w : World) (b : Nat) (x y : Value) : Only [b] w ((w.setCell ⟨b, 0, none⟩ x).setCell ⟨b, 1, none⟩ y) := ((Only.refl [b] w).setCell (.inl (by simp)) x).setCell (.inl (by simp)) y
set_option maxHeartbeats 800000 in
theorem make_w {w : World} {a : Value} {n : Nat} (s : Bool) (ha : Hid (NV w a n)) : Calls Tryd.prog 19 #[.bool s, a] w (WPost (sg s n) w w) := by
  have HF := Lib.hid ha.out.few
  obtain ⟨A, c, xs, rfl, -⟩ := id ha.out
  have ho0 : Only [] w (w.alloc (.cells #[.bool false, .slice none 0 0] 27)) := (Only.refl [] w).alloc _
  have HA := Lib.hid (ha.out.only ho0)
  have hB := Blk.new w 27 [.bool false, .slice none 0 0]
  have HO0 := Lib.hid ho0
  cases s
  · skip
    go_enter Tryd.func19, Tryd.ntmps19
    go_wp2_with fail
    refine (of_v HA).mono ?_
    rintro e w1 ⟨A1, k1, c1, rfl, hr, hv, ho⟩
    have hB1 := hB.only ho (by simp)
    have c0 := hB1.cell 0
    have c1' := hB1.cell 1
    have f0 := hB1.frozen 0
    have f1 := hB1.frozen 1
    simp only [List.getElem?_cons_zero, List.getElem?_cons_succ] at c0 c1'
    have HR := Lib.hid hr
    have HO := Lib.hid (HO0.out.nil_trans ho)
    have HK := Lib.hid (res_len0 hr.len)
    clear hr hv ho
    rcases HK.out with ⟨h0, h1⟩ | ⟨h0, h1⟩
    · subst h0 h1
      go_wp2_with fail
      refine bodyPost_ret (v := .agg #[.bool false, .slice A1 0 c1]) (by simp [results, Tryd.results19, go_sem, c0, c1']) rfl ?_
      rw [sg_zero]
      exact wfin rfl (Nat.le_refl _) HR.out (by simp) HF.out HO.out (only_set2 _ _ _ _)
    · have h2 : (0 : Int) < (k1 : Int) := by omega
      clear h1
      go_wp2_with fail
      refine bodyPost_ret (v := .agg #[.bool false, .slice A1 k1 c1]) (by simp [results, Tryd.results19, go_sem, c0, c1', Int.natCast_pos.1 h2]) rfl ?_
      refine wfin ?_ (Nat.le_refl _) (by rw [sg_abs]; exact HR.out) (by simp) (by rw [sg_abs]; exact HF.out) HO.out (only_set2 _ _ _ _)
      simp only [sg_true, sg_false]
      symm
      exact decide_eq_false (by omega)
  · skip
    go_enter Tryd.func19, Tryd.ntmps19
    go_wp2_with fail
    refine (of_v HA).mono ?_
    rintro e w1 ⟨A1, k1, c1, rfl, hr, hv, ho⟩
    have hB1 := hB.only ho (by simp)
    have c0 := hB1.cell 0
    have c1' := hB1.cell 1
    have f0 := hB1.frozen 0
    have f1 := hB1.frozen 1
    simp only [List.getElem?_cons_zero, List.getElem?_cons_succ] at c0 c1'
    have HR := Lib.hid hr
    have HO := Lib.hid (HO0.out.nil_trans ho)
    have HK := Lib.hid (res_len0 hr.len)
    clear hr hv ho
    rcases HK.out with ⟨h0, h1⟩ | ⟨h0, h1⟩
    · subst h0 h1
      go_wp2_with fail
      refine bodyPost_ret (v := .agg #[.bool false, .slice A1 0 c1]) (by simp [results, Tryd.results19, go_sem, c0, c1']) rfl ?_
      rw [sg_zero]
      exact wfin rfl (Nat.le_refl _) HR.out (by simp) HF.out HO.out (only_set2 _ _ _ _)
    · have h2 : (0 : Int) < (k1 : Int) := by omega
      clear h1
      go_wp2_with fail
      refine bodyPost_ret (v := .agg #[.bool true, .slice A1 k1 c1]) (by simp [results, Tryd.results19, go_sem, c0, c1', Int.natCast_pos.1 h2]) rfl ?_
      refine wfin ?_ (Nat.le_refl _) (by rw [sg_abs]; exact HR.out) (by simp) (by rw [sg_abs]; exact HF.out) HO.out (only_set2 _ _ _ _)
      simp only [sg_true, sg_false]
      symm
      exact decide_eq_true (by omega)
/-- A value's form. -/
theorem IV.form {w : World} {v : Value} {z : Int} (h : IV w v z) : ∃ s A k c, v = .agg #[.bool s, .slice A k c] ∧ sg s z.natAbs = z := by
  obtain ⟨s, A, k, c, n, h1, h2, h3⟩ := h
  exact ⟨s, A, k, c, h1, by rw [← h3, sg_abs]⟩
set_option maxHeartbeats 800000 in
theorem sign_w {w : World} {a : Value} {z : Int} (ha : Hid (IV w a z)) : Calls Tryd.prog 15 #[a] w fun e w' => e = .returned (.int .i64 z.sign) ∧ Only [] w w' := by
  obtain ⟨s, A, k, c, rfl, hs⟩ := ha.out.form
  have HM := Lib.hid ha.out.mag
  have ho0 : Only [] w (w.alloc (.cells #[.bool s, .slice A k c] 27)) := (Only.refl [] w).alloc _
  have HM1 := Lib.hid (HM.out.only ho0)
  have HO0 := Lib.hid ho0
  have HB := Lib.hid (bits_zero_iff (n := z.natAbs))
  clear ho0 ha
  generalize z.natAbs = n at *
  rcases sign_of z with ⟨h1, h2⟩ | ⟨h1, h2⟩ | ⟨h1, h2⟩
  · obtain rfl : s = true := by cases s; (simp only [sg_false] at hs; omega); rfl
    have hn : ((bitsN n : Int) == 0) = false := by
      rw [beq_eq_false_iff_ne]
      intro hc
      have := HB.out.1 (by omega)
      simp only [sg_true] at hs
      omega
    rw [h1]
    clear h1
    go_enter Tryd.func15, Tryd.ntmps15
    go_wp2_with fail
    refine (bits_v HM1).mono ?_
    rintro e w1 ⟨rfl, rfl⟩
    go_wp2_with fail
    go_ret
    exact ⟨rfl, HO0.out⟩
  · have hn : (bitsN n : Int) = 0 := by
      have : n = 0 := by cases s <;> simp only [sg_false, sg_true] at hs <;> omega
      have := HB.out.2 this
      omega
    rw [h1]
    clear h1
    go_enter Tryd.func15, Tryd.ntmps15
    go_wp2_with fail
    refine (bits_v HM1).mono ?_
    rintro e w1 ⟨rfl, rfl⟩
    rw [hn]
    go_wp2_with fail
    go_ret
    exact ⟨rfl, HO0.out⟩
  · obtain rfl : s = false := by cases s; rfl; (simp only [sg_true] at hs; omega)
    have hn : ((bitsN n : Int) == 0) = false := by
      rw [beq_eq_false_iff_ne]
      intro hc
      have := HB.out.1 (by omega)
      simp only [sg_false] at hs
      omega
    rw [h1]
    clear h1
    go_enter Tryd.func15, Tryd.ntmps15
    go_wp2_with fail
    refine (bits_v HM1).mono ?_
    rintro e w1 ⟨rfl, rfl⟩
    go_wp2_with fail
    go_ret
    exact ⟨rfl, HO0.out⟩

/-- What is handed on. -/
theorem WPost.fwd {z : Int} {w wb w1 w2 : World} {b : Nat} {s : Bool} {A : Option Addr} {k c : Nat} (h : s = decide (z < 0) ∧ Res wb w1 (.slice A k c) z.natAbs) (hf : Few z.natAbs) (hb : w.heap.size ≤ b) (hwb : b < wb.heap.size) (ho : Only [] w w1) (ho2 : Only [b] w1 w2) :
    WPost z w w (.returned (.agg #[.bool s, .slice A k c])) w2 := wfin h.1 hb h.2 hwb hf ho ho2
set_option maxHeartbeats 800000 in
theorem not_w {w : World} {a : Value} {z : Int} (ha : Hid (IV w a z)) : Calls Tryd.prog 16 #[a] w (WPost (-z) w w) := by
  obtain ⟨s, A, k, c, rfl, hs⟩ := ha.out.form
  have HM := Lib.hid ha.out.mag
  have HF : Hid (Few (-z).natAbs) := by show Few _; rw [Int.natAbs_neg]; exact HM.out.few
  have HS : Hid (sg (!s) z.natAbs = -z) := by show _ = _; rw [sg_not, hs]
  have ho0 : Only [] w ((w.alloc (.cells #[.bool s, .slice A k c] 27)).alloc (.cells #[.bool false, .slice none 0 0] 27)) := ((Only.refl [] w).alloc _).alloc _
  have HM1 := Lib.hid (HM.out.only ho0)
  have HO0 := Lib.hid ho0
  have hB := Blk.new (w.alloc (.cells #[.bool s, .slice A k c] 27)) 27 [.bool false, .slice none 0 0]
  simp only [World.size_alloc] at hB
  clear ho0 ha hs
  go_enter Tryd.func16, Tryd.ntmps16
  go_wp2_with fail
  refine (make_w _ HM1).mono ?_
  rintro e w1 ⟨s1, A1, k1, c1, rfl, hs1, hr, hv, ho⟩
  rw [HS.out] at hs1 hr hv
  have HR := Lib.hid (⟨hs1, hr⟩ : _ ∧ _)
  have HO1 := Lib.hid (HO0.out.nil_trans ho)
  have hB1 := hB.only ho (by simp)
  have c0 := hB1.cell 0
  have c1' := hB1.cell 1
  have f0 := hB1.frozen 0
  have f1 := hB1.frozen 1
  simp only [List.getElem?_cons_zero, List.getElem?_cons_succ] at c0 c1'
  clear hs1 hr hv ho
  go_wp2_with fail
  refine bodyPost_ret (v := .agg #[.bool s1, .slice A1 k1 c1]) (by simp [results, Tryd.results16, go_sem, c0, c1']) rfl ?_
  exact WPost.fwd HR.out HF.out (by omega) (by simp) HO1.out (only_set2 _ _ _ _)

/-! ### Properties for drawn regions -/
/-- A number of the region's own. -/
def isNR (w0 : World) (n : Nat) : VP := fun u w => ∃ A k c, u = .slice A k c ∧ Res w0 w u n ∧ NV w u n
theorem isNR.lasts (w0 : World) (n : Nat) : Lasts (isNR w0 n) := fun _ _ _ ⟨A, k, c, h1, h2, h3⟩ ho => ⟨A, k, c, h1, h2.nil ho, h3.only ho⟩
/-- A whole number of the region's own. -/
def isWR (w0 : World) (z : Int) : VP := fun u w => ∃ s A k c, u = .agg #[.bool s, .slice A k c] ∧ s = decide (z < 0) ∧ Res w0 w (.slice A k c) z.natAbs ∧ IV w u z
theorem isWR.lasts (w0 : World) (z : Int) : Lasts (isWR w0 z) := fun _ _ _ ⟨s, A, k, c, h1, h2, h3, h4⟩ ho => ⟨s, A, k, c, h1, h2, h3.nil ho, h4.only ho⟩
/-- A new row. -/
def isRow (t : TypeId) (n : Nat) (cs : List Value) : VP := fun u w => ∃ g, u = .slice (some ⟨g, 0, none⟩) n n ∧ Blk w g t cs
theorem isRow.lasts (t : TypeId) (n : Nat) (cs : List Value) : Lasts (isRow t n cs) := fun _ _ _ ⟨g, h1, h2⟩ ho => ⟨g, h1, h2.only ho (by simp)⟩
theorem isRow.new (w : World) (t : TypeId) (n : Nat) (cs : List Value) : Only [] w (w.alloc (.cells cs.toArray t)) ∧ isRow t n cs (.slice (some ⟨w.heap.size, 0, none⟩) n n) (w.alloc (.cells cs.toArray t)) := ⟨(Only.refl [] w).alloc _, _, rfl, Blk.new w t cs⟩
theorem grow_n {f : FuncId} {args : Array Value} {w0 w : World} {n : Nat} (h : Calls Tryd.prog f args w (NPostV n w w)) (ho : Only [] w0 w) :
    Calls Tryd.prog f args w fun e w'' => ∃ u, e = .returned u ∧ Only [] w w'' ∧ isNR w0 n u w'' :=
  h.mono fun _ _ ⟨A, k, c, he, hr, hv, ho2⟩ => ⟨_, he, ho2, A, k, c, rfl, hr.pre ho.size, hv⟩
theorem grow_w {f : FuncId} {args : Array Value} {w0 w : World} {z : Int} (h : Calls Tryd.prog f args w (WPost z w w)) (ho : Only [] w0 w) :
    Calls Tryd.prog f args w fun e w'' => ∃ u, e = .returned u ∧ Only [] w w'' ∧ isWR w0 z u w'' :=
  h.mono fun _ _ ⟨s, A, k, c, he, hs, hr, hv, ho2⟩ => ⟨_, he, ho2, s, A, k, c, rfl, hs, hr.pre ho.size, hv⟩
/-- The sum of a row of two. -/
theorem addB_v {w : World} {g : Nat} {a b : Value} {m n : Nat} (hb : Hid (Blk w g 25 [a, b])) (ha : Hid (NV w a m)) (hb2 : Hid (NV w b n)) (hf : Hid (Few (m + n))) :
    Calls Tryd.prog 42 #[.slice (some ⟨g, 0, none⟩) 2 2] w (NPostV (m + n) w w) := by
  obtain ⟨L, h1, h2, h3⟩ := NVs.items (w := w) (vs := [a, b]) (ns := [m, n]) ⟨ha.out, hb2.out, trivial⟩
  have hr : Hid (NsRead w (some ⟨g, 0, none⟩) L) := fun j hj => by
    obtain ⟨h4, h5⟩ := h3 j hj
    exact ⟨_, 0, rfl, by rw [hb.out.cell, Nat.zero_add]; exact h4, h5⟩
  simp only [List.sum_cons, List.sum_nil, Nat.add_zero] at h2
  have hc := add_any (some ⟨g, 0, none⟩) 2 L w hr (by rw [h1]; simp) (lt_big (by rw [h2]; exact hf.out))
  rw [h1, h2] at hc
  exact hc.mono fun e w' hp => NPostV.of hp hf.out
end Go.Proofs.YtphjcphcgnjogaaDoor
