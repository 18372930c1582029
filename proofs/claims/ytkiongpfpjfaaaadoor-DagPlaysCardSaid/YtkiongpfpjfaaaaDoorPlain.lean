/-
  The reference of the statements on a dag: Valid, Finite, (*plain).put.
-/
import Derived.Test.YtkiongpfpjfaaaaDoorNodes
import Derived.Test.YtkiongpfpjfaaaaDoorExt
namespace Go.Proofs.YtkiongpfpjfaaaaDoor
open Go.RowKit

set_option maxHeartbeats 1600000 in
theorem rvalid_any (k : Int) (f : Nat) (a b : Int) (w : World) :
    Calls Tryd.prog 30 #[.agg #[.int .i64 k, .float .f64 f, .int .i64 a, .int .i64 b]] w fun e w' => e = .returned (.bool (validB k f a b)) ∧ Only [] w w' := by
  have h := bits_run
  go_enter Tryd.func30, Tryd.ntmps30
  go_wp2_with fail
  all_goals go_ret
  all_goals (refine ⟨?_, ((Only.refl [] w).alloc _)⟩)
  all_goals clear h
  all_goals (simp_all [validB]; try (first | omega | (rw [Bool.eq_iff_iff]; simp; try omega)))

theorem rfin_arith (b : Nat) : ((b : Int) / 4503599627370496 % 2048 != 2047) = finB b := by
  unfold finB
  rw [Bool.eq_iff_iff]
  simp
  omega

set_option maxHeartbeats 400000 in
theorem rfinite_any (b : Nat) (w : World) :
    Calls Tryd.prog 31 #[.float .f64 b] w fun e w' => e = .returned (.bool (finB b)) ∧ w = w' := by
  have h := bits_run
  have hf := Lib.hid (rfin_arith b)
  go_enter Tryd.func31, Tryd.ntmps31
  go_wp2
  go_ret
  exact ⟨by simp [hf.out], rfl⟩

/-- The reference's own numbers at block p. -/
structure PlainIs (w : World) (p : Nat) (v : Value) (same : Bool) (ns : List Nd) : Prop where
  blk : Blk w p 28 [v, .bool same]
  row : w.ownsRow 0 43 4 v ns.length (flat ns)
theorem PlainIs.only {w w' : World} {S : List Nat} {p : Nat} {v : Value} {same : Bool} {ns : List Nd} (h : PlainIs w p v same ns) (ho : Only S w w') (hn : ∀ k ∈ foot p v none, k ∉ S) : PlainIs w' p v same ns :=
  ⟨h.blk.only ho (hn p (by simp [foot])), ownsRow_only h.row ho (fun g hg => hn g (by simp [foot, hg]))⟩
theorem PlainIs.lt {w : World} {p : Nat} {v : Value} {same : Bool} {ns : List Nd} (h : PlainIs w p v same ns) : ∀ k ∈ foot p v none, k < w.heap.size := by
  intro k hk
  simp only [foot, List.mem_cons, List.mem_append, Option.mem_toList] at hk
  rcases hk with rfl | hk | hk
  · exact h.blk.lt
  · exact (h.row.lt k hk).2
  · cases hk
theorem PlainIs.shape {w : World} {p : Nat} {v : Value} {same : Bool} {ns : List Nd} (h : PlainIs w p v same ns) : ∃ A c, v = .slice A ns.length c ∧ (∀ k, k < ns.length → ∃ g, A = some ⟨g, 0, none⟩ ∧ Cells4 w g (k * 4) (ns[k]?.getD nd0)) := by
  obtain ⟨A, c, h1, _, _, h2⟩ := NodesAt.shape (w := w) (u := v) (ns := ns) h.row
  exact ⟨A, c, h1, h2⟩
theorem row_apart' {w : World} {p : Nat} {v : Value} {n : Nat} {xs cs : List Value} {t : TypeId} (h : w.ownsRow 0 43 4 v n xs) (hb : Blk w p t cs) (ht : 43 ≠ t) : v.ownBlock ≠ some p := by
  rcases h.2 with ⟨rfl, _⟩ | ⟨g, cap, cur, rfl, _, hg, _⟩
  · simp [Value.ownBlock]
  · intro e
    have e' : g = p := by simpa [Value.ownBlock] using e
    subst e'
    unfold Blk at hb
    rw [hg] at hb
    injection hb with hb
    injection hb with _ hb
    exact ht hb
theorem PlainIs.apart {w : World} {p : Nat} {v : Value} {same : Bool} {ns : List Nd} (h : PlainIs w p v same ns) : v.ownBlock ≠ some p := row_apart' h.row h.blk (by decide)

/-- Sharing, as putId and putNs take it. -/
def shr (same : Bool) : Option Nat := if same then some 0 else none
def PlPost (p : Nat) (v : Value) (same : Bool) (ns : List Nd) (n : Nd) (w : World) (e : Ending) (w' : World) : Prop :=
  ∃ v', e = .returned (.int .i64 (putId (shr same) ns n)) ∧ PlainIs w' p v' same (putNs (shr same) ns n) ∧ Step p v none w v' w'

/-- When may a node not be put? One of four reasons. -/
def Bad (len : Nat) (k : Int) (f : Nat) (a b : Int) : Prop :=
  validB k f a b = false ∨ (validB k f a b = true ∧ k = 0 ∧ finB f = false) ∨ (validB k f a b = true ∧ k ≠ 0 ∧ (len : Int) ≤ a) ∨ (validB k f a b = true ∧ k ≠ 0 ∧ k ≠ 5 ∧ ¬ (len : Int) ≤ a ∧ (len : Int) ≤ b)
def Fine (len : Nat) (k : Int) (f : Nat) (a b : Int) : Prop :=
  (validB k f a b = true ∧ k = 0 ∧ finB f = true) ∨ (validB k f a b = true ∧ k = 5 ∧ ¬ (len : Int) ≤ a) ∨ (validB k f a b = true ∧ k ≠ 0 ∧ k ≠ 5 ∧ ¬ (len : Int) ≤ a ∧ ¬ (len : Int) ≤ b)
theorem bad_of (len : Nat) (k : Int) (f : Nat) (a b : Int) (h : takesB len k f a b = false) : Bad len k f a b := by
  unfold takesB at h
  unfold Bad
  cases hv : validB k f a b
  · exact .inl rfl
  · right
    simp only [hv, Bool.true_and] at h
    simp only [true_and]
    by_cases h0 : k = 0
    · rw [if_pos h0] at h
      exact .inl ⟨h0, h⟩
    · rw [if_neg h0] at h
      right
      have hv' : 0 ≤ a ∧ 0 ≤ b := by
        simp only [validB, decide_eq_true_eq] at hv
        omega
      by_cases h5 : k = 5
      · rw [if_pos h5] at h
        left
        simp [hasB] at h
        exact ⟨h0, by omega⟩
      · rw [if_neg h5] at h
        by_cases ha : (len : Int) ≤ a
        · exact .inl ⟨h0, ha⟩
        · right
          refine ⟨h0, h5, ha, ?_⟩
          simp [hasB] at h
          omega
theorem fine_of (len : Nat) (k : Int) (f : Nat) (a b : Int) (h : takesB len k f a b = true) : Fine len k f a b := by
  unfold takesB at h
  unfold Fine
  simp only [Bool.and_eq_true] at h
  obtain ⟨hv, h⟩ := h
  simp only [hv, true_and]
  by_cases h0 : k = 0
  · rw [if_pos h0] at h
    exact .inl ⟨h0, h⟩
  · rw [if_neg h0] at h
    right
    by_cases h5 : k = 5
    · rw [if_pos h5] at h
      left
      simp [hasB] at h
      exact ⟨h5, by omega⟩
    · rw [if_neg h5] at h
      right
      simp [hasB] at h
      exact ⟨h0, h5, by omega, by omega⟩

theorem pl_same {p : Nat} {v : Value} {same : Bool} {ns : List Nd} {n : Nd} {w w' : World} (hd : PlainIs w p v same ns) (e1 : putId (shr same) ns n = -1) (e2 : putNs (shr same) ns n = ns) (ho : Only [] w w') :
    PlPost p v same ns n w (.returned (.int .i64 (-1))) w' :=
  ⟨v, by rw [e1], by rw [e2]; exact hd.only ho (by simp), .inl rfl, ho.mono (by simp)⟩

set_option maxHeartbeats 1600000 in
set_option maxRecDepth 100000 in
theorem pput_bad (p : Nat) (v : Value) (same : Bool) (ns : List Nd) (k : Int) (f : Nat) (a b : Int) (w : World) (hd : PlainIs w p v same ns) (ht : takesB ns.length k f a b = false) :
    Calls Tryd.prog 8 #[.pointer (some ⟨p, 0, none⟩), .agg #[.int .i64 k, .float .f64 f, .int .i64 a, .int .i64 b]] w (PlPost p v same ns ⟨k, f, a, b⟩ w) := by
  obtain ⟨A, c, rfl, _⟩ := hd.shape
  have h0 : w.cell? ⟨p, 0, none⟩ = some (.slice A ns.length c) := hd.blk.cell 0
  have hB := Blk.new w 43 [.int .i64 k, .float .f64 f, .int .i64 a, .int .i64 b]
  have ho0 := (Only.refl [] w).alloc (.cells #[.int .i64 k, .float .f64 f, .int .i64 a, .int .i64 b] 43)
  have h0' := fun g => Ext.cell (ho0.cell h0 (by simp)) g
  obtain ⟨b0', b1', b2', b3'⟩ := box_cells hB (Only.refl [] _) (by simp)
  have b0 := fun g => Ext.cell b0' g
  have b1 := fun g => Ext.cell b1' g
  have b2 := fun g => Ext.cell b2' g
  have b3 := fun g => Ext.cell b3' g
  clear b0' b1' b2' b3'
  have e1 : Hid (putId (shr same) ns ⟨k, f, a, b⟩ = -1) := by show _ = _; simp [putId, ht]
  have e2 : Hid (putNs (shr same) ns ⟨k, f, a, b⟩ = ns) := by show _ = _; simp [putNs, ht]
  have hbad := bad_of _ _ _ _ _ ht
  clear ht
  unfold Bad at hbad
  rcases hbad with hv | ⟨hv, hk, hf⟩ | ⟨hv, hk, ha⟩ | ⟨hv, hk, hk5, ha, hb⟩
  · clear h0
    go_enter Tryd.func8, Tryd.ntmps8
    go_wp2_with fail
    refine wp_region_ext (by kernel_rfl) (by kernel_rfl) ?_
    repeat (any_goals (first | go_big_quiet_step (first | (go_at_call 30; exact ext_of (rvalid_any _ _ _ _ _)) | (go_at_call 31; exact ext_of_same (rfinite_any _ _))) | quiet_step (first | (go_at_call 30; exact ext_of (rvalid_any _ _ _ _ _)) | (go_at_call 31; exact ext_of_same (rfinite_any _ _))) | (refine wpQuiet_step (fun K hK => ?_); go_simp; split <;> (refine hK _ ?_; clear hK K))))
    all_goals (refine wpQuiet_nil ?_; intro _ hw'; obtain ⟨gx, hw''⟩ := hw'; subst hw'')
    go_wp2_with fail
    go_ret
    exact pl_same hd e1.out e2.out (ho0.nil_trans gx.ho)
  · clear h0
    subst hk
    go_enter Tryd.func8, Tryd.ntmps8
    go_wp2_with fail
    refine wp_region_ext (by kernel_rfl) (by kernel_rfl) ?_
    repeat (any_goals (first | go_big_quiet_step (first | (go_at_call 30; exact ext_of (rvalid_any _ _ _ _ _)) | (go_at_call 31; exact ext_of_same (rfinite_any _ _))) | quiet_step (first | (go_at_call 30; exact ext_of (rvalid_any _ _ _ _ _)) | (go_at_call 31; exact ext_of_same (rfinite_any _ _))) | (refine wpQuiet_step (fun K hK => ?_); go_simp; split <;> (refine hK _ ?_; clear hK K))))
    all_goals (refine wpQuiet_nil ?_; intro _ hw'; obtain ⟨gx, hw''⟩ := hw'; subst hw'')
    go_wp2_with fail
    go_ret
    exact pl_same hd e1.out e2.out (ho0.nil_trans gx.ho)
  · clear h0
    have g0 : (k == 0) = false := by simpa using hk
    have g1 : (k != 0) = true := by simpa using hk
    have g2 : decide ((ns.length : Int) ≤ a) = true := by simpa using ha
    clear ha hk
    go_enter Tryd.func8, Tryd.ntmps8
    go_wp2_with fail
    refine wp_region_ext (by kernel_rfl) (by kernel_rfl) ?_
    repeat (any_goals (first | go_big_quiet_step (first | (go_at_call 30; exact ext_of (rvalid_any _ _ _ _ _)) | (go_at_call 31; exact ext_of_same (rfinite_any _ _))) | quiet_step (first | (go_at_call 30; exact ext_of (rvalid_any _ _ _ _ _)) | (go_at_call 31; exact ext_of_same (rfinite_any _ _))) | (refine wpQuiet_step (fun K hK => ?_); go_simp; split <;> (refine hK _ ?_; clear hK K))))
    all_goals (refine wpQuiet_nil ?_; intro _ hw'; obtain ⟨gx, hw''⟩ := hw'; subst hw'')
    go_wp2_with fail
    go_ret
    exact pl_same hd e1.out e2.out (ho0.nil_trans gx.ho)
  · clear h0
    have g0 : (k == 0) = false := by simpa using hk
    have g1 : (k != 0) = true := by simpa using hk
    have g2 : decide ((ns.length : Int) ≤ a) = false := by simpa using ha
    have g3 : decide ((ns.length : Int) ≤ b) = true := by simpa using hb
    have g5 : (k != 5) = true := by simpa using hk5
    clear ha hk hb hk5
    go_enter Tryd.func8, Tryd.ntmps8
    go_wp2_with fail
    refine wp_region_ext (by kernel_rfl) (by kernel_rfl) ?_
    repeat (any_goals (first | go_big_quiet_step (first | (go_at_call 30; exact ext_of (rvalid_any _ _ _ _ _)) | (go_at_call 31; exact ext_of_same (rfinite_any _ _))) | quiet_step (first | (go_at_call 30; exact ext_of (rvalid_any _ _ _ _ _)) | (go_at_call 31; exact ext_of_same (rfinite_any _ _))) | (refine wpQuiet_step (fun K hK => ?_); go_simp; split <;> (refine hK _ ?_; clear hK K))))
    all_goals (refine wpQuiet_nil ?_; intro _ hw'; obtain ⟨gx, hw''⟩ := hw'; subst hw'')
    go_wp2_with fail
    go_ret
    exact pl_same hd e1.out e2.out (ho0.nil_trans gx.ho)
end Go.Proofs.YtkiongpfpjfaaaaDoor
