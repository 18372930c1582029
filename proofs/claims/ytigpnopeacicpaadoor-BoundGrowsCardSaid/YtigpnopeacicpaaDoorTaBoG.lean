/-
  Dags as they should be; the first call of compasslaw11.
-/
import Derived.Test.YtigpnopeacicpaaDoorTaGBo
import Derived.Test.YtigpnopeacicpaaDoorTaTreeV
namespace Go.Proofs.YtigpnopeacicpaaDoor
set_option linter.unusedSimpArgs false
open Go.RowKit
attribute [local go_sem] run_store_float

theorem dag_ok {L : List Nd} (hok : AllOk L) (hf : ∀ k, k < L.length → (L[k]?.getD nd0).f < 2 ^ 64) (hl : L.length ≤ 20000) : DagOk L := by
  refine ⟨ok_dag hok, hl, fun x hx => ?_⟩
  have h := hok x hx
  have hfx := hf x hx
  unfold okB at h
  have hn : nodeAt L (x : Int) = L[x]?.getD nd0 := by unfold nodeAt; rw [Int.toNat_natCast]; rfl
  rw [hn]
  generalize L[x]?.getD nd0 = n at h hfx
  unfold takesB at h
  rw [Bool.and_eq_true] at h
  obtain ⟨h1, h2⟩ := h
  simp only [validB, decide_eq_true_eq] at h1
  refine ⟨⟨by omega, fun h0 => ?_⟩, by unfold Small; omega, by unfold Small; omega⟩
  rw [if_pos h0] at h2
  exact ⟨h2, hfx⟩
theorem roots_leaf {ns : List Nd} (ok : OkDag ns) {x : Nat} (hk : (nodeAt ns (x : Int)).k = 0) : rootsL ns (belowOf ns (x : Int)) = 0 := by
  rw [rootsL_below, List.countP_eq_zero]
  intro i _ h
  simp only [decide_eq_true_eq] at h
  rcases reach_step ok h.1 with e | ⟨c, hc, _⟩
  · have : (i : Int) = (x : Int) := e
    rw [this, hk] at h
    exact absurd h.2 (by decide)
  · unfold kids at hc
    rw [if_pos hk] at hc
    simp at hc
def ns11 : List Nd := [⟨0, 4611686018427387904, 0, 0⟩, ⟨5, 0, 0, 0⟩]
theorem ok11 : AllOk ns11 := by
  intro j hj
  have : j = 0 ∨ j = 1 := by simp [ns11] at hj; omega
  rcases this with rfl | rfl <;> decide +kernel
theorem f11 : ∀ k, k < ns11.length → (ns11[k]?.getD nd0).f < 2 ^ 64 := by
  intro j hj
  have : j = 0 ∨ j = 1 := by simp [ns11] at hj; omega
  rcases this with rfl | rfl <;> decide
theorem dag11 : DagOk ns11 := dag_ok ok11 f11 (by decide)
theorem dyW_2 : dyW 4611686018427387904 = ⟨1, 1⟩ := by
  unfold dyW Fl.fD
  rw [show Fl.mantW (4611686018427387904 % 9223372036854775808) = 4503599627370496 by decide, show Fl.expoW (4611686018427387904 % 9223372036854775808) = 1023 by decide]
  exact nrm_eval 52 0 (by decide)
theorem ent11_0 : ent lfB ns11 0 = ⟨2, 0, true⟩ := by
  have h := ent_eq lfB dag11.ok dag11.nodes.kind (x := 0) (by decide)
  rw [show ((0 : Nat) : Int) = 0 from rfl] at h
  rw [h]
  have e : nodeAt ns11 0 = ⟨0, 4611686018427387904, 0, 0⟩ := by decide
  rw [e]
  have e2 : combE lfB ⟨0, 4611686018427387904, 0, 0⟩ (ent lfB ns11 0) (ent lfB ns11 0) = lfB 4611686018427387904 := rfl
  show clipE (combE lfB ⟨0, 4611686018427387904, 0, 0⟩ (ent lfB ns11 0) (ent lfB ns11 0)) = _
  rw [e2]
  have e3 : lfB 4611686018427387904 = ⟨2, 0, true⟩ := by
    unfold lfB
    rw [if_pos ⟨by decide, by decide⟩, dyW_2]
    unfold leafE
    rw [if_neg (by decide)]
    have : bitsN (Dy.z ⟨1, 1⟩).natAbs = 1 := by decide +kernel
    rw [this]
    rfl
  rw [e3]
  rfl
theorem ent11_1 : ent lfB ns11 1 = ⟨1, 0, true⟩ := by
  have h := ent_eq lfB dag11.ok dag11.nodes.kind (x := 1) (by decide)
  rw [show ((1 : Nat) : Int) = 1 from rfl] at h
  rw [h]
  have e : nodeAt ns11 1 = ⟨5, 0, 0, 0⟩ := by decide
  rw [e]
  show clipE (combE lfB ⟨5, 0, 0, 0⟩ (ent lfB ns11 0) (ent lfB ns11 0)) = _
  rw [ent11_0]
  rfl
theorem roots11 : rootsL ns11 (belowOf ns11 1) = 1 := by
  have h := roots_root dag11.ok (x := 1) (by decide) (by decide)
  rw [show ((1 : Nat) : Int) = 1 from rfl] at h
  rw [h]
  have e : (nodeAt ns11 1).a = 0 := by decide
  rw [e]
  have h2 := roots_leaf dag11.ok (x := 0) (by decide)
  rw [show ((0 : Nat) : Int) = 0 from rfl] at h2
  rw [h2]
theorem sep11 : sepB lfB ns11 1 = true ∧ sepV lfB ns11 1 = 3 := by
  unfold sepB sepV
  rw [ent11_1, roots11]
  decide

set_option maxHeartbeats 1600000 in
set_option maxRecDepth 100000 in
theorem alive11_any (w : World) (hT : Hid (Tab6 w)) : Calls Tryd.prog 6 #[] w fun e w' => e = .returned (.bool true) ∧ Only [] w w' := by
  go_enter Tryd.func6, Tryd.ntmps6
  go_wp2_with fail
  have HB := Lib.hid (Blk.new w 31 [.int .i64 0, .float .f64 4611686018427387904, .int .i64 0, .int .i64 0, .int .i64 5, .float .f64 0, .int .i64 0, .int .i64 0])
  have HA : Hid (NRead (w.alloc (.cells #[.int .i64 0, .float .f64 4611686018427387904, .int .i64 0, .int .i64 0, .int .i64 5, .float .f64 0, .int .i64 0, .int .i64 0] 31)) (some ⟨w.heap.size, 0, none⟩) ns11) := fun k hk => by
    refine ⟨w.heap.size, 0, rfl, ?_⟩
    have : k = 0 ∨ k = 1 := by simp [ns11] at hk; omega
    rcases this with rfl | rfl
    · exact ⟨HB.out.cell 0, HB.out.cell 1, HB.out.cell 2, HB.out.cell 3⟩
    · exact ⟨HB.out.cell 4, HB.out.cell 5, HB.out.cell 6, HB.out.cell 7⟩
  refine (load10_any (some ⟨w.heap.size, 0, none⟩) 2 ns11 _ HA f11 (by decide) (Lib.hid ok11)).mono ?_
  rintro e w1 ⟨d, v, rfl, hown⟩
  have HD := Lib.hid hown.is
  have HO1 : Hid (Only [] w w1) := ((Only.refl [] w).alloc _).nil_trans hown.only
  clear hown HA HB
  go_wp2_with fail
  refine (bof_in d v ns11 1 ⟨1, 0, true⟩ 1 w1 (Lib.hid (hT.out.keep HO1.out)) HD (Lib.hid dag11) (by decide) (Lib.hid ent11_1) (Lib.hid roots11)).mono ?_
  rintro e w2 ⟨rfl, ho⟩
  have HO2 : Hid (Only [] w1 (w2.alloc (.cells #[.int .i64 1, .int .i64 0, .int .i64 1] 35))) := ho.alloc _
  clear ho
  go_wp2_with fail
  refine (bsep_in d v ns11 1 _ (Lib.hid (hT.out.keep (HO1.out.nil_trans HO2.out))) (Lib.hid (HD.out.only HO2.out (by simp))) (Lib.hid dag11) (by decide)).mono ?_
  rw [show ((1 : Nat) : Int) = 1 from rfl, sep11.1, sep11.2]
  rintro e w3 ⟨rfl, ho⟩
  have HO3 := Lib.hid (HO2.out.nil_trans ho)
  have hbx := Lib.hid ((Blk.new w2 35 [.int .i64 1, .int .i64 0, .int .i64 1]).only ho (by simp))
  have b0 := hbx.out.cell 0
  have b1 := hbx.out.cell 1
  have b2 := hbx.out.cell 2
  simp only [List.getElem?_cons_zero, List.getElem?_cons_succ] at b0 b1 b2
  clear ho hbx
  have heq : ∀ w : World, (binOp .eql 35 (bndV 1 0 1) (bndV 1 0 1)).run Tryd.prog w = .ok (.bool true) w := fun w => by kernel_rfl
  go_wp2_with fail
  go_ret
  exact ⟨rfl, HO1.out.nil_trans HO3.out⟩
end Go.Proofs.YtigpnopeacicpaaDoor
