/-
  nat.DivMod.
-/
import Derived.Test.YtphjcphcgnjogaaDoorNatK
import Derived.Test.YtphjcphcgnjogaaDoorNatD
namespace Go.Proofs.YtphjcphcgnjogaaDoor
open Go.RowKit

/-- What DivMod leaves. -/
def DMPost (a b : Nat) (w : World) (e : Ending) (w' : World) : Prop :=
  ∃ u v, e = .returned (.tuple #[u, v, .bool (decide (b ≠ 0))]) ∧ Res w w' u (a / b) ∧ Res w w' v (if b = 0 then 0 else a % b) ∧ (∀ g g', u.ownBlock = some g → v.ownBlock = some g' → g ≠ g') ∧ Only [] w w'

/-- Of one limb. -/
theorem of_one (r : Nat) (w : World) (hr : Hid (r < BB)) : Calls Tryd.prog 36 #[.slice (some ⟨w.heap.size, 0, none⟩) 1 1] (w.alloc (Obj.cells #[.int .u64 (r : Int)] 64)) fun e w' => ∃ u, e = .returned u ∧ Res w w' u r ∧ (∀ g, u.ownBlock = some g → w.heap.size < g) ∧ Only [] w w' := by
  have hb : Blk (w.alloc (Obj.cells #[.int .u64 (r : Int)] 64)) w.heap.size 64 (limbV [r]) := Blk.new w 64 (limbV [r])
  have hA : Hid (Arg (w.alloc (Obj.cells #[.int .u64 (r : Int)] 64)) (some ⟨w.heap.size, 0, none⟩) [r]) := ⟨.of_blk hb, limb_one hr.out, by simp⟩
  have ho : Only [] w (w.alloc (Obj.cells #[.int .u64 (r : Int)] 64)) := (Only.refl [] w).alloc _
  refine (of_any (some ⟨w.heap.size, 0, none⟩) 1 [r] _ hA (Nat.le_refl _)).mono ?_
  rintro e w' ⟨u, rfl, hu, ho2⟩
  have hv : val [r] = r := by simp [val]
  rw [hv] at hu
  refine ⟨u, rfl, hu.pre ho.size, fun g hg => ?_, ho.nil_trans ho2⟩
  have h1 := hu.fresh g hg
  have h2 := hb.lt
  omega

set_option maxHeartbeats 1600000 in
set_option maxRecDepth 100000 in
theorem divMod_any (A B : Option Addr) (c d : Nat) (xs ys : List Nat) (w : World) (hA : Hid (Arg w A xs)) (hB : Hid (Arg w B ys)) (hc : xs.length ≤ c) (hd : ys.length ≤ d) (hl : (xs.length : Int) ≤ 3999998) :
    Calls Tryd.prog 41 #[.slice A xs.length c, .slice B ys.length d] w (DMPost (val xs) (val ys) w) := by
  have HA := Lib.hid hA.out.trim
  have HB := Lib.hid hB.out.trim
  have HLx : Hid ((limbsOf (val xs)).length ≤ c) := Nat.le_trans (limbsOf_len hA.out.limb) hc
  have HLy : Hid ((limbsOf (val ys)).length ≤ d) := Nat.le_trans (limbsOf_len hB.out.limb) hd
  by_cases h0 : val ys = 0
  · have hz : (limbsOf (val ys)).length = 0 := by rw [h0, limbsOf_zero]; rfl
    have HZ := Lib.hid h0
    clear h0
    go_enter Tryd.func41, Tryd.ntmps41
    go_wp2_with fail
    (with_reducible refine (trim_any A c xs _ hA hc).mono ?_)
    rintro e w' ⟨rfl, rfl⟩
    go_wp2_with fail
    (with_reducible refine (trim_any B d ys _ hB hd).mono ?_)
    rintro e w' ⟨rfl, rfl⟩
    go_wp2_with fail
    go_returns
    exact ⟨_, _, by rw [HZ.out]; rfl, by rw [HZ.out, Nat.div_zero]; exact res_nil _ _, by rw [if_pos HZ.out]; exact res_nil _ _, fun g g' hg => by simp [Value.ownBlock] at hg, Only.refl _ _⟩
  · have HNZ : Hid (val ys ≠ 0) := h0
    have hq0 : (limbsOf (val ys)).length ≠ 0 := by
      intro h
      exact h0 (limbsOf_len0.1 h)
    have hzi : (((limbsOf (val ys)).length : Int) == 0) = false := by rw [beq_eq_false_iff_ne]; omega
    by_cases hlt : val xs < val ys
    · have HCmp : Hid (cmpZ (val xs) (val ys) = -1) := cmp_le hlt
      have HLt := Lib.hid hlt
      clear h0 hlt
      go_enter Tryd.func41, Tryd.ntmps41
      go_wp2_with fail
      (with_reducible refine (trim_any A c xs _ hA hc).mono ?_)
      rintro e w' ⟨rfl, rfl⟩
      go_wp2_with fail
      (with_reducible refine (trim_any B d ys _ hB hd).mono ?_)
      rintro e w' ⟨rfl, rfl⟩
      go_wp2_with fail
      (with_reducible refine (ncmp_any A B c d (limbsOf (val xs)) (limbsOf (val ys)) _ HA HB HLx.out HLy.out).mono ?_)
      rintro e w1 ⟨rfl, ho1⟩
      rw [cmp_self, HCmp.out]
      have HO1 := Lib.hid ho1
      clear ho1
      go_wp2_with fail
      refine (of_any A c (limbsOf (val xs)) w1 (Lib.hid (HA.out.only HO1.out)) HLx.out).mono ?_
      rintro e w2 ⟨u, rfl, hr, ho2⟩
      have HR := Lib.hid hr
      have HO2 := Lib.hid ho2
      clear hr ho2
      go_wp2_with fail
      go_returns
      refine ⟨_, u, by rw [decide_eq_true HNZ.out]; rfl, by rw [Nat.div_eq_of_lt HLt.out]; exact res_nil _ _, ?_, fun g g' hg => by simp [Value.ownBlock] at hg, HO1.out.nil_trans HO2.out⟩
      rw [if_neg HNZ.out, Nat.mod_eq_of_lt HLt.out]
      have := HR.out.pre HO1.out.size
      rwa [val_limbsOf] at this
    · have hcmp : cmpZ (val xs) (val ys) = 0 ∨ cmpZ (val xs) (val ys) = 1 := by
        by_cases e : val xs = val ys
        · exact .inl (cmp_eq e)
        · exact .inr (cmp_gt (by omega))
      have HGe : Hid ((limbsOf (val ys)).length ≤ (limbsOf (val xs)).length) := limbsOf_len_mono (by omega)
      have HLX : Hid ((limbsOf (val xs)).length ≤ xs.length) := limbsOf_len hA.out.limb
      by_cases h1 : (limbsOf (val ys)).length = 1
      · have hone : (((limbsOf (val ys)).length : Int) == 1) = true := by rw [h1]; rfl
        obtain ⟨y, hy⟩ := List.length_eq_one_iff.1 h1
        have HY : Hid (val ys = y) := by
          have := val_limbsOf (val ys)
          rw [hy] at this
          show _ = _
          rw [← this]
          simp [val]
        obtain ⟨bb, bo, rfl, cy⟩ := HB.out.read 0 (by omega)
        have HYl : Hid (y < BB) := limb_limbsOf (val ys) y (by rw [hy]; simp)
        rw [hy] at cy
        have cy : w.cell? ⟨bb, bo, none⟩ = some (.int .u64 (y : Int)) := cy
        have HYp : Hid (0 < y) := Nat.pos_of_ne_zero (by rw [← HY.out]; exact HNZ.out)
        have hyl : (((limbsOf (val ys)).length : Nat) : Int) = 1 := by omega
        have hql : (((limbsOf (val xs)).length : Nat) : Int) ≤ 4000000 := by have := HLX.out; omega
        clear h0 hlt h1 hq0 hy
        rcases hcmp with hcmp | hcmp
        all_goals
          have HCmp := Lib.hid hcmp
          clear hcmp
          go_enter Tryd.func41, Tryd.ntmps41
          go_wp2_with fail
          (with_reducible refine (trim_any A c xs _ hA hc).mono ?_)
          rintro e w' ⟨rfl, rfl⟩
          go_wp2_with fail
          (with_reducible refine (trim_any (some ⟨bb, bo, none⟩) d ys _ hB hd).mono ?_)
          rintro e w' ⟨rfl, rfl⟩
          go_wp2_with fail
          (with_reducible refine (ncmp_any A (some ⟨bb, bo, none⟩) c d (limbsOf (val xs)) (limbsOf (val ys)) _ HA HB HLx.out HLy.out).mono ?_)
          rintro e w1 ⟨rfl, ho1⟩
          rw [cmp_self, HCmp.out]
          have HO1 := Lib.hid ho1
          have cy1 := ho1.cell cy (by simp)
          clear ho1 cy
          obtain ⟨q, hq⟩ : ∃ q, (limbsOf (val xs)).length = q := ⟨_, rfl⟩
          rw [hq] at hql ⊢
          obtain ⟨w2, hmk, hb2, ho2, hs2⟩ := make_nat w1 q (by omega)
          obtain ⟨gq, hgq⟩ : ∃ gq, w1.heap.size = gq := ⟨_, rfl⟩
          rw [hgq] at hmk hb2
          have HB2 := Lib.hid hb2
          have HO2 := Lib.hid ho2
          have HA2 := Lib.hid ((HA.out.only HO1.out).only ho2)
          have cy2 := ho2.cell cy1 (by simp)
          have HGq := Lib.hid hgq
          have HBg : Hid (bb ≠ gq) := by
            have := World.block_lt_of_cell? w1 _ cy1
            simp only at this
            show _ ≠ _
            omega
          have HQ := Lib.hid hq
          clear hb2 ho2 hs2 hgq cy1
          go_wp2_with (with_reducible refine wpList_copy_limbs rfl _ _ rfl gq (List.replicate q 0) _ _ rfl (by simp) HB2.out A (limbsOf (val xs)) _ _ rfl (by first | rfl | exact HQ.out.symm) HA2.out.read (by rw [List.length_replicate]; exact Nat.le_of_eq HQ.out) ?_; intro w3 hb3 ho3 hs3; have HB3 := Lib.hid hb3; have HO3 := Lib.hid ho3; have HZ3 := Lib.hid hs3; have cy3 := ho3.cell cy2 (by have := HBg.out; simpa using this); clear hb3 ho3 hs3)
          have HB4 : Hid (Blk w3 gq 64 (limbV (limbsOf (val xs)))) := by
            have h := HB3.out
            rw [HQ.out, List.drop_replicate, Nat.sub_self, List.replicate_zero, List.append_nil] at h
            exact h
          have HXl : Hid (Limb (limbsOf (val xs))) := limb_limbsOf _
          refine (short_any gq q q y (limbsOf (val xs)) w3 HB4 HXl HQ (by omega) HYp HYl).mono ?_
          rintro e w4 ⟨zs, rfl, hb5, hzl, hzn, hzv, ho5⟩
          have HB5 := Lib.hid hb5
          have HZl := Lib.hid hzl
          have HZn : Hid (zs.length = q) := hzn.trans HQ.out
          have HO5 := Lib.hid ho5
          rw [val_limbsOf] at hzv ⊢
          have HZv := Lib.hid hzv
          clear hb5 hzl hzn hzv ho5
          obtain ⟨rr, hrr⟩ : ∃ rr, val xs % y = rr := ⟨_, rfl⟩
          have HRr := Lib.hid hrr
          rw [hrr]
          clear hrr
          go_wp2_with fail
          (with_reducible refine (trim_row gq q q zs w4 HB5.out HZl.out HZn.out.symm (Nat.le_refl _) (by omega)).mono ?_)
          rintro e w' ⟨rfl, rfl⟩
          go_wp2_with fail
          have HRl : Hid (rr < BB) := by
            show _ < _
            rw [← HRr.out]
            exact Nat.lt_trans (Nat.mod_lt _ HYp.out) HYl.out
          refine (of_one rr w4 HRl).mono ?_
          rintro e w6 ⟨u, rfl, hu, hug, ho6⟩
          have HU := Lib.hid hu
          have HUg := Lib.hid hug
          have HO6 := Lib.hid ho6
          clear hu hug ho6
          go_wp2_with fail
          go_returns
          have ho3 : Only [] w w4 := ((HO1.out.nil_trans HO2.out).trans (HO3.out.trans HO5.out (by simp)) (fun k hk => .inr (by simp at hk; rw [hk, ← HGq.out]; exact HO1.out.size)))
          have hr := res_of_blk (w0 := w) HB5.out HZl.out (by rw [← HGq.out]; exact HO1.out.size) (by rw [HZn.out]; omega)
          rw [HZn.out] at hr
          refine ⟨_, u, by rw [decide_eq_true HNZ.out]; rfl, ?_, ?_, fun g g' hg hg' => ?_, ho3.nil_trans HO6.out⟩
          · rw [HY.out, ← HZv.out]
            exact hr.nil HO6.out
          · rw [if_neg HNZ.out, HY.out, HRr.out]
            exact HU.out.pre ho3.size
          · have h1 : gq = g := by simpa [Value.ownBlock] using hg
            have h2 := HUg.out g' hg'
            have h3 := HB5.out.lt
            omega
      · have hone : (((limbsOf (val ys)).length : Int) == 1) = false := by rw [beq_eq_false_iff_ne]; omega
        have HTop : Hid ((limbsOf (val ys))[(limbsOf (val ys)).length - 1]?.getD 0 ≠ 0) := by
          have h := canon_limbsOf (val ys) (by omega)
          show _ ≠ _
          rw [List.getElem?_eq_getElem (by omega)]
          exact h
        have HTwo : Hid (2 ≤ (((limbsOf (val ys)).length : Nat) : Int)) := by show (2 : Int) ≤ _; omega
        clear h0 hlt h1 hq0
        rcases hcmp with hcmp | hcmp
        all_goals
          have HCmp := Lib.hid hcmp
          clear hcmp
          go_enter Tryd.func41, Tryd.ntmps41
          go_wp2_with fail
          (with_reducible refine (trim_any A c xs _ hA hc).mono ?_)
          rintro e w' ⟨rfl, rfl⟩
          go_wp2_with fail
          (with_reducible refine (trim_any B d ys _ hB hd).mono ?_)
          rintro e w' ⟨rfl, rfl⟩
          go_wp2_with fail
          (with_reducible refine (ncmp_any A B c d (limbsOf (val xs)) (limbsOf (val ys)) _ HA HB HLx.out HLy.out).mono ?_)
          rintro e w1 ⟨rfl, ho1⟩
          rw [cmp_self, HCmp.out]
          have HO1 := Lib.hid ho1
          clear ho1
          go_wp2_with fail
          refine (long_any A B c d _ _ (limbsOf (val xs)) (limbsOf (val ys)) w1 (Lib.hid (HA.out.only HO1.out)) (Lib.hid (HB.out.only HO1.out)) rfl rfl HTwo.out (by have := HGe.out; omega) (by have := HLX.out; omega) HTop).mono ?_
          rintro e w2 ⟨u, v, rfl, hr, hv, hdj, ho2⟩
          have HR := Lib.hid hr
          have HV := Lib.hid hv
          have HO2 := Lib.hid ho2
          have HDj := Lib.hid hdj
          clear hr hv ho2 hdj
          go_wp2_with fail
          go_returns
          refine ⟨u, v, by rw [decide_eq_true HNZ.out]; rfl, ?_, ?_, HDj.out, HO1.out.nil_trans HO2.out⟩
          · have := HR.out.pre HO1.out.size
            rwa [val_limbsOf, val_limbsOf] at this
          · rw [if_neg HNZ.out]
            have := HV.out.pre HO1.out.size
            rwa [val_limbsOf, val_limbsOf] at this
end Go.Proofs.YtphjcphcgnjogaaDoor
