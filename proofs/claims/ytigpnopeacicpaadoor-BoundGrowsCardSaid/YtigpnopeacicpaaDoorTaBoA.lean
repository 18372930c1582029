/-
  Package bound: leaf and combine, as values.
-/
import Derived.Test.YtigpnopeacicpaaDoorTaFlD
import Derived.Test.YtigpnopeacicpaaDoorTaBoP
namespace Go.Proofs.YtigpnopeacicpaaDoor
set_option linter.unusedSimpArgs false
open Go.RowKit

/-- An entry's value. -/
abbrev entV (e : En) : Value := .agg #[.int .i64 e.u, .int .i64 e.l, .bool e.ok]
/-- What is known of a dyad. -/
def leafE (x : Dy) : En := if x.z = 0 then ⟨0, 0, true⟩ else ⟨(bitsN x.z.natAbs : Int) + max x.e 0, max (-x.e) 0, true⟩
theorem leafE_ok {x : Dy} {N : Nat} (h : Bnd N x) : 0 ≤ (leafE x).u ∧ (leafE x).u ≤ 2 * N ∧ 0 ≤ (leafE x).l ∧ (leafE x).l ≤ N := by
  have h1 := bitsN_le h.z
  have h2 := h.lo
  have h3 := h.hi
  unfold leafE
  split
  · dsimp only; omega
  · dsimp only; omega
theorem bits_nb {w : World} {s : Bool} {A : Option Addr} {k c nb : Nat} {z : Int} (h : Hid (IV w (.agg #[.bool s, .slice A k c]) z)) (hn : Hid (bitsN z.natAbs = nb)) : Calls Tryd.prog 48 #[.slice A k c] w fun e w' => e = .returned (.int .i64 (nb : Int)) ∧ w = w' := by
  rw [← hn.out]
  exact bits_v (Lib.hid h.out.mag)
set_option maxHeartbeats 1600000 in
set_option maxRecDepth 100000 in
theorem bo_leaf (v : Nat) (x : Dy) (hd : Hid (∀ W, Hid (Tab6 W) → Calls Tryd.prog 128 #[.float .f64 v] W (QDPost x true W))) (hb : Hid (Bnd 3000 x)) (w : World) (hT : Hid (Tab6 w)) :
    Calls Tryd.prog 104 #[.float .f64 v] w fun e w' => e = .returned (entV (leafE x)) ∧ Only [] w w' := by
  have HB0 := Lib.hid (Blk.new w 83 [.int .i64 0, .int .i64 0, .bool false])
  have HO0 : Hid (Only [] w (w.alloc (.cells #[.int .i64 0, .int .i64 0, .bool false] 83))) := (Only.refl _ _).alloc _
  go_enter Tryd.func104, Tryd.ntmps104
  go_wp2_with fail
  generalize w.alloc (.cells #[.int .i64 0, .int .i64 0, .bool false] 83) = w1 at *
  generalize hg : w.heap.size = g at HB0 ⊢
  replace hg := Lib.hid hg
  (with_reducible refine (hd.out w1 (Lib.hid (hT.out.keep HO0.out))).mono ?_)
  rintro e w2 ⟨s3, A3, k3, c3, rfl, -, -, hv, ho⟩
  have HG3 : Hid (g ≠ w2.heap.size) := by have := (HB0.out.only ho (by simp)).lt; show g ≠ _; omega
  have HB1 := Lib.hid ((HB0.out.only ho (by simp)).alloc (.cells #[.bool s3, .slice A3 k3 c3, .int .i64 x.e] 181))
  have HO1 : Hid (Only [] w (w2.alloc (.cells #[.bool s3, .slice A3 k3 c3, .int .i64 x.e] 181))) := (HO0.out.nil_trans ho).alloc _
  have HD1 := Lib.hid (Blk.new w2 181 [.bool s3, .slice A3 k3 c3, .int .i64 x.e])
  have HV1 : Hid (IV (w2.alloc (.cells #[.bool s3, .slice A3 k3 c3, .int .i64 x.e] 181)) (.agg #[.bool s3, .slice A3 k3 c3]) x.z) := hv.only ((Only.refl _ _).alloc _)
  clear ho hv HB0 HO0 hd
  obtain ⟨xe, hxe⟩ : ∃ xe, x.e = xe := ⟨_, rfl⟩
  have hlo := hb.out.lo
  have hhi := hb.out.hi
  have hbl := bitsN_le hb.out.z
  have HXE := Lib.hid hxe
  rw [hxe] at hlo hhi HB1 HO1 HD1 HV1 ⊢
  go_upto_region 2 with fail
  generalize w2.alloc (.cells #[.bool s3, .slice A3 k3 c3, .int .i64 xe] 181) = w3 at *
  generalize w2.heap.size = g3 at *
  have HV := DV.of (x := ⟨x.z, xe⟩) HV1
  have q0 := HD1.out.cell 0
  have q1 := HD1.out.cell 1
  have q2 := HD1.out.cell 2
  simp only [List.getElem?_cons_zero, List.getElem?_cons_succ] at q0 q1 q2
  obtain ⟨p, hp⟩ : ∃ p, x.z.sign = p := ⟨_, rfl⟩
  go_wp2_with fail
  (with_reducible refine (sign_d HV).mono ?_)
  rintro e w4 ⟨rfl, ho⟩
  simp only [hp]
  replace HV1 := Lib.hid (HV1.out.only ho)
  replace HB1 := Lib.hid (HB1.out.only ho (by simp))
  replace HD1 := Lib.hid (HD1.out.only ho (by simp))
  replace HO1 := Lib.hid (HO1.out.nil_trans ho)
  clear ho HV q0 q1 q2
  have c0 := HB1.out.cell 0
  have c1 := HB1.out.cell 1
  have c2 := HB1.out.cell 2
  have f0 := HB1.out.frozen 0
  have f1 := HB1.out.frozen 1
  have f2 := HB1.out.frozen 2
  simp only [List.getElem?_cons_zero, List.getElem?_cons_succ] at c0 c1 c2
  by_cases hz : x.z = 0
  · have HL : Hid (leafE x = ⟨0, 0, true⟩) := by show leafE x = _; unfold leafE; rw [if_pos hz]
    have hp0 : p = 0 := by rw [← hp, hz]; rfl
    subst hp0
    clear hz hp
    go_wp2_with fail
    refine bodyPost_ret (v := .agg #[.int .i64 0, .int .i64 0, .bool true]) (by simp [results, Tryd.results104, go_sem, c0, c1, c2]) rfl ⟨by rw [HL.out], ?_⟩
    have h3 := hg.out
    exact ((HO1.out.setCell (.inr (by show w.heap.size ≤ g; omega)) _).setCell (.inr (by show w.heap.size ≤ g; omega)) _).setCell (.inr (by show w.heap.size ≤ g; omega)) _
  · have HL : Hid (leafE x = ⟨(bitsN x.z.natAbs : Int) + max xe 0, max (-xe) 0, true⟩) := by show leafE x = _; unfold leafE; rw [if_neg hz, HXE.out]
    have hp0 : (p == 0) = false := by rw [beq_eq_false_iff_ne, ← hp]; exact fun h => hz (by rwa [Int.sign_eq_zero_iff_zero] at h)
    clear hz hp
    obtain ⟨nb, hnb⟩ : ∃ nb : Nat, bitsN x.z.natAbs = nb := ⟨_, rfl⟩
    have HNB := Lib.hid hnb
    rw [hnb] at hbl HL
    clear hnb
    have hsum : IntKind.i64.wrap ((nb : Int) + max xe 0) = (nb : Int) + max xe 0 := wrap_i64 (by omega)
    have hneg : IntKind.i64.wrap (-xe) = -xe := wrap_i64 (by omega)
    go_upto_region 4 with fail
    apply wp_region_typed_tail2 13 (by kernel_rfl) [isV _, isV _, isV _, isV _, isV _, isV _, isV _, isV _, isV _, isV _, isV _, isV _, isV _] [[], [0], [1], [2], [], [4], [5], [3, 6], [], [8], [9], [10], [7, 11]] (by kernel_rfl) (by kernel_rfl) (by kernel_rfl)
    case ho =>
      simp only [List.take_succ_cons, List.take_zero]
      refine owes2_cons (fun wx hox => ?_) ?_
      · skip
        skip
        refine withs_plain rfl ?_
        simp only [withs, List.getElem?_cons_zero, List.getElem?_cons_succ, Option.bind, Option.getD]
        repeat (with_reducible refine all_isV ?_)
        go_simp
        exact ⟨Only.refl _ _, isV.self _ _⟩
      refine owes2_cons (fun wx hox => ?_) ?_
      · skip
        skip
        refine withs_plain rfl ?_
        simp only [withs, List.getElem?_cons_zero, List.getElem?_cons_succ, Option.bind, Option.getD]
        repeat (with_reducible refine all_isV ?_)
        go_simp
        exact ⟨Only.refl _ _, isV.self _ _⟩
      refine owes2_cons (fun wx hox => ?_) ?_
      · skip
        have hvx := Lib.hid (HV1.out.only hox)
        have hdx := HD1.out.only hox (by simp)
        have q0 := hdx.cell 0
        have q1 := hdx.cell 1
        have q2 := hdx.cell 2
        simp only [List.getElem?_cons_zero, List.getElem?_cons_succ] at q0 q1 q2
        clear hdx
        refine withs_plain rfl ?_
        simp only [withs, List.getElem?_cons_zero, List.getElem?_cons_succ, Option.bind, Option.getD]
        repeat (with_reducible refine all_isV ?_)
        go_simp
        exact ⟨Only.refl _ _, isV.self _ _⟩
      refine owes2_cons (fun wx hox => ?_) ?_
      · skip
        have hvx := Lib.hid (HV1.out.only hox)
        have hdx := HD1.out.only hox (by simp)
        have q0 := hdx.cell 0
        have q1 := hdx.cell 1
        have q2 := hdx.cell 2
        simp only [List.getElem?_cons_zero, List.getElem?_cons_succ] at q0 q1 q2
        clear hdx
        refine withs_plain rfl ?_
        simp only [withs, List.getElem?_cons_zero, List.getElem?_cons_succ, Option.bind, Option.getD]
        repeat (with_reducible refine all_isV ?_)
        go_simp
        ((with_reducible exact grow_same (bits_nb hvx HNB)))
      refine owes2_cons (fun wx hox => ?_) ?_
      · skip
        skip
        refine withs_plain rfl ?_
        simp only [withs, List.getElem?_cons_zero, List.getElem?_cons_succ, Option.bind, Option.getD]
        repeat (with_reducible refine all_isV ?_)
        go_simp
        exact ⟨Only.refl _ _, isV.self _ _⟩
      refine owes2_cons (fun wx hox => ?_) ?_
      · skip
        have hvx := Lib.hid (HV1.out.only hox)
        have hdx := HD1.out.only hox (by simp)
        have q0 := hdx.cell 0
        have q1 := hdx.cell 1
        have q2 := hdx.cell 2
        simp only [List.getElem?_cons_zero, List.getElem?_cons_succ] at q0 q1 q2
        clear hdx
        refine withs_plain rfl ?_
        simp only [withs, List.getElem?_cons_zero, List.getElem?_cons_succ, Option.bind, Option.getD]
        repeat (with_reducible refine all_isV ?_)
        go_simp
        exact ⟨Only.refl _ _, isV.self _ _⟩
      refine owes2_cons (fun wx hox => ?_) ?_
      · skip
        skip
        refine withs_plain rfl ?_
        simp only [withs, List.getElem?_cons_zero, List.getElem?_cons_succ, Option.bind, Option.getD]
        repeat (with_reducible refine all_isV ?_)
        go_simp
        exact ⟨Only.refl _ _, isV.self _ _⟩
      refine owes2_cons (fun wx hox => ?_) ?_
      · skip
        skip
        refine withs_plain rfl ?_
        simp only [withs, List.getElem?_cons_zero, List.getElem?_cons_succ, Option.bind, Option.getD]
        repeat (with_reducible refine all_isV ?_)
        go_simp
        exact ⟨Only.refl _ _, isV.self _ _⟩
      refine owes2_cons (fun wx hox => ?_) ?_
      · skip
        skip
        refine withs_plain rfl ?_
        simp only [withs, List.getElem?_cons_zero, List.getElem?_cons_succ, Option.bind, Option.getD]
        repeat (with_reducible refine all_isV ?_)
        go_simp
        exact ⟨Only.refl _ _, isV.self _ _⟩
      refine owes2_cons (fun wx hox => ?_) ?_
      · skip
        have hvx := Lib.hid (HV1.out.only hox)
        have hdx := HD1.out.only hox (by simp)
        have q0 := hdx.cell 0
        have q1 := hdx.cell 1
        have q2 := hdx.cell 2
        simp only [List.getElem?_cons_zero, List.getElem?_cons_succ] at q0 q1 q2
        clear hdx
        refine withs_plain rfl ?_
        simp only [withs, List.getElem?_cons_zero, List.getElem?_cons_succ, Option.bind, Option.getD]
        repeat (with_reducible refine all_isV ?_)
        go_simp
        exact ⟨Only.refl _ _, isV.self _ _⟩
      refine owes2_cons (fun wx hox => ?_) ?_
      · skip
        skip
        refine withs_plain rfl ?_
        simp only [withs, List.getElem?_cons_zero, List.getElem?_cons_succ, Option.bind, Option.getD]
        repeat (with_reducible refine all_isV ?_)
        go_simp
        exact ⟨Only.refl _ _, isV.self _ _⟩
      refine owes2_cons (fun wx hox => ?_) ?_
      · skip
        skip
        refine withs_plain rfl ?_
        simp only [withs, List.getElem?_cons_zero, List.getElem?_cons_succ, Option.bind, Option.getD]
        repeat (with_reducible refine all_isV ?_)
        go_simp
        exact ⟨Only.refl _ _, isV.self _ _⟩
      refine owes2_cons (fun wx hox => ?_) ?_
      · skip
        skip
        refine withs_plain rfl ?_
        simp only [withs, List.getElem?_cons_zero, List.getElem?_cons_succ, Option.bind, Option.getD]
        repeat (with_reducible refine all_isV ?_)
        go_simp
        exact ⟨Only.refl _ _, isV.self _ _⟩
      exact owes2_nil
    case he =>
      simp only [List.drop_succ_cons, List.drop_zero]
      intro wx hox
      refine withs_of (by simp only [List.length, List.range, List.range.loop]; exact rfl) ?_
      simp only [withs, List.getElem?_cons_zero, List.getElem?_cons_succ, Option.bind, Option.getD]
      repeat (with_reducible refine all_isV ?_)
      go_simp
      replace HB1 := Lib.hid (HB1.out.only hox (by simp))
      replace HO1 := Lib.hid (HO1.out.nil_trans hox)
      clear hox c0 c1 c2 f0 f1 f2
      have c0 := HB1.out.cell 0
      have c1 := HB1.out.cell 1
      have c2 := HB1.out.cell 2
      have f0 := HB1.out.frozen 0
      have f1 := HB1.out.frozen 1
      have f2 := HB1.out.frozen 2
      simp only [List.getElem?_cons_zero, List.getElem?_cons_succ] at c0 c1 c2
      go_wp2_with fail
      refine bodyPost_ret (v := .agg #[.int .i64 ((nb : Int) + max xe 0), .int .i64 (max (-xe) 0), .bool true]) (by simp [results, Tryd.results104, go_sem, c0, c1, c2]) rfl ⟨by rw [HL.out], ?_⟩
      have h3 := hg.out
      exact ((HO1.out.setCell (.inr (by show w.heap.size ≤ g; omega)) _).setCell (.inr (by show w.heap.size ≤ g; omega)) _).setCell (.inr (by show w.heap.size ≤ g; omega)) _
    case hl =>
      repeat (refine List.forall_mem_cons.2 ⟨?_, ?_⟩; exact isV.lasts _)
      exact fun _ h => (by cases h)
end Go.Proofs.YtigpnopeacicpaaDoor
