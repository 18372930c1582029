/-
  compasslaw1: alive, Light.
-/
import Derived.Test.YtcmimpooknbopaaDoorNV
namespace Go.Proofs.YtcmimpooknbopaaDoor
open Go.RowKit

theorem bb_two : limbsOf BB = [0, 1] := by
  have h1 : BB / BB = 1 := Nat.div_self BB_pos
  have h2 : 1 / BB = 0 := by rw [BB_val]
  have h3 : 1 % BB = 1 := by rw [BB_val]
  rw [limbsOf_pos (by have := BB_pos; omega), Nat.mod_self, h1, limbsOf_pos (by omega), h2, h3, limbsOf_zero]
theorem bits_bb : bitsN BB = 65 := by
  unfold bitsN
  rw [if_neg (by have := BB_pos; omega), BB_pow, Nat.log2_two_pow]
theorem root_is {a r : Nat} (h1 : r * r ≤ a) (h2 : a < (r + 1) * (r + 1)) : rootN a = r := by
  have h := rootN_is a
  apply Nat.le_antisymm
  · apply Nat.le_of_not_lt
    intro hc
    have := Nat.mul_le_mul hc hc
    simp only [Nat.succ_eq_add_one] at this
    have := h.1
    omega
  · apply Nat.le_of_not_lt
    intro hc
    have := Nat.mul_le_mul hc hc
    simp only [Nat.succ_eq_add_one] at this
    have := h.2
    omega
theorem dec_120 : Lib.decDigits 120 = [49, 50, 48] := by
  rw [dec_step (by omega), dec_step (by omega), dec_small (by omega)]
  rfl
theorem few_small {n : Nat} (h : n < BB) : Few n := Few.of_pow (k := 1) (by rw [Nat.pow_one]; exact h) (by omega)

set_option maxHeartbeats 1600000 in
set_option maxRecDepth 100000 in
theorem alive1_any (w : World) (htab : Hid (Tab w)) : Calls Tryd.prog 11 #[] w fun e w' => e = .returned (.bool true) ∧ Only [] w w' := by
  go_enter Tryd.func11, Tryd.ntmps11
  go_wp2_with fail
  refine (of_lit 18446744073709551615 _ _ (by show _ < _; rw [BB_val]; omega) rfl).mono ?_
  rintro e w1 ⟨A1, k1, c1, rfl, -, hv1, ho1⟩
  have HV1 := Lib.hid hv1
  have HO1 := Lib.hid ho1
  clear hv1 ho1
  go_wp2_with fail
  refine (of_lit 1 _ _ (by show _ < _; rw [BB_val]; omega) rfl).mono ?_
  rintro e w2 ⟨A2, k2, c2, rfl, -, hv2, ho2⟩
  have HV2 := Lib.hid hv2
  have HO2 := Lib.hid (HO1.out.nil_trans ho2)
  have HV1' := Lib.hid (HV1.out.only ho2)
  clear hv2 ho2 HO1 HV1
  go_wp2_with fail
  refine (add2_v HV1' HV2 (Few.of_pow (k := 2) (by rw [Nat.pow_two, BB_val]; omega) (by omega))).mono ?_
  rintro e w3 ⟨A3, k3, c3, rfl, hr3, hv3, ho3⟩
  rw [show 18446744073709551615 + 1 = BB by rw [BB_val]] at hr3 hv3
  have HV3 := Lib.hid hv3
  have HR3 := Lib.hid hr3
  have HO3 := Lib.hid (HO2.out.nil_trans ho3)
  clear hr3 hv3 ho3 HO2 HV1' HV2
  go_wp2_with fail
  refine (of_lit 17 _ _ (by show _ < _; rw [BB_val]; omega) rfl).mono ?_
  rintro e w4 ⟨A4, k4, c4, rfl, -, hv4, ho4⟩
  have HV4 := Lib.hid hv4
  have HV3' := Lib.hid (HV3.out.only ho4)
  have HR3' := Lib.hid (HR3.out.nil ho4)
  have HO4 := Lib.hid (HO3.out.nil_trans ho4)
  clear hv4 ho4 HO3 HV3 HR3
  go_wp2_with fail
  refine (sqrt_v HV4).mono ?_
  rintro e w5 ⟨A5, k5, c5, A6, k6, c6, _, _, rfl, rfl, rfl, -, -, hv5, hv6, -, ho5⟩
  rw [root_is (a := 17) (r := 4) (by omega) (by omega)] at hv5 hv6
  have HV5 := Lib.hid hv5
  have HV6 := Lib.hid hv6
  have HV3 := Lib.hid (HV3'.out.only ho5)
  have HR3 := Lib.hid (HR3'.out.nil ho5)
  have HO5 := Lib.hid (HO4.out.nil_trans ho5)
  have hlen := HR3.out.len
  have hread := (LimbsAt.read HR3.out.at_).2
  rw [bb_two] at hlen hread
  obtain rfl : k3 = 2 := hlen
  obtain ⟨g3, o3, rfl, d0⟩ := hread 0 (by simp)
  obtain ⟨_, _, e3, d1⟩ := hread 1 (by simp)
  injection e3 with e3
  injection e3 with e3 e4 _
  subst e3 e4
  have d0 : w5.cell? ⟨g3, o3, none⟩ = some (.int .u64 0) := d0
  have d1 : w5.cell? ⟨g3, o3 + 1, none⟩ = some (.int .u64 1) := d1
  clear hv5 hv6 ho5 HO4 HV3' HR3' HV4 hread
  go_wp2_with fail
  refine (of_lit 120 _ _ (by show _ < _; rw [BB_val]; omega) rfl).mono ?_
  rintro e w6 ⟨A7, k7, c7, rfl, -, hv7, ho6⟩
  have HV7 := Lib.hid hv7
  have HO6 := Lib.hid (HO5.out.nil_trans ho6)
  have HO56 := Lib.hid ho6
  clear hv7 ho6 d0 d1
  go_wp2_with fail
  refine (text_v HV7 (Lib.hid (htab.out.only HO6.out))).mono ?_
  rintro e w7 ⟨rfl, ho7⟩
  rw [dec_120]
  have HO7 := Lib.hid (HO6.out.nil_trans ho7)
  have HO57 := Lib.hid (HO56.out.nil_trans ho7)
  clear ho7
  go_wp2_with fail
  refine (of_lit 4 _ _ (by show _ < _; rw [BB_val]; omega) rfl).mono ?_
  rintro e w8 ⟨A8, k8, c8, rfl, -, hv8, ho8⟩
  have HV8 := Lib.hid hv8
  have HO8 := Lib.hid (HO7.out.nil_trans ho8)
  have HO58 := Lib.hid (HO57.out.nil_trans ho8)
  clear hv8 ho8
  go_wp2_with fail
  refine (cmp_v (Lib.hid (HV5.out.only HO58.out)) HV8).mono ?_
  rintro e w9 ⟨rfl, ho9⟩
  rw [cmp_eq rfl]
  have HO9 := Lib.hid (HO8.out.nil_trans ho9)
  have HO59 := Lib.hid (HO58.out.nil_trans ho9)
  clear ho9
  go_wp2_with fail
  refine (of_lit 1 _ _ (by show _ < _; rw [BB_val]; omega) rfl).mono ?_
  rintro e wa ⟨Aa, ka, ca, rfl, -, hva, hoa⟩
  have HVa := Lib.hid hva
  have HOa := Lib.hid (HO9.out.nil_trans hoa)
  have HO5a := Lib.hid (HO59.out.nil_trans hoa)
  clear hva hoa
  go_wp2_with fail
  refine (cmp_v (Lib.hid (HV6.out.only HO5a.out)) HVa).mono ?_
  rintro e wb ⟨rfl, hob⟩
  rw [cmp_eq rfl]
  have HOb := Lib.hid (HOa.out.nil_trans hob)
  have HO5b := Lib.hid (HO5a.out.nil_trans hob)
  clear hob
  go_wp2_with fail
  refine (bits_v (Lib.hid (HV3.out.only HO5b.out))).mono ?_
  rintro e w' ⟨rfl, rfl⟩
  rw [bits_bb]
  go_wp2_with fail
  go_ret
  exact ⟨rfl, HOb.out⟩

/-- A slice of slices, of which the lengths are known. -/
structure Sl where
  a : Option Addr
  n : Nat
  c : Nat
def SlRead (w : World) (A : Option Addr) (L : List Sl) : Prop :=
  ∀ (k : Nat) (hk : k < L.length), ∃ b o, A = some ⟨b, o, none⟩ ∧ w.cell? ⟨b, o + k, none⟩ = some (.slice L[k].a L[k].n L[k].c)
def lightB (L : List Sl) : Bool := L.all fun x => decide (x.n ≤ 40)
set_option maxHeartbeats 800000 in
theorem light_any (A : Option Addr) (c : Nat) (L : List Sl) (w : World) (h : Hid (SlRead w A L)) (hl : (L.length : Int) ≤ 9223372036854775800) :
    Calls Tryd.prog 10 #[.slice A L.length c] w fun e w' => e = .returned (.bool (lightB L)) ∧ Only [] w w' := by
  go_enter Tryd.func10, Tryd.ntmps10
  go_wp2_with fail
  go_loopw [3] (fun i wr => ∃ k : Nat, k ≤ L.length ∧ i = .int .i64 (k : Int) ∧ lightB (L.take k) = true ∧ Only [] w wr) (fun i _ => L.length - (intOf i).toNat)
  case atStart => exact ⟨0, Nat.zero_le _, rfl, rfl, Only.refl _ _⟩
  case round =>
    obtain ⟨k, hk, rfl, hl, ho⟩ := hrel
    have HL := Lib.hid hl
    have HO := Lib.hid ho
    clear hl ho
    by_cases hlt : k < L.length
    · obtain ⟨b, o, rfl, h1⟩ := h.out k hlt
      have h2 := HO.out.cell h1 (by simp)
      have HK : Hid (lightB (L.take (k + 1)) = (lightB (L.take k) && decide (L[k].n ≤ 40))) := by
        show _ = _
        unfold lightB
        rw [List.take_succ_eq_append_getElem hlt, List.all_append]
        simp only [List.all_cons, List.all_nil, Bool.and_true]
      have HM : Hid (40 < L[k].n → lightB L = false) := fun hn => by
        unfold lightB
        rw [List.all_eq_false]
        exact ⟨L[k], List.getElem_mem hlt, by simp; exact hn⟩
      have hk' : (k : Int) < (L.length : Int) := by omega
      generalize L[k] = x at h2 HK HM
      obtain ⟨xa, xn, xc⟩ := x
      simp only at h2 HK HM
      clear h1 hlt
      by_cases hx : 40 < xn
      · have hxi : (40 : Int) < (xn : Int) := by omega
        have HF := Lib.hid (HM.out hx)
        clear hx
        go_wp2_with fail
        go_ret
        exact ⟨by rw [HF.out]; rfl, HO.out⟩
      · have hxi : ¬ (40 : Int) < (xn : Int) := by omega
        have HT : Hid (lightB (L.take (k + 1)) = true) := by
          show _ = _
          rw [HK.out, HL.out, decide_eq_true (by omega)]
          rfl
        clear hx
        go_wp2_with fail
        go_roundw
        case rel => exact ⟨k + 1, by omega, by go_num, HT.out, HO.out⟩
        case measure => simp [intOf]; omega
    · have hnl : ¬ (k : Int) < (L.length : Int) := by omega
      have HF : Hid (lightB L = true) := by
        have h1 := HL.out
        rw [List.take_of_length_le (by omega)] at h1
        exact h1
      clear hlt
      go_wp2_with fail
      go_ret
      exact ⟨by rw [HF.out]; rfl, HO.out⟩
/-- Light of slices that have just been laid. -/
theorem light_v {w : World} (L : List Sl) (k : Nat) (hk : Hid (L.length = k)) (hl : (k : Int) ≤ 1000) :
    Calls Tryd.prog 10 #[.slice (some ⟨w.heap.size, 0, none⟩) k k] (w.alloc (Obj.cells (L.map fun x => Value.slice x.a x.n x.c).toArray 22)) fun e w' => e = .returned (.bool (lightB L)) ∧ Only [] w w' := by
  have hb : Blk (w.alloc (Obj.cells (L.map fun x => Value.slice x.a x.n x.c).toArray 22)) w.heap.size 22 (L.map fun x => Value.slice x.a x.n x.c) := Blk.new w _ _
  have h := light_any (some ⟨w.heap.size, 0, none⟩) k L _ (Lib.hid (fun j hj => ⟨_, 0, rfl, by rw [hb.cell, Nat.zero_add]; simp [hj]⟩)) (by have := hk.out; omega)
  rw [hk.out] at h
  exact h.mono fun e w' ⟨h1, h2⟩ => ⟨h1, ((Only.refl [] w).alloc _).nil_trans h2⟩
end Go.Proofs.YtcmimpooknbopaaDoor
