/-
  NatCuts: the law's walk.
-/
import Derived.Test.YtcmimpooknbopaaDoorEnv
import Derived.Test.YtcmimpooknbopaaDoorAlive1
import Derived.Test.YtcmimpooknbopaaDoorLimbsIn
import Derived.Test.YtcmimpooknbopaaDoorDoorN
namespace Go.Proofs.YtcmimpooknbopaaDoor
open Go.RowKit

set_option maxHeartbeats 800000 in
set_option maxRecDepth 100000 in
theorem cuts_out (A B C : Option Addr) (c d f n m l : Nat) (x y : Int) (w : World) (htab : Hid (Tab w)) (hl : lightB [⟨A, n, c⟩, ⟨B, m, d⟩, ⟨C, l, f⟩] = false) :
    Calls Tryd.prog 3 #[.slice A n c, .slice B m d, .slice C l f, .int .i64 x, .int .i64 y] w fun e w' => e = .returned (.bool true) ∧ Only [] w w' := by
  have HL := Lib.hid hl
  clear hl
  go_enter Tryd.func3, Tryd.ntmps3
  go_wp2_with fail
  refine (light_v [⟨A, n, c⟩, ⟨B, m, d⟩, ⟨C, l, f⟩] 3 (Lib.hid rfl) (by omega)).mono ?_
  rintro e w1 ⟨rfl, ho1⟩
  rw [HL.out]
  have HO1 := Lib.hid ho1
  clear ho1
  go_wp2_with fail
  refine (alive1_any w1 (Lib.hid (htab.out.only HO1.out))).mono ?_
  rintro e w2 ⟨rfl, ho2⟩
  have HO2 := Lib.hid (HO1.out.nil_trans ho2)
  clear ho2
  go_wp2_with fail
  go_ret
  exact ⟨rfl, HO2.out⟩

set_option maxHeartbeats 3200000 in
set_option maxRecDepth 100000 in
theorem cuts_in (A B C : Option Addr) (c d f p q r m n l : Nat) (i k : Int) (w : World) (htab : Hid (Tab w)) (hl : Hid (lightB [⟨A, p, c⟩, ⟨B, q, d⟩, ⟨C, r, f⟩] = true)) (ha : Hid (NV w (.slice A p c) m)) (hb : Hid (NV w (.slice B q d) n)) (hc : Hid (NV w (.slice C r f) l)) (hm : Hid (Lim m 40)) (hn : Hid (Lim n 40)) (hll : Hid (Lim l 40)) :
    Calls Tryd.prog 3 #[.slice A p c, .slice B q d, .slice C r f, .int .i64 i, .int .i64 k] w fun e w' => e = .returned (.bool true) ∧ Only [] w w' := by
  have HE := Lib.hid ((((Env.start w).push hc.out).push hb.out).push ha.out)
  have HFmn : Hid (Few (m * n)) := (hm.out.mul hn.out).few (by omega)
  have HFnm : Hid (Few (n * m)) := (hn.out.mul hm.out).few (by omega)
  have HFnl : Hid (Few (n + l)) := (hn.out.add hll.out).few (by omega)
  have HFu : Hid (Few (m * (n + l))) := (hm.out.mul (hn.out.add hll.out)).few (by omega)
  have HFml : Hid (Few (m * l)) := (hm.out.mul hll.out).few (by omega)
  have HFv : Hid (Few (m * n + m * l)) := ((hm.out.mul hn.out).add (hm.out.mul hll.out)).few (by omega)
  have HFs : Hid (Few (m + n)) := (hm.out.add hn.out).few (by omega)
  have HFp : Hid (Few ((m + n) * (m + n))) := ((hm.out.add hn.out).mul (hm.out.add hn.out)).few (by omega)
  have HFmm : Hid (Few (m * m)) := (hm.out.mul hm.out).few (by omega)
  have HFnn : Hid (Few (n * n)) := (hn.out.mul hn.out).few (by omega)
  have HSq : Hid ((m + n) * (m + n) = [m * m, m * n, n * m, n * n].sum) := by
    show _ = _
    simp only [List.sum_cons, List.sum_nil, Nat.add_mul, Nat.mul_add]
    omega
  have HFq : Hid (Few [m * m, m * n, n * m, n * n].sum) := by
    show Few _
    rw [← HSq.out]
    exact HFp.out
  have HC1 : Hid (cmpZ (m * n) (n * m) = 0) := cmp_eq (Nat.mul_comm _ _)
  have HC2 : Hid (cmpZ (m * (n + l)) (m * n + m * l) = 0) := cmp_eq (Nat.mul_add _ _ _)
  have HC3 : Hid (cmpZ ((m + n) * (m + n)) [m * m, m * n, n * m, n * n].sum = 0) := cmp_eq HSq.out
  clear ha hb hc HSq
  go_enter Tryd.func3, Tryd.ntmps3
  go_wp2_with fail
  refine (light_v [⟨A, p, c⟩, ⟨B, q, d⟩, ⟨C, r, f⟩] 3 (Lib.hid rfl) (by omega)).mono ?_
  rintro e w1 ⟨rfl, ho⟩
  rw [hl.out]
  replace HE := Lib.hid (HE.out.step ho)
  clear ho
  go_wp2_with fail
  refine (alive1_any _ (Lib.hid (htab.out.only HE.out.only))).mono ?_
  rintro e w2 ⟨rfl, ho⟩
  replace HE := Lib.hid (HE.out.step ho)
  clear ho
  go_wp2_with fail
  have hx0 := Env.at HE 0 rfl rfl
  have hx1 := Env.at HE 1 rfl rfl
  (with_reducible refine (mul_v i hx0 hx1 HFmn).mono ?_)
  clear hx0 hx1
  rintro e w3 ⟨A1, k1, c1, rfl, hr, hv, ho⟩
  replace HE := Lib.hid ((HE.out.step ho).push hv)
  have HRx := Lib.hid hr
  clear hv ho hr
  go_wp2_with fail
  have hx0 := Env.at HE 2 rfl rfl
  have hx1 := Env.at HE 1 rfl rfl
  (with_reducible refine (mul_v k hx0 hx1 HFnm).mono ?_)
  clear hx0 hx1
  rintro e w4 ⟨A2, k2, c2, rfl, hr, hv, ho⟩
  replace HE := Lib.hid ((HE.out.step ho).push hv)
  have HRy := Lib.hid hr
  clear hv ho hr
  go_wp2_with fail
  have hx0 := Env.at HE 3 rfl rfl
  have hx1 := Env.at HE 4 rfl rfl
  (with_reducible refine (add2_v hx0 hx1 HFnl).mono ?_)
  clear hx0 hx1
  rintro e w5 ⟨A3, k3, c3, rfl, -, hv, ho⟩
  replace HE := Lib.hid ((HE.out.step ho).push hv)
  clear hv ho
  go_wp2_with fail
  have hx0 := Env.at HE 3 rfl rfl
  have hx1 := Env.at HE 0 rfl rfl
  (with_reducible refine (mul_v i hx0 hx1 HFu).mono ?_)
  clear hx0 hx1
  rintro e w6 ⟨A4, k4, c4, rfl, -, hv, ho⟩
  replace HE := Lib.hid ((HE.out.step ho).push hv)
  clear hv ho
  go_wp2_with fail
  have hx0 := Env.at HE 4 rfl rfl
  have hx1 := Env.at HE 5 rfl rfl
  (with_reducible refine (mul_v k hx0 hx1 HFmn).mono ?_)
  clear hx0 hx1
  rintro e w7 ⟨A5, k5, c5, rfl, -, hv, ho⟩
  replace HE := Lib.hid ((HE.out.step ho).push hv)
  clear hv ho
  go_wp2_with fail
  have hx0 := Env.at HE 5 rfl rfl
  have hx1 := Env.at HE 7 rfl rfl
  (with_reducible refine (mul_v 2 hx0 hx1 HFml).mono ?_)
  clear hx0 hx1
  rintro e w8 ⟨A6, k6, c6, rfl, -, hv, ho⟩
  replace HE := Lib.hid ((HE.out.step ho).push hv)
  clear hv ho
  go_wp2_with fail
  have hx0 := Env.at HE 1 rfl rfl
  have hx1 := Env.at HE 0 rfl rfl
  (with_reducible refine (add2_v hx0 hx1 HFv).mono ?_)
  clear hx0 hx1
  rintro e w9 ⟨A7, k7, c7, rfl, -, hv, ho⟩
  replace HE := Lib.hid ((HE.out.step ho).push hv)
  clear hv ho
  go_wp2_with fail
  have hx0 := Env.at HE 7 rfl rfl
  have hx1 := Env.at HE 8 rfl rfl
  (with_reducible refine (add2_v hx0 hx1 HFs).mono ?_)
  clear hx0 hx1
  rintro e w10 ⟨A8, k8, c8, rfl, -, hv, ho⟩
  replace HE := Lib.hid ((HE.out.step ho).push hv)
  clear hv ho
  go_wp2_with fail
  have hx0 := Env.at HE 0 rfl rfl
  have hx1 := Env.at HE 0 rfl rfl
  (with_reducible refine (mul_v k hx0 hx1 HFp).mono ?_)
  clear hx0 hx1
  rintro e w11 ⟨A9, k9, c9, rfl, -, hv, ho⟩
  replace HE := Lib.hid ((HE.out.step ho).push hv)
  clear hv ho
  go_wp2_with fail
  have hx0 := Env.at HE 9 rfl rfl
  have hx1 := Env.at HE 9 rfl rfl
  (with_reducible refine (mul_v i hx0 hx1 HFmm).mono ?_)
  clear hx0 hx1
  rintro e w12 ⟨A10, k10, c10, rfl, -, hv, ho⟩
  replace HE := Lib.hid ((HE.out.step ho).push hv)
  clear hv ho
  go_wp2_with fail
  have hx0 := Env.at HE 11 rfl rfl
  have hx1 := Env.at HE 11 rfl rfl
  (with_reducible refine (mul_v i hx0 hx1 HFnn).mono ?_)
  clear hx0 hx1
  rintro e w13 ⟨A11, k11, c11, rfl, -, hv, ho⟩
  replace HE := Lib.hid ((HE.out.step ho).push hv)
  clear hv ho
  go_wp2_with fail
  have hx0 := Env.at HE 1 rfl rfl
  have hx1 := Env.at HE 10 rfl rfl
  have hx2 := Env.at HE 9 rfl rfl
  have hx3 := Env.at HE 0 rfl rfl
  have hnv : Hid (NVs _ [_, _, _, _] [_, _, _, _]) := ⟨hx0.out, hx1.out, hx2.out, hx3.out, trivial⟩
  (with_reducible refine (addL_v _ _ 4 (Lib.hid rfl) (by omega) hnv HFq).mono ?_)
  clear hnv hx0 hx1 hx2 hx3
  rintro e w14 ⟨A12, k12, c12, rfl, -, hv, ho⟩
  replace HE := Lib.hid ((HE.out.step ho).push hv)
  clear hv ho
  go_wp2_with fail
  have hx0 := Env.at HE 11 rfl rfl
  have hx1 := Env.at HE 10 rfl rfl
  (with_reducible refine (cmp_v hx0 hx1).mono ?_)
  clear hx0 hx1
  rintro e w15 ⟨rfl, ho⟩
  replace HE := Lib.hid (HE.out.step ho)
  clear ho
  rw [HC1.out]
  go_wp2_with fail
  have hx0 := Env.at HE 8 rfl rfl
  have hx1 := Env.at HE 5 rfl rfl
  (with_reducible refine (cmp_v hx0 hx1).mono ?_)
  clear hx0 hx1
  rintro e w16 ⟨rfl, ho⟩
  replace HE := Lib.hid (HE.out.step ho)
  clear ho
  rw [HC2.out]
  go_wp2_with fail
  have hx0 := Env.at HE 3 rfl rfl
  have hx1 := Env.at HE 0 rfl rfl
  (with_reducible refine (cmp_v hx0 hx1).mono ?_)
  clear hx0 hx1
  rintro e w17 ⟨rfl, ho⟩
  replace HE := Lib.hid (HE.out.step ho)
  clear ho
  rw [HC3.out]
  obtain rfl : k1 = k2 := by rw [HRx.out.len, HRy.out.len, Nat.mul_comm]
  go_wp2_with fail
  go_ret
  exact ⟨rfl, HE.out.only⟩

theorem cuts_any (A : Option Addr) (c : Nat) (xs : List Nat) (B : Option Addr) (d : Nat) (ys : List Nat) (C : Option Addr) (f : Nat) (zs : List Nat) (i k : Int) (w : World) (hA : LimbsIn w A xs) (hc : xs.length ≤ c) (_ : c ≤ maxLen) (hB : LimbsIn w B ys) (hd : ys.length ≤ d) (_ : d ≤ maxLen) (hC : LimbsIn w C zs) (hf : zs.length ≤ f) (_ : f ≤ maxLen) (_ : (Lit.int .i64 i).wf = true) (_ : (Lit.int .i64 k).wf = true) (htab : Tab w) (_ : Tab6 w) :
    Calls Tryd.prog 3 #[.slice A xs.length c, .slice B ys.length d, .slice C zs.length f, .int .i64 i, .int .i64 k] w fun e w' => e = .returned (.bool true) ∧ Only [] w w' := by
  cases hl : lightB [⟨A, xs.length, c⟩, ⟨B, ys.length, d⟩, ⟨C, zs.length, f⟩] with
  | false => exact cuts_out A B C c d f _ _ _ i k w htab hl
  | true =>
    obtain ⟨h1, h2, h3⟩ : xs.length ≤ 40 ∧ ys.length ≤ 40 ∧ zs.length ≤ 40 := by simpa [lightB] using hl
    exact cuts_in A B C c d f _ _ _ (val xs) (val ys) (val zs) i k w htab (Lib.hid hl) (NV.mk ⟨hA.1, hA.2, by omega⟩ hc (by omega)) (NV.mk ⟨hB.1, hB.2, by omega⟩ hd (by omega)) (NV.mk ⟨hC.1, hC.2, by omega⟩ hf (by omega)) (Lim.val hA.2 h1) (Lim.val hB.2 h2) (Lim.val hC.2 h3)
end Go.Proofs.YtcmimpooknbopaaDoor
